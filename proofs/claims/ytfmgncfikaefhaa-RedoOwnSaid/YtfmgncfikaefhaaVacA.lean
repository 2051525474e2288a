/- vac.Check and vac.at: what they compute. -/
import Derived.Test.YtfmgncfikaefhaaVacM
import Derived.Test.YtfmgncfikaefhaaSlFind
namespace Go.Proofs.Ytfmgncfikaefhaa
open Go.RowKit Go.Lib

/-- Versions stand where a slice begins. -/
def VersAt (w : World) (ao : Option Addr) (l : List (Int × ByteArray)) : Prop :=
  l = [] ∨ ∃ b off, ao = some ⟨b, off, none⟩ ∧ b < w.heap.size ∧ ∀ k (h : k < l.length), w.cell? ⟨b, off + k * 2, none⟩ = some (.int .i64 l[k].1) ∧ w.cell? ⟨b, off + k * 2 + 1, none⟩ = some (.string l[k].2)
theorem VersAt.below {B : Nat} {w w' : World} {ao : Option Addr} {l : List (Int × ByteArray)} (h : VersAt w ao l) (hb : Below B w w') (hB : w.heap.size ≤ B) : VersAt w' ao l := by
  rcases h with h | ⟨b, off, h1, h2, h3⟩
  · exact Or.inl h
  · exact Or.inr ⟨b, off, h1, Nat.lt_of_lt_of_le h2 hb.size, fun k hk => ⟨(hb.cell (p := ⟨b, off + k * 2, none⟩) (Nat.lt_of_lt_of_le h2 hB)).trans (h3 k hk).1, (hb.cell (p := ⟨b, off + k * 2 + 1, none⟩) (Nat.lt_of_lt_of_le h2 hB)).trans (h3 k hk).2⟩⟩
def vrVals (l : List (Int × ByteArray)) : List Value := l.flatMap fun d => [.int .i64 d.1, .string d.2]
theorem vrVals_len (l : List (Int × ByteArray)) : (vrVals l).length = l.length * 2 := by
  induction l with
  | nil => rfl
  | cons v r ih => simp only [vrVals, List.flatMap_cons, List.length_append, List.length_cons, List.length_nil] at ih ⊢; omega
theorem vrVals_append (a b : List (Int × ByteArray)) : vrVals (a ++ b) = vrVals a ++ vrVals b := by simp [vrVals]
theorem vrVals_one (l : List (Int × ByteArray)) : ∀ u ∈ vrVals l, u.oneCell' = true := by
  intro u hu
  simp only [vrVals, List.mem_flatMap] at hu
  obtain ⟨o, _, h⟩ := hu
  simp at h
  rcases h with rfl | rfl <;> rfl
theorem vrVals_at (l : List (Int × ByteArray)) : ∀ (k : Nat) (h : k < l.length), (vrVals l)[k * 2]? = some (.int .i64 l[k].1) ∧ (vrVals l)[k * 2 + 1]? = some (.string l[k].2) := by
  induction l with
  | nil => intro k h; simp at h
  | cons v r ih =>
    intro k h
    cases k with
    | zero => exact ⟨rfl, rfl⟩
    | succ k =>
      have h2 := ih k (by simpa using h)
      have e1 : (k + 1) * 2 = k * 2 + 1 + 1 := by omega
      rw [e1]
      simp only [vrVals, List.flatMap_cons, List.cons_append, List.nil_append, List.getElem?_cons_succ, List.getElem_cons_succ]
      exact h2
theorem VersAt.own {w : World} {base n : Nat} {v : Value} {l : List (Int × ByteArray)} (h : w.ownsRow base 42 2 v n (vrVals l)) : ∃ ao cap, v = .slice ao l.length cap ∧ n = l.length ∧ VersAt w ao l ∧ (ao = none → cap = 0) ∧ l.length ≤ cap := by
  have hl : n = l.length := by have := h.1; rw [vrVals_len] at this; omega
  rcases h.2 with ⟨h1, h2⟩ | ⟨g, cap, cur, h1, h2, h3, h4, _⟩
  · have : l = [] := List.eq_nil_of_length_eq_zero (by omega)
    subst this
    exact ⟨none, 0, h1, hl, Or.inl rfl, fun _ => rfl, Nat.le_refl _⟩
  · subst hl
    refine ⟨_, cap, h1, rfl, Or.inr ⟨g, 0, rfl, (Array.getElem?_eq_some_iff.1 h3).1, fun k hk => ?_⟩, (fun h => by cases h), h4⟩
    have ho := h
    rw [h1] at ho
    obtain ⟨c0, c1⟩ := vrVals_at l k hk
    rw [Nat.zero_add, ho.cellAt (k * 2) (by omega), ho.cellAt (k * 2 + 1) (by omega)]
    exact ⟨c0, c1⟩
theorem vac_dN {B : Nat} {a w : World} (h : Below B a w) (n : Nat) : Below B a (w.drewN n) := h.trans ⟨rfl, rfl, rfl, Nat.le_refl _, fun _ _ => rfl⟩

set_option maxRecDepth 20000 in
set_option maxHeartbeats 4000000 in
theorem vacCheck_any (l : List (Int × ByteArray)) (act : List Int) (now : Int) (ao bo : Option Addr) (cap cap' : Nat) (w : World) (h : VersAt w ao l) (h' : IntsAt w bo act) (hn : l.length ≤ 9000000000000) (hm : act.length ≤ 900000000000000000) :
    Calls Try.prog 45 #[.slice ao l.length cap, .slice bo act.length cap', .int .i64 now] w fun e w' => e = .returned (.int .i64 (VacM.chk l act now)) ∧ Below w.heap.size w w' := by
  have H := box h
  have H' := box h'
  clear h h'
  cases d1 : decide ((100 : Int) < (l.length : Int)) with
  | true =>
    have HR : Box (VacM.chk l act now = 2) := ⟨by simp at d1; unfold VacM.chk; rw [if_pos (Or.inl (by omega))]⟩
    go_enter Try.func45, Try.ntmps45
    go_wp2_with fail
    go_ret
    exact ⟨by rw [HR.out]; rfl, Below.refl _ _⟩
  | false =>
  cases d2 : decide ((12 : Int) < (act.length : Int)) with
  | true =>
    have HR : Box (VacM.chk l act now = 2) := ⟨by simp at d2; unfold VacM.chk; rw [if_pos (Or.inr (by omega))]⟩
    go_enter Try.func45, Try.ntmps45
    go_wp2_with fail
    go_ret
    exact ⟨by rw [HR.out]; rfl, Below.refl _ _⟩
  | false =>
  have HC1 : Box (¬ (100 < l.length ∨ 12 < act.length)) := ⟨by simp at d1 d2; omega⟩
  cases d3 : decide (now < 0) with
  | true =>
    have HR : Box (VacM.chk l act now = 1) := ⟨by simp at d3; unfold VacM.chk; rw [if_neg HC1.out, if_pos d3]⟩
    go_enter Try.func45, Try.ntmps45
    go_wp2_with fail
    go_ret
    exact ⟨by rw [HR.out]; rfl, Below.refl _ _⟩
  | false =>
  have HR : Box (VacM.chk l act now = if VacM.go now 0 l = false then 4 else if act.any (VacM.badS now) then 1 else 0) := ⟨by simp at d3; unfold VacM.chk; rw [if_neg HC1.out, if_neg (by omega)]⟩
  go_enter Try.func45, Try.ntmps45
  go_wp2_with fail
  go_loopw [7, 24] (fun t7 t24 wr => ∃ (k : Nat) (e : Int), k ≤ l.length ∧ t24 = .int .i64 (k : Int) ∧ t7 = .int .i64 e ∧ Box (VacM.go now e (l.drop k) = VacM.go now 0 l) ∧ Box (Below w.heap.size w wr)) (fun _ t24 _ => l.length - (intOf t24).toNat)
  case atStart => exact ⟨0, 0, Nat.zero_le _, rfl, rfl, ⟨rfl⟩, ⟨Below.refl _ _⟩⟩
  case round =>
    obtain ⟨k, e, hk, rfl, rfl, Hg, Hb⟩ := hrel
    by_cases hlt : k < l.length
    case neg =>
      have HE : Box (VacM.go now 0 l = true) := ⟨by rw [← Hg.out, List.drop_of_length_le (by omega)]; rfl⟩
      go_wp2_with fail
      go_loop [43] (fun t43 => ∃ k : Nat, k ≤ act.length ∧ t43 = .int .i64 (k : Int) ∧ Box ((act.drop k).any (VacM.badS now) = act.any (VacM.badS now))) (fun t43 => act.length - (intOf t43).toNat)
      case atStart => exact ⟨0, Nat.zero_le _, rfl, ⟨rfl⟩⟩
      case round =>
        obtain ⟨j, hj, rfl, Ha⟩ := hrel
        by_cases hlt : j < act.length
        case neg =>
          have HF : Box (VacM.chk l act now = 0) := ⟨by
            rw [HR.out, if_neg (by rw [HE.out]; simp), if_neg]
            rw [← Ha.out, List.drop_of_length_le (by omega)]; simp⟩
          go_wp2_with fail
          go_ret
          exact ⟨by rw [HF.out]; rfl, Hb.out⟩
        obtain ⟨b, off, rfl, hb, hrow⟩ := ((H'.out.below Hb.out (Nat.le_refl _)).resolve_left (by intro h; rw [h] at hlt; simp at hlt))
        have hc0 := hrow j hlt
        have Hbad : Box (VacM.badS now act[j] = true → VacM.chk l act now = 1) := ⟨fun h => by
          rw [HR.out, if_neg (by rw [HE.out]; simp), if_pos]
          rw [← Ha.out, List.drop_eq_getElem_cons hlt, List.any_cons, h]; rfl⟩
        have Hok : Box (VacM.badS now act[j] = false → (act.drop (j + 1)).any (VacM.badS now) = act.any (VacM.badS now)) := ⟨fun h => by
          rw [← Ha.out, List.drop_eq_getElem_cons hlt, List.any_cons, h, Bool.false_or]⟩
        clear hrow
        generalize act[j] = s at *
        cases b1 : decide (s < 0) with
        | true =>
          have HF := box (Hbad.out (by simp only [VacM.badS, b1]; rfl))
          clear Hok Hbad
          go_wp2_with fail
          go_ret
          exact ⟨by rw [HF.out]; rfl, Hb.out⟩
        | false =>
        cases b2 : decide (now < s) with
        | true =>
          have HF := box (Hbad.out (by simp only [VacM.badS, b2]; simp))
          clear Hok Hbad
          go_wp2_with fail
          go_ret
          exact ⟨by rw [HF.out]; rfl, Hb.out⟩
        | false =>
          have HF := box (Hok.out (by simp only [VacM.badS, b1, b2]; rfl))
          clear Hok Hbad
          go_wp2_with fail
          go_round
          case rel => exact ⟨j + 1, hlt, by go_num, HF⟩
          case measure => simp [intOf]; omega
    obtain ⟨b, off, rfl, hb, hrow⟩ := ((H.out.below Hb.out (Nat.le_refl _)).resolve_left (by intro h; rw [h] at hlt; simp at hlt))
    obtain ⟨hc0, hc1⟩ := hrow k hlt
    have Hbad : Box (l[k].1 ≤ e ∨ now < l[k].1 → VacM.chk l act now = 4) := ⟨fun h => by rw [HR.out, if_pos (by rw [← Hg.out, List.drop_eq_getElem_cons hlt, VacM.go, if_pos h])]⟩
    have Hok : Box (¬ (l[k].1 ≤ e ∨ now < l[k].1) → VacM.go now l[k].1 (l.drop (k + 1)) = VacM.go now 0 l) := ⟨fun h => by rw [← Hg.out, List.drop_eq_getElem_cons hlt, VacM.go, if_neg h]⟩
    have hbs := Hb.out.size
    clear hrow
    generalize l[k] = x at *
    obtain ⟨xa, xt⟩ := x
    simp only at hc0 hc1 Hbad Hok
    go_upto_region 9 with (fail)
    refine name_world (fun W => Below wr.heap.size wr W ∧ Blk W wr.heap.size 42 [.int .i64 xa, .string xt]) ⟨(Below.refl _ _).alloc (Nat.le_refl _) _, Blk.new _ _ _⟩ ?_
    rintro W ⟨hbW, hkW⟩
    have HbW := box (Hb.out.trans (hbW.mono hbs))
    have y0 := hkW.cell (i := 0) rfl
    have y1 := hkW.cell (i := 1) rfl
    clear hbW hkW hc0 hc1
    obtain ⟨B, HBx⟩ : ∃ B, Box (wr.heap.size = B) := ⟨_, ⟨rfl⟩⟩
    rw [HBx.out] at y0 y1 ⊢
    cases b1 : decide (xa ≤ e) with
    | true =>
      have HF := box (Hbad.out (by simp at b1; omega))
      clear Hok Hbad
      go_wp2_with fail
      go_ret
      exact ⟨by rw [HF.out]; rfl, HbW.out⟩
    | false =>
    cases b2 : decide (now < xa) with
    | true =>
      have HF := box (Hbad.out (by simp at b2; omega))
      clear Hok Hbad
      go_wp2_with fail
      go_ret
      exact ⟨by rw [HF.out]; rfl, HbW.out⟩
    | false =>
    have HF := box (Hok.out (by simp at b1 b2; omega))
    clear Hok Hbad
    go_wp2_with fail
    exact ⟨⟨k + 1, xa, hlt, by go_num, rfl, HF, HbW⟩, by simp [intOf]; omega⟩

set_option maxRecDepth 20000 in
set_option maxHeartbeats 1000000 in
/-- What the search asks of a version. -/
theorem vacAsk_any (x : Int × ByteArray) (s : Int) (w : World) :
    Calls Try.prog 61 #[.agg #[.int .i64 x.1, .string x.2], .int .i64 s] w fun e w' => e = .returned (.int .i64 (if x.1 ≤ s then -1 else 1)) ∧ Below w.heap.size w w' := by
  obtain ⟨a, t⟩ := x
  simp only
  by_cases h : a ≤ s
  · rw [if_pos h]
    have d : decide (a ≤ s) = true := by simp [h]
    clear h
    go_enter Try.func61, Try.ntmps61
    go_wp2_with fail
    go_ret
    exact ⟨rfl, (Below.refl _ _).alloc (Nat.le_refl _) _⟩
  · rw [if_neg h]
    have d : decide (a ≤ s) = false := by simp; omega
    clear h
    go_enter Try.func61, Try.ntmps61
    go_wp2_with fail
    go_ret
    exact ⟨rfl, (Below.refl _ _).alloc (Nat.le_refl _) _⟩

def VacM.FoundPost (l : List (Int × ByteArray)) (s : Int) (e : Ending) : Prop := ∃ f, e = .returned (.tuple #[.int .i64 (VacM.cnt l s : Nat), .bool f])
def VacM.ReadPost (l : List (Int × ByteArray)) (s : Int) (e : Ending) : Prop := ∃ t ok, e = .returned (.tuple #[.string t, .bool ok]) ∧ VacM.Rd l s t ok
set_option maxRecDepth 20000 in
set_option maxHeartbeats 2000000 in
theorem vacSearch_any (l : List (Int × ByteArray)) (s : Int) (ao : Option Addr) (cap : Nat) (w : World) (h : VersAt w ao l) (hn : l.length ≤ 1000) (hinc : l.Pairwise (fun u v => u.1 < v.1)) :
    Calls Try.prog 60 #[.slice ao l.length cap, .int .i64 s, .func (.func 61) #[] #[]] w
      fun e w' => VacM.FoundPost l s e ∧ Below w.heap.size w w' := by
  have H := box h
  have Hcnt := box (fun i (hi : i < l.length) => VacM.cnt_iff hinc s hi)
  have Hcl := box (VacM.cnt_le l s)
  have eg := enters_fn Try.func61 (by kernel_rfl) rfl
  clear h hinc
  go_enter Try.func60, Try.ntmps60
  go_wp2_with fail
  go_loopw [9, 10] (fun t9 t10 wr => ∃ i j : Nat, i ≤ j ∧ j ≤ l.length ∧ t9 = .int .i64 (i : Int) ∧ t10 = .int .i64 (j : Int) ∧ Box (i ≤ VacM.cnt l s ∧ VacM.cnt l s ≤ j) ∧ Box (Below w.heap.size w wr)) (fun t9 t10 _ => (intOf t10).toNat - (intOf t9).toNat)
  case atStart => exact ⟨0, l.length, Nat.zero_le _, Nat.le_refl _, rfl, rfl, ⟨Nat.zero_le _, Hcl.out⟩, ⟨Below.refl _ _⟩⟩
  case round =>
    obtain ⟨i, j, hij, hj, rfl, rfl, HI, Hb⟩ := hrel
    by_cases dij : i < j
    case neg =>
      have HE : Box (VacM.cnt l s = i) := ⟨by have := HI.out; omega⟩
      by_cases hlt : i < l.length
      · obtain ⟨b, off, rfl, hb, hrow⟩ := ((H.out.below Hb.out (Nat.le_refl _)).resolve_left (by intro h; rw [h] at hlt; simp at hlt))
        obtain ⟨hc0, hc1⟩ := hrow i hlt
        clear hrow
        have Hask := box (fun w => vacAsk_any l[i] s w)
        generalize l[i] = x at *
        obtain ⟨xa, xt⟩ := x
        simp only at hc0 hc1 Hask
        go_wp2_with fail
        refine (Hask.out _).mono ?_
        rintro e w1 ⟨rfl, hb1⟩
        have HB1 := box (below_tr Hb.out hb1)
        clear hb1
        by_cases hx : xa ≤ s
        · rw [if_pos hx]
          clear hx
          go_wp2_with fail
          refine bodyPost_ret (by simp [results, Try.results60, go_sem]; rfl) rfl ⟨⟨_, by rw [HE.out]⟩, HB1.out⟩
        rw [if_neg hx]
        clear hx
        go_wp2_with fail
        refine bodyPost_ret (by simp [results, Try.results60, go_sem]; rfl) rfl ⟨⟨_, by rw [HE.out]⟩, HB1.out⟩
      · go_wp2_with fail
        refine bodyPost_ret (by simp [results, Try.results60, go_sem]; rfl) rfl ⟨⟨_, by rw [HE.out]⟩, Hb.out⟩
    have hlt : (i + j) / 2 < l.length := by omega
    have hm : i ≤ (i + j) / 2 ∧ (i + j) / 2 < j := by omega
    obtain ⟨b, off, rfl, hb, hrow⟩ := ((H.out.below Hb.out (Nat.le_refl _)).resolve_left (by intro h; rw [h] at hlt; simp at hlt))
    obtain ⟨hc0, hc1⟩ := hrow _ hlt
    clear hrow
    have Hask := box (fun w => vacAsk_any l[(i + j) / 2] s w)
    have HC := box (Hcnt.out _ hlt)
    generalize l[(i + j) / 2] = x at *
    obtain ⟨xa, xt⟩ := x
    simp only at hc0 hc1 Hask HC
    have Hm := box hm
    clear hm
    go_wp2_with fail
    refine (Hask.out _).mono ?_
    rintro e w1 ⟨rfl, hb1⟩
    have HB1 := box (below_tr Hb.out hb1)
    clear hb1
    by_cases hx : xa ≤ s
    · rw [if_pos hx]
      have HF := HC.out.2 hx
      clear hx
      go_wp2_with fail
      exact ⟨⟨(i + j) / 2 + 1, j, by have := Hm.out; omega, hj, by go_num, rfl, ⟨by have := HI.out; omega⟩, HB1⟩, by have := Hm.out; simp [intOf]; omega⟩
    · rw [if_neg hx]
      have HF : ¬ (i + j) / 2 < VacM.cnt l s := fun h => hx (HC.out.1 h)
      clear hx
      go_wp2_with fail
      exact ⟨⟨i, (i + j) / 2, by have := Hm.out; omega, by omega, rfl, by go_num, ⟨by have := HI.out; omega⟩, HB1⟩, by have := Hm.out; simp [intOf]; omega⟩

set_option maxRecDepth 20000 in
set_option maxHeartbeats 1000000 in
theorem vacAt_any (l : List (Int × ByteArray)) (s : Int) (ao : Option Addr) (cap : Nat) (w : World) (h : VersAt w ao l) (hn : l.length ≤ 1000) (hinc : l.Pairwise (fun u v => u.1 < v.1)) :
    Calls Try.prog 47 #[.slice ao l.length cap, .int .i64 s] w fun e w' => e = .returned (.int .i64 ((VacM.cnt l s : Nat) - 1 : Int)) ∧ Below w.heap.size w w' := by
  have H := box (vacSearch_any l s ao cap w h hn hinc)
  have hc := VacM.cnt_le l s
  clear h hinc
  go_enter Try.func47, Try.ntmps47
  go_wp2_with fail
  refine H.out.mono ?_
  rintro e w' ⟨⟨f, rfl⟩, hb⟩
  obtain ⟨c, HC⟩ : ∃ c, Box (VacM.cnt l s = c) := ⟨_, ⟨rfl⟩⟩
  rw [HC.out] at hc ⊢
  have hw : IntKind.i64.wrap ((c : Int) - 1) = (c : Int) - 1 := IntWalk.i64_in _ (by omega)
  go_wp2_with fail
  go_ret
  exact ⟨by rw [HC.out]; rfl, hb⟩

end Go.Proofs.Ytfmgncfikaefhaa
