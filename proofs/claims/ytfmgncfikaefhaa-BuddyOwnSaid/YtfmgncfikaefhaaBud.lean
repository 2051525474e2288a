/- buddy.Check: what it answers. -/
import Derived.Test.YtfmgncfikaefhaaBudM
import Derived.Test.YtfmgncfikaefhaaHeap
import Derived.Deep.DeepMust
namespace Go.Proofs.Ytfmgncfikaefhaa
open Go.RowKit Go.Lib

/-- Blocks stand where a slice begins. -/
def BksAt (w : World) (ao : Option Addr) (l : List BkM) : Prop :=
  l = [] ∨ ∃ b off, ao = some ⟨b, off, none⟩ ∧ b < w.heap.size ∧ ∀ k (h : k < l.length), w.cell? ⟨b, off + k * 2, none⟩ = some (.int .i64 l[k].at_) ∧ w.cell? ⟨b, off + k * 2 + 1, none⟩ = some (.int .i64 l[k].ord)
theorem BksAt.below {B : Nat} {w w' : World} {ao : Option Addr} {l : List BkM} (h : BksAt w ao l) (hb : Below B w w') (hB : w.heap.size ≤ B) : BksAt w' ao l := by
  rcases h with h | ⟨b, off, h1, h2, h3⟩
  · exact Or.inl h
  · exact Or.inr ⟨b, off, h1, Nat.lt_of_lt_of_le h2 hb.size, fun k hk => ⟨(hb.cell (p := ⟨b, off + k * 2, none⟩) (Nat.lt_of_lt_of_le h2 hB)).trans (h3 k hk).1, (hb.cell (p := ⟨b, off + k * 2 + 1, none⟩) (Nat.lt_of_lt_of_le h2 hB)).trans (h3 k hk).2⟩⟩
def bkVals (l : List BkM) : List Value := l.flatMap fun d => [.int .i64 d.at_, .int .i64 d.ord]
theorem bkVals_len (l : List BkM) : (bkVals l).length = l.length * 2 := by
  induction l with
  | nil => rfl
  | cons v r ih => simp only [bkVals, List.flatMap_cons, List.length_append, List.length_cons, List.length_nil] at ih ⊢; omega
theorem bkVals_append (a b : List BkM) : bkVals (a ++ b) = bkVals a ++ bkVals b := by simp [bkVals]
theorem bkVals_one (l : List BkM) : ∀ u ∈ bkVals l, u.oneCell' = true := by
  intro u hu
  simp only [bkVals, List.mem_flatMap] at hu
  obtain ⟨o, _, h⟩ := hu
  simp at h
  rcases h with rfl | rfl <;> rfl
theorem bkVals_at (l : List BkM) : ∀ (k : Nat) (h : k < l.length), (bkVals l)[k * 2]? = some (.int .i64 l[k].at_) ∧ (bkVals l)[k * 2 + 1]? = some (.int .i64 l[k].ord) := by
  induction l with
  | nil => intro k h; simp at h
  | cons v r ih =>
    intro k h
    cases k with
    | zero => exact ⟨rfl, rfl⟩
    | succ k =>
      have h2 := ih k (by simpa using h)
      have e1 : (k + 1) * 2 = k * 2 + 1 + 1 := by omega
      rw [e1]
      simp only [bkVals, List.flatMap_cons, List.cons_append, List.nil_append, List.getElem?_cons_succ, List.getElem_cons_succ]
      exact h2
theorem BksAt.own {w : World} {base n : Nat} {v : Value} {l : List BkM} (h : w.ownsRow base 73 2 v n (bkVals l)) : ∃ ao cap, v = .slice ao l.length cap ∧ n = l.length ∧ BksAt w ao l ∧ (ao = none → cap = 0) ∧ l.length ≤ cap := by
  have hl : n = l.length := by have := h.1; rw [bkVals_len] at this; omega
  rcases h.2 with ⟨h1, h2⟩ | ⟨g, cap, cur, h1, h2, h3, h4, _⟩
  · have : l = [] := List.eq_nil_of_length_eq_zero (by omega)
    subst this
    exact ⟨none, 0, h1, hl, Or.inl rfl, fun _ => rfl, Nat.le_refl _⟩
  · subst hl
    refine ⟨_, cap, h1, rfl, Or.inr ⟨g, 0, rfl, (Array.getElem?_eq_some_iff.1 h3).1, fun k hk => ?_⟩, (fun h => by cases h), h4⟩
    have ho := h
    rw [h1] at ho
    obtain ⟨c0, c1⟩ := bkVals_at l k hk
    rw [Nat.zero_add, ho.cellAt (k * 2) (by omega), ho.cellAt (k * 2 + 1) (by omega)]
    exact ⟨c0, c1⟩

theorem bud_dN {B : Nat} {a w : World} (h : Below B a w) (n : Nat) : Below B a (w.drewN n) := h.trans ⟨rfl, rfl, rfl, Nat.le_refl _, fun _ _ => rfl⟩
theorem BudM.pow_hi {k : Nat} (h : k ≤ 10) : (2 : Int) ^ k ≤ 1024 := BudM.pow_le h
theorem BudM.wrap_id {P : Int} (h0 : -9223372036854775808 ≤ P) (h1 : P ≤ 9223372036854775807) : IntKind.i64.wrap P = P := by simp [IntKind.wrap, IntKind.bits, IntKind.signed]; omega

set_option maxRecDepth 20000 in
set_option maxHeartbeats 4000000 in
theorem budCheck_any (n : Int) (l : List BkM) (ao : Option Addr) (cap : Nat) (w : World) (h : BksAt w ao l) (hn : l.length ≤ 9000000000000) :
    Calls Try.prog 41 #[.agg #[.int .i64 n, .slice ao l.length cap]] w fun e w' => e = .returned (.int .i64 (BudM.check n l)) ∧ Below w.heap.size w w' := by
  have H := box h
  clear h
  by_cases hr : n < 0 ∨ 10 < n
  · have HR : Box (BudM.check n l = 1) := ⟨by rw [BudM.check, if_pos hr]⟩
    cases d1 : decide (n < 0) with
    | true =>
      clear hr
      go_enter Try.func41, Try.ntmps41
      go_wp2_with fail
      go_ret
      exact ⟨by rw [HR.out]; rfl, (Below.refl _ _).alloc (Nat.le_refl _) _⟩
    | false =>
      have d2 : decide (10 < n) = true := by simp at d1 ⊢; omega
      clear hr
      go_enter Try.func41, Try.ntmps41
      go_wp2_with fail
      go_ret
      exact ⟨by rw [HR.out]; rfl, (Below.refl _ _).alloc (Nat.le_refl _) _⟩
  have HR : Box (BudM.check n l = BudM.go n 0 l) := ⟨by rw [BudM.check, if_neg hr]⟩
  obtain ⟨m, rfl⟩ := Int.eq_ofNat_of_zero_le (show 0 ≤ n by omega)
  have hm : m ≤ 10 := by omega
  have d1 : decide ((m : Int) < 0) = false := by simp
  have d2 : decide ((10 : Int) < (m : Int)) = false := by simp; omega
  clear hr
  go_enter Try.func41, Try.ntmps41
  go_wp2_with fail
  go_loopw [3, 17] (fun t3 t17 wr => ∃ (k : Nat) (e : Int), k ≤ l.length ∧ t17 = .int .i64 (k : Int) ∧ t3 = .int .i64 e ∧ 0 ≤ e ∧ e ≤ 1024 ∧ Box (BudM.go m e (l.drop k) = BudM.go m 0 l) ∧ Box (Blk wr w.heap.size 69 [.int .i64 (m : Int), .slice ao l.length cap]) ∧ Box (Below w.heap.size w wr)) (fun _ t17 _ => l.length - (intOf t17).toNat)
  case atStart => exact ⟨0, 0, Nat.zero_le _, rfl, rfl, by omega, by omega, ⟨rfl⟩, ⟨Blk.new w _ _⟩, ⟨(Below.refl _ _).alloc (Nat.le_refl _) _⟩⟩
  case round =>
    obtain ⟨k, e, hk, rfl, rfl, he0, he1, Hg, HB, Hb⟩ := hrel
    by_cases hlt : k < l.length
    case neg =>
      have HE : Box (BudM.go m 0 l = 0) := ⟨by rw [← Hg.out, List.drop_of_length_le (by omega)]; rfl⟩
      go_wp2_with fail
      go_ret
      exact ⟨by rw [HR.out, HE.out]; rfl, Hb.out⟩
    obtain ⟨b, off, rfl, hb, hrow⟩ := ((H.out.below Hb.out (Nat.le_refl _)).resolve_left (by intro h; rw [h] at hlt; simp at hlt))
    obtain ⟨hc0, hc1⟩ := hrow k hlt
    have Hbad : Box (BudM.bad m e l[k] = true → BudM.check m l = 4) := ⟨fun h => by rw [HR.out, ← Hg.out, List.drop_eq_getElem_cons hlt, BudM.go, if_pos h]⟩
    have Hok : Box (BudM.bad m e l[k] = false → BudM.go m (l[k].at_ + 2 ^ l[k].ord.toNat) (l.drop (k + 1)) = BudM.go m 0 l) := ⟨fun h => by rw [← Hg.out, List.drop_eq_getElem_cons hlt, BudM.go, if_neg (by rw [h]; simp)]⟩
    have hlB := HB.out.lt
    have hbs := Hb.out.size
    clear hrow
    generalize l[k] = x at *
    obtain ⟨xa, xo⟩ := x
    simp only at hc0 hc1
    go_upto_region 7 with (fail)
    refine name_world (fun W => Below wr.heap.size wr W ∧ Blk W wr.heap.size 73 [.int .i64 xa, .int .i64 xo]) ⟨(Below.refl _ _).alloc (Nat.le_refl _) _, Blk.new _ _ _⟩ ?_
    rintro W ⟨hbW, hkW⟩
    have HbW := box (Hb.out.trans (hbW.mono hbs))
    have HKW := box (HB.out.after hbW)
    have x0 := HKW.out.cell (i := 0) rfl
    have y0 := hkW.cell (i := 0) rfl
    have y1 := hkW.cell (i := 1) rfl
    clear hbW hkW hc0 hc1
    obtain ⟨B, HBx⟩ : ∃ B, Box (wr.heap.size = B) := ⟨_, ⟨rfl⟩⟩
    rw [HBx.out] at y0 y1 ⊢
    cases b1 : decide (xo < 0) with
    | true =>
      have HF := box (Hbad.out (by simp only [BudM.bad, b1]; rfl))
      clear Hok Hbad
      go_wp2_with fail
      go_quiet (fail)
      go_wp2_with fail
      go_ret
      exact ⟨by rw [HF.out]; rfl, bud_dN HbW.out _⟩
    | false =>
    obtain ⟨o, rfl⟩ := Int.eq_ofNat_of_zero_le (show 0 ≤ xo by simp at b1; omega)
    cases b2 : decide (m < o) with
    | true =>
      have HF := box (Hbad.out (by simp only [BudM.bad]; simp at b2 ⊢; omega))
      clear Hok Hbad
      go_wp2_with fail
      go_quiet (fail)
      go_wp2_with fail
      go_ret
      exact ⟨by rw [HF.out]; rfl, bud_dN HbW.out _⟩
    | false =>
    have hom : o ≤ m := by simp at b2; omega
    cases b3 : decide (xa < e) with
    | true =>
      have HF := box (Hbad.out (by simp only [BudM.bad, b3]; simp))
      clear Hok Hbad
      go_wp2_with fail
      go_quiet (fail)
      go_wp2_with fail
      go_ret
      exact ⟨by rw [HF.out]; rfl, bud_dN HbW.out _⟩
    | false =>
    have hxa : e ≤ xa := by simp at b3; omega
    obtain ⟨P, HP⟩ : ∃ P : Int, Box ((2 : Int) ^ o = P) := ⟨_, ⟨rfl⟩⟩
    obtain ⟨N, HN⟩ : ∃ N : Int, Box ((2 : Int) ^ m = N) := ⟨_, ⟨rfl⟩⟩
    have hP0 : 0 < P := by rw [← HP.out]; exact BudM.pow_pos o
    have hP1 : P ≤ 1024 := by rw [← HP.out]; exact BudM.pow_hi (by omega)
    have hN0 : 0 < N := by rw [← HN.out]; exact BudM.pow_pos m
    have hN1 : N ≤ 1024 := by rw [← HN.out]; exact BudM.pow_hi hm
    have w1 : IntKind.i64.wrap (2 ^ o) = P := by rw [HP.out]; exact BudM.wrap_id (by omega) (by omega)
    have w2 : IntKind.i64.wrap (2 ^ m) = N := by rw [HN.out]; exact BudM.wrap_id (by omega) (by omega)
    have w3 : IntKind.i64.wrap (N - P) = N - P := BudM.wrap_id (by omega) (by omega)
    have hPn : ¬ P = 0 := by omega
    have htm : -1024 < xa.tmod P ∧ xa.tmod P < 1024 := by
      rw [Int.tmod_eq_emod_of_nonneg (by omega)]
      have h1 := Int.emod_nonneg xa (show P ≠ 0 by omega)
      have h2 := Int.emod_lt_of_pos xa hP0
      omega
    have w4 : IntKind.i64.wrap (xa.tmod P) = xa.tmod P := BudM.wrap_id (by omega) (by omega)
    have hoN : ((o : Int)).toNat = o := by omega
    have hmN : ((m : Int)).toNat = m := by omega
    generalize hq : xa.tmod P = q at *
    have Hq := box hq
    clear htm
    cases b4 : (q == 0) with
    | false =>
      have b5 : (q != 0) = true := by simp at b4 ⊢; exact b4
      have HF := box (Hbad.out (by simp only [BudM.bad]; rw [hoN, HP.out, Hq.out]; simp at b4 ⊢; simp [b4]))
      clear Hok Hbad
      go_wp2_with fail
      go_quiet (fail)
      go_wp2_with fail
      go_ret
      exact ⟨by rw [HF.out]; rfl, bud_dN HbW.out _⟩
    | true =>
    have b5 : (q != 0) = false := by simp at b4 ⊢; exact b4
    cases b6 : decide (N - P < xa) with
    | true =>
      have HF := box (Hbad.out (by simp only [BudM.bad]; rw [hoN, hmN, HP.out, HN.out, b6]; simp))
      clear Hok Hbad
      go_wp2_with fail
      go_quiet (fail)
      go_wp2_with fail
      go_ret
      exact ⟨by rw [HF.out]; rfl, bud_dN HbW.out _⟩
    | false =>
    have hle : xa ≤ N - P := by simp at b6; omega
    have HF := box (Hok.out (by simp only [BudM.bad]; rw [hoN, hmN, HP.out, HN.out, b6, b3, hq]; have hq0 : q = 0 := (by simpa using b4); simp [hq0, hom]))
    have w5 : IntKind.i64.wrap (xa + P) = xa + P := BudM.wrap_id (by omega) (by omega)
    clear Hok Hbad
    go_wp2_with fail
    go_quiet (fail)
    go_wp2_with fail
    go_quiet (fail)
    go_wp2_with fail
    exact ⟨⟨k + 1, xa + P, hlt, by go_num, rfl, by omega, by omega, ⟨by rw [← HF.out, hoN, HP.out]⟩, ⟨HKW.out.drewN _⟩, ⟨bud_dN HbW.out _⟩⟩, by simp [intOf]; omega⟩
end Go.Proofs.Ytfmgncfikaefhaa
