/- buddy.free: what it hands back. -/
import Derived.Test.YtfmgncfikaefhaaBud
namespace Go.Proofs.Ytfmgncfikaefhaa
open Go.RowKit Go.Lib

theorem Try.infoBk : (Try.prog.info? 73).map (fun i => (i.zero, i.size, i.bytes)) = some (some (.agg #[.int .i64 0, .int .i64 0]), 2, 16) := by kernel_rfl
/-- A row of blocks of the call's own is handed back. -/
def BudM.Row (l : List BkM) (w : World) (e : Ending) (w' : World) : Prop :=
  ∃ v, e = .returned v ∧ w'.ownsRow w.heap.size 73 2 v l.length (bkVals l) ∧ Below w.heap.size w w'
/-- Numbers so small that no sum grows over. -/
def BudM.Near (x : BkM) : Prop := 0 ≤ x.ord ∧ x.ord ≤ 10 ∧ 0 ≤ x.at_ ∧ x.at_ ≤ 1024
def BudM.FreeTells (n : Nat) : Prop := ∀ (T : List BkM) (a : Int) (ao : Option Addr) (cap : Nat) (w : World), BksAt w ao T → T.length ≤ 5000000000 → (∀ x ∈ T, BudM.Near x) → 0 ≤ a → a + 2 ^ n ≤ 1024 → n ≤ 10 →
  Calls Try.prog 58 #[.slice ao T.length cap, .int .i64 a, .int .i64 (n : Int)] w (BudM.Row (BudM.free n T a) w)
theorem BudM.free_nil {n : Nat} {T : List BkM} {a : Int} (h : BudM.ins T a n = []) : BudM.free n T a = [⟨a, n⟩] := by
  cases n <;> unfold BudM.free <;> rw [h] <;> rfl
theorem BudM.free_all {n : Nat} {T : List BkM} {a : Int} {x : BkM} {r : List BkM} (h : BudM.ins T a n = x :: r) (hn : (n : Int) ≤ x.ord) : BudM.free n T a = [] := by
  cases n with
  | zero => unfold BudM.free; rw [h]
  | succ n => unfold BudM.free; rw [h]; simp only; rw [if_pos hn]
theorem BudM.free_more {n : Nat} {T : List BkM} {a : Int} {x : BkM} {r : List BkM} (h : BudM.ins T a (n + 1) = x :: r) (hn : ¬ ((n + 1 : Nat) : Int) ≤ x.ord) : BudM.free (n + 1) T a = BudM.free n (x :: r) a ++ BudM.free n (x :: r) (a + 2 ^ n) := by
  conv => lhs; unfold BudM.free
  rw [h]; simp only; rw [if_neg hn]
theorem BudM.ins_len (T : List BkM) (a : Int) (n : Nat) : (BudM.ins T a n).length ≤ T.length := List.length_filter_le _ _
theorem BudM.own_one {w : World} {base : Nat} (hb : base ≤ w.heap.size) (x : BkM) : (w.alloc (.cells #[.int .i64 x.at_, .int .i64 x.ord] 73)).ownsRow base 73 2 (.slice (some ⟨w.heap.size, 0, none⟩) 1 1) 1 (bkVals [x]) :=
  ⟨rfl, Or.inr ⟨w.heap.size, 1, #[.int .i64 x.at_, .int .i64 x.ord], rfl, hb, heap_alloc_new w _, Nat.le_refl _, by unfold maxLen; omega, rfl, rfl⟩⟩

set_option maxRecDepth 20000 in
set_option maxHeartbeats 4000000 in
theorem budfree_step (n : Nat) (IH : ∀ m, m < n → BudM.FreeTells m) : BudM.FreeTells n := by
  intro T a ao cap w h hT hnear ha0 ha1 hn
  obtain ⟨i0, hi0, hz0, hz1, hz2⟩ := info_parts Try.infoBk
  have H := box h; have Hnear := box hnear; have HIH := box IH
  clear h hnear IH
  obtain ⟨P, HP⟩ : ∃ P : Int, Box ((2 : Int) ^ n = P) := ⟨_, ⟨rfl⟩⟩
  rw [HP.out] at ha1
  have hP0 : 0 < P := by rw [← HP.out]; exact BudM.pow_pos n
  have hP1 : P ≤ 1024 := by rw [← HP.out]; exact BudM.pow_hi hn
  have w1 : IntKind.i64.wrap (2 ^ n) = P := by rw [HP.out]; exact BudM.wrap_id (by omega) (by omega)
  have w2 : IntKind.i64.wrap (a + P) = a + P := BudM.wrap_id (by omega) (by omega)
  go_enter Try.func58, Try.ntmps58
  go_wp2_with fail
  go_loopw [8, 18] (fun t8 t18 wr => ∃ k : Nat, k ≤ T.length ∧ t18 = .int .i64 (k : Int) ∧ Box (wr.ownsRow w.heap.size 73 2 t8 (BudM.ins (T.take k) a n).length (bkVals (BudM.ins (T.take k) a n))) ∧ Box (Below w.heap.size w wr)) (fun _ t18 _ => T.length - (intOf t18).toNat)
  case atStart => exact ⟨0, Nat.zero_le _, rfl, ⟨World.ownsRow_nil _ _ _ _⟩, ⟨Below.refl _ _⟩⟩
  case round =>
    obtain ⟨k, hk, rfl, Hown, Hb⟩ := hrel
    have hbs := Hb.out.size
    by_cases hlt : k < T.length
    · obtain ⟨b, off, rfl, hb, hrow⟩ := ((H.out.below Hb.out (Nat.le_refl _)).resolve_left (by intro h; rw [h] at hlt; simp at hlt))
      obtain ⟨hc0, hc1⟩ := hrow k hlt
      have hlen := BudM.ins_len (T.take k) a n
      rw [List.length_take] at hlen
      have HT : Box (BudM.ins (T.take (k + 1)) a n = BudM.ins (T.take k) a n ++ (if BudM.meets a n T[k] = true then [T[k]] else [])) := ⟨by
        unfold BudM.ins
        rw [List.take_succ_eq_append_getElem hlt, List.filter_append]
        congr 1
        cases h : BudM.meets a n T[k] <;> simp [h]⟩
      obtain ⟨q0, q1, q2, q3⟩ := Hnear.out _ (List.getElem_mem hlt)
      generalize T[k] = x at *
      obtain ⟨xa, xo⟩ := x
      simp only at hc0 hc1 q0 q1 q2 q3
      obtain ⟨o, rfl⟩ := Int.eq_ofNat_of_zero_le q0
      generalize BudM.ins (T.take k) a n = ms at *
      have HMe : Box (BudM.meets a n ⟨xa, o⟩ = (decide (xa < a + P) && decide (a < xa + 2 ^ o))) := ⟨by unfold BudM.meets; rw [HP.out]; rfl⟩
      obtain ⟨X, HX⟩ : ∃ X : Int, Box ((2 : Int) ^ o = X) := ⟨_, ⟨rfl⟩⟩
      rw [HX.out] at HMe
      have hX0 : 0 < X := by rw [← HX.out]; exact BudM.pow_pos o
      have hX1 : X ≤ 1024 := by rw [← HX.out]; exact BudM.pow_hi (by omega)
      have w3 : IntKind.i64.wrap (2 ^ o) = X := by rw [HX.out]; exact BudM.wrap_id (by omega) (by omega)
      have w4 : IntKind.i64.wrap (xa + X) = xa + X := BudM.wrap_id (by omega) (by omega)
      clear hrow
      go_upto_region 6 with (fail)
      refine name_world (fun W => Below wr.heap.size wr W ∧ Blk W wr.heap.size 73 [.int .i64 xa, .int .i64 (o : Int)]) ⟨(Below.refl _ _).alloc (Nat.le_refl _) _, Blk.new _ _ _⟩ ?_
      rintro W ⟨hbW, hkW⟩
      have HbW := box (Hb.out.trans (hbW.mono hbs))
      have HOW := box (ownsRow_below Hown.out hbW)
      have y0 := hkW.cell (i := 0) rfl
      have y1 := hkW.cell (i := 1) rfl
      have hsW := HbW.out.size
      clear hbW hkW hc0 hc1
      obtain ⟨B, HBx⟩ : ∃ B, Box (wr.heap.size = B) := ⟨_, ⟨rfl⟩⟩
      rw [HBx.out] at y0 y1 ⊢
      have Hskip : Box (BudM.meets a n ⟨xa, o⟩ = false → BudM.ins (T.take (k + 1)) a n = ms) := ⟨fun h => by rw [HT.out, h, if_neg (by simp), List.append_nil]⟩
      have Htake : Box (BudM.meets a n ⟨xa, o⟩ = true → BudM.ins (T.take (k + 1)) a n = ms ++ [⟨xa, o⟩]) := ⟨fun h => by rw [HT.out, h, if_pos rfl]⟩
      clear HT
      cases b1 : decide (xa < a + P) with
      | false =>
        have HE := box (Hskip.out (by rw [HMe.out, b1]; rfl))
        clear Hskip Htake HMe
        go_wp2_with fail
        go_quiet (fail)
        go_wp2_with fail
        exact ⟨⟨k + 1, hlt, by go_num, ⟨by rw [HE.out]; exact HOW.out⟩, ⟨bud_dN HbW.out _⟩⟩, by simp [intOf]; omega⟩
      | true =>
        cases b2 : decide (a < xa + X) with
        | false =>
          have HE := box (Hskip.out (by rw [HMe.out, b1, b2]; rfl))
          clear Hskip Htake HMe
          go_wp2_with fail
          go_quiet (fail)
          go_wp2_with fail
          exact ⟨⟨k + 1, hlt, by go_num, ⟨by rw [HE.out]; exact HOW.out⟩, ⟨bud_dN HbW.out _⟩⟩, by simp [intOf]; omega⟩
        | true =>
          have HE := box (Htake.out (by rw [HMe.out, b1, b2]; rfl))
          clear Hskip Htake HMe
          go_wp2_with fail
          go_quiet (fail)
          obtain ⟨V, HV⟩ : ∃ V, Box (W.drewN nq = V) := ⟨_, ⟨rfl⟩⟩
          have HOV : Box (V.ownsRow w.heap.size 73 2 _ ms.length (bkVals ms)) := ⟨by rw [← HV.out]; exact HOW.out⟩
          have HBV : Box (Below w.heap.size w V) := ⟨by rw [← HV.out]; exact bud_dN HbW.out _⟩
          have v0 : V.cell? ⟨B, 0, none⟩ = some (.int .i64 xa) := by rw [← HV.out]; exact y0
          have v1 : V.cell? ⟨B, 1, none⟩ = some (.int .i64 (o : Int)) := by rw [← HV.out]; exact y1
          rw [HV.out]
          have hsV := HBV.out.size
          have hown2 := HOV.out.alloc (.cells #[.int .i64 xa, .int .i64 (o : Int)] 73)
          clear y0 y1
          go_wp2_with (at_builtin; go_must (refine wpList_append_own _ rfl _ _ 67 rfl w.heap.size 73 i0 _ 2 16 Try.underlying67 hi0 hz0 hz1 hz2 rfl (by decide) _ _ _ rfl hown2 ⟨V.heap.size, 0, none⟩ 1 1 [.int .i64 xa, .int .i64 (o : Int)] rfl rfl (cells_new V [.int .i64 xa, .int .i64 (o : Int)] 73) (by simp [Value.oneCell']) (by unfold maxLen; omega) (by omega) (by simp; omega) ?_))
          intro v' w9 hown3 hgrow _
          have HB9 := box ((HBV.out.alloc hsV (.cells #[.int .i64 xa, .int .i64 (o : Int)] 73)).grown hgrow (by simp; omega) (fun j hj => (HOV.out.lt j hj).1))
          have HO9 := box hown3
          clear hown3 hgrow hown2
          go_wp2_with fail
          go_roundw
          case rel =>
            refine ⟨k + 1, hlt, by go_num, ⟨?_⟩, HB9⟩
            rw [HE.out, bkVals_append, List.length_append]
            exact HO9.out
          case measure => simp [intOf]; omega
    · have HE : Box (T.take k = T) := ⟨List.take_of_length_le (by omega)⟩
      rw [HE.out] at Hown
      obtain ⟨ao2, cap2, rfl, _, hat, _, hcap2⟩ := BksAt.own Hown.out
      have hil := BudM.ins_len T a n
      have hmem : ∀ y ∈ BudM.ins T a n, BudM.Near y := fun y hy => Hnear.out y (BudM.mem_ins.1 hy).1
      rcases hI : BudM.ins T a n with _ | ⟨x, r⟩
      · have HF := box (BudM.free_nil hI)
        rw [hI] at Hown hat
        clear hat hmem hil hcap2
        go_wp2_with fail
        go_ret
        refine ⟨_, rfl, ?_, Hb.out.alloc hbs _⟩
        rw [HF.out]
        exact BudM.own_one hbs ⟨a, n⟩
      · rw [hI] at Hown hat hil hmem hcap2
        have HAT := box hat
        have Hmem := box hmem
        have Hil := box hil
        obtain ⟨b, off, rfl, hb, hrow⟩ := hat.resolve_left (by simp)
        have hc1 := (hrow 0 (by simp)).2
        have q0 := (hmem x (by simp)).1
        have q1 := (hmem x (by simp)).2.1
        simp only [List.getElem_cons_zero, Nat.zero_mul, Nat.add_zero] at hc1
        have hlen1 : (0 : Int) < ((x :: r).length : Int) := by simp only [List.length_cons]; omega
        clear hat hmem hil hrow
        generalize hx : x :: r = I at *
        have Hx := box hx
        clear hx
        cases b1 : decide ((n : Int) ≤ x.ord) with
        | true =>
          have HF := box (BudM.free_all (hI.trans Hx.out.symm) (of_decide_eq_true b1))
          clear hI
          go_wp2_with fail
          go_ret
          exact ⟨_, rfl, by rw [HF.out]; exact World.ownsRow_nil _ _ _ _, Hb.out⟩
        | false =>
          have hlt1 : ¬ (n : Int) ≤ x.ord := of_decide_eq_false b1
          obtain ⟨m, Hnm⟩ : ∃ m, Box (n = m + 1) := ⟨n - 1, ⟨by omega⟩⟩
          have HF : Box (BudM.free n T a = BudM.free m I a ++ BudM.free m I (a + 2 ^ m)) := ⟨by
            have h1 := hI
            have h2 := hlt1
            rw [Hnm.out] at h1 h2
            rw [Hnm.out, BudM.free_more (h1.trans Hx.out.symm) h2, Hx.out]⟩
          have hps : (2 : Int) ^ n = 2 * 2 ^ m := by rw [Hnm.out]; exact BudM.pow_succ m
          rw [HP.out] at hps
          obtain ⟨Q, HQ⟩ : ∃ Q : Int, Box ((2 : Int) ^ m = Q) := ⟨_, ⟨rfl⟩⟩
          rw [HQ.out] at hps HF
          have hnm := Hnm.out
          have hQ0 : 0 < Q := by omega
          have w3 : IntKind.i64.wrap (2 ^ m) = Q := by rw [HQ.out]; exact BudM.wrap_id (by omega) (by omega)
          have w4 : IntKind.i64.wrap (a + Q) = a + Q := BudM.wrap_id (by omega) (by omega)
          have w5 : IntKind.i64.wrap ((n : Int) - 1) = (m : Int) := by rw [BudM.wrap_id (by omega) (by omega)]; omega
          have w6 : (n : Int) - 1 = (m : Int) := by omega
          have hl1 := BudM.free_len m I a
          have hl2 := BudM.free_len m I (a + Q)
          have hpm : 2 ^ m ≤ 2 ^ 10 := Nat.pow_le_pow_right (by omega) (by omega)
          have hpm2 : 2 ^ 10 = 1024 := by decide
          have L1 : Box ((BudM.free m I a).length ≤ 1024) := ⟨by omega⟩
          have L2 : Box ((BudM.free m I (a + Q)).length ≤ 1024) := ⟨by omega⟩
          have HC1 := box (HIH.out m (by omega) I a (some ⟨b, off, none⟩) cap2 wr HAT.out (Nat.le_trans Hil.out hT) Hmem.out ha0 (by rw [HQ.out]; omega) (by omega))
          have HC2 := box (fun w' (h : Below wr.heap.size wr w') => HIH.out m (by omega) I (a + Q) (some ⟨b, off, none⟩) cap2 w' (HAT.out.below h (Nat.le_refl _)) (Nat.le_trans Hil.out hT) Hmem.out (by omega) (by rw [HQ.out]; omega) (by omega))
          clear hl1 hl2 hpm hpm2 hI hnm hlt1
          go_wp2_with fail
          refine HC1.out.mono ?_
          rintro e w1 ⟨v1, rfl, hown1, hb1⟩
          have HO1 := box hown1; have HB1 := box hb1
          clear hown1 hb1
          go_wp2_with fail
          refine (HC2.out w1 HB1.out).mono ?_
          rintro e w2 ⟨v2, rfl, hown2, hb2⟩
          have hb0 : wr.heap.size ≤ w1.heap.size := HB1.out.size
          have hownA := ownsRow_mono (ownsRow_below HO1.out hb2) hbs
          have HB2 : Box (Below w.heap.size w w2) := ⟨(Hb.out.trans (HB1.out.mono hbs)).trans (hb2.mono (Nat.le_trans hbs hb0))⟩
          have hbs2 := HB2.out.size
          obtain ⟨ao1, cap1, rfl, _, hat1, hnil1, _⟩ := BksAt.own hown2
          generalize BudM.free m I a = fs1 at *
          generalize BudM.free m I (a + Q) = fs at *
          have l1 := L1.out
          have l2 := L2.out
          cases ao1 with
          | none =>
            obtain rfl := hnil1 rfl
            have hfs : fs = [] := hat1.resolve_right (by rintro ⟨b, off, h, _⟩; simp at h)
            subst hfs
            have HO := box hownA
            clear hb2 hown2 hat1 hnil1
            go_wp2_with (at_builtin; go_must (refine wpList_append_own_none rfl _ _ 67 rfl w.heap.size 73 i0 2 Try.underlying67 hi0 _ _ _ rfl hownA rfl ?_))
            clear hownA
            go_wp2_with fail
            go_ret
            refine ⟨_, rfl, ?_, HB2.out⟩
            rw [HF.out, List.append_nil]
            exact HO.out
          | some ad =>
            have hcs : ∀ j u, (bkVals fs)[j]? = some u → w2.cell? (ad.add j) = some u := by
              rcases hown2.2 with ⟨h1, _⟩ | ⟨g, cap2, cur, h1, _⟩
              · simp at h1
              · simp only [Value.slice.injEq, Option.some.injEq] at h1
                rw [h1.1]
                exact hown2.cells (by rw [h1.1]; rfl)
            have hav := box hownA.lt
            have Hcs := box hcs
            clear hb2 hown2 hat1 hnil1 hcs
            go_wp2_with (at_builtin; go_must (refine wpList_append_own _ rfl _ _ 67 rfl w.heap.size 73 i0 _ 2 16 Try.underlying67 hi0 hz0 hz1 hz2 rfl (by decide) _ _ _ rfl hownA ad fs.length cap1 (bkVals fs) rfl (bkVals_len fs) Hcs.out (bkVals_one fs) (by unfold maxLen; omega) (by omega) (by omega) ?_))
            intro v' w3 hown3 hgrow _
            have hB3 : Below w.heap.size w w3 := HB2.out.grown hgrow hbs2 (fun b hb => (hav.out b hb).1)
            have HB3 := box hB3; have HO := box hown3
            clear hown3 hgrow hownA hB3
            go_wp2_with fail
            go_ret
            refine ⟨_, rfl, ?_, HB3.out⟩
            rw [HF.out, bkVals_append, List.length_append]
            exact HO.out
theorem budfree_any (n : Nat) : BudM.FreeTells n := Nat.strongRecOn n (fun n ih => budfree_step n ih)
end Go.Proofs.Ytfmgncfikaefhaa
