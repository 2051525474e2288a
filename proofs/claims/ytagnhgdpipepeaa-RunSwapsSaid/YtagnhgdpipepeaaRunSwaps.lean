/- RunSwaps: neighbours of unlike transactions that do not clash may change places. -/
import Derived.Test.YtagnhgdpipepeaaLawKit
import Derived.Test.YtagnhgdpipepeaaLike
import Derived.Test.YtagnhgdpipepeaaSwapM
import Derived.Test.YtagnhgdpipepeaaOp
import Derived.Test.YtagnhgdpipepeaaOpsOpen
import Derived.Test.YtagnhgdpipepeaaRest
import Derived.Test.YtagnhgdpipepeaaDagV
namespace Go.Proofs.Ytagnhgdpipepeaa
open Go.RowKit Go.Lib

theorem OpsAt.blk {w : World} {b : Nat} {l : List OpM} (h : Blk w b 43 (opVals l)) : OpsAt w (some ⟨b, 0, none⟩) l :=
  Or.inr ⟨b, 0, rfl, h.lt, fun k hk => by
    obtain ⟨c0, c1, c2⟩ := opVals_at l k hk
    rw [Nat.zero_add]
    exact ⟨h.cell c0, h.cell c1, h.cell c2⟩⟩
theorem RunM.like_refl (l : List OpM) (h : RunM.check l = 0) : RunM.likeOk l l = 0 ∧ RunM.like l l = true := by
  unfold RunM.likeOk RunM.like
  rw [h]
  refine ⟨by simp, ?_⟩
  have : RunM.sameTo l l 12 = true := by unfold RunM.sameTo; simp
  rw [this]; simp
theorem RunM.fits_two (x y : OpM) (h : ∀ o ∈ [x, y], -9223372036854775808 ≤ o.tx ∧ o.tx ≤ 9223372036854775807 ∧ -9223372036854775808 ≤ o.kind ∧ o.kind ≤ 9223372036854775807 ∧ -9223372036854775808 ≤ o.item ∧ o.item ≤ 9223372036854775807) : RunM.Fits [x, y] := ⟨by simp, h⟩
theorem RunM.clash_law {x y : OpM} (hne : x.tx ≠ y.tx) (hx : 1 ≤ x.kind) (hy : 1 ≤ y.kind) : RunM.clash x y = (decide (x.kind ≤ 2) && decide (y.kind ≤ 2) && (x.item == y.item) && decide (2 < x.kind + y.kind)) := by
  unfold RunM.clash
  rw [Bool.eq_iff_iff]
  simp only [Bool.and_eq_true, Bool.not_eq_true', beq_eq_false_iff_ne, decide_eq_true_eq, beq_iff_eq, Bool.or_eq_true]
  omega
theorem split_two {α : Type} (l : List α) (k : Nat) (h : k + 1 < l.length) : l = l.take k ++ l[k] :: l[k + 1] :: l.drop (k + 2) ∧ (l.set k l[k + 1]).set (k + 1) l[k] = l.take k ++ l[k + 1] :: l[k] :: l.drop (k + 2) := by
  have h1 : l = l.take k ++ l[k] :: l[k + 1] :: l.drop (k + 2) := by
    conv => lhs; rw [← List.take_append_drop k l]
    rw [List.drop_eq_getElem_cons (by omega), List.drop_eq_getElem_cons (by omega)]
  refine ⟨h1, ?_⟩
  generalize l[k] = x at *
  generalize l[k + 1] = y at *
  have hl : (l.take k).length = k := by rw [List.length_take]; omega
  generalize l.take k = p at *
  generalize l.drop (k + 2) = s at *
  subst h1
  subst hl
  simp

/-- Region 15: which of the two stores are done. -/
def RunM.mix (l : List OpM) (k : Nat) (x y : OpM) (b8 b10 : Bool) : List OpM := if b10 = true then (if b8 = true then l.set k y else l).set (k + 1) x else if b8 = true then l.set k y else l
theorem RunM.mix8 (l : List OpM) (k : Nat) (x y : OpM) (b8 b10 : Bool) : (RunM.mix l k x y b8 b10).set k y = RunM.mix l k x y true b10 := by
  have hc : ∀ m : List OpM, (m.set (k + 1) x).set k y = (m.set k y).set (k + 1) x := fun m => List.set_comm _ _ (by omega)
  unfold RunM.mix
  cases b8 <;> cases b10 <;> simp [hc, List.set_set]
theorem RunM.mix10 (l : List OpM) (k : Nat) (x y : OpM) (b8 b10 : Bool) : (RunM.mix l k x y b8 b10).set (k + 1) x = RunM.mix l k x y b8 true := by
  unfold RunM.mix
  cases b8 <;> cases b10 <;> simp [List.set_set]
theorem RunM.mix_len (l : List OpM) (k : Nat) (x y : OpM) (b8 b10 : Bool) : (RunM.mix l k x y b8 b10).length = l.length := by
  unfold RunM.mix
  cases b8 <;> cases b10 <;> simp
structure RunM.SwapS (w : World) (l : List OpM) (k : Nat) (x y : OpM) (Bs g N cc X Y : Nat) (b8 b10 : Bool) (wx : World) : Prop where
  own : wx.ownsRow Bs 43 3 (.slice (some ⟨g, 0, none⟩) N cc) N (opVals (RunM.mix l k x y b8 b10))
  bx : Blk wx X 43 [.int .i64 x.tx, .int .i64 x.kind, .int .i64 x.item]
  by_ : Blk wx Y 43 [.int .i64 y.tx, .int .i64 y.kind, .int .i64 y.item]
  below : Below w.heap.size w wx
section
variable {w wx : World} {l : List OpM} {k : Nat} {x y : OpM} {Bs g N cc X Y : Nat} {b8 b10 : Bool}
theorem RunM.SwapS.at (h : RunM.SwapS w l k x y Bs g N cc X Y b8 b10 wx) (j : Nat) (hj : j < N) (hN : l.length = N) : ∃ u0 u1 u2, wx.cell? ⟨g, j * 3, none⟩ = some u0 ∧ wx.cell? ⟨g, j * 3 + 1, none⟩ = some u1 ∧ wx.cell? ⟨g, j * 3 + 2, none⟩ = some u2 := by
  obtain ⟨c0, c1, c2⟩ := opVals_at (RunM.mix l k x y b8 b10) j (by rw [RunM.mix_len]; omega)
  exact ⟨_, _, _, by rw [h.own.cellAt (j * 3) (by omega)]; exact c0, by rw [h.own.cellAt (j * 3 + 1) (by omega)]; exact c1, by rw [h.own.cellAt (j * 3 + 2) (by omega)]; exact c2⟩
theorem RunM.SwapS.put8 (h : RunM.SwapS w l k x y Bs g N cc X Y b8 b10 wx) (hk : k < l.length) (hw : w.heap.size ≤ g) (hX : X ≠ g) (hY : Y ≠ g) :
    RunM.SwapS w l k x y Bs g N cc X Y true b10 (((wx.setCell ⟨g, k * 3, none⟩ (.int .i64 y.tx)).setCell ⟨g, k * 3 + 1, none⟩ (.int .i64 y.kind)).setCell ⟨g, k * 3 + 2, none⟩ (.int .i64 y.item)) := by
  refine ⟨?_, ((h.bx.other (p := ⟨g, k * 3, none⟩) hX _).other (p := ⟨g, k * 3 + 1, none⟩) hX _).other (p := ⟨g, k * 3 + 2, none⟩) hX _, ((h.by_.other (p := ⟨g, k * 3, none⟩) hY _).other (p := ⟨g, k * 3 + 1, none⟩) hY _).other (p := ⟨g, k * 3 + 2, none⟩) hY _, ((h.below.setCell hw _).setCell hw _).setCell hw _⟩
  have h1 := ((((h.own.stored (k * 3) (.int .i64 y.tx)).1).stored (k * 3 + 1) (.int .i64 y.kind)).1.stored (k * 3 + 2) (.int .i64 y.item)).1
  rw [opVals_set _ k y (by rw [RunM.mix_len]; exact hk), RunM.mix8] at h1
  exact h1
theorem RunM.SwapS.put10 (h : RunM.SwapS w l k x y Bs g N cc X Y b8 b10 wx) (hk : k + 1 < l.length) (hw : w.heap.size ≤ g) (hX : X ≠ g) (hY : Y ≠ g) :
    RunM.SwapS w l k x y Bs g N cc X Y b8 true (((wx.setCell ⟨g, (k + 1) * 3, none⟩ (.int .i64 x.tx)).setCell ⟨g, (k + 1) * 3 + 1, none⟩ (.int .i64 x.kind)).setCell ⟨g, (k + 1) * 3 + 2, none⟩ (.int .i64 x.item)) := by
  refine ⟨?_, ((h.bx.other (p := ⟨g, (k + 1) * 3, none⟩) hX _).other (p := ⟨g, (k + 1) * 3 + 1, none⟩) hX _).other (p := ⟨g, (k + 1) * 3 + 2, none⟩) hX _, ((h.by_.other (p := ⟨g, (k + 1) * 3, none⟩) hY _).other (p := ⟨g, (k + 1) * 3 + 1, none⟩) hY _).other (p := ⟨g, (k + 1) * 3 + 2, none⟩) hY _, ((h.below.setCell hw _).setCell hw _).setCell hw _⟩
  have h1 := ((((h.own.stored ((k + 1) * 3) (.int .i64 x.tx)).1).stored ((k + 1) * 3 + 1) (.int .i64 x.kind)).1.stored ((k + 1) * 3 + 2) (.int .i64 x.item)).1
  rw [opVals_set _ (k + 1) x (by rw [RunM.mix_len]; exact hk), RunM.mix10] at h1
  exact h1
end

set_option maxRecDepth 20000 in
set_option maxHeartbeats 4000000 in
theorem runSwaps_calls (l : List OpM) (at_ : Int) (ao : Option Addr) (cap : Nat) (w : World) (h : OpsAt w ao l) (hf : RunM.Fits l) (hnil : ao = none → cap = 0) :
    Calls Try.prog 8 #[.slice ao l.length cap, .int .i64 at_] w fun e w' => e = .returned (.bool true) ∧ Below w.heap.size w w' := by
  have H := box h; have Hf := box hf; have Hnil := box hnil
  have HK := box (fun (hc : RunM.check l = 0) => RunM.check_ok hc)
  clear h hf hnil
  go_enter Try.func8, Try.ntmps8
  go_wp2_with fail
  refine (op_any _ _ _ _).mono ?_
  rintro e w1 ⟨rfl, hb1⟩
  have HB1 := box hb1; clear hb1
  go_wp2_with fail
  refine (op_any _ _ _ _).mono ?_
  rintro e w2 ⟨rfl, hb2⟩
  have HB2 := box (below_tr HB1.out hb2); clear hb2
  go_wp2_with fail
  obtain ⟨W3, HW3⟩ : ∃ W, Box (w2.alloc (.cells #[.int .i64 0, .int .i64 1, .int .i64 1, .int .i64 1, .int .i64 2, .int .i64 1] 43) = W) := ⟨_, ⟨rfl⟩⟩
  rw [HW3.out]
  have HB3 : Box (Below w.heap.size w W3) := ⟨by rw [← HW3.out]; exact HB2.out.alloc HB2.out.size _⟩
  have HK3 : Box (Blk W3 w2.heap.size 43 (opVals [⟨0, 1, 1⟩, ⟨1, 2, 1⟩])) := ⟨by rw [← HW3.out]; exact Blk.new w2 (opVals [⟨0, 1, 1⟩, ⟨1, 2, 1⟩]) _⟩
  clear HB1 HB2 HW3
  generalize w2.heap.size = Ba at *
  refine (op_any _ _ _ _).mono ?_
  rintro e w4 ⟨rfl, hb4⟩
  have HB4 := box (below_tr HB3.out hb4); have HK4 := box (HK3.out.after hb4); clear hb4
  go_wp2_with fail
  refine (op_any _ _ _ _).mono ?_
  rintro e w5 ⟨rfl, hb5⟩
  have HB5 := box (below_tr HB4.out hb5); have HK5 := box (HK4.out.after hb5); clear hb5
  go_upto_region 2 with (fail)
  refine name_world (fun W => Below w.heap.size w W ∧ Blk W Ba 43 (opVals [⟨0, 1, 1⟩, ⟨1, 2, 1⟩]) ∧ Blk W w5.heap.size 43 (opVals [⟨1, 2, 1⟩, ⟨0, 1, 1⟩])) ⟨HB5.out.alloc HB5.out.size _, HK5.out.alloc _, Blk.new w5 (opVals [⟨1, 2, 1⟩, ⟨0, 1, 1⟩]) _⟩ ?_
  rintro W6 ⟨hw6, hk6, hm6⟩
  have HB6 := box hw6; have HK6 := box hk6; have HM6 := box hm6
  clear hw6 hk6 hm6 HB3 HB4 HB5 HK3 HK4 HK5
  generalize w5.heap.size = Bb at *
  have HF1 := box (RunM.fits_two ⟨0, 1, 1⟩ ⟨1, 2, 1⟩ (by intro o ho; simp at ho; rcases ho with rfl | rfl <;> decide))
  have HF2 := box (RunM.fits_two ⟨1, 2, 1⟩ ⟨0, 1, 1⟩ (by intro o ho; simp at ho; rcases ho with rfl | rfl <;> decide))
  have HR1 := box (RunM.like_refl [⟨0, 1, 1⟩, ⟨1, 2, 1⟩] (by decide))
  have HR2 := box (RunM.like_swap [] [] ⟨0, 1, 1⟩ ⟨1, 2, 1⟩ (by decide) (by decide))
  have HL1 := box (like_any [⟨0, 1, 1⟩, ⟨1, 2, 1⟩] [⟨0, 1, 1⟩, ⟨1, 2, 1⟩] (some ⟨Ba, 0, none⟩) (some ⟨Ba, 0, none⟩) 2 2 W6 (.blk HK6.out) (.blk HK6.out) (by simp) (by simp) HF1.out HF1.out)
  rw [HR1.out.1, HR1.out.2] at HL1
  go_wp2_with fail
  refine HL1.out.mono ?_
  rintro e w7 ⟨rfl, hb7⟩
  have HB7 := box (below_tr HB6.out hb7)
  have HL2 := box (like_any [⟨0, 1, 1⟩, ⟨1, 2, 1⟩] [⟨1, 2, 1⟩, ⟨0, 1, 1⟩] (some ⟨Ba, 0, none⟩) (some ⟨Bb, 0, none⟩) 2 2 w7 (.blk (HK6.out.after hb7)) (.blk (HM6.out.after hb7)) (by simp) (by simp) HF1.out HF2.out)
  have e1 : RunM.likeOk [⟨0, 1, 1⟩, ⟨1, 2, 1⟩] [⟨1, 2, 1⟩, ⟨0, 1, 1⟩] = 0 := HR2.out.1
  have e2 : RunM.like [⟨0, 1, 1⟩, ⟨1, 2, 1⟩] [⟨1, 2, 1⟩, ⟨0, 1, 1⟩] = false := HR2.out.2
  rw [e1, e2] at HL2
  clear hb7 HL1 e1 e2 HR1 HR2 HF1 HF2 HB6 HK6 HM6
  go_wp2_with fail
  refine HL2.out.mono ?_
  rintro e w8 ⟨rfl, hb8⟩
  have HB8 := box (below_tr HB7.out hb8)
  clear hb8 HL2 HB7
  go_wp2_with fail
  refine (runCheck_any l ao cap w8 (H.out.below HB8.out (Nat.le_refl _)) Hf.out).mono ?_
  rintro e w9 ⟨rfl, hb9⟩
  have HB9 := box (below_tr HB8.out hb9)
  clear hb9 HB8
  obtain ⟨kl, Hkl⟩ : ∃ x, Box (RunM.check l = x) := ⟨_, ⟨rfl⟩⟩
  rw [Hkl.out]
  cases e0 : (kl != 0) with
  | true =>
    go_wp2_with fail
    go_ret
    exact ⟨rfl, HB9.out⟩
  | false =>
  obtain rfl : kl = 0 := by simpa using e0
  obtain ⟨hl2, _, hok⟩ := HK.out Hkl.out
  have Hok := box hok
  obtain ⟨N, HN⟩ : ∃ N, Box (l.length = N) := ⟨_, ⟨rfl⟩⟩
  rw [HN.out] at hl2 ⊢
  clear hok HK
  by_cases hN : N < 2
  · have hNi : (N : Int) < 2 := by omega
    go_wp2_with fail
    go_ret
    exact ⟨rfl, HB9.out⟩
  have hNi : ¬ (N : Int) < 2 := by omega
  have hk : (at_ % ((N - 1 : Nat) : Int)).toNat < N - 1 := by
    have h1 := Int.emod_lt_of_pos at_ (show (0 : Int) < ((N - 1 : Nat) : Int) by omega)
    have h2 := Int.emod_nonneg at_ (show ((N - 1 : Nat) : Int) ≠ 0 by omega)
    omega
  obtain ⟨k, Hk⟩ : ∃ k, Box ((at_ % ((N - 1 : Nat) : Int)).toNat = k) := ⟨_, ⟨rfl⟩⟩
  have HRest2 : Box (∀ z : Int, z = ((N - 1 : Nat) : Int) → Calls Try.prog 18 #[.int .i64 at_, .int .i64 z] w9 fun e w' => e = .returned (.int .i64 (k : Int)) ∧ w9 = w') := ⟨fun z hz => by
    subst hz
    rw [← Hk.out]; exact rest_any at_ (N - 1) w9 (by omega) (by omega)⟩
  rw [Hk.out] at hk
  clear Hk
  go_wp2_with fail
  refine (HRest2.out _ (by omega)).mono ?_
  rintro e w10 ⟨rfl, rfl⟩
  clear HRest2
  have hk1 : k + 1 < l.length := by rw [HN.out]; omega
  have hk0 : k < l.length := by omega
  have HSp := box (split_two l k hk1)
  obtain ⟨b, off, rfl, hbs, hrow⟩ := ((H.out.below HB9.out (Nat.le_refl _)).resolve_left (by intro h; rw [h] at hk0; simp at hk0))
  obtain ⟨c0, c1, c2⟩ := hrow k hk0
  obtain ⟨d0, d1, d2⟩ := hrow (k + 1) hk1
  have HbX := box (RunM.bad_zero (Hok.out _ (List.getElem_mem hk0)))
  have HbY := box (RunM.bad_zero (Hok.out _ (List.getElem_mem hk1)))
  have HG : Box (l[k]? = some l[k] ∧ l[k + 1]? = some l[k + 1]) := ⟨List.getElem?_eq_getElem hk0, List.getElem?_eq_getElem hk1⟩
  generalize l[k] = x at *
  generalize l[k + 1] = y at *
  obtain ⟨x0, x1, x2⟩ := x
  obtain ⟨y0, y1, y2⟩ := y
  simp only at c0 c1 c2 d0 d1 d2
  have hkN : (k : Int) < (N : Int) := by omega
  have hkN1 : (k : Int) + 1 < (N : Int) := by omega
  clear hrow
  have hs9 := HB9.out.size
  have hwr : IntKind.i64.wrap ((k : Int) + 1) = (k : Int) + 1 := IntWalk.i64_in _ (by omega)
  have htn : ((k : Int) + 1).toNat = k + 1 := by omega
  have hk01 : (0 : Int) ≤ (k : Int) + 1 := by omega
  have HP2 : Box (∀ a c : List Value, Blk ((w9.alloc (.cells a.toArray 43)).alloc (.cells c.toArray 43)).drew w9.heap.size 43 a ∧ Blk ((w9.alloc (.cells a.toArray 43)).alloc (.cells c.toArray 43)).drew (w9.heap.size + 1) 43 c ∧ Below w9.heap.size w9 ((w9.alloc (.cells a.toArray 43)).alloc (.cells c.toArray 43)).drew) := ⟨fun a c =>
    ⟨((Blk.new w9 a _).alloc _).drew, (Blk.new' (by simp) c _).drew, (((Below.refl _ w9).alloc (Nat.le_refl _) _).alloc (by simp) _).drew⟩⟩
  have HPa := box (HP2.out [.int .i64 x0, .int .i64 x1, .int .i64 x2] [.int .i64 y0, .int .i64 y1, .int .i64 y2])
  have HPb := box (let h := HP2.out [.int .i64 y0, .int .i64 y1, .int .i64 y2] [.int .i64 x0, .int .i64 x1, .int .i64 x2]; And.intro h.2.1 (And.intro h.1 h.2.2))
  clear HP2
  go_upto_region 11 with (fail)
  go_cut [12, 13] (fun s12 s13 wx => ∃ X Y : Nat, s12 = .pointer (some ⟨X, 0, none⟩) ∧ s13 = .pointer (some ⟨Y, 0, none⟩) ∧ w9.heap.size ≤ X ∧ w9.heap.size ≤ Y ∧ X ≠ Y ∧ Blk wx X 43 [.int .i64 x0, .int .i64 x1, .int .i64 x2] ∧ Blk wx Y 43 [.int .i64 y0, .int .i64 y1, .int .i64 y2] ∧ Below w9.heap.size w9 wx)
  case first =>
    go_region_law (fail)
    all_goals (go_wp2_with fail)
    all_goals go_meet
    all_goals first
      | exact ⟨w9.heap.size, w9.heap.size + 1, rfl, rfl, Nat.le_refl _, Nat.le_succ _, Nat.ne_of_lt (Nat.lt_succ_self _), HPa.out.1, HPa.out.2.1, HPa.out.2.2⟩
      | exact ⟨w9.heap.size + 1, w9.heap.size, rfl, rfl, Nat.le_succ _, Nat.le_refl _, Nat.ne_of_gt (Nat.lt_succ_self _), HPb.out.1, HPb.out.2.1, HPb.out.2.2⟩
  case rest =>
    obtain ⟨X, Y, rfl, rfl, hX, hY, hXY, hkX, hkY, hbW⟩ := hcut
    have HX := box hkX; have HY := box hkY; have HBW := box hbW
    clear hkX hkY hbW c0 c1 c2 d0 d1 d2 hbs HPa HPb
    have p0 := HX.out.cell (i := 0) rfl
    have p1 := HX.out.cell (i := 1) rfl
    have p2 := HX.out.cell (i := 2) rfl
    have r0 := HY.out.cell (i := 0) rfl
    have r1 := HY.out.cell (i := 1) rfl
    have r2 := HY.out.cell (i := 2) rfl
    have HBx := box (below_tr HB9.out HBW.out)
    cases hxy : (x0 == y0) with
    | true =>
      go_wp2_with fail
      go_ret
      exact ⟨rfl, HBx.out⟩
    | false =>
    have hne : x0 ≠ y0 := by simpa using hxy
    have HLw := box (RunM.like_swap (l.take k) (l.drop (k + 2)) ⟨x0, x1, x2⟩ ⟨y0, y1, y2⟩ hne (by rw [← HSp.out.1]; exact Hkl.out))
    have HCk := box (RunM.check_swap (l.take k) (l.drop (k + 2)) ⟨x0, x1, x2⟩ ⟨y0, y1, y2⟩ hne (by rw [← HSp.out.1]; exact Hkl.out))
    rw [← HSp.out.1, ← HSp.out.2] at HLw
    rw [← HSp.out.2] at HCk
    have HCl := box (RunM.clash_law (x := ⟨x0, x1, x2⟩) (y := ⟨y0, y1, y2⟩) hne HbX.out.2.2.2.2.1 HbY.out.2.2.2.2.1)
    have HCn := box (clone_ops l (some ⟨b, off, none⟩) cap wc (H.out.below HBx.out (Nat.le_refl _)) (by simp) (by have := HN.out; omega))
    rw [HN.out] at HCn
    go_wp2_with fail
    refine HCn.out.mono ?_
    rintro e w11 ⟨⟨v11, rfl, ho⟩, hb11⟩
    clear p0 p1 p2 r0 r1 r2
    obtain ⟨g, cc, rfl, hg1, hg2, hg3⟩ := ownsRow_shape ho (by
      intro h
      have h1 := ho.1
      rw [opVals_len, HN.out] at h1
      rcases ho.2 with ⟨_, h2⟩ | ⟨g, cap, cur, h2, _⟩
      · omega
      · rw [h] at h2; simp at h2)
    have HO := box ho
    have HX1 := box (HX.out.after hb11); have HY1 := box (HY.out.after hb11)
    have HB11 := box (below_tr HBx.out hb11)
    have hXs := HX.out.lt
    have hYs := HY.out.lt
    clear ho hb11 HCn
    have HBs := box HBx.out.size
    generalize wc.heap.size = Bs at *
    have hsz11 : Bs ≤ w11.heap.size := Nat.le_trans hg1 (Nat.le_of_lt hg2)
    have hgw : w.heap.size ≤ g := Nat.le_trans HBs.out hg1
    have hXg : X ≠ g := by omega
    have hYg : Y ≠ g := by omega
    have hlN := HN.out
    have HS0 : Box (RunM.SwapS w l k ⟨x0, x1, x2⟩ ⟨y0, y1, y2⟩ Bs g N cc X Y false false w11.drew) := ⟨⟨HO.out.drew, HX1.out.drew, HY1.out.drew, HB11.out.drew⟩⟩
    go_upto_region 15 with (fail)
    go_cut [] (fun wx => wx.ownsRow Bs 43 3 (.slice (some ⟨g, 0, none⟩) N cc) N (opVals ((l.set k ⟨y0, y1, y2⟩).set (k + 1) ⟨x0, x1, x2⟩)) ∧ Blk wx X 43 [.int .i64 x0, .int .i64 x1, .int .i64 x2] ∧ Blk wx Y 43 [.int .i64 y0, .int .i64 y1, .int .i64 y2] ∧ Below w.heap.size w wx)
    case first =>
      clear HLw HCk HCl HO HX1 HY1 HB11 HX HY HBW HBx HG HSp Hkl H Hf Hok HN
      obtain ⟨PV, HPV⟩ : ∃ PV : Nat → Option Value, Box (PV = fun i => ([some (.slice (some ⟨g, 0, none⟩) N cc), some (.int .i64 (k : Int)), some (.slice (some ⟨g, 0, none⟩) N cc), some (.int .i64 (k : Int)), some (.int .i64 ((k : Int) + 1)), some (.agg #[.int .i64 y0, .int .i64 y1, .int .i64 y2]), some (.agg #[.int .i64 x0, .int .i64 x1, .int .i64 x2]), some (.pointer (some ⟨g, k * 3, none⟩)), none, some (.pointer (some ⟨g, (k + 1) * 3, none⟩)), none] : List (Option Value)).getD i none) := ⟨_, ⟨rfl⟩⟩
      refine wp_region_dagv (by kernel_rfl) (fun Lf vals wx => (∀ i v, PV i = some v → Lf.getD i false = true → vals i = v) ∧ RunM.SwapS w l k ⟨x0, x1, x2⟩ ⟨y0, y1, y2⟩ Bs g N cc X Y (Lf.getD 8 false) (Lf.getD 10 false)  wx) (by kernel_rfl) ?_ ?_ ?_
      · refine ⟨fun i v _ h => absurd h (by simp [Array.getD_eq_getD_getElem?, Array.getElem?_replicate]; try (split <;> simp)), ?_⟩
        simp only [Array.getD_eq_getD_getElem?, Array.getElem?_replicate, List.size_toArray, List.length_cons, List.length_nil, Nat.reduceAdd, Nat.reduceLT, if_true, Option.getD_some]
        exact HS0.out
      · intro i hi o ho Lf vals b wx hat haft hL hR
        obtain ⟨hP, hS⟩ := hR
        have hco := hat.const
        have hkeep : ∀ i v, (PV i = some v ∨ PV i = none) → Lf.getD i true = false → (∀ j u, PV j = some u → (Lf.setIfInBounds i true).getD j false = true → Dag.turn vals i v j = u) := fun i v hv hL j u hu hj => by
          by_cases e : j = i
          · subst e; rw [Dag.turn_same]; rcases hv with hv | hv <;> rw [hv] at hu <;> simp at hu; exact hu
          · rw [Dag.turn_other _ _ e]; rw [getD_set_ne false (Ne.symm e)] at hj; exact hP j u hu hj
        have r14 : b.eval (.tmp 14) = .slice (some ⟨g, 0, none⟩) N cc := hat.old 14 (by
          intro j o' hj
          match j with
          | 0 | 1 | 2 | 3 | 4 | 5 | 6 | 7 | 8 | 9 | 10 => injection hj with hj; subst hj; simp
          | j + 11 => cases hj)
        have r11 : b.eval (.tmp 11) = .int .i64 (k : Int) := hat.old 11 (by
          intro j o' hj
          match j with
          | 0 | 1 | 2 | 3 | 4 | 5 | 6 | 7 | 8 | 9 | 10 => injection hj with hj; subst hj; simp
          | j + 11 => cases hj)
        have r12 : b.eval (.tmp 12) = .pointer (some ⟨X, 0, none⟩) := hat.old 12 (by
          intro j o' hj
          match j with
          | 0 | 1 | 2 | 3 | 4 | 5 | 6 | 7 | 8 | 9 | 10 => injection hj with hj; subst hj; simp
          | j + 11 => cases hj)
        have r13 : b.eval (.tmp 13) = .pointer (some ⟨Y, 0, none⟩) := hat.old 13 (by
          intro j o' hj
          match j with
          | 0 | 1 | 2 | 3 | 4 | 5 | 6 | 7 | 8 | 9 | 10 => injection hj with hj; subst hj; simp
          | j + 11 => cases hj)
        have p0 := hS.bx.cell (i := 0) rfl
        have p1 := hS.bx.cell (i := 1) rfl
        have p2 := hS.bx.cell (i := 2) rfl
        have r0 := hS.by_.cell (i := 0) rfl
        have r1 := hS.by_.cell (i := 1) rfl
        have r2 := hS.by_.cell (i := 2) rfl
        match i, hi with
        | 0, _ =>
          injection ho with ho
          subst ho
          refine Dag.yields (w' := wx) (.slice (some ⟨g, 0, none⟩) N cc) ?_ ⟨.slice (some ⟨g, 0, none⟩) N cc, rfl, hkeep 0 _ (Or.inl (by rw [HPV.out]; rfl)) hL, ?_⟩
          · clear hP hS hat haft hkeep hL
            generalize b.eval = ρ at *
            go_simp
          · simp only [getD_set_ne false (show 0 ≠ 8 by decide), getD_set_ne false (show 0 ≠ 10 by decide)]
            exact hS
        | 1, _ =>
          injection ho with ho
          subst ho
          refine Dag.yields (w' := wx) (.int .i64 (k : Int)) ?_ ⟨.int .i64 (k : Int), rfl, hkeep 1 _ (Or.inl (by rw [HPV.out]; rfl)) hL, ?_⟩
          · clear hP hS hat haft hkeep hL
            generalize b.eval = ρ at *
            go_simp
          · simp only [getD_set_ne false (show 1 ≠ 8 by decide), getD_set_ne false (show 1 ≠ 10 by decide)]
            exact hS
        | 2, _ =>
          injection ho with ho
          subst ho
          refine Dag.yields (w' := wx) (.slice (some ⟨g, 0, none⟩) N cc) ?_ ⟨.slice (some ⟨g, 0, none⟩) N cc, rfl, hkeep 2 _ (Or.inl (by rw [HPV.out]; rfl)) hL, ?_⟩
          · clear hP hS hat haft hkeep hL
            generalize b.eval = ρ at *
            go_simp
          · simp only [getD_set_ne false (show 2 ≠ 8 by decide), getD_set_ne false (show 2 ≠ 10 by decide)]
            exact hS
        | 3, _ =>
          injection ho with ho
          subst ho
          refine Dag.yields (w' := wx) (.int .i64 (k : Int)) ?_ ⟨.int .i64 (k : Int), rfl, hkeep 3 _ (Or.inl (by rw [HPV.out]; rfl)) hL, ?_⟩
          · clear hP hS hat haft hkeep hL
            generalize b.eval = ρ at *
            go_simp
          · simp only [getD_set_ne false (show 3 ≠ 8 by decide), getD_set_ne false (show 3 ≠ 10 by decide)]
            exact hS
        | 4, _ =>
          injection ho with ho
          subst ho
          have e79 : b.eval (.tmp 79) = .int .i64 (k : Int) := (hat.new 3 _ 79 (haft ⟨3, .data⟩ (by simp) rfl) rfl rfl).trans (hP 3 _ (by rw [HPV.out]; rfl) (haft ⟨3, .data⟩ (by simp) rfl))
          refine Dag.yields (w' := wx) (.int .i64 ((k : Int) + 1)) ?_ ⟨.int .i64 ((k : Int) + 1), rfl, hkeep 4 _ (Or.inl (by rw [HPV.out]; rfl)) hL, ?_⟩
          · clear hP hS hat haft hkeep hL
            generalize b.eval = ρ at *
            go_simp
          · simp only [getD_set_ne false (show 4 ≠ 8 by decide), getD_set_ne false (show 4 ≠ 10 by decide)]
            exact hS
        | 5, _ =>
          injection ho with ho
          subst ho
          refine Dag.yields (w' := wx) (.agg #[.int .i64 y0, .int .i64 y1, .int .i64 y2]) ?_ ⟨.agg #[.int .i64 y0, .int .i64 y1, .int .i64 y2], rfl, hkeep 5 _ (Or.inl (by rw [HPV.out]; rfl)) hL, ?_⟩
          · clear hP hS hat haft hkeep hL
            generalize b.eval = ρ at *
            go_simp
          · simp only [getD_set_ne false (show 5 ≠ 8 by decide), getD_set_ne false (show 5 ≠ 10 by decide)]
            exact hS
        | 6, _ =>
          injection ho with ho
          subst ho
          refine Dag.yields (w' := wx) (.agg #[.int .i64 x0, .int .i64 x1, .int .i64 x2]) ?_ ⟨.agg #[.int .i64 x0, .int .i64 x1, .int .i64 x2], rfl, hkeep 6 _ (Or.inl (by rw [HPV.out]; rfl)) hL, ?_⟩
          · clear hP hS hat haft hkeep hL
            generalize b.eval = ρ at *
            go_simp
          · simp only [getD_set_ne false (show 6 ≠ 8 by decide), getD_set_ne false (show 6 ≠ 10 by decide)]
            exact hS
        | 7, _ =>
          injection ho with ho
          subst ho
          have e76 : b.eval (.tmp 76) = .slice (some ⟨g, 0, none⟩) N cc := (hat.new 0 _ 76 (haft ⟨0, .data⟩ (by simp) rfl) rfl rfl).trans (hP 0 _ (by rw [HPV.out]; rfl) (haft ⟨0, .data⟩ (by simp) rfl))
          have e77 : b.eval (.tmp 77) = .int .i64 (k : Int) := (hat.new 1 _ 77 (haft ⟨1, .data⟩ (by simp) rfl) rfl rfl).trans (hP 1 _ (by rw [HPV.out]; rfl) (haft ⟨1, .data⟩ (by simp) rfl))
          refine Dag.yields (w' := wx) (.pointer (some ⟨g, k * 3, none⟩)) ?_ ⟨.pointer (some ⟨g, k * 3, none⟩), rfl, hkeep 7 _ (Or.inl (by rw [HPV.out]; rfl)) hL, ?_⟩
          · clear hP hS hat haft hkeep hL
            generalize b.eval = ρ at *
            go_simp
          · simp only [getD_set_ne false (show 7 ≠ 8 by decide), getD_set_ne false (show 7 ≠ 10 by decide)]
            exact hS
        | 8, _ =>
          injection ho with ho
          subst ho
          have e83 : b.eval (.tmp 83) = .pointer (some ⟨g, k * 3, none⟩) := (hat.new 7 _ 83 (haft ⟨7, .data⟩ (by simp) rfl) rfl rfl).trans (hP 7 _ (by rw [HPV.out]; rfl) (haft ⟨7, .data⟩ (by simp) rfl))
          have e81 : b.eval (.tmp 81) = .agg #[.int .i64 y0, .int .i64 y1, .int .i64 y2] := (hat.new 5 _ 81 (haft ⟨5, .data⟩ (by simp) rfl) rfl rfl).trans (hP 5 _ (by rw [HPV.out]; rfl) (haft ⟨5, .data⟩ (by simp) rfl))
          obtain ⟨u0, u1, u2, c0, c1, c2⟩ := hS.at (k) (by omega) hlN
          have f0 := hS.own.frozenAt ((k) * 3)
          have f1 := hS.own.frozenAt ((k) * 3 + 1)
          have f2 := hS.own.frozenAt ((k) * 3 + 2)
          refine Dag.skips (w' := ((wx.setCell ⟨g, (k) * 3, none⟩ (.int .i64 y0)).setCell ⟨g, (k) * 3 + 1, none⟩ (.int .i64 y1)).setCell ⟨g, (k) * 3 + 2, none⟩ (.int .i64 y2)) ?_ ⟨_, rfl, hkeep 8 _ (Or.inr (by rw [HPV.out]; rfl)) hL, ?_⟩
          · clear hP hS hat haft hkeep hL
            generalize b.eval = ρ at *
            go_simp
          rw [Dag.on hL]
          simp only [getD_set_ne false (show 8 ≠ 10 by decide)]
          exact hS.put8 hk0 hgw hXg hYg
        | 9, _ =>
          injection ho with ho
          subst ho
          have e78 : b.eval (.tmp 78) = .slice (some ⟨g, 0, none⟩) N cc := (hat.new 2 _ 78 (haft ⟨2, .data⟩ (by simp) rfl) rfl rfl).trans (hP 2 _ (by rw [HPV.out]; rfl) (haft ⟨2, .data⟩ (by simp) rfl))
          have e80 : b.eval (.tmp 80) = .int .i64 ((k : Int) + 1) := (hat.new 4 _ 80 (haft ⟨4, .data⟩ (by simp) rfl) rfl rfl).trans (hP 4 _ (by rw [HPV.out]; rfl) (haft ⟨4, .data⟩ (by simp) rfl))
          refine Dag.yields (w' := wx) (.pointer (some ⟨g, (k + 1) * 3, none⟩)) ?_ ⟨.pointer (some ⟨g, (k + 1) * 3, none⟩), rfl, hkeep 9 _ (Or.inl (by rw [HPV.out]; rfl)) hL, ?_⟩
          · clear hP hS hat haft hkeep hL
            generalize b.eval = ρ at *
            go_simp
          · simp only [getD_set_ne false (show 9 ≠ 8 by decide), getD_set_ne false (show 9 ≠ 10 by decide)]
            exact hS
        | 10, _ =>
          injection ho with ho
          subst ho
          have e84 : b.eval (.tmp 84) = .pointer (some ⟨g, (k + 1) * 3, none⟩) := (hat.new 9 _ 84 (haft ⟨9, .data⟩ (by simp) rfl) rfl rfl).trans (hP 9 _ (by rw [HPV.out]; rfl) (haft ⟨9, .data⟩ (by simp) rfl))
          have e82 : b.eval (.tmp 82) = .agg #[.int .i64 x0, .int .i64 x1, .int .i64 x2] := (hat.new 6 _ 82 (haft ⟨6, .data⟩ (by simp) rfl) rfl rfl).trans (hP 6 _ (by rw [HPV.out]; rfl) (haft ⟨6, .data⟩ (by simp) rfl))
          obtain ⟨u0, u1, u2, c0, c1, c2⟩ := hS.at (k + 1) (by omega) hlN
          have f0 := hS.own.frozenAt ((k + 1) * 3)
          have f1 := hS.own.frozenAt ((k + 1) * 3 + 1)
          have f2 := hS.own.frozenAt ((k + 1) * 3 + 2)
          refine Dag.skips (w' := ((wx.setCell ⟨g, (k + 1) * 3, none⟩ (.int .i64 x0)).setCell ⟨g, (k + 1) * 3 + 1, none⟩ (.int .i64 x1)).setCell ⟨g, (k + 1) * 3 + 2, none⟩ (.int .i64 x2)) ?_ ⟨_, rfl, hkeep 10 _ (Or.inr (by rw [HPV.out]; rfl)) hL, ?_⟩
          · clear hP hS hat haft hkeep hL
            generalize b.eval = ρ at *
            go_simp
          rw [Dag.on hL]
          simp only [getD_set_ne false (show 10 ≠ 8 by decide)]
          exact hS.put10 hk1 hgw hXg hYg
        | i + 11, h => exact absurd h (by simp)
      · intro Lf vals wx hall hR
        obtain ⟨hP, hS⟩ := hR
        simp only [hall 8 (by simp), hall 10 (by simp)] at hS
        simp only [Dag.all, List.size_toArray, List.length_cons, List.length_nil, Nat.reduceAdd, Act.put, List.getElem?_toArray, List.getElem?_cons_zero, List.getElem?_cons_succ, Option.bind_some, List.setIfInBounds_toArray, List.set_cons_zero, List.set_cons_succ]
        have hfin := hS
        clear hP hS hall
        go_wp2_with fail
        go_meet
        exact ⟨hfin.own, hfin.bx, hfin.by_, hfin.below⟩
    case rest =>
      obtain ⟨hO, hX2, hY2, hB2⟩ := hcut
      have p0 := hX2.cell (i := 0) rfl
      have p1 := hX2.cell (i := 1) rfl
      have p2 := hX2.cell (i := 2) rfl
      have r0 := hY2.cell (i := 0) rfl
      have r1 := hY2.cell (i := 1) rfl
      have r2 := hY2.cell (i := 2) rfl
      have HB2 := box hB2
      have hml : ((l.set k ⟨y0, y1, y2⟩).set (k + 1) ⟨x0, x1, x2⟩).length = N := by rw [List.length_set, List.length_set]; exact HN.out
      have hFm : RunM.Fits ((l.set k ⟨y0, y1, y2⟩).set (k + 1) ⟨x0, x1, x2⟩) := by
        have h1 := (RunM.check_ok HCk.out).2.2
        refine ⟨by omega, fun o ho => ?_⟩
        have h2 := RunM.bad_zero (h1 o ho)
        omega
      have hAt : OpsAt wc (some ⟨g, 0, none⟩) ((l.set k ⟨y0, y1, y2⟩).set (k + 1) ⟨x0, x1, x2⟩) := by
        obtain ⟨ao, c', h1, _, h2, _, _⟩ := OpsAt.own hO
        injection h1 with h1
        rw [h1]; exact h2
      have HLk := box (like_any l _ (some ⟨b, off, none⟩) (some ⟨g, 0, none⟩) cap cc wc (H.out.below hB2 (Nat.le_refl _)) hAt (by simp) (by simp) Hf.out hFm)
      rw [HLw.out.1, HLw.out.2, hml, HN.out] at HLk
      have hx14 := HbX.out
      have hy14 := HbY.out
      have hx1 : 1 ≤ x1 ∧ x1 ≤ 4 := by omega
      have hy1 : 1 ≤ y1 ∧ y1 ≤ 4 := by omega
      clear hx14 hy14
      generalize RunM.clash ⟨x0, x1, x2⟩ ⟨y0, y1, y2⟩ = cl at *
      generalize ht1 : decide (x1 ≤ 2) = t1 at *
      generalize ht2 : decide (y1 ≤ 2) = t2 at *
      generalize ht3 : (x2 == y2) = t3 at *
      generalize ht4 : decide (2 < x1 + y1) = t4 at *
      clear hO hX2 hY2 hB2 hml hFm hAt HLw HCk HSp HG HO HX1 HY1 HB11 HX HY HBW HBx HbX HbY Hkl Hf HS0 H
      cases t1 with
      | false =>
        obtain rfl : cl = false := by rw [HCl.out]; simp
        go_wp2_with fail
        refine HLk.out.mono ?_
        rintro e w20 ⟨rfl, hb20⟩
        have HB20 := box (below_tr HB2.out hb20)
        clear hb20 HLk
        go_wp2_with fail
        go_ret
        exact ⟨rfl, HB20.out⟩
      | true =>
        cases t2 with
        | false =>
          obtain rfl : cl = false := by rw [HCl.out]; simp
          go_wp2_with fail
          refine HLk.out.mono ?_
          rintro e w20 ⟨rfl, hb20⟩
          have HB20 := box (below_tr HB2.out hb20)
          clear hb20 HLk
          go_wp2_with fail
          go_ret
          exact ⟨rfl, HB20.out⟩
        | true =>
          cases t3 with
          | false =>
            obtain rfl : cl = false := by rw [HCl.out]; simp
            go_wp2_with fail
            refine HLk.out.mono ?_
            rintro e w20 ⟨rfl, hb20⟩
            have HB20 := box (below_tr HB2.out hb20)
            clear hb20 HLk
            go_wp2_with fail
            go_ret
            exact ⟨rfl, HB20.out⟩
          | true =>
            cases t4 with
            | false =>
              obtain rfl : cl = false := by rw [HCl.out]; simp
              go_wp2_with fail
              refine HLk.out.mono ?_
              rintro e w20 ⟨rfl, hb20⟩
              have HB20 := box (below_tr HB2.out hb20)
              clear hb20 HLk
              go_wp2_with fail
              go_ret
              exact ⟨rfl, HB20.out⟩
            | true =>
              obtain rfl : cl = true := by rw [HCl.out]; simp
              go_wp2_with fail
              refine HLk.out.mono ?_
              rintro e w20 ⟨rfl, hb20⟩
              have HB20 := box (below_tr HB2.out hb20)
              clear hb20 HLk
              go_wp2_with fail
              go_ret
              exact ⟨rfl, HB20.out⟩
namespace lawRunSwaps
open Go.ChangeShapes Go.WideShapes Go.ChangeAt Go.RowKit Go.ChangeMaps

set_option maxRecDepth 100000 in
theorem lifted (os : Os) (started : os.Started) (H : Type) (enc : TypeId × Value → H) :
    ReturnsInHanded {} Try.checked os 8 .any (Rows.runSwapsSpec.pre6 enc Try.prog Try.f8 [] false) (Rows.runSwapsSpec.post enc Try.prog Try.f8 false true false false) := by
  refine LawKit.law_lifted started (by kernel_rfl) Try.func8 rfl
    (fun ds h => by
      match ds, h with
      | [_, _], _ => rfl)
    rfl Try.underlying4 (by intro t ht; exact of_decide_eq_true (p := Try.prog.readableRec t = true ∧ t < Try.prog.types.size) (by revert t ht; decide +kernel))
    (ChangeSpec.witness6 (enc := enc) (C := Try.checked) false ⟨#[], #[.slice none 0 0, .int .i64 0], []⟩ 8 (by kernel_rfl) (by kernel_rfl) (by kernel_rfl) (by kernel_rfl)) ?_
  intro W base args ds ps hval hA hsz hlt hfz
  have hA' := hA
  rw [Try.params8] at hA hval
  obtain ⟨v0, vs0, d0, ds0, p0, q0, hargs, rfl, rfl, h0, r0⟩ := trodAll_cons hA
  obtain ⟨v1, vs1, d1, ds1, p1, q1, rfl, rfl, rfl, h1, r1⟩ := trodAll_cons r0
  obtain ⟨rfl, rfl, rfl⟩ := trodAll_nil r1
  obtain rfl : args = #[v0, v1] := by cases args; simp_all
  go_open 1 at_
  obtain ⟨ao, cap, ls, rfl, hnil, hat, hfits, _, _⟩ := open_ops (hval 0 _ _ rfl rfl) h0 (Open.weights_bound hsz (j := 0) (by rw [Try.params8]; rfl) rfl)
  refine (runSwaps_calls ls at_ ao cap W hat hfits hnil).mono ?_
  rintro e W' ⟨rfl, hb⟩
  exact ⟨rfl, hb⟩

theorem proved : Rows.RunSwapsSaid :=
  OpenClaim.holds_of_wide 8 Try.f8 rfl rfl rfl rfl rfl rfl rfl ⟨rfl, rfl, rfl, rfl, rfl⟩ rfl rfl rfl rfl rfl (by kernel_rfl) Try.func8 (by kernel_rfl)
    (of_decide_eq_true (by kernel_rfl)) (by unfold Func.isWrapper; first | (rw [if_pos (by decide +kernel)]; kernel_rfl) | (rw [if_neg (by decide +kernel)]; exact ⟨rfl, rfl⟩))
    (fun os started H enc _ => lifted os started H enc)
end lawRunSwaps
end Go.Proofs.Ytagnhgdpipepeaa
