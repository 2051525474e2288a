/- SeeLike is proved for every input. -/
import Derived.Test.YtnhhjjhhicmfpaaLawKit
import Derived.Test.YtnhhjjhhicmfpaaSeeA
import Derived.Test.YtnhhjjhhicmfpaaSeeLw
import Derived.Test.YtnhhjjhhicmfpaaLike
import Derived.Test.YtnhhjjhhicmfpaaSlOps
import Derived.Test.YtnhhjjhhicmfpaaOpClone
import Derived.Test.YtnhhjjhhicmfpaaOpsOpen
import Derived.Test.YtnhhjjhhicmfpaaNumOpen
import Derived.Test.YtnhhjjhhicmfpaaOp
import Derived.Test.YtnhhjjhhicmfpaaRest
import Derived.Deep.RegionHeld3
namespace Go.Proofs.Ytnhhjjhhicmfpaa
open Go.RowKit Go.Lib

theorem split_two {α : Type} (l : List α) (k : Nat) (h : k + 1 < l.length) : l = l.take k ++ l[k] :: l[k + 1] :: l.drop (k + 2) ∧ (l.set k l[k + 1]).set (k + 1) l[k] = l.take k ++ l[k + 1] :: l[k] :: l.drop (k + 2) := by
  have h1 : l = l.take k ++ l[k] :: l[k + 1] :: l.drop (k + 2) := by
    conv => lhs; rw [← List.take_append_drop k l]
    rw [List.drop_eq_getElem_cons (by omega), List.drop_eq_getElem_cons (by omega)]
  refine ⟨h1, ?_⟩
  generalize l[k] = x at *
  generalize l[k + 1] = y at *
  have hl : (l.take k).length = k := by rw [List.length_take]; omega
  generalize l.take k = p at *
  generalize l.drop (k + 2) = s at *
  subst h1
  subst hl
  simp

/-- Region 15: which of the two stores are done. -/
def RunM.mix (l : List OpM) (k : Nat) (x y : OpM) (b8 b10 : Bool) : List OpM := if b10 = true then (if b8 = true then l.set k y else l).set (k + 1) x else if b8 = true then l.set k y else l
theorem RunM.mix8 (l : List OpM) (k : Nat) (x y : OpM) (b8 b10 : Bool) : (RunM.mix l k x y b8 b10).set k y = RunM.mix l k x y true b10 := by
  have hc : ∀ m : List OpM, (m.set (k + 1) x).set k y = (m.set k y).set (k + 1) x := fun m => List.set_comm _ _ (by omega)
  unfold RunM.mix
  cases b8 <;> cases b10 <;> simp [hc, List.set_set]
theorem RunM.mix10 (l : List OpM) (k : Nat) (x y : OpM) (b8 b10 : Bool) : (RunM.mix l k x y b8 b10).set (k + 1) x = RunM.mix l k x y b8 true := by
  unfold RunM.mix
  cases b8 <;> cases b10 <;> simp [List.set_set]
theorem RunM.mix_len (l : List OpM) (k : Nat) (x y : OpM) (b8 b10 : Bool) : (RunM.mix l k x y b8 b10).length = l.length := by
  unfold RunM.mix
  cases b8 <;> cases b10 <;> simp
structure SeeM.SwpS (w : World) (l : List OpM) (k : Nat) (x y : OpM) (Bs g N cc : Nat) (b8 b10 : Bool) (wx : World) : Prop where
  own : wx.ownsRow Bs 25 3 (.slice (some ⟨g, 0, none⟩) N cc) N (opVals (RunM.mix l k x y b8 b10))
  below : Below w.heap.size w wx
section
variable {w wx : World} {l : List OpM} {k : Nat} {x y : OpM} {Bs g N cc : Nat} {b8 b10 : Bool}
theorem SeeM.SwpS.at (h : SeeM.SwpS w l k x y Bs g N cc b8 b10 wx) (j : Nat) (hj : j < N) (hN : l.length = N) : ∃ u0 u1 u2, wx.cell? ⟨g, j * 3, none⟩ = some u0 ∧ wx.cell? ⟨g, j * 3 + 1, none⟩ = some u1 ∧ wx.cell? ⟨g, j * 3 + 2, none⟩ = some u2 := by
  obtain ⟨c0, c1, c2⟩ := opVals_at (RunM.mix l k x y b8 b10) j (by rw [RunM.mix_len]; omega)
  exact ⟨_, _, _, by rw [h.own.cellAt (j * 3) (by omega)]; exact c0, by rw [h.own.cellAt (j * 3 + 1) (by omega)]; exact c1, by rw [h.own.cellAt (j * 3 + 2) (by omega)]; exact c2⟩
theorem SeeM.SwpS.op (h : SeeM.SwpS w l k x y Bs g N cc false false wx) (j : Nat) (hj : j < N) (hN : l.length = N) {o : OpM} (ho : l[j]? = some o) : wx.cell? ⟨g, j * 3, none⟩ = some (.int .i64 o.tx) ∧ wx.cell? ⟨g, j * 3 + 1, none⟩ = some (.int .i64 o.kind) ∧ wx.cell? ⟨g, j * 3 + 2, none⟩ = some (.int .i64 o.item) := by
  have hm : RunM.mix l k x y false false = l := rfl
  obtain ⟨hj2, e⟩ := List.getElem?_eq_some_iff.1 ho
  obtain ⟨c0, c1, c2⟩ := opVals_at l j hj2
  rw [e] at c0 c1 c2
  have hw := h.own
  rw [hm] at hw
  exact ⟨by rw [hw.cellAt (j * 3) (by omega)]; exact c0, by rw [hw.cellAt (j * 3 + 1) (by omega)]; exact c1, by rw [hw.cellAt (j * 3 + 2) (by omega)]; exact c2⟩
theorem SeeM.SwpS.put8 (h : SeeM.SwpS w l k x y Bs g N cc b8 b10 wx) (hk : k < l.length) (hw : w.heap.size ≤ g) :
    SeeM.SwpS w l k x y Bs g N cc true b10 (((wx.setCell ⟨g, k * 3, none⟩ (.int .i64 y.tx)).setCell ⟨g, k * 3 + 1, none⟩ (.int .i64 y.kind)).setCell ⟨g, k * 3 + 2, none⟩ (.int .i64 y.item)) := by
  refine ⟨?_, ((h.below.setCell hw _).setCell hw _).setCell hw _⟩
  have h1 := ((((h.own.stored (k * 3) (.int .i64 y.tx)).1).stored (k * 3 + 1) (.int .i64 y.kind)).1.stored (k * 3 + 2) (.int .i64 y.item)).1
  rw [opVals_set _ k y (by rw [RunM.mix_len]; exact hk), RunM.mix8] at h1
  exact h1
theorem SeeM.SwpS.put10 (h : SeeM.SwpS w l k x y Bs g N cc b8 b10 wx) (hk : k + 1 < l.length) (hw : w.heap.size ≤ g) :
    SeeM.SwpS w l k x y Bs g N cc b8 true (((wx.setCell ⟨g, (k + 1) * 3, none⟩ (.int .i64 x.tx)).setCell ⟨g, (k + 1) * 3 + 1, none⟩ (.int .i64 x.kind)).setCell ⟨g, (k + 1) * 3 + 2, none⟩ (.int .i64 x.item)) := by
  refine ⟨?_, ((h.below.setCell hw _).setCell hw _).setCell hw _⟩
  have h1 := ((((h.own.stored ((k + 1) * 3) (.int .i64 x.tx)).1).stored ((k + 1) * 3 + 1) (.int .i64 x.kind)).1.stored ((k + 1) * 3 + 2) (.int .i64 x.item)).1
  rw [opVals_set _ (k + 1) x (by rw [RunM.mix_len]; exact hk), RunM.mix10] at h1
  exact h1
end
/-- The copy that is turned. -/
structure SeeM.SwW (w : World) (Bs g N cc : Nat) (m : List OpM) (wr : World) : Prop where
  own : wr.ownsRow Bs 25 3 (.slice (some ⟨g, 0, none⟩) N cc) N (opVals m)
  len : m.length = N
  ok : RunM.check m = 0
  na : ∀ o ∈ m, o.kind ≠ 4
  below : Below w.heap.size w wr
theorem SeeM.SwW.drewN {w : World} {Bs g N cc : Nat} {m : List OpM} {wr : World} (h : SeeM.SwW w Bs g N cc m wr) (n : Nat) : SeeM.SwW w Bs g N cc m (wr.drewN n) :=
  ⟨h.own, h.len, h.ok, h.na, below_tr h.below ⟨rfl, rfl, rfl, Nat.le_refl _, fun _ _ => rfl⟩⟩
theorem RunM.check_fits {l : List OpM} (h : RunM.check l = 0) : RunM.Fits l := by
  obtain ⟨h1, h2, _⟩ := (RunM.check_iff l).1 h
  refine ⟨by omega, fun o ho => ?_⟩
  have := RunM.bad_zero (h2 o ho)
  omega
def SeeM.exA : List OpM := [⟨0, 2, 1⟩, ⟨1, 1, 1⟩]
def SeeM.exB : List OpM := [⟨1, 1, 1⟩, ⟨0, 2, 1⟩]
theorem SeeM.exA_check : RunM.check SeeM.exA = 0 := by decide
theorem SeeM.exB_check : RunM.check SeeM.exB = 0 := by decide
theorem SeeM.exAA : SeeM.alike SeeM.exA SeeM.exA = true := by decide +kernel
theorem SeeM.exAB : SeeM.alike SeeM.exA SeeM.exB = false := by decide +kernel
theorem SeeM.exA_at {w : World} {b : Nat} (h : Blk w b 25 [.int .i64 0, .int .i64 2, .int .i64 1, .int .i64 1, .int .i64 1, .int .i64 1]) : OpsAt w (some ⟨b, 0, none⟩) SeeM.exA := by
  refine Or.inr ⟨b, 0, rfl, h.lt, ?_⟩
  intro k hk
  match k, hk with
  | 0, _ => exact ⟨h.cell rfl, h.cell rfl, h.cell rfl⟩
  | 1, _ => exact ⟨h.cell rfl, h.cell rfl, h.cell rfl⟩
theorem SeeM.exB_at {w : World} {b : Nat} (h : Blk w b 25 [.int .i64 1, .int .i64 1, .int .i64 1, .int .i64 0, .int .i64 2, .int .i64 1]) : OpsAt w (some ⟨b, 0, none⟩) SeeM.exB := by
  refine Or.inr ⟨b, 0, rfl, h.lt, ?_⟩
  intro k hk
  match k, hk with
  | 0, _ => exact ⟨h.cell rfl, h.cell rfl, h.cell rfl⟩
  | 1, _ => exact ⟨h.cell rfl, h.cell rfl, h.cell rfl⟩
theorem alike_aa (b : Nat) (w : World) (h : Blk w b 25 [.int .i64 0, .int .i64 2, .int .i64 1, .int .i64 1, .int .i64 1, .int .i64 1]) :
    Calls Try.prog 20 #[.slice (some ⟨b, 0, none⟩) 2 2, .slice (some ⟨b, 0, none⟩) 2 2] w fun e w' => e = .returned (.tuple #[.bool true, .int .i64 0]) ∧ Below w.heap.size w w' := by
  have := alike_any SeeM.exA SeeM.exA (some ⟨b, 0, none⟩) (some ⟨b, 0, none⟩) 2 2 w (SeeM.exA_at h) (SeeM.exA_at h) (RunM.check_fits SeeM.exA_check) (RunM.check_fits SeeM.exA_check) SeeM.exA_check SeeM.exA_check (by decide) (by decide)
  rw [SeeM.exAA] at this
  exact this
theorem alike_ab (b c : Nat) (w : World) (h : Blk w b 25 [.int .i64 0, .int .i64 2, .int .i64 1, .int .i64 1, .int .i64 1, .int .i64 1]) (h' : Blk w c 25 [.int .i64 1, .int .i64 1, .int .i64 1, .int .i64 0, .int .i64 2, .int .i64 1]) :
    Calls Try.prog 20 #[.slice (some ⟨b, 0, none⟩) 2 2, .slice (some ⟨c, 0, none⟩) 2 2] w fun e w' => e = .returned (.tuple #[.bool false, .int .i64 0]) ∧ Below w.heap.size w w' := by
  have := alike_any SeeM.exA SeeM.exB (some ⟨b, 0, none⟩) (some ⟨c, 0, none⟩) 2 2 w (SeeM.exA_at h) (SeeM.exB_at h') (RunM.check_fits SeeM.exA_check) (RunM.check_fits SeeM.exB_check) SeeM.exA_check SeeM.exB_check (by decide) (by decide)
  rw [SeeM.exAB] at this
  exact this
theorem seeLike_kind (W : World) : TellsOp 22 #[] (fun o => o.kind == 4) W := by
  rintro ⟨a, b, c⟩
  show Calls Try.prog 22 #[.agg #[.int .i64 a, .int .i64 b, .int .i64 c]] W _
  go_enter Try.func22, Try.ntmps22
  go_wp2_with fail
  go_ret
  exact ⟨rfl, (Below.refl _ _).alloc (Nat.le_refl _) _⟩

set_option maxRecDepth 20000 in
set_option maxHeartbeats 16000000 in
theorem seeLike_calls (l : List OpM) (s : List Int) (ao bo : Option Addr) (cap bc : Nat) (w : World) (h : OpsAt w ao l) (hf : RunM.Fits l) (hnil : ao = none → cap = 0) (h' : IntsAt w bo s) (hsl : s.length ≤ 9000000000000000000) :
    Calls Try.prog 5 #[.slice ao l.length cap, .slice bo s.length bc] w fun e w' => e = .returned (.bool true) ∧ Below w.heap.size w w' := by
  have H := box h; have HS := box h'; have Hf := box hf; have Hnil := box hnil
  clear h h' hf hnil
  go_enter Try.func5, Try.ntmps5
  go_wp2_with fail
  refine (op_any _ _ _ _).mono ?_
  rintro e w1 ⟨rfl, hb1⟩
  have HB1 := box hb1; clear hb1
  go_wp2_with fail
  refine (op_any _ _ _ _).mono ?_
  rintro e w2 ⟨rfl, hb2⟩
  have HB2 := box (below_tr HB1.out hb2); clear hb2 HB1
  go_upto_region 2 with (fail)
  have hs2 := HB2.out.size
  refine name_world (fun W => Below w.heap.size w W ∧ Blk W w2.heap.size 25 [.int .i64 0, .int .i64 2, .int .i64 1, .int .i64 1, .int .i64 1, .int .i64 1]) ⟨HB2.out.alloc hs2 _, Blk.new _ _ _⟩ ?_
  rintro W3 ⟨hw3, hk3⟩
  have HW3 := box hw3; have HK3 := box hk3
  clear hw3 hk3 HB2 hs2
  generalize w2.heap.size = A at *
  go_wp2_with fail
  refine (alike_aa A W3 HK3.out).mono ?_
  rintro e w4 ⟨rfl, hb4⟩
  have HB4 := box (below_tr HW3.out hb4)
  have HK4 := box (HK3.out.after hb4)
  have c0 := HK4.out.cell (i := 0) rfl
  have c1 := HK4.out.cell (i := 1) rfl
  have c2 := HK4.out.cell (i := 2) rfl
  have c3 := HK4.out.cell (i := 3) rfl
  have c4 := HK4.out.cell (i := 4) rfl
  have c5 := HK4.out.cell (i := 5) rfl
  clear hb4 HW3 HK3
  go_upto_region 5 with (fail)
  go_cut [8, 9] (fun s8 s9 wx => s8 = .bool false ∧ s9 = .int .i64 0 ∧ Below w.heap.size w wx)
  case first =>
    have HCs : Box (∀ wx, Below w4.heap.size w4 wx → wx.cell? ⟨A, 0, none⟩ = some (.int .i64 0) ∧ wx.cell? ⟨A, 1, none⟩ = some (.int .i64 2) ∧ wx.cell? ⟨A, 2, none⟩ = some (.int .i64 1) ∧ wx.cell? ⟨A, 3, none⟩ = some (.int .i64 1) ∧ wx.cell? ⟨A, 4, none⟩ = some (.int .i64 1) ∧ wx.cell? ⟨A, 5, none⟩ = some (.int .i64 1)) := ⟨fun wx hb =>
      have k := HK4.out.after hb
      ⟨k.cell rfl, k.cell rfl, k.cell rfl, k.cell rfl, k.cell rfl, k.cell rfl⟩⟩
    have HAl : Box (∀ o : Obj, Below w4.heap.size w4 (w4.alloc o).drew) := ⟨fun o => ((Below.refl _ _).alloc (Nat.le_refl _) o).drew⟩
    go_region_held3 (fun w' => w'.cell? ⟨A, 0, none⟩ = some (.int .i64 0) ∧ w'.cell? ⟨A, 1, none⟩ = some (.int .i64 2) ∧ w'.cell? ⟨A, 2, none⟩ = some (.int .i64 1) ∧ w'.cell? ⟨A, 3, none⟩ = some (.int .i64 1) ∧ w'.cell? ⟨A, 4, none⟩ = some (.int .i64 1) ∧ w'.cell? ⟨A, 5, none⟩ = some (.int .i64 1)) (first | exact ⟨c0, c1, c2, c3, c4, c5⟩ | assumption | exact HCs.out _ (HAl.out _)) (first
      | (go_at_call 20; refine (alike_ab A w4.heap.size _ (HK4.out.after (HAl.out _)) ((Blk.new w4 [.int .i64 1, .int .i64 1, .int .i64 1, .int .i64 0, .int .i64 2, .int .i64 1] _).drew)).mono ?_; rintro e w6 ⟨rfl, hb6⟩; have HB6 := box (below_tr (below_tr HB4.out (HAl.out _)) hb6); have hcs6 := HCs.out _ (below_tr (HAl.out _) hb6); clear hb6))
    go_wp2_with fail
    go_meet
    exact ⟨rfl, rfl, HB6.out⟩
  case rest =>
  obtain ⟨rfl, rfl, hb⟩ := hcut
  have HB7 := box hb
  clear hb c0 c1 c2 c3 c4 c5 HK4 HB4
  have HCk := box (runCheck_any l ao cap wc (H.out.below HB7.out (Nat.le_refl _)) Hf.out)
  obtain ⟨N, HN⟩ : ∃ N, Box (l.length = N) := ⟨_, ⟨rfl⟩⟩
  have HKk := box (fun hc : RunM.check l = 0 => RunM.check_ok hc)
  obtain ⟨c, Hc⟩ : ∃ c, Box (RunM.check l = c) := ⟨_, ⟨rfl⟩⟩
  rw [HN.out, Hc.out] at HCk
  rw [HN.out]
  go_wp2_with fail
  refine HCk.out.mono ?_
  rintro e w8 ⟨rfl, hb8⟩
  have HB8 := box (below_tr HB7.out hb8)
  clear hb8 HCk HB7
  cases q0 : (c != 0) with
  | true =>
    go_wp2_with fail
    go_ret
    exact ⟨rfl, HB8.out⟩
  | false =>
  obtain rfl : c = 0 := by simpa using q0
  have hl := (HKk.out Hc.out).1
  rw [HN.out] at hl
  have HCf := box (containsFunc_ops l ao cap 22 #[] (fun o => o.kind == 4) w8 (H.out.below HB8.out (Nat.le_refl _)) (by rw [HN.out]; omega) (fun V _ => seeLike_kind V) (enters_fn Try.func22 (by kernel_rfl) rfl))
  rw [HN.out] at HCf
  obtain ⟨an, HAN⟩ : ∃ an, Box (l.any (fun o => o.kind == 4) = an) := ⟨_, ⟨rfl⟩⟩
  rw [HAN.out] at HCf
  go_wp2_with fail
  refine HCf.out.mono ?_
  rintro e w9 ⟨rfl, hb9⟩
  have HB9 := box (below_tr HB8.out hb9)
  clear hb9 HCf HB8
  cases an with
  | true =>
    go_wp2_with fail
    go_ret
    exact ⟨rfl, HB9.out⟩
  | false =>
  have HNa : Box (∀ o ∈ l, o.kind ≠ 4) := ⟨fun o ho h => by
    have := List.any_eq_false.1 HAN.out o ho
    simp [h] at this⟩
  by_cases hN2 : N < 2
  · have hNi : (N : Int) < 2 := by omega
    go_wp2_with fail
    go_ret
    exact ⟨rfl, HB9.out⟩
  have hNi : ¬ (N : Int) < 2 := by omega
  have HCn := box (clone_ops l ao cap w9 (H.out.below HB9.out (Nat.le_refl _)) Hnil.out (by rw [HN.out]; omega))
  rw [HN.out] at HCn
  go_wp2_with fail
  refine HCn.out.mono ?_
  rintro e w10 ⟨⟨v10, rfl, ho⟩, hb10⟩
  obtain ⟨g, cc, rfl, hg1, hg2, hg3⟩ := ownsRow_shape ho (by
    intro h
    have h1 := ho.1
    rw [opVals_len, HN.out] at h1
    rcases ho.2 with ⟨_, h2⟩ | ⟨g, cap, cur, h2, _⟩
    · omega
    · rw [h] at h2; simp at h2)
  have HO := box ho
  have HB10 := box (below_tr HB9.out hb10)
  have hgw : w.heap.size ≤ g := Nat.le_trans HB9.out.size hg1
  clear ho hb10 HCn
  generalize w9.heap.size = Bs at *
  go_wp2_with fail
  go_loopw [66] (fun t66 wr => ∃ (k : Nat) (m : List OpM), k ≤ s.length ∧ t66 = .int .i64 (k : Int) ∧ Box (SeeM.SwW w Bs g N cc m wr)) (fun t66 _ => s.length - (RowKit.intOf t66).toNat)
  case atStart => exact ⟨0, l, Nat.zero_le _, rfl, ⟨HO.out, HN.out, Hc.out, HNa.out, HB10.out⟩⟩
  case round =>
    obtain ⟨k, m, hk, rfl, HR⟩ := hrel
    clear HO HB10
    by_cases hlt : k < s.length
    · obtain ⟨sb, soff, rfl, _, hrow⟩ := ((HS.out.below HR.out.below (Nat.le_refl _)).resolve_left (by intro h; rw [h] at hlt; simp at hlt))
      have hc := hrow k hlt
      generalize s[k] = x at *
      clear hrow
      have hr : (x % ((N - 1 : Nat) : Int)).toNat < N - 1 := by
        have h1 := Int.emod_lt_of_pos x (show (0 : Int) < ((N - 1 : Nat) : Int) by omega)
        have h2 := Int.emod_nonneg x (show ((N - 1 : Nat) : Int) ≠ 0 by omega)
        omega
      have HRest : Box (∀ z : Int, z = ((N - 1 : Nat) : Int) → Calls Try.prog 16 #[.int .i64 x, .int .i64 z] wr fun e w' => e = .returned (.int .i64 (((x % ((N - 1 : Nat) : Int)).toNat : Nat) : Int)) ∧ wr = w') := ⟨fun z hz => by
        subst hz
        exact rest_any x (N - 1) wr (by omega) (by omega)⟩
      generalize (x % ((N - 1 : Nat) : Int)).toNat = r at *
      go_wp2_with fail
      refine (HRest.out _ (by omega)).mono ?_
      rintro e w11 ⟨rfl, rfl⟩
      clear HRest hc
      have hr0 : r < m.length := by rw [HR.out.len]; omega
      have hr1 : r + 1 < m.length := by rw [HR.out.len]; omega
      have HSp := box (split_two m r hr1)
      obtain ⟨c0, c1, c2⟩ := opVals_at m r hr0
      obtain ⟨d0, d1, d2⟩ := opVals_at m (r + 1) hr1
      rw [← HR.out.own.cellAt (r * 3) (by rw [HR.out.len] at hr0; omega)] at c0
      rw [← HR.out.own.cellAt (r * 3 + 1) (by rw [HR.out.len] at hr0; omega)] at c1
      rw [← HR.out.own.cellAt (r * 3 + 2) (by rw [HR.out.len] at hr0; omega)] at c2
      rw [← HR.out.own.cellAt ((r + 1) * 3) (by rw [HR.out.len] at hr1; omega)] at d0
      rw [← HR.out.own.cellAt ((r + 1) * 3 + 1) (by rw [HR.out.len] at hr1; omega)] at d1
      rw [← HR.out.own.cellAt ((r + 1) * 3 + 2) (by rw [HR.out.len] at hr1; omega)] at d2
      have HG : Box (m[r]? = some m[r] ∧ m[r + 1]? = some m[r + 1]) := ⟨List.getElem?_eq_getElem hr0, List.getElem?_eq_getElem hr1⟩
      generalize m[r] = X at *
      generalize m[r + 1] = Y at *
      obtain ⟨x0, x1, x2⟩ := X
      obtain ⟨y0, y1, y2⟩ := Y
      simp only at c0 c1 c2 d0 d1 d2
      have hrN : (r : Int) < (N : Int) := by omega
      have hrN1 : (r : Int) + 1 < (N : Int) := by omega
      have hwr : IntKind.i64.wrap ((r : Int) + 1) = (r : Int) + 1 := IntWalk.i64_in _ (by omega)
      have htn : ((r : Int) + 1).toNat = r + 1 := by omega
      have hr01 : (0 : Int) ≤ (r : Int) + 1 := by omega
      cases hxy : (x0 == y0) with
      | true =>
        go_wp2_with fail
        go_quiet (fail)
        go_wp2_with fail
        go_roundw
        case rel => exact ⟨k + 1, m, hlt, by go_num, ⟨HR.out.drewN _⟩⟩
        case measure => simp [RowKit.intOf]; omega
      | false =>
      have hne : x0 ≠ y0 := by simpa using hxy
      go_wp2_with fail
      go_quiet (fail)
      have HS0 : Box (∀ wx : World, SeeM.SwW w Bs g N cc m wx → SeeM.SwpS w m r ⟨x0, x1, x2⟩ ⟨y0, y1, y2⟩ Bs g N cc false false wx) := ⟨fun wx h => ⟨h.own, h.below⟩⟩
      have hlN := HR.out.len
      have HCk := box (RunM.check_swap (m.take r) (m.drop (r + 2)) ⟨x0, x1, x2⟩ ⟨y0, y1, y2⟩ hne (by rw [← HSp.out.1]; exact HR.out.ok))
      rw [← HSp.out.2] at HCk
      have HRq := box (HR.out.drewN nq)
      clear c0 c1 c2 d0 d1 d2
      go_upto_region 16 with (fail)
      refine wp_meetF (fun wx => SeeM.SwpS w m r ⟨x0, x1, x2⟩ ⟨y0, y1, y2⟩ Bs g N cc true true wx) ?_
      apply Exists.intro
      constructor
      · obtain ⟨gg, gk, _⟩ : ∃ _ _ : Nat, True := ⟨0, 0, trivial⟩
        obtain ⟨PV, HPV⟩ : ∃ PV : Nat → Option Value, Box (PV = fun i => ([some (.slice (some ⟨g, 0, none⟩) N cc), some (.int .i64 (r : Int)), some (.slice (some ⟨g, 0, none⟩) N cc), some (.int .i64 (r : Int)), some (.int .i64 ((r : Int) + 1)), some (.slice (some ⟨g, 0, none⟩) N cc), some (.int .i64 (r : Int)), some (.int .i64 ((r : Int) + 1)), some (.pointer (some ⟨g, (r + 1) * 3, none⟩)), some (.agg #[.int .i64 y0, .int .i64 y1, .int .i64 y2]), some (.slice (some ⟨g, 0, none⟩) N cc), some (.int .i64 (r : Int)), some (.pointer (some ⟨g, r * 3, none⟩)), some (.agg #[.int .i64 x0, .int .i64 x1, .int .i64 x2]), some (.pointer (some ⟨g, r * 3, none⟩)), none, some (.pointer (some ⟨g, (r + 1) * 3, none⟩)), none] : List (Option Value)).getD i none) := ⟨_, ⟨rfl⟩⟩
        refine wp_region_dagv (by kernel_rfl) (fun Lf vals wx => (∀ i v, PV i = some v → Lf.getD i false = true → vals i = v) ∧ SeeM.SwpS w m r ⟨x0, x1, x2⟩ ⟨y0, y1, y2⟩ Bs g N cc (Lf.getD 15 false) (Lf.getD 17 false)  wx) (by kernel_rfl) ?_ ?_ ?_
        · refine ⟨fun i v _ h => absurd h (by simp [Array.getD_eq_getD_getElem?, Array.getElem?_replicate]; try (split <;> simp)), ?_⟩
          simp only [Array.getD_eq_getD_getElem?, Array.getElem?_replicate, List.size_toArray, List.length_cons, List.length_nil, Nat.reduceAdd, Nat.reduceLT, if_true, Option.getD_some]
          exact HS0.out _ (HRq.out.drewN 1)
        · intro i hi o ho Lf vals b wx hat haft hL hR
          obtain ⟨hP, hS⟩ := hR
          have hco := hat.const
          have hkeep : ∀ i v, (PV i = some v ∨ PV i = none) → Lf.getD i true = false → (∀ j u, PV j = some u → (Lf.setIfInBounds i true).getD j false = true → Dag.turn vals i v j = u) := fun i v hv hL j u hu hj => by
            by_cases e : j = i
            · subst e; rw [Dag.turn_same]; rcases hv with hv | hv <;> rw [hv] at hu <;> simp at hu; exact hu
            · rw [Dag.turn_other _ _ e]; rw [getD_set_ne false (Ne.symm e)] at hj; exact hP j u hu hj
          have r10 : b.eval (.tmp 10) = .slice (some ⟨g, 0, none⟩) N cc := hat.old 10 (by
            intro j o' hj
            match j with
            | 0 | 1 | 2 | 3 | 4 | 5 | 6 | 7 | 8 | 9 | 10 | 11 | 12 | 13 | 14 | 15 | 16 | 17 => injection hj with hj; subst hj; simp
            | j + 18 => cases hj)
          have r13 : b.eval (.tmp 13) = .int .i64 (r : Int) := hat.old 13 (by
            intro j o' hj
            match j with
            | 0 | 1 | 2 | 3 | 4 | 5 | 6 | 7 | 8 | 9 | 10 | 11 | 12 | 13 | 14 | 15 | 16 | 17 => injection hj with hj; subst hj; simp
            | j + 18 => cases hj)
          match i, hi with
          | 0, _ =>
            injection ho with ho
            subst ho
            refine Dag.yields (w' := wx) (.slice (some ⟨g, 0, none⟩) N cc) ?_ ⟨.slice (some ⟨g, 0, none⟩) N cc, rfl, hkeep 0 _ (Or.inl (by rw [HPV.out]; rfl)) hL, ?_⟩
            · clear hP hS hat haft hkeep hL
              generalize b.eval = ρ at *
              go_simp
            · simp only [getD_set_ne false (show 0 ≠ 15 by decide), getD_set_ne false (show 0 ≠ 17 by decide)]
              exact hS
          | 1, _ =>
            injection ho with ho
            subst ho
            refine Dag.yields (w' := wx) (.int .i64 (r : Int)) ?_ ⟨.int .i64 (r : Int), rfl, hkeep 1 _ (Or.inl (by rw [HPV.out]; rfl)) hL, ?_⟩
            · clear hP hS hat haft hkeep hL
              generalize b.eval = ρ at *
              go_simp
            · simp only [getD_set_ne false (show 1 ≠ 15 by decide), getD_set_ne false (show 1 ≠ 17 by decide)]
              exact hS
          | 2, _ =>
            injection ho with ho
            subst ho
            refine Dag.yields (w' := wx) (.slice (some ⟨g, 0, none⟩) N cc) ?_ ⟨.slice (some ⟨g, 0, none⟩) N cc, rfl, hkeep 2 _ (Or.inl (by rw [HPV.out]; rfl)) hL, ?_⟩
            · clear hP hS hat haft hkeep hL
              generalize b.eval = ρ at *
              go_simp
            · simp only [getD_set_ne false (show 2 ≠ 15 by decide), getD_set_ne false (show 2 ≠ 17 by decide)]
              exact hS
          | 3, _ =>
            injection ho with ho
            subst ho
            refine Dag.yields (w' := wx) (.int .i64 (r : Int)) ?_ ⟨.int .i64 (r : Int), rfl, hkeep 3 _ (Or.inl (by rw [HPV.out]; rfl)) hL, ?_⟩
            · clear hP hS hat haft hkeep hL
              generalize b.eval = ρ at *
              go_simp
            · simp only [getD_set_ne false (show 3 ≠ 15 by decide), getD_set_ne false (show 3 ≠ 17 by decide)]
              exact hS
          | 4, _ =>
            injection ho with ho
            subst ho
            have e90 : b.eval (.tmp 90) = .int .i64 (r : Int) := (hat.new 3 _ 90 (haft ⟨3, .data⟩ (by simp) rfl) rfl rfl).trans (hP 3 _ (by rw [HPV.out]; rfl) (haft ⟨3, .data⟩ (by simp) rfl))
            refine Dag.yields (w' := wx) (.int .i64 ((r : Int) + 1)) ?_ ⟨.int .i64 ((r : Int) + 1), rfl, hkeep 4 _ (Or.inl (by rw [HPV.out]; rfl)) hL, ?_⟩
            · clear hP hS hat haft hkeep hL
              generalize b.eval = ρ at *
              go_simp
            · simp only [getD_set_ne false (show 4 ≠ 15 by decide), getD_set_ne false (show 4 ≠ 17 by decide)]
              exact hS
          | 5, _ =>
            injection ho with ho
            subst ho
            refine Dag.yields (w' := wx) (.slice (some ⟨g, 0, none⟩) N cc) ?_ ⟨.slice (some ⟨g, 0, none⟩) N cc, rfl, hkeep 5 _ (Or.inl (by rw [HPV.out]; rfl)) hL, ?_⟩
            · clear hP hS hat haft hkeep hL
              generalize b.eval = ρ at *
              go_simp
            · simp only [getD_set_ne false (show 5 ≠ 15 by decide), getD_set_ne false (show 5 ≠ 17 by decide)]
              exact hS
          | 6, _ =>
            injection ho with ho
            subst ho
            refine Dag.yields (w' := wx) (.int .i64 (r : Int)) ?_ ⟨.int .i64 (r : Int), rfl, hkeep 6 _ (Or.inl (by rw [HPV.out]; rfl)) hL, ?_⟩
            · clear hP hS hat haft hkeep hL
              generalize b.eval = ρ at *
              go_simp
            · simp only [getD_set_ne false (show 6 ≠ 15 by decide), getD_set_ne false (show 6 ≠ 17 by decide)]
              exact hS
          | 7, _ =>
            injection ho with ho
            subst ho
            have e93 : b.eval (.tmp 93) = .int .i64 (r : Int) := (hat.new 6 _ 93 (haft ⟨6, .data⟩ (by simp) rfl) rfl rfl).trans (hP 6 _ (by rw [HPV.out]; rfl) (haft ⟨6, .data⟩ (by simp) rfl))
            refine Dag.yields (w' := wx) (.int .i64 ((r : Int) + 1)) ?_ ⟨.int .i64 ((r : Int) + 1), rfl, hkeep 7 _ (Or.inl (by rw [HPV.out]; rfl)) hL, ?_⟩
            · clear hP hS hat haft hkeep hL
              generalize b.eval = ρ at *
              go_simp
            · simp only [getD_set_ne false (show 7 ≠ 15 by decide), getD_set_ne false (show 7 ≠ 17 by decide)]
              exact hS
          | 8, _ =>
            injection ho with ho
            subst ho
            have e92 : b.eval (.tmp 92) = .slice (some ⟨g, 0, none⟩) N cc := (hat.new 5 _ 92 (haft ⟨5, .data⟩ (by simp) rfl) rfl rfl).trans (hP 5 _ (by rw [HPV.out]; rfl) (haft ⟨5, .data⟩ (by simp) rfl))
            have e94 : b.eval (.tmp 94) = .int .i64 ((r : Int) + 1) := (hat.new 7 _ 94 (haft ⟨7, .data⟩ (by simp) rfl) rfl rfl).trans (hP 7 _ (by rw [HPV.out]; rfl) (haft ⟨7, .data⟩ (by simp) rfl))
            refine Dag.yields (w' := wx) (.pointer (some ⟨g, (r + 1) * 3, none⟩)) ?_ ⟨.pointer (some ⟨g, (r + 1) * 3, none⟩), rfl, hkeep 8 _ (Or.inl (by rw [HPV.out]; rfl)) hL, ?_⟩
            · clear hP hS hat haft hkeep hL
              generalize b.eval = ρ at *
              go_simp
            · simp only [getD_set_ne false (show 8 ≠ 15 by decide), getD_set_ne false (show 8 ≠ 17 by decide)]
              exact hS
          | 9, _ =>
            injection ho with ho
            subst ho
            have e95 : b.eval (.tmp 95) = .pointer (some ⟨g, (r + 1) * 3, none⟩) := (hat.new 8 _ 95 (haft ⟨8, .data⟩ (by simp) rfl) rfl rfl).trans (hP 8 _ (by rw [HPV.out]; rfl) (haft ⟨8, .data⟩ (by simp) rfl))
            have h15 : Lf.getD 15 false = false := by
              cases h : Lf.getD 15 false with
              | false => rfl
              | true => have := hat.closed 15 _ h rfl ⟨9, .data⟩ (by simp) rfl; rw [Dag.off hL] at this; cases this
            have h17 : Lf.getD 17 false = false := by
              cases h : Lf.getD 17 false with
              | false => rfl
              | true => have := hat.closed 17 _ h rfl ⟨9, .phase⟩ (by simp) rfl; rw [Dag.off hL] at this; cases this
            have hS2 := hS
            rw [h15, h17] at hS2
            obtain ⟨c0, c1, c2⟩ := hS2.op (r + 1) (by omega) hlN HG.out.2
            clear hS2
            refine Dag.yields (w' := wx) (.agg #[.int .i64 y0, .int .i64 y1, .int .i64 y2]) ?_ ⟨.agg #[.int .i64 y0, .int .i64 y1, .int .i64 y2], rfl, hkeep 9 _ (Or.inl (by rw [HPV.out]; rfl)) hL, ?_⟩
            · clear hP hS hat haft hkeep hL
              generalize b.eval = ρ at *
              go_simp
            simp only [getD_set_ne false (show 9 ≠ 15 by decide), getD_set_ne false (show 9 ≠ 17 by decide)]
            exact hS
          | 10, _ =>
            injection ho with ho
            subst ho
            refine Dag.yields (w' := wx) (.slice (some ⟨g, 0, none⟩) N cc) ?_ ⟨.slice (some ⟨g, 0, none⟩) N cc, rfl, hkeep 10 _ (Or.inl (by rw [HPV.out]; rfl)) hL, ?_⟩
            · clear hP hS hat haft hkeep hL
              generalize b.eval = ρ at *
              go_simp
            · simp only [getD_set_ne false (show 10 ≠ 15 by decide), getD_set_ne false (show 10 ≠ 17 by decide)]
              exact hS
          | 11, _ =>
            injection ho with ho
            subst ho
            refine Dag.yields (w' := wx) (.int .i64 (r : Int)) ?_ ⟨.int .i64 (r : Int), rfl, hkeep 11 _ (Or.inl (by rw [HPV.out]; rfl)) hL, ?_⟩
            · clear hP hS hat haft hkeep hL
              generalize b.eval = ρ at *
              go_simp
            · simp only [getD_set_ne false (show 11 ≠ 15 by decide), getD_set_ne false (show 11 ≠ 17 by decide)]
              exact hS
          | 12, _ =>
            injection ho with ho
            subst ho
            have e97 : b.eval (.tmp 97) = .slice (some ⟨g, 0, none⟩) N cc := (hat.new 10 _ 97 (haft ⟨10, .data⟩ (by simp) rfl) rfl rfl).trans (hP 10 _ (by rw [HPV.out]; rfl) (haft ⟨10, .data⟩ (by simp) rfl))
            have e98 : b.eval (.tmp 98) = .int .i64 (r : Int) := (hat.new 11 _ 98 (haft ⟨11, .data⟩ (by simp) rfl) rfl rfl).trans (hP 11 _ (by rw [HPV.out]; rfl) (haft ⟨11, .data⟩ (by simp) rfl))
            refine Dag.yields (w' := wx) (.pointer (some ⟨g, r * 3, none⟩)) ?_ ⟨.pointer (some ⟨g, r * 3, none⟩), rfl, hkeep 12 _ (Or.inl (by rw [HPV.out]; rfl)) hL, ?_⟩
            · clear hP hS hat haft hkeep hL
              generalize b.eval = ρ at *
              go_simp
            · simp only [getD_set_ne false (show 12 ≠ 15 by decide), getD_set_ne false (show 12 ≠ 17 by decide)]
              exact hS
          | 13, _ =>
            injection ho with ho
            subst ho
            have e99 : b.eval (.tmp 99) = .pointer (some ⟨g, r * 3, none⟩) := (hat.new 12 _ 99 (haft ⟨12, .data⟩ (by simp) rfl) rfl rfl).trans (hP 12 _ (by rw [HPV.out]; rfl) (haft ⟨12, .data⟩ (by simp) rfl))
            have h15 : Lf.getD 15 false = false := by
              cases h : Lf.getD 15 false with
              | false => rfl
              | true => have := hat.closed 15 _ h rfl ⟨13, .phase⟩ (by simp) rfl; rw [Dag.off hL] at this; cases this
            have h17 : Lf.getD 17 false = false := by
              cases h : Lf.getD 17 false with
              | false => rfl
              | true => have := hat.closed 17 _ h rfl ⟨13, .data⟩ (by simp) rfl; rw [Dag.off hL] at this; cases this
            have hS2 := hS
            rw [h15, h17] at hS2
            obtain ⟨c0, c1, c2⟩ := hS2.op (r) (by omega) hlN HG.out.1
            clear hS2
            refine Dag.yields (w' := wx) (.agg #[.int .i64 x0, .int .i64 x1, .int .i64 x2]) ?_ ⟨.agg #[.int .i64 x0, .int .i64 x1, .int .i64 x2], rfl, hkeep 13 _ (Or.inl (by rw [HPV.out]; rfl)) hL, ?_⟩
            · clear hP hS hat haft hkeep hL
              generalize b.eval = ρ at *
              go_simp
            simp only [getD_set_ne false (show 13 ≠ 15 by decide), getD_set_ne false (show 13 ≠ 17 by decide)]
            exact hS
          | 14, _ =>
            injection ho with ho
            subst ho
            have e87 : b.eval (.tmp 87) = .slice (some ⟨g, 0, none⟩) N cc := (hat.new 0 _ 87 (haft ⟨0, .data⟩ (by simp) rfl) rfl rfl).trans (hP 0 _ (by rw [HPV.out]; rfl) (haft ⟨0, .data⟩ (by simp) rfl))
            have e88 : b.eval (.tmp 88) = .int .i64 (r : Int) := (hat.new 1 _ 88 (haft ⟨1, .data⟩ (by simp) rfl) rfl rfl).trans (hP 1 _ (by rw [HPV.out]; rfl) (haft ⟨1, .data⟩ (by simp) rfl))
            refine Dag.yields (w' := wx) (.pointer (some ⟨g, r * 3, none⟩)) ?_ ⟨.pointer (some ⟨g, r * 3, none⟩), rfl, hkeep 14 _ (Or.inl (by rw [HPV.out]; rfl)) hL, ?_⟩
            · clear hP hS hat haft hkeep hL
              generalize b.eval = ρ at *
              go_simp
            · simp only [getD_set_ne false (show 14 ≠ 15 by decide), getD_set_ne false (show 14 ≠ 17 by decide)]
              exact hS
          | 15, _ =>
            injection ho with ho
            subst ho
            have e101 : b.eval (.tmp 101) = .pointer (some ⟨g, r * 3, none⟩) := (hat.new 14 _ 101 (haft ⟨14, .data⟩ (by simp) rfl) rfl rfl).trans (hP 14 _ (by rw [HPV.out]; rfl) (haft ⟨14, .data⟩ (by simp) rfl))
            have e96 : b.eval (.tmp 96) = .agg #[.int .i64 y0, .int .i64 y1, .int .i64 y2] := (hat.new 9 _ 96 (haft ⟨9, .data⟩ (by simp) rfl) rfl rfl).trans (hP 9 _ (by rw [HPV.out]; rfl) (haft ⟨9, .data⟩ (by simp) rfl))
            obtain ⟨u0, u1, u2, c0, c1, c2⟩ := hS.at (r) (by omega) hlN
            have f0 := hS.own.frozenAt ((r) * 3)
            have f1 := hS.own.frozenAt ((r) * 3 + 1)
            have f2 := hS.own.frozenAt ((r) * 3 + 2)
            refine Dag.skips (w' := ((wx.setCell ⟨g, (r) * 3, none⟩ (.int .i64 y0)).setCell ⟨g, (r) * 3 + 1, none⟩ (.int .i64 y1)).setCell ⟨g, (r) * 3 + 2, none⟩ (.int .i64 y2)) ?_ ⟨_, rfl, hkeep 15 _ (Or.inr (by rw [HPV.out]; rfl)) hL, ?_⟩
            · clear hP hS hat haft hkeep hL
              generalize b.eval = ρ at *
              go_simp
            rw [Dag.on hL]
            simp only [getD_set_ne false (show 15 ≠ 17 by decide)]
            exact hS.put8 hr0 hgw
          | 16, _ =>
            injection ho with ho
            subst ho
            have e89 : b.eval (.tmp 89) = .slice (some ⟨g, 0, none⟩) N cc := (hat.new 2 _ 89 (haft ⟨2, .data⟩ (by simp) rfl) rfl rfl).trans (hP 2 _ (by rw [HPV.out]; rfl) (haft ⟨2, .data⟩ (by simp) rfl))
            have e91 : b.eval (.tmp 91) = .int .i64 ((r : Int) + 1) := (hat.new 4 _ 91 (haft ⟨4, .data⟩ (by simp) rfl) rfl rfl).trans (hP 4 _ (by rw [HPV.out]; rfl) (haft ⟨4, .data⟩ (by simp) rfl))
            refine Dag.yields (w' := wx) (.pointer (some ⟨g, (r + 1) * 3, none⟩)) ?_ ⟨.pointer (some ⟨g, (r + 1) * 3, none⟩), rfl, hkeep 16 _ (Or.inl (by rw [HPV.out]; rfl)) hL, ?_⟩
            · clear hP hS hat haft hkeep hL
              generalize b.eval = ρ at *
              go_simp
            · simp only [getD_set_ne false (show 16 ≠ 15 by decide), getD_set_ne false (show 16 ≠ 17 by decide)]
              exact hS
          | 17, _ =>
            injection ho with ho
            subst ho
            have e102 : b.eval (.tmp 102) = .pointer (some ⟨g, (r + 1) * 3, none⟩) := (hat.new 16 _ 102 (haft ⟨16, .data⟩ (by simp) rfl) rfl rfl).trans (hP 16 _ (by rw [HPV.out]; rfl) (haft ⟨16, .data⟩ (by simp) rfl))
            have e100 : b.eval (.tmp 100) = .agg #[.int .i64 x0, .int .i64 x1, .int .i64 x2] := (hat.new 13 _ 100 (haft ⟨13, .data⟩ (by simp) rfl) rfl rfl).trans (hP 13 _ (by rw [HPV.out]; rfl) (haft ⟨13, .data⟩ (by simp) rfl))
            obtain ⟨u0, u1, u2, c0, c1, c2⟩ := hS.at (r + 1) (by omega) hlN
            have f0 := hS.own.frozenAt ((r + 1) * 3)
            have f1 := hS.own.frozenAt ((r + 1) * 3 + 1)
            have f2 := hS.own.frozenAt ((r + 1) * 3 + 2)
            refine Dag.skips (w' := ((wx.setCell ⟨g, (r + 1) * 3, none⟩ (.int .i64 x0)).setCell ⟨g, (r + 1) * 3 + 1, none⟩ (.int .i64 x1)).setCell ⟨g, (r + 1) * 3 + 2, none⟩ (.int .i64 x2)) ?_ ⟨_, rfl, hkeep 17 _ (Or.inr (by rw [HPV.out]; rfl)) hL, ?_⟩
            · clear hP hS hat haft hkeep hL
              generalize b.eval = ρ at *
              go_simp
            rw [Dag.on hL]
            simp only [getD_set_ne false (show 17 ≠ 15 by decide)]
            exact hS.put10 hr1 hgw
          | i + 18, h => exact absurd h (by simp)
        · intro Lf vals wx hall hR
          obtain ⟨hP, hS⟩ := hR
          simp only [hall 15 (by simp), hall 17 (by simp)] at hS
          have u0 := hP 0 _ (by rw [HPV.out]; rfl) (hall 0 (by simp))
          have u1 := hP 1 _ (by rw [HPV.out]; rfl) (hall 1 (by simp))
          have u2 := hP 2 _ (by rw [HPV.out]; rfl) (hall 2 (by simp))
          have u3 := hP 3 _ (by rw [HPV.out]; rfl) (hall 3 (by simp))
          have u4 := hP 4 _ (by rw [HPV.out]; rfl) (hall 4 (by simp))
          have u5 := hP 5 _ (by rw [HPV.out]; rfl) (hall 5 (by simp))
          have u6 := hP 6 _ (by rw [HPV.out]; rfl) (hall 6 (by simp))
          have u7 := hP 7 _ (by rw [HPV.out]; rfl) (hall 7 (by simp))
          have u8 := hP 8 _ (by rw [HPV.out]; rfl) (hall 8 (by simp))
          have u9 := hP 9 _ (by rw [HPV.out]; rfl) (hall 9 (by simp))
          have u10 := hP 10 _ (by rw [HPV.out]; rfl) (hall 10 (by simp))
          have u11 := hP 11 _ (by rw [HPV.out]; rfl) (hall 11 (by simp))
          have u12 := hP 12 _ (by rw [HPV.out]; rfl) (hall 12 (by simp))
          have u13 := hP 13 _ (by rw [HPV.out]; rfl) (hall 13 (by simp))
          have u14 := hP 14 _ (by rw [HPV.out]; rfl) (hall 14 (by simp))
          have u16 := hP 16 _ (by rw [HPV.out]; rfl) (hall 16 (by simp))
          simp only [Dag.all, List.size_toArray, List.length_cons, List.length_nil, Nat.reduceAdd, Act.put, List.getElem?_toArray, List.getElem?_cons_zero, List.getElem?_cons_succ, Option.bind_some, List.setIfInBounds_toArray, List.set_cons_zero, List.set_cons_succ]
          rw [u0, u1, u2, u3, u4, u5, u6, u7, u8, u9, u10, u11, u12, u13, u14, u16]
          exact ⟨gg, gk, rfl, hS⟩
      · intro gg gk wx hcut
        have HC := box hcut
        clear hcut
        have HNm : Box (SeeM.SwW w Bs g N cc ((m.set r ⟨y0, y1, y2⟩).set (r + 1) ⟨x0, x1, x2⟩) wx) := ⟨⟨HC.out.own, by simp; exact hlN, HCk.out, fun o ho => by
          rcases List.mem_or_eq_of_mem_set ho with h | rfl
          · rcases List.mem_or_eq_of_mem_set h with h | rfl
            · exact HR.out.na o h
            · exact HR.out.na _ (List.mem_of_getElem? HG.out.2)
          · exact HR.out.na _ (List.mem_of_getElem? HG.out.1), HC.out.below⟩⟩
        clear HR HRq HS0 HCk
        go_wp2_with fail
        go_roundw
        case rel => exact ⟨k + 1, _, hlt, by go_num, HNm⟩
        case measure => simp [RowKit.intOf]; omega
    · obtain ⟨mo, mc, hv, hz0, hat, hz1, hz2⟩ := OpsAt.own HR.out.own
      simp only [Value.slice.injEq] at hv
      obtain ⟨rfl, hz3, rfl⟩ := hv
      clear hz0 hz1 hz2 hz3
      have HA := box hat
      have HLk := box (like_any l m ao (some ⟨g, 0, none⟩) cap cc wr (H.out.below HR.out.below (Nat.le_refl _)) hat Hnil.out (by simp) Hf.out (RunM.check_fits HR.out.ok))
      rw [HN.out, HR.out.len] at HLk
      have HOk : Box (RunM.likeOk l m = 0) := ⟨by unfold RunM.likeOk; rw [Hc.out, HR.out.ok]; rfl⟩
      rw [HOk.out] at HLk
      have HLaw := box (fun h : RunM.like l m = true => SeeM.like_alike h)
      obtain ⟨lk, Hlk⟩ : ∃ x, Box (RunM.like l m = x) := ⟨_, ⟨rfl⟩⟩
      rw [Hlk.out] at HLk HLaw
      have HAk := box (fun W (hb : Below wr.heap.size wr W) => alike_any l m ao (some ⟨g, 0, none⟩) cap cc W (H.out.below (below_tr HR.out.below hb) (Nat.le_refl _)) (hat.below hb (Nat.le_refl _)) Hf.out (RunM.check_fits HR.out.ok) Hc.out HR.out.ok HNa.out HR.out.na)
      rw [HN.out, HR.out.len] at HAk
      obtain ⟨al, Hal⟩ : ∃ x, Box (SeeM.alike l m = x) := ⟨_, ⟨rfl⟩⟩
      rw [Hal.out] at HAk HLaw
      have HBr := box HR.out.below
      clear hat HR
      go_wp2_with fail
      refine HLk.out.mono ?_
      rintro e w12 ⟨rfl, hb12⟩
      have HB12 := box (below_tr HBr.out hb12)
      have HAk2 := box (HAk.out w12 hb12)
      clear hb12 HAk HLk
      go_wp2_with fail
      refine HAk2.out.mono ?_
      rintro e w13 ⟨rfl, hb13⟩
      have HB13 := box (below_tr HB12.out hb13)
      clear hb13 HAk2
      cases lk with
      | false =>
        go_wp2_with fail
        go_ret
        exact ⟨rfl, HB13.out⟩
      | true =>
        obtain rfl : al = true := HLaw.out rfl
        go_wp2_with fail
        go_ret
        exact ⟨rfl, HB13.out⟩
namespace lawSeeLike
open Go.ChangeShapes Go.WideShapes Go.ChangeAt Go.RowKit Go.ChangeMaps

set_option maxRecDepth 100000 in
theorem lifted (os : Os) (started : os.Started) (H : Type) (enc : TypeId × Value → H) :
    ReturnsInHanded {} Try.checked os 5 .any (Rows.seeLikeSpec.pre6 enc Try.prog Try.f5 [] false) (Rows.seeLikeSpec.post enc Try.prog Try.f5 false true false false) := by
  refine LawKit.law_lifted started (by kernel_rfl) Try.func5 rfl
    (fun ds h => by
      match ds, h with
      | [_, _], _ => rfl)
    rfl Try.underlying4 (by intro t ht; exact of_decide_eq_true (p := Try.prog.readableRec t = true ∧ t < Try.prog.types.size) (by revert t ht; decide +kernel))
    (ChangeSpec.witness6 (enc := enc) (C := Try.checked) false ⟨#[], #[.slice none 0 0, .slice none 0 0], []⟩ 8 (by kernel_rfl) (by kernel_rfl) (by kernel_rfl) (by kernel_rfl)) ?_
  intro W base args ds ps hval hA hsz hlt hfz
  have hA' := hA
  rw [Try.params5] at hA hval
  obtain ⟨v0, vs0, d0, ds0, p0, q0, hargs, rfl, rfl, h0, r0⟩ := trodAll_cons hA
  obtain ⟨v1, vs1, d1, ds1, p1, q1, rfl, rfl, rfl, h1, r1⟩ := trodAll_cons r0
  obtain ⟨rfl, rfl, rfl⟩ := trodAll_nil r1
  obtain rfl : args = #[v0, v1] := by cases args; simp_all
  obtain ⟨ao, cap, L, rfl, hnil, hat, hfits, hcap, hc2⟩ := open_ops (hval 0 _ _ rfl rfl) h0 (Open.weights_bound hsz (j := 0) (by rw [Try.params5]; rfl) rfl)
  obtain ⟨bo, bc, M, rfl, _, hat2, hm, hbc, _⟩ := open_numbers (hval 1 _ _ rfl rfl) h1 (Open.weights_bound hsz (j := 1) (by rw [Try.params5]; rfl) rfl)
  refine (seeLike_calls L M ao bo cap bc W hat hfits hnil hat2 (by omega)).mono ?_
  rintro e W' ⟨rfl, hb⟩
  exact ⟨rfl, hb⟩

theorem proved : Rows.SeeLikeSaid :=
  OpenClaim.holds_of_wide 5 Try.f5 rfl rfl rfl rfl rfl rfl rfl ⟨rfl, rfl, rfl, rfl, rfl⟩ rfl rfl rfl rfl rfl (by kernel_rfl) Try.func5 (by kernel_rfl)
    (of_decide_eq_true (by kernel_rfl)) (by unfold Func.isWrapper; first | (rw [if_pos (by decide +kernel)]; kernel_rfl) | (rw [if_neg (by decide +kernel)]; exact ⟨rfl, rfl⟩))
    (fun os started H enc _ => lifted os started H enc)
end lawSeeLike
end Go.Proofs.Ytnhhjjhhicmfpaa
