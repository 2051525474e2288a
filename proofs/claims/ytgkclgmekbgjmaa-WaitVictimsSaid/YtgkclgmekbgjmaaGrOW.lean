/- graph.Order: what it answers. -/
import Derived.Test.YtgkclgmekbgjmaaGrO
import Derived.Deep.LoopGhost
namespace Go.Proofs.Ytgkclgmekbgjmaa
open Go.RowKit Go.Lib

/-- What Order leaves. -/
def GrM.OrderPost (n : Int) (l : List EgM) (w : World) (e : Ending) (w' : World) : Prop :=
  Below w.heap.size w w' ∧ ((GrM.check n l ≠ 0 ∧ e = .returned (.tuple #[.slice none 0 0, .int .i64 (GrM.check n l)])) ∨
    (GrM.check n l = 0 ∧ GrM.order n.toNat l = none ∧ e = .returned (.tuple #[.slice none 0 0, .int .i64 11])) ∨
    (GrM.check n l = 0 ∧ ∃ r v, GrM.order n.toNat l = some r ∧ e = .returned (.tuple #[v, .int .i64 0]) ∧ w'.ownsRow w.heap.size 3 1 v r.length (intVals (GrM.ints r))))

/-- In the loops: what stood below the table stands. -/
structure GrM.OrdAt (W1 : World) (A n : Nat) (g : Nat → Int) (vo : Value) (out : List Nat) (wr : World) : Prop where
  below : Below A W1 wr
  tab : ITab wr A n g
  own : wr.ownsRow (A + 1) 3 1 vo out.length (intVals (GrM.ints out))
theorem GrM.ints_get {r : List Nat} {j : Nat} (h : j < r.length) : (intVals (GrM.ints r))[j]? = some (.int .i64 (r[j] : Int)) := by
  unfold intVals GrM.ints
  simp [h]
theorem GrM.ints_len (r : List Nat) : (GrM.ints r).length = r.length := by simp [GrM.ints]
section
variable {W1 wr w' : World} {A n : Nat} {g : Nat → Int} {vo : Value} {out : List Nat}
theorem GrM.OrdAt.set (h : GrM.OrdAt W1 A n g vo out wr) (i : Nat) (x : Int) : GrM.OrdAt W1 A n (upd g i x) vo out (wr.setCell ⟨A, i, none⟩ (.int .i64 x)) := by
  refine ⟨h.below.setCell (Nat.le_refl _) _, h.tab.set i x, ownsRow_setCell_other h.own (fun e => ?_) _⟩
  have := (h.own.lt A e).1
  omega
theorem GrM.OrdAt.congr (h : GrM.OrdAt W1 A n g vo out wr) {f : Nat → Int} (e : ∀ i, i < n → f i = g i) : GrM.OrdAt W1 A n f vo out wr := ⟨h.below, h.tab.congr e, h.own⟩
end
/-- What an own row of a graph's table reads like, in any later world. -/
theorem GrM.Rows.later {w w' : World} {base O n : Nat} {v : Nat → Value} {r : Nat → List Nat} (h : GrM.Rows w base O n v (fun i => GrM.ints (r i))) (hb : Below w.heap.size w w') {k : Nat} (hk : k < n) :
    w'.cell? ⟨O, k, none⟩ = some (v k) ∧ ∃ a c, v k = .slice a (r k).length c ∧ ∀ j (hj : j < (r k).length), ∃ g, a = some ⟨g, 0, none⟩ ∧ w'.cell? ⟨g, j, none⟩ = some (.int .i64 ((r k)[j] : Int)) := by
  have h' := h.after hb
  refine ⟨h'.blk.tabCell hk, ?_⟩
  rcases (h'.fam.own k hk).2 with ⟨h1, h2⟩ | ⟨g, cap, cur, h1, _⟩
  · have h3 : (r k).length = 0 := by rw [GrM.ints_len] at h2; exact h2
    exact ⟨none, 0, by rw [h1, h3], fun j hj => by omega⟩
  · refine ⟨some ⟨g, 0, none⟩, cap, by rw [h1, GrM.ints_len], fun j hj => ⟨g, rfl, ?_⟩⟩
    have := (h'.fam.own k hk).cells (g := g) (by rw [h1]; rfl) j _ (GrM.ints_get hj)
    rwa [Addr.add_lit, Nat.zero_add] at this

set_option maxRecDepth 20000 in
set_option maxHeartbeats 8000000 in
theorem graphOrder_any (n : Int) (l : List EgM) (ao : Option Addr) (cap : Nat) (w : World) (h : EgsAt w ao l) (hn : l.length ≤ 9000000000000) :
    Calls Try.prog 21 #[.int .i64 n, .slice ao l.length cap] w (GrM.OrderPost n l w) := by
  obtain ⟨i0, hi0, hz0, hz1, hz2⟩ := info_parts Try.infoIntG
  have H := box h
  clear h
  go_enter Try.func21, Try.ntmps21
  go_wp2_with fail
  refine (graphCheck_any n l ao cap w H.out hn).mono ?_
  rintro e w1 ⟨rfl, hb1⟩
  have HB1 := box hb1
  clear hb1
  obtain ⟨c, HC⟩ : ∃ c, Box (GrM.check n l = c) := ⟨_, ⟨rfl⟩⟩
  rw [HC.out]
  cases d0 : (c == 0) with
  | false =>
    have d1 : (c != 0) = true := by simpa using d0
    have HC0 : Box (c ≠ 0) := ⟨by simpa using d0⟩
    go_wp2_with fail
    go_ret2
    exact ⟨HB1.out, Or.inl ⟨by rw [HC.out]; exact HC0.out, by rw [HC.out]; rfl⟩⟩
  | true =>
  obtain rfl : c = 0 := by simpa using d0
  obtain ⟨m, rfl, hm6, hl2, hf⟩ := GrM.check_ok HC.out
  have HFf := box hf
  clear hf
  go_wp2_with fail
  refine (graphNext_any m l ao cap w1 (H.out.below HB1.out (Nat.le_refl _)) hl2 hm6 HFf.out).mono ?_
  rintro e W1 ⟨hb2, O, v, rfl, hO, hR⟩
  have HR := box hR
  have HB2 := box (below_tr HB1.out hb2)
  have hmk := run_make_tab (P := Try.prog) W1 31 3 i0 (.int .i64 0) Try.underlying31 hi0 hz0 hz1 rfl m (by rw [hz2]; omega) (by omega)
  obtain ⟨A, HAe⟩ : ∃ A, Box (W1.heap.size = A) := ⟨_, ⟨rfl⟩⟩
  have HRd : Box (∀ wx, Below A W1 wx → ∀ k, k < m → wx.cell? ⟨O, k, none⟩ = some (v k) ∧ ∃ a c, v k = .slice a (GrM.next m l k).length c ∧ ∀ j (hj : j < (GrM.next m l k).length), ∃ g, a = some ⟨g, 0, none⟩ ∧ wx.cell? ⟨g, j, none⟩ = some (.int .i64 ((GrM.next m l k)[j] : Int))) := ⟨fun wx hb k hk => HR.out.later (by rw [HAe.out]; exact hb) hk⟩
  obtain ⟨W2, HW2⟩ : ∃ x, Box (W1.alloc (.cells (Tab m (fun _ => (Value.int .i64 0))).toArray 3) = x) := ⟨_, ⟨rfl⟩⟩
  have HS2 : Box (GrM.OrdAt W1 A m (fun x => (GrM.deg l 0 x : Int)) (.slice none 0 0) [] W2) := ⟨by
    rw [← HW2.out, ← HAe.out]
    exact ⟨(Below.refl _ _).alloc (Nat.le_refl _) _, Blk.new _ _ _, World.ownsRow_nil _ _ _ _⟩⟩
  rw [HW2.out, HAe.out] at hmk
  have hA0 : w.heap.size ≤ A := by have := HB2.out.size; have := HAe.out; omega
  clear hb2 hR hO HW2
  go_wp2_with fail
  go_loopw [30] (fun t30 wr => ∃ i : Nat, i ≤ m ∧ t30 = .int .i64 (i : Int) ∧ Box (GrM.OrdAt W1 A m (fun x => (GrM.deg l i x : Int)) (.slice none 0 0) [] wr)) (fun t30 _ => m - (RowKit.intOf t30).toNat)
  case atStart => exact ⟨0, Nat.zero_le _, rfl, HS2⟩
  case round =>
    obtain ⟨i, hi, rfl, HO⟩ := hrel
    by_cases him : i < m
    · have him2 : (i : Int) < (m : Int) := by omega
      obtain ⟨c0, a, sc, hv, _⟩ := HRd.out wr HO.out.below i him
      rw [hv] at c0
      have HV := box hv
      have hLl : (GrM.next m l i).length ≤ 60 := Nat.le_trans (GrM.next_len m l i) hm6
      obtain ⟨LN, HLN⟩ : ∃ LN, Box ((GrM.next m l i).length = LN) := ⟨_, ⟨rfl⟩⟩
      rw [HLN.out] at c0 hLl
      have HO1 : Box (GrM.OrdAt W1 A m (GrM.degIn m l i 0) (.slice none 0 0) [] wr) := ⟨HO.out.congr (fun x _ => GrM.degIn_zero m l i x)⟩
      clear hv
      go_wp2_with fail
      go_loopw [36] (fun t36 wr => ∃ k : Nat, k ≤ LN ∧ t36 = .int .i64 (k : Int) ∧ Box (GrM.OrdAt W1 A m (GrM.degIn m l i k) (.slice none 0 0) [] wr)) (fun t36 _ => LN - (RowKit.intOf t36).toNat)
      case atStart => exact ⟨0, Nat.zero_le _, rfl, HO1⟩
      case round =>
        obtain ⟨k, hk, rfl, HI⟩ := hrel
        by_cases hkL : k < LN
        · have hkl : k < (GrM.next m l i).length := by rw [HLN.out]; exact hkL
          obtain ⟨_, a2, sc2, hv2, hel⟩ := HRd.out wr HI.out.below i him
          have haa : a = a2 := by
            have := HV.out.symm.trans hv2
            injection this
          subst haa
          obtain ⟨g, rfl, c1⟩ := hel k hkl
          have hy := (GrM.mem_next.1 (List.getElem_mem hkl)).1
          have HSt := box (GrM.degIn_step (n := m) (l := l) (i := i) hkl)
          obtain ⟨y, HY⟩ : ∃ y, Box ((GrM.next m l i)[k] = y) := ⟨_, ⟨rfl⟩⟩
          rw [HY.out] at c1 hy HSt
          have hy2 : (y : Int) < (m : Int) := by omega
          have t0 := HI.out.tab.cell hy
          have z0 := Blk.frozen HI.out.tab y
          have hd0 : 0 ≤ GrM.degIn m l i k y := by unfold GrM.degIn; split <;> omega
          have hd1 : GrM.degIn m l i k y ≤ 100 := by have := GrM.deg_le l i y; unfold GrM.degIn; split <;> omega
          have HNx : Box (∀ u : Int, u = GrM.degIn m l i k y + 1 → GrM.OrdAt W1 A m (GrM.degIn m l i (k + 1)) (.slice none 0 0) [] (wr.setCell ⟨A, y, none⟩ (.int .i64 u))) := ⟨fun u hu => by rw [HSt.out, hu]; exact HI.out.set y _⟩
          generalize GrM.degIn m l i k y = dd at *
          clear hel hv2
          go_wp2_with fail
          go_roundw
          case rel => exact ⟨k + 1, by omega, by go_num, ⟨HNx.out _ rfl⟩⟩
          case measure => simp [RowKit.intOf]; omega
        · obtain rfl : k = LN := by omega
          have HI2 : Box (GrM.OrdAt W1 A m (fun x => (GrM.deg l (i + 1) x : Int)) (.slice none 0 0) [] wr) := ⟨HI.out.congr (fun x hx => by rw [← HLN.out]; exact (GrM.degIn_all hx).symm)⟩
          go_wp2_with fail
          go_roundw
          case rel => exact ⟨i + 1, by omega, by go_num, HI2⟩
          case measure => simp [RowKit.intOf]; omega
    · obtain rfl : i = m := by omega
      have HS3 : Box (GrM.OrdAt W1 A i (GrM.tab i l []) (.slice none 0 0) [] wr) := ⟨HO.out.congr (fun x _ => GrM.tab_start x)⟩
      clear HO HS2 hmk
      go_wp2_with fail
      go_loopg [13] i (fun f t13 wr => ∃ (out : List Nat) (a : Option Addr) (c : Nat), t13 = .slice a out.length c ∧ f + out.length = i ∧ Box (GrM.Out i l out ∧ GrM.orderGo i l f out = GrM.order i l ∧ GrM.OrdAt W1 A i (GrM.tab i l out) (.slice a out.length c) out wr))
      case atStart => exact ⟨[], none, 0, rfl, by simp, ⟨.nil, rfl, HS3.out⟩⟩
      case round =>
        obtain ⟨out, oa, oc, rfl, hfo, HQ⟩ := hrel
        obtain ⟨OL, HOL⟩ : ∃ OL, Box (out.length = OL) := ⟨_, ⟨rfl⟩⟩
        rw [HOL.out] at hfo HQ ⊢
        by_cases hoi : OL < i
        case neg =>
          have hg0 : gk = 0 := by omega
          subst hg0
          have HEq : Box (GrM.order i l = some out) := ⟨HQ.out.2.1.symm⟩
          have hOi : ¬ (OL : Int) < (i : Int) := by omega
          go_wp2_with fail
          go_ret2
          refine ⟨HB2.out.trans (HQ.out.2.2.below.mono hA0), Or.inr (Or.inr ⟨HC.out, out, .slice oa OL oc, ?_, rfl, ?_⟩)⟩
          · rw [Int.toNat_natCast]; exact HEq.out
          · exact ownsRow_mono HQ.out.2.2.own (by omega)
        obtain ⟨f, rfl⟩ : ∃ f, gk = f + 1 := ⟨gk - 1, by omega⟩
        have hOi : (OL : Int) < (i : Int) := by omega
        have HIx := box (index_ints (GrM.tabL i (GrM.tab i l out)) 0 (some ⟨A, 0, none⟩) i wr HQ.out.2.2.tab.ints (by rw [GrM.tabL_len]; omega))
        rw [GrM.tabL_len, GrM.idx_tab] at HIx
        by_cases hp : GrM.pick i l out < i
        case neg =>
          have HEq : Box (GrM.order i l = none) := ⟨by rw [← HQ.out.2.1]; exact GrM.orderGo_stuck (by rw [HOL.out]; exact hoi) hp⟩
          unfold GrM.pick at hp
          rw [if_neg hp] at HIx
          go_wp2_with fail
          refine HIx.out.mono ?_
          rintro e w5 ⟨rfl, rfl⟩
          go_wp2_with fail
          go_ret2
          exact ⟨HB2.out.trans (HQ.out.2.2.below.mono hA0), Or.inr (Or.inl ⟨HC.out, by rw [Int.toNat_natCast]; exact HEq.out, rfl⟩)⟩
        have HGo : Box (GrM.orderGo i l f (out ++ [GrM.pick i l out]) = GrM.order i l) := ⟨by rw [← HQ.out.2.1]; exact (GrM.orderGo_step (by rw [HOL.out]; exact hoi) hp).symm⟩
        have HPk := box (GrM.pick_spec hp)
        have hpp := hp
        unfold GrM.pick at hpp
        rw [if_pos hpp] at HIx
        rw [show ((List.range i).findIdx fun x => decide (GrM.tab i l out x = 0)) = GrM.pick i l out from rfl] at HIx
        obtain ⟨k, HK⟩ : ∃ k, Box (GrM.pick i l out = k) := ⟨_, ⟨rfl⟩⟩
        rw [HK.out] at HIx HPk HGo hp
        clear hpp
        have hk0 : decide ((k : Int) < 0) = false := by simp
        have hki : (k : Int) < (i : Int) := by omega
        go_wp2_with fail
        refine HIx.out.mono ?_
        rintro e w5 ⟨rfl, rfl⟩
        have t0 := HQ.out.2.2.tab.cell hp
        have z0 := Blk.frozen HQ.out.2.2.tab k
        have HO1 : Box (GrM.OrdAt W1 A i (GrM.tabIn i l out k 0) (.slice oa OL oc) out (wr.setCell ⟨A, k, none⟩ (.int .i64 (-1)))) := ⟨by rw [GrM.tabIn_zero]; exact HQ.out.2.2.set k (-1)⟩
        obtain ⟨c0, a, sc, hv, _⟩ := HRd.out _ HO1.out.below k hp
        rw [hv] at c0
        have HV := box hv
        have hLl : (GrM.next i l k).length ≤ 60 := Nat.le_trans (GrM.next_len i l k) hm6
        obtain ⟨LN, HLN⟩ : ∃ LN, Box ((GrM.next i l k).length = LN) := ⟨_, ⟨rfl⟩⟩
        rw [HLN.out] at c0 hLl
        clear hv
        generalize GrM.tab i l out k = tk at t0
        go_wp2_with fail
        go_loopw [64] (fun t64 wx => ∃ j : Nat, j ≤ LN ∧ t64 = .int .i64 (j : Int) ∧ Box (GrM.OrdAt W1 A i (GrM.tabIn i l out k j) (.slice oa OL oc) out wx)) (fun t64 _ => LN - (RowKit.intOf t64).toNat)
        case atStart => exact ⟨0, Nat.zero_le _, rfl, HO1⟩
        case round =>
          obtain ⟨j, hj, rfl, HI⟩ := hrel
          by_cases hjL : j < LN
          · have hjl : j < (GrM.next i l k).length := by rw [HLN.out]; exact hjL
            obtain ⟨_, a2, sc2, hv2, hel⟩ := HRd.out wr HI.out.below k hp
            have haa : a = a2 := by
              have := HV.out.symm.trans hv2
              injection this
            subst haa
            obtain ⟨g, rfl, c1⟩ := hel j hjl
            have hy := (GrM.mem_next.1 (List.getElem_mem hjl)).1
            have HSt := box (GrM.tabIn_step (n := i) (l := l) (out := out) (k := k) HPk.out hp hjl)
            obtain ⟨y, HY⟩ : ∃ y, Box ((GrM.next i l k)[j] = y) := ⟨_, ⟨rfl⟩⟩
            rw [HY.out] at c1 hy HSt
            have hy2 : (y : Int) < (i : Int) := by omega
            have t0 := HI.out.tab.cell hy
            have z0 := Blk.frozen HI.out.tab y
            obtain ⟨hd0, hd1⟩ := GrM.tabIn_bounds i l out k j y
            have HNx : Box (∀ u : Int, u = GrM.tabIn i l out k j y - 1 → GrM.OrdAt W1 A i (GrM.tabIn i l out k (j + 1)) (.slice oa OL oc) out (wr.setCell ⟨A, y, none⟩ (.int .i64 u))) := ⟨fun u hu => by rw [HSt.out, hu]; exact HI.out.set y _⟩
            generalize GrM.tabIn i l out k j y = dd at *
            clear hel hv2
            go_wp2_with fail
            go_roundw
            case rel => exact ⟨j + 1, by omega, by go_num, ⟨HNx.out _ rfl⟩⟩
            case measure => simp [RowKit.intOf]; omega
          · obtain rfl : j = LN := by omega
            have HI2 : Box (GrM.OrdAt W1 A i (GrM.tab i l (out ++ [k])) (.slice oa OL oc) out wr) := ⟨HI.out.congr (fun x hx => by rw [← HLN.out]; exact (GrM.tabIn_all HQ.out.1 HPk.out hp hx).symm)⟩
            have HOut : Box (GrM.Out i l (out ++ [k])) := ⟨.snoc HQ.out.1 hp HPk.out⟩
            have hown := (HI2.out.own.alloc (.cells #[.int .i64 (k : Int)] 3))
            have hAs := Blk.lt HI2.out.tab
            rw [HOL.out] at hown
            go_wp2_with (at_builtin; go_must (refine wpList_append_lies _ rfl _ _ 31 rfl (A + 1) 3 i0 _ 1 8 Try.underlying31 hi0 hz0 hz1 hz2 rfl (by decide) _ _ _ rfl hown ⟨wr.heap.size, 0, none⟩ 1 1 [.int .i64 (k : Int)] rfl rfl (cells_new wr [.int .i64 (k : Int)] 3) (by simp [Value.oneCell']) (by decide) (by unfold maxLen; omega) (by omega) (by simp; omega) (wr.heap.size + 1) (by simp) ?_))
            intro gg gcap w7 hown7 hgrow7 hat7 hlt7
            have hOL1 : (out ++ [k]).length = OL + 1 := by rw [List.length_append, HOL.out]; rfl
            have HNx : Box (GrM.OrdAt W1 A i (GrM.tab i l (out ++ [k])) (.slice (some ⟨gg, 0, none⟩) (OL + 1) gcap) (out ++ [k]) w7) := ⟨by
              refine ⟨?_, ?_, ?_⟩
              · exact (HI2.out.below.alloc (by have := HI2.out.below.size; have := HAe.out; omega) _).grown hgrow7 (by simp; omega) (fun b hb => by have := (HI2.out.own.lt b hb).1; omega)
              · exact Blk.grown ((show Blk wr A _ _ from HI2.out.tab).alloc _) hgrow7 (fun e => by have := (HI2.out.own.lt A e).1; omega)
              · rw [hOL1]
                have e1 : intVals (GrM.ints (out ++ [k])) = intVals (GrM.ints out) ++ [.int .i64 (k : Int)] := by
                  unfold GrM.ints intVals; simp
                rw [e1]
                exact hown7⟩
            clear hown7 hgrow7 hat7 hlt7 hown
            go_wp2_with fail
            go_roundg f
            case measure => omega
            case rel => exact ⟨out ++ [k], some ⟨gg, 0, none⟩, gcap, by rw [hOL1], by rw [hOL1]; omega, ⟨HOut.out, HGo.out, by rw [hOL1]; exact HNx.out⟩⟩
end Go.Proofs.Ytgkclgmekbgjmaa
