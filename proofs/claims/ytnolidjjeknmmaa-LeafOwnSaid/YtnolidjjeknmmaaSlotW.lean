/- stays, spoil, slices.Clone, slices.Equal over slots: what they do. -/
import Derived.Test.YtnolidjjeknmmaaSlotAmple
namespace Go.Proofs.Ytnolidjjeknmmaa
open Go.RowKit Go.Lib

set_option maxRecDepth 20000 in
set_option maxHeartbeats 2000000 in
theorem equalSlots_some (ls : List (Bool × ByteArray)) (b off cap b' off' cap' : Nat) (w : World) (h : SlotsAt w b off ls) (h' : SlotsAt w b' off' ls) (hn : ls.length ≤ 17592186044000) :
    Calls Try.prog 34 #[.slice (some ⟨b, off, none⟩) ls.length cap, .slice (some ⟨b', off', none⟩) ls.length cap'] w fun e w' => e = .returned (.bool true) ∧ ∃ n, w' = w.drewN n := by
  have H := box h; have H' := box h'
  clear h h'
  have q0 : ((ls.length : Int) == (ls.length : Int)) = true := by simp
  go_enter Try.func34, Try.ntmps34
  go_wp2_with fail
  go_loopw [13] (fun t13 wr => ∃ k n : Nat, wr = w.drewN n ∧ k ≤ ls.length ∧ t13 = .int .i64 (k : Int)) (fun t13 _ => ls.length - (intOf t13).toNat)
  case atStart => exact ⟨0, 0, rfl, Nat.zero_le _, rfl⟩
  case round =>
    obtain ⟨k, n0, rfl, hk, rfl⟩ := hrel
    by_cases hlt : k < ls.length
    · obtain ⟨hcu, hct⟩ := H.out k hlt
      obtain ⟨hcu', hct'⟩ := H'.out k hlt
      go_wp2_with fail
      go_quiet (fail)
      go_wp2_with fail
      go_roundw
      case rel => exact ⟨k + 1, n0 + nq, rfl, hlt, by go_num⟩
      case measure => simp [intOf]; omega
    · have hkn : k = ls.length := by omega
      subst hkn
      go_wp2_with fail
      go_ret
      exact ⟨rfl, n0, rfl⟩
theorem equalSlots_same (ls : List (Bool × ByteArray)) (ao bo : Option Addr) (cap cap' : Nat) (w : World) (h : LeafM.At w ao ls) (h' : LeafM.At w bo ls) (hn : ls.length ≤ 17592186044000) :
    Calls Try.prog 34 #[.slice ao ls.length cap, .slice bo ls.length cap'] w fun e w' => e = .returned (.bool true) ∧ ∃ n, w' = w.drewN n := by
  rcases h with rfl | ⟨b, off, rfl, _, h2⟩
  · exact equal_empty ao bo cap cap' w
  · rcases h' with rfl | ⟨b', off', rfl, _, h2'⟩
    · exact equal_empty _ bo cap cap' w
    · exact equalSlots_some ls b off cap b' off' cap' w h2 h2' hn

set_option maxRecDepth 20000 in
set_option maxHeartbeats 4000000 in
theorem staysSlots_any (ls : List (Bool × ByteArray)) (f : Bool × ByteArray) (ao : Option Addr) (cap g base : Nat) (w : World) (h : LeafM.At w ao ls) (ha : SlotAmple w base g ls f) (hn : ls.length ≤ 5864062014900) :
    Calls Try.prog 31 #[.slice (some ⟨g, 0, none⟩) ls.length (ls.length + 3), .slice ao ls.length cap, .agg #[.bool f.1, .string f.2]] w fun e w' => e = .returned (.bool true) ∧ Below w.heap.size w w' := by
  have HE : Box (∀ wx, Below w.heap.size w wx → Calls Try.prog 34 #[.slice (some ⟨g, 0, none⟩) ls.length (ls.length + 3), .slice ao ls.length cap] wx fun e w' => e = .returned (.bool true) ∧ ∃ n, w' = wx.drewN n) := ⟨fun wx hx => equalSlots_same ls (some ⟨g, 0, none⟩) ao (ls.length + 3) cap wx (ha.after hx).at_ (h.below hx (Nat.le_refl _)) (by omega)⟩
  obtain ⟨c0, c1, c2, c3⟩ := ha.fill
  have hg : g < w.heap.size := (World.ownsRow.lt ha g rfl).2
  clear h ha
  have w1 : IntKind.i64.wrap ((ls.length : Int) + 2) = (ls.length : Int) + 2 := IntWalk.i64_in _ (by omega)
  have w2 : IntKind.i64.wrap ((ls.length : Int) + 1) = (ls.length : Int) + 1 := IntWalk.i64_in _ (by omega)
  have hc1 : (ls.length : Int) + 2 ≤ (ls.length : Int) + 3 := by omega
  have hc2 : (0 : Int) ≤ (ls.length : Int) + 2 := by omega
  have q0 : (f.1 == f.1) = true := by simp
  go_enter Try.func31, Try.ntmps31
  go_upto_region 2 with (fail)
  refine name_world (fun W => Below w.heap.size w W ∧ w.heap.size < W.heap.size ∧ Blk W w.heap.size 54 [.bool f.1, .string f.2]) ⟨(Below.refl _ _).alloc (Nat.le_refl _) _, by simp, Blk.new _ _ _⟩ ?_
  rintro W ⟨hbW, hsW, hB3⟩
  have HBW := box hbW; have HB3 := box hB3
  replace c0 := (hbW.cell (p := ⟨g, ls.length * 2, none⟩) hg).trans c0
  replace c1 := (hbW.cell (p := ⟨g, ls.length * 2 + 1, none⟩) hg).trans c1
  replace c2 := (hbW.cell (p := ⟨g, (ls.length + 1) * 2, none⟩) hg).trans c2
  replace c3 := (hbW.cell (p := ⟨g, (ls.length + 1) * 2 + 1, none⟩) hg).trans c3
  obtain ⟨B3, HBe⟩ : ∃ x, Box (w.heap.size = x) := ⟨_, ⟨rfl⟩⟩
  rw [HBe.out] at hB3 hsW ⊢
  have y0 := hB3.cell (i := 0) rfl
  have y1 := hB3.cell (i := 1) rfl
  clear hbW hB3
  go_quiet (first | (go_at_call 34; exact Calls.quiet_of (HE.out _ (HBW.out.trans ⟨rfl, rfl, rfl, Nat.le_refl _, fun _ _ => rfl⟩))))
  go_wp2_with fail
  go_ret
  exact ⟨rfl, HBW.out.trans ⟨rfl, rfl, rfl, Nat.le_refl _, fun _ _ => rfl⟩⟩

theorem own_full2 {w : World} {base e g n cap : Nat} {xs : List Value} (h : w.ownsRow base e 2 (.slice (some ⟨g, 0, none⟩) n cap) n xs) : ∃ ys, w.ownsRow base e 2 (.slice (some ⟨g, 0, none⟩) cap cap) cap ys := by
  rcases h.2 with ⟨h1, _⟩ | ⟨g', cap', cur, h1, h2, h3, h4, h5, h6, h7⟩
  · cases h1
  · simp only [Value.slice.injEq, Option.some.injEq, Addr.mk.injEq, and_true, true_and] at h1
    obtain ⟨rfl, rfl⟩ := h1
    exact ⟨cur.toList, by rw [Array.length_toList]; omega, Or.inr ⟨g, cap, cur, rfl, h2, h3, Nat.le_refl _, h5, h6, List.take_of_length_le (by rw [Array.length_toList]; omega)⟩⟩

def SpoilPost2 (w : World) (g : Nat) (e : Ending) (w' : World) : Prop := e = .returned (.tuple #[]) ∧ w.grownBy w' (some g)
theorem grownBy_set {w wr wr2 : World} {g : Nat} (h : w.grownBy wr (some g)) (h2 : wr.grownBy wr2 (some g)) : w.grownBy wr2 (some g) :=
  ⟨h2.os.trans h.os, h2.tape.trans h.tape, h2.output.trans h.output, Nat.le_trans h.size h2.size, fun j hj hne => (h2.block j (Nat.lt_of_lt_of_le hj h.size) hne).trans (h.block j hj hne)⟩

set_option maxRecDepth 20000 in
set_option maxHeartbeats 4000000 in
theorem spoilSlots_any (base g n cap : Nat) (x : Bool × ByteArray) (xs : List Value) (w : World) (h : w.ownsRow base 54 2 (.slice (some ⟨g, 0, none⟩) n cap) n xs) (hn : n ≤ cap) :
    Calls Try.prog 33 #[.slice (some ⟨g, 0, none⟩) n cap, .agg #[.bool x.1, .string x.2]] w (SpoilPost2 w g) := by
  obtain ⟨ys, hys⟩ := own_full2 h
  have hgw : g < w.heap.size := (h.lt g rfl).2
  have hcapm : cap ≤ 9223372036854775807 := by
    rcases hys.2 with ⟨h1, _⟩ | ⟨g', cap', cur, h1, h2, h3, h4, h5, h6, h7⟩
    · cases h1
    · simp only [Value.slice.injEq, Option.some.injEq, Addr.mk.injEq, and_true, true_and] at h1
      obtain ⟨rfl, _, rfl⟩ := h1
      unfold maxLen at h5
      omega
  have HY := box hys
  clear h hys
  have hc1 : (n : Int) ≤ (cap : Int) := by omega
  go_enter Try.func33, Try.ntmps33
  go_upto_region 1 with (fail)
  refine name_world (fun W => w.grownBy W (some g) ∧ w.heap.size < W.heap.size ∧ Blk W w.heap.size 54 [.bool x.1, .string x.2] ∧ W.ownsRow base 54 2 (.slice (some ⟨g, 0, none⟩) cap cap) cap ys) ⟨⟨rfl, rfl, rfl, by simp, fun k hk _ => Below.heap_alloc _ _ _ hk⟩, by simp, Blk.new _ _ _, HY.out.alloc _⟩ ?_
  rintro W ⟨hgW, hsW, hB3, hoW⟩
  have HGW := box hgW; have HB3 := box hB3; have HOW := box hoW
  have hgB : g ≠ w.heap.size := by omega
  obtain ⟨B3, HBe⟩ : ∃ x, Box (w.heap.size = x) := ⟨_, ⟨rfl⟩⟩
  rw [HBe.out] at hB3 hsW HB3 hgB ⊢
  clear hgW hB3 hoW HY
  go_wp2_with fail
  go_loopw [11] (fun t11 wr => ∃ (k : Nat) (zs : List Value), k ≤ cap ∧ t11 = .int .i64 (k : Int) ∧ Box (wr.ownsRow base 54 2 (.slice (some ⟨g, 0, none⟩) cap cap) cap zs) ∧ Box (w.grownBy wr (some g)) ∧ Box (Blk wr B3 54 [.bool x.1, .string x.2])) (fun t11 _ => cap - (intOf t11).toNat)
  case atStart => exact ⟨0, ys, Nat.zero_le _, rfl, HOW, HGW, HB3⟩
  case round =>
    obtain ⟨k, zs, hk, rfl, HZ, HG, HB⟩ := hrel
    by_cases hlt : k < cap
    · have hx0 := HB.out.cell (i := 0) rfl
      have hx1 := HB.out.cell (i := 1) rfl
      obtain ⟨z0, hz0⟩ : ∃ z, wr.cell? ⟨g, k * 2, none⟩ = some z := by
        have hz := HZ.out.cellAt (k * 2) (by omega)
        have hzl := HZ.out.1
        rw [List.getElem?_eq_getElem (by omega)] at hz
        exact ⟨_, hz⟩
      obtain ⟨z1, hz1⟩ : ∃ z, wr.cell? ⟨g, k * 2 + 1, none⟩ = some z := by
        have hz := HZ.out.cellAt (k * 2 + 1) (by omega)
        have hzl := HZ.out.1
        rw [List.getElem?_eq_getElem (by omega)] at hz
        exact ⟨_, hz⟩
      have hf0 := HZ.out.frozenAt (k * 2)
      have hf1 := HZ.out.frozenAt (k * 2 + 1)
      obtain ⟨h1, h2⟩ := HZ.out.stored (k * 2) (.bool x.1)
      obtain ⟨h3, h4⟩ := h1.stored (k * 2 + 1) (.string x.2)
      have H1 := box h3
      have H2 := box (grownBy_set HG.out (grownBy_set h2 h4))
      have H3 : Box (Blk ((wr.setCell ⟨g, k * 2, none⟩ (.bool x.1)).setCell ⟨g, k * 2 + 1, none⟩ (.string x.2)) B3 54 [.bool x.1, .string x.2]) := ⟨(HB.out.other (Ne.symm hgB) _).other (Ne.symm hgB) _⟩
      clear h1 h2 h3 h4
      have w1 : IntKind.i64.wrap ((k : Int) + 1) = (k : Int) + 1 := IntWalk.i64_in _ (by omega)
      go_wp2_with fail
      go_roundw
      case rel => exact ⟨k + 1, _, hlt, by go_num, H1, H2, H3⟩
      case measure => simp [intOf]; omega
    · go_wp2_with fail
      refine bodyPost_end (by simp [results, Try.results33, go_sem]) rfl ⟨rfl, HG.out⟩

set_option maxRecDepth 20000 in
set_option maxHeartbeats 2000000 in
theorem cloneSlots_any (ls : List (Bool × ByteArray)) (ao : Option Addr) (cap : Nat) (w : World) (h : LeafM.At w ao ls) (hnil : ao = none → cap = 0) (hn : ls.length ≤ 1000000000000) :
    Calls Try.prog 32 #[.slice ao ls.length cap] w fun e w' => (∃ v, e = .returned v ∧ w'.ownsRow w.heap.size 54 2 v ls.length (LeafM.cells ls)) ∧ Below w.heap.size w w' := by
  have H := box h
  clear h
  cases ao with
  | none =>
    have hl : ls = [] := H.out.resolve_right (by rintro ⟨b, off, h, _⟩; cases h)
    have hc := hnil rfl
    subst hl
    subst hc
    have q0 := fun (w : World) (a : Option Addr) (n c : Nat) => run_eql_slice_nil (P := Try.prog) w 48 54 a n c Try.underlying48
    go_enter Try.func32, Try.ntmps32
    go_wp2_with fail
    go_ret
    exact ⟨⟨_, rfl, World.ownsRow_nil _ _ _ _⟩, Below.refl _ _⟩
  | some ad =>
    obtain ⟨i0, hi0, hz0, hz1, hz2⟩ := info_parts Try.infoSlot
    have Hcs : Box (∀ wx, Below w.heap.size w wx → ∀ j u, (LeafM.cells ls)[j]? = some u → wx.cell? (ad.add j) = some u) := ⟨fun wx hx j u hu => by
      rcases H.out with h | ⟨b, off, h1, h2, h3⟩
      · subst h; simp [LeafM.cells] at hu
      · injection h1 with h1
        subst h1
        exact LeafM.slots_cells (h3.below hx h2) j u hu⟩
    clear hnil
    have q0 := fun (w : World) (a : Option Addr) (n c : Nat) => run_eql_slice_nil (P := Try.prog) w 48 54 a n c Try.underlying48
    go_enter Try.func32, Try.ntmps32
    have hown := World.ownsRow_lit (base := w.heap.size) (e := 54) (size := 2) w #[] 0 (Nat.le_refl _) (Nat.zero_le _) rfl
    have HB := box ((Below.refl w.heap.size w).alloc (Nat.le_refl _) (.cells #[] 54))
    go_wp2_with (at_builtin; go_must (refine wpList_append_own _ rfl _ _ 48 rfl w.heap.size 54 i0 _ 2 24 Try.underlying48 hi0 hz0 hz1 hz2 rfl (by decide) _ _ _ rfl hown ad ls.length cap (LeafM.cells ls) rfl (LeafM.cells_len ls) (Hcs.out _ HB.out) (LeafM.cells_one ls) (by unfold maxLen; omega) (by omega) (by simp) ?_))
    intro v' w9 hown3 hgrow _
    have HB9 := box (HB.out.grown hgrow (by simp) (fun j hj => by have := hown.lt j hj; omega))
    clear hgrow hown
    go_wp2_with fail
    go_ret
    exact ⟨⟨_, rfl, by simpa using hown3⟩, HB9.out⟩
end Go.Proofs.Ytnolidjjeknmmaa
