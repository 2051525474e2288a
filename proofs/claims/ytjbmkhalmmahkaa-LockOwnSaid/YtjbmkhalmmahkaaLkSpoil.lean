/- spoil over api.Lock: what it does (printed by mkample.py). -/
import Derived.Test.YtjbmkhalmmahkaaLkAmple
namespace Go.Proofs.Ytjbmkhalmmahkaa
open Go.RowKit Go.Lib

set_option maxRecDepth 20000 in
set_option maxHeartbeats 4000000 in
theorem spoilLk_any (base g n cap : Nat) (x : LkM) (xs : List Value) (w : World) (h : w.ownsRow base 28 2 (.slice (some ⟨g, 0, none⟩) n cap) n xs) (hn : n ≤ cap) :
    Calls Try.prog 12 #[.slice (some ⟨g, 0, none⟩) n cap, .agg #[.int .i64 x.tx, .int .i64 x.mode]] w (SpoilPost2 w g) := by
  obtain ⟨ys, hys⟩ := own_fullN h
  have hgw : g < w.heap.size := (h.lt g rfl).2
  have hcapm : cap ≤ 9223372036854775807 := by
    rcases hys.2 with ⟨h1, _⟩ | ⟨g', cap', cur, h1, h2, h3, h4, h5, h6, h7⟩
    · cases h1
    · simp only [Value.slice.injEq, Option.some.injEq, Addr.mk.injEq, and_true, true_and] at h1
      obtain ⟨rfl, _, rfl⟩ := h1
      unfold maxLen at h5
      omega
  have HY := box hys
  clear h hys
  have hc1 : (n : Int) ≤ (cap : Int) := by omega
  go_enter Try.func12, Try.ntmps12
  go_upto_region 1 with (fail)
  refine name_world (fun W => w.grownBy W (some g) ∧ w.heap.size < W.heap.size ∧ Blk W w.heap.size 28 [.int .i64 x.tx, .int .i64 x.mode] ∧ W.ownsRow base 28 2 (.slice (some ⟨g, 0, none⟩) cap cap) cap ys) ⟨⟨rfl, rfl, rfl, by simp, fun k hk _ => Below.heap_alloc _ _ _ hk⟩, by simp, Blk.new _ _ _, HY.out.alloc _⟩ ?_
  rintro W ⟨hgW, hsW, hB3, hoW⟩
  have HGW := box hgW; have HB3 := box hB3; have HOW := box hoW
  have hgB : g ≠ w.heap.size := by omega
  obtain ⟨B3, HBe⟩ : ∃ x, Box (w.heap.size = x) := ⟨_, ⟨rfl⟩⟩
  rw [HBe.out] at hB3 hsW HB3 hgB ⊢
  clear hgW hB3 hoW HY
  go_wp2_with fail
  go_loopw [11] (fun t11 wr => ∃ (k : Nat) (zs : List Value), k ≤ cap ∧ t11 = .int .i64 (k : Int) ∧ Box (wr.ownsRow base 28 2 (.slice (some ⟨g, 0, none⟩) cap cap) cap zs) ∧ Box (w.grownBy wr (some g)) ∧ Box (Blk wr B3 28 [.int .i64 x.tx, .int .i64 x.mode])) (fun t11 _ => cap - (intOf t11).toNat)
  case atStart => exact ⟨0, ys, Nat.zero_le _, rfl, HOW, HGW, HB3⟩
  case round =>
    obtain ⟨k, zs, hk, rfl, HZ, HG, HB⟩ := hrel
    by_cases hlt : k < cap
    · have hx0 := HB.out.cell (i := 0) rfl
      have hx1 := HB.out.cell (i := 1) rfl
      obtain ⟨z0, hz0⟩ : ∃ z, wr.cell? ⟨g, k * 2, none⟩ = some z := by
        have hz := HZ.out.cellAt (k * 2) (by omega)
        have hzl := HZ.out.1
        rw [List.getElem?_eq_getElem (by omega)] at hz
        exact ⟨_, hz⟩
      obtain ⟨z1, hz1⟩ : ∃ z, wr.cell? ⟨g, k * 2 + 1, none⟩ = some z := by
        have hz := HZ.out.cellAt (k * 2 + 1) (by omega)
        have hzl := HZ.out.1
        rw [List.getElem?_eq_getElem (by omega)] at hz
        exact ⟨_, hz⟩
      have hf0 := HZ.out.frozenAt (k * 2)
      have hf1 := HZ.out.frozenAt (k * 2 + 1)
      obtain ⟨h0, g0⟩ := HZ.out.stored (k * 2) (.int .i64 x.tx)
      obtain ⟨h1, g1⟩ := h0.stored (k * 2 + 1) (.int .i64 x.mode)
      have H1 := box h1
      have H2 := box (grownBy_set (grownBy_set (HG.out) g0) g1)
      have H3 : Box (Blk ((wr.setCell ⟨g, k * 2, none⟩ (.int .i64 x.tx)).setCell ⟨g, k * 2 + 1, none⟩ (.int .i64 x.mode)) B3 28 [.int .i64 x.tx, .int .i64 x.mode]) := ⟨((HB.out.other (Ne.symm hgB) _).other (Ne.symm hgB) _)⟩
      clear h0 g0 h1 g1
      have w1 : IntKind.i64.wrap ((k : Int) + 1) = (k : Int) + 1 := IntWalk.i64_in _ (by omega)
      go_wp2_with fail
      go_roundw
      case rel => exact ⟨k + 1, _, hlt, by go_num, H1, H2, H3⟩
      case measure => simp [intOf]; omega
    · go_wp2_with fail
      refine bodyPost_end (by simp [results, Try.results12, go_sem]) rfl ⟨rfl, HG.out⟩

set_option maxRecDepth 20000 in
set_option maxHeartbeats 4000000 in
theorem spoilLk_nil (x : LkM) (w : World) :
    Calls Try.prog 12 #[.slice none 0 0, .agg #[.int .i64 x.tx, .int .i64 x.mode]] w fun e w' => e = .returned (.tuple #[]) ∧ Below w.heap.size w w' := by
  have HB := box ((Below.refl w.heap.size w).alloc (Nat.le_refl _) (.cells #[.int .i64 x.tx, .int .i64 x.mode] 28))
  go_enter Try.func12, Try.ntmps12
  go_wp2_with fail
  refine wp_loop_rounds 1 ?_
  rw [rounds_succ]
  go_wp2_with fail
  refine bodyPost_end (by simp [results, Try.results12, go_sem]) rfl ⟨rfl, HB.out⟩
end Go.Proofs.Ytjbmkhalmmahkaa
