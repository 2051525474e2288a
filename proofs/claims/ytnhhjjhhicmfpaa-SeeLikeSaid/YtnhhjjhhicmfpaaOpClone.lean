/- slices.Clone over operations. -/
import Derived.Test.YtnhhjjhhicmfpaaOpsRow
import Derived.Deep.DeepMust
import Derived.Lib.LazyBuf
namespace Go.Proofs.Ytnhhjjhhicmfpaa
open Go.RowKit Go.Lib

theorem Try.infoOpE : (Try.prog.info? 25).map (fun i => (i.zero, i.size, i.bytes)) = some (some (.agg #[.int .i64 0, .int .i64 0, .int .i64 0]), 3, 24) := by kernel_rfl

set_option maxRecDepth 20000 in
set_option maxHeartbeats 2000000 in
theorem clone_ops (l : List OpM) (ao : Option Addr) (cap : Nat) (w : World) (h : OpsAt w ao l) (hnil : ao = none → cap = 0) (hn : l.length ≤ 1000000000) :
    Calls Try.prog 23 #[.slice ao l.length cap] w fun e w' => (∃ v, e = .returned v ∧ w'.ownsRow w.heap.size 25 3 v l.length (opVals l)) ∧ Below w.heap.size w w' := by
  have H := box h
  clear h
  have q0 := fun (w : World) (a : Option Addr) (n c : Nat) => _root_.Go.run_eql_slice_nil (P := Try.prog) w 22 25 a n c Try.underlying22
  cases ao with
  | none =>
    have hl : l = [] := H.out.resolve_right (by rintro ⟨b, off, h, _⟩; cases h)
    have hc := hnil rfl
    subst hl
    subst hc
    go_enter Try.func23, Try.ntmps23
    go_wp2_with fail
    go_ret
    exact ⟨⟨_, rfl, World.ownsRow_nil _ _ _ _⟩, Below.refl _ _⟩
  | some ad =>
    obtain ⟨i0, hi0, hz0, hz1, hz2⟩ := info_parts Try.infoOpE
    have Hcs : Box (∀ wx, Below w.heap.size w wx → ∀ j u, (opVals l)[j]? = some u → wx.cell? (ad.add j) = some u) := ⟨fun wx hx j u hu => by
      rcases H.out with h | ⟨b, off, h1, h2, h3⟩
      · subst h; simp [opVals] at hu
      · injection h1 with h1
        subst h1
        have hj : j < l.length * 3 := by have := (List.getElem?_eq_some_iff.1 hu).1; rw [opVals_len] at this; exact this
        rw [Addr.add_lit]
        refine (hx.cell (p := ⟨b, off + j, none⟩) h2).trans ?_
        have hk : j / 3 < l.length := by omega
        obtain ⟨a0, a1, a2⟩ := opVals_at l (j / 3) hk
        obtain ⟨c0, c1, c2⟩ := h3 (j / 3) hk
        rcases (show j % 3 = 0 ∨ j % 3 = 1 ∨ j % 3 = 2 by omega) with e | e | e
        · have ej : j / 3 * 3 = j := by omega
          rw [ej] at a0 c0
          rw [c0, ← a0, hu]
        · have ej : j / 3 * 3 + 1 = j := by omega
          rw [ej] at a1
          rw [show off + j / 3 * 3 + 1 = off + j by omega] at c1
          rw [c1, ← a1, hu]
        · have ej : j / 3 * 3 + 2 = j := by omega
          rw [ej] at a2
          rw [show off + j / 3 * 3 + 2 = off + j by omega] at c2
          rw [c2, ← a2, hu]⟩
    clear hnil
    go_enter Try.func23, Try.ntmps23
    have hown := World.ownsRow_lit (base := w.heap.size) (e := 25) (size := 3) w #[] 0 (Nat.le_refl _) (Nat.zero_le _) rfl
    have HB := box ((Below.refl w.heap.size w).alloc (Nat.le_refl _) (.cells #[] 25))
    go_wp2_with (at_builtin; go_must (refine wpList_append_own _ rfl _ _ 22 rfl w.heap.size 25 i0 _ 3 24 Try.underlying22 hi0 hz0 hz1 hz2 rfl (by decide) _ _ _ rfl hown ad l.length cap (opVals l) rfl (opVals_len l) (Hcs.out _ HB.out) (opVals_one' l) (by unfold maxLen; omega) (by omega) (by simp) ?_))
    intro v' w9 hown3 hgrow _
    have HB9 := box (HB.out.grown hgrow (by simp) (fun j hj => by have := hown.lt j hj; omega))
    clear hgrow hown
    go_wp2_with fail
    go_ret
    exact ⟨⟨_, rfl, by simpa using hown3⟩, HB9.out⟩

end Go.Proofs.Ytnhhjjhhicmfpaa
