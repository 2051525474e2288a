/- slices.Clone over ints. -/
import Derived.Test.YtnnkejolfhhmlaaGreatInts
import Derived.Deep.DeepMust
import Derived.Lib.LazyBuf
namespace Go.Proofs.YtnnkejolfhhmlaaGreat
open Go.RowKit Go.Lib

theorem IntsM.infoI : (Tryz.prog.info? 3).map (fun i => (i.zero, i.size, i.bytes)) = some (some (.int .i64 0), 1, 8) := by kernel_rfl
set_option maxRecDepth 20000 in
set_option maxHeartbeats 2000000 in
theorem cloneInts_any (l : List Int) (ao : Option Addr) (cap : Nat) (w : World) (h : IntsAt w ao l) (hnil : ao = none → cap = 0) (hn : l.length ≤ 1000000000000) :
    Calls Tryz.prog 147 #[.slice ao l.length cap] w fun e w' => (∃ v, e = .returned v ∧ w'.ownsRow w.heap.size 3 1 v l.length (intVals l)) ∧ Below w.heap.size w w' := by
  have H := box h
  clear h
  cases ao with
  | none =>
    have hl : l = [] := H.out.resolve_right (by rintro ⟨b, off, h, _⟩; cases h)
    have hc := hnil rfl
    subst hl
    subst hc
    have q0 := fun (w : World) (a : Option Addr) (n c : Nat) => run_eql_slice_nil (P := Tryz.prog) w 23 3 a n c Tryz.underlying23
    go_enter Tryz.func147, Tryz.ntmps147
    go_wp2_with fail
    go_ret
    exact ⟨⟨_, rfl, World.ownsRow_nil _ _ _ _⟩, Below.refl _ _⟩
  | some ad =>
    obtain ⟨i0, hi0, hz0, hz1, hz2⟩ := info_parts IntsM.infoI
    have Hcs : Box (∀ wx, Below w.heap.size w wx → ∀ j u, (intVals l)[j]? = some u → wx.cell? (ad.add j) = some u) := ⟨fun wx hx j u hu => by
      rcases H.out with h | ⟨b, off, h1, h2, h3⟩
      · subst h; simp [intVals] at hu
      · injection h1 with h1
        subst h1
        have hj : j < l.length := by have := (List.getElem?_eq_some_iff.1 hu).1; simpa [intVals] using this
        rw [intVals_get hj] at hu
        injection hu with hu
        subst hu
        rw [Addr.add_lit]
        exact (hx.cell (p := ⟨b, off + j, none⟩) h2).trans (h3 j hj)⟩
    clear hnil
    have q0 := fun (w : World) (a : Option Addr) (n c : Nat) => run_eql_slice_nil (P := Tryz.prog) w 23 3 a n c Tryz.underlying23
    go_enter Tryz.func147, Tryz.ntmps147
    have hown := World.ownsRow_lit (base := w.heap.size) (e := 3) (size := 1) w #[] 0 (Nat.le_refl _) (Nat.zero_le _) rfl
    have HB := box ((Below.refl w.heap.size w).alloc (Nat.le_refl _) (.cells #[] 3))
    go_wp2_with (at_builtin; go_must (refine wpList_append_own _ rfl _ _ 23 rfl w.heap.size 3 i0 _ 1 8 Tryz.underlying23 hi0 hz0 hz1 hz2 rfl (by decide) _ _ _ rfl hown ad l.length cap (intVals l) rfl (by rw [intVals_len]; omega) (Hcs.out _ HB.out) (by simp [intVals, Value.oneCell']) (by unfold maxLen; omega) (by omega) (by simp) ?_))
    intro v' w9 hown3 hgrow _
    have HB9 := box (HB.out.grown hgrow (by simp) (fun j hj => by have := hown.lt j hj; omega))
    clear hgrow hown
    go_wp2_with fail
    go_ret
    exact ⟨⟨_, rfl, by simpa using hown3⟩, HB9.out⟩

theorem cloneInts_pos (l : List Int) (ao : Option Addr) (cap : Nat) (w : World) (h : IntsAt w ao l) (h0 : 0 < l.length) (hn : l.length ≤ 1000000000000) :
    Calls Tryz.prog 147 #[.slice ao l.length cap] w fun e w' => (∃ g c, e = .returned (.slice (some ⟨g, 0, none⟩) l.length c) ∧ w.heap.size ≤ g ∧ g < w'.heap.size ∧ w'.ownsRow w.heap.size 3 1 (.slice (some ⟨g, 0, none⟩) l.length c) l.length (intVals l)) ∧ Below w.heap.size w w' := by
  refine (cloneInts_any l ao cap w h (fun e => by
    subst e
    rcases h with h | ⟨b, off, h, _⟩
    · rw [h] at h0; simp at h0
    · cases h) hn).mono ?_
  rintro e w' ⟨⟨v, rfl, hown⟩, hb⟩
  obtain ⟨g, c, rfl, h1, h2, _⟩ := ownsRow_shape hown (by
    rintro rfl
    rcases hown.2 with ⟨_, h⟩ | ⟨g, c, cur, h, _⟩
    · omega
    · cases h)
  exact ⟨⟨g, c, rfl, h1, h2, hown⟩, hb⟩
end Go.Proofs.YtnnkejolfhhmlaaGreat
