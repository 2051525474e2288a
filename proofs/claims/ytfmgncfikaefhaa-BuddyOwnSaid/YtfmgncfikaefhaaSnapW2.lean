/- The world of snap.Play: what changes it. -/
import Derived.Test.YtfmgncfikaefhaaSnapW
namespace Go.Proofs.Ytfmgncfikaefhaa
open Go.RowKit Go.Lib

theorem Fam.congr {w : World} {base N e size : Nat} {v : Nat → Value} {m m' : Nat → Nat} {xs xs' : Nat → List Value} (h : Fam w base N e size v m xs) (h1 : ∀ i, i < N → m' i = m i) (h2 : ∀ i, i < N → xs' i = xs i) : Fam w base N e size v m' xs' :=
  ⟨fun i hi => by rw [h1 i hi, h2 i hi]; exact h.own i hi, h.apart⟩
/-- Row k is none any more. -/
theorem Fam.reset {w : World} {base N e size : Nat} {v : Nat → Value} {m : Nat → Nat} {xs : Nat → List Value} (h : Fam w base N e size v m xs) (k : Nat) : Fam w base N e size (upd v k (.slice none 0 0)) (upd m k 0) (upd xs k []) := by
  refine ⟨fun i hi => ?_, fun i j hi hj hij g h1 => ?_⟩
  · by_cases e : i = k
    · subst e; rw [upd_same, upd_same, upd_same]; exact World.ownsRow_nil _ _ _ _
    · rw [upd_other _ _ e, upd_other _ _ e, upd_other _ _ e]; exact h.own i hi
  · by_cases ei : i = k
    · subst ei; rw [upd_same] at h1; simp [Value.ownBlock] at h1
    · rw [upd_other _ _ ei] at h1
      by_cases ej : j = k
      · subst ej; rw [upd_same]; simp [Value.ownBlock]
      · rw [upd_other _ _ ej]; exact h.apart i j hi hj hij g h1

section
variable {w wr : World} {N : Nat} {st : SnSt} {vw vv : Nat → Value}
theorem SnapM.cell_updV (i : Nat) (v' : Value) (vs : Nat → List VerM) : upd (SnapM.cell st vw vv) (37 + i) v' = SnapM.cell { st with vs := vs } vw (upd vv i v') := by
  funext j
  unfold SnapM.cell upd
  dsimp only
  by_cases e : j = 37 + i
  · subst e
    rw [if_pos rfl, if_neg (by omega), if_neg (by omega), if_pos (by omega)]
  · rw [if_neg e]
    by_cases h1 : j < 36
    · rw [if_pos h1, if_pos h1]
    · rw [if_neg h1, if_neg h1]
      by_cases h2 : j = 36
      · rw [if_pos h2, if_pos h2]
      · rw [if_neg h2, if_neg h2, if_neg (by omega)]
theorem SnapM.cell_updW (x : Nat) (hx : x < 12) (v' : Value) (ws : Nat → List Int) : upd (SnapM.cell st vw vv) (x * 3 + 2) v' = SnapM.cell { st with wr := ws } (upd vw x v') vv := by
  funext j
  unfold SnapM.cell upd
  dsimp only
  by_cases e : j = x * 3 + 2
  · subst e
    rw [if_pos rfl, if_pos (by omega), if_neg (by omega), if_neg (by omega), if_pos (by omega)]
  · rw [if_neg e]
    by_cases h1 : j < 36
    · rw [if_pos h1, if_pos h1]
      by_cases h2 : j % 3 = 0
      · rw [if_pos h2, if_pos h2]
      · rw [if_neg h2, if_neg h2]
        by_cases h3 : j % 3 = 1
        · rw [if_pos h3, if_pos h3]
        · rw [if_neg h3, if_neg h3, if_neg (by omega)]
    · rw [if_neg h1, if_neg h1]
theorem SnapM.cell_updF (x : Nat) (hx : x < 12) (n : Int) : upd (SnapM.cell st vw vv) (x * 3 + 1) (.int .i64 n) = SnapM.cell { st with fr := upd st.fr x n } vw vv := by
  funext j
  unfold SnapM.cell upd
  dsimp only
  by_cases e : j = x * 3 + 1
  · subst e
    rw [if_pos rfl, if_pos (by omega), if_neg (by omega), if_pos (by omega), if_pos (by omega)]
  · rw [if_neg e]
    by_cases h1 : j < 36
    · rw [if_pos h1, if_pos h1]
      by_cases h2 : j % 3 = 0
      · rw [if_pos h2, if_pos h2]
      · rw [if_neg h2, if_neg h2]
        by_cases h3 : j % 3 = 1
        · rw [if_pos h3, if_pos h3, if_neg (by omega)]
        · rw [if_neg h3, if_neg h3]
    · rw [if_neg h1, if_neg h1]
theorem SnapM.cell_updB (x : Nat) (hx : x < 12) (b : Bool) : upd (SnapM.cell st vw vv) (x * 3) (.bool b) = SnapM.cell { st with began := upd st.began x b } vw vv := by
  funext j
  unfold SnapM.cell upd
  dsimp only
  by_cases e : j = x * 3
  · subst e
    rw [if_pos rfl, if_pos (by omega), if_pos (by omega), if_pos (by omega)]
  · rw [if_neg e]
    by_cases h1 : j < 36
    · rw [if_pos h1, if_pos h1]
      by_cases h2 : j % 3 = 0
      · rw [if_pos h2, if_pos h2, if_neg (by omega)]
      · rw [if_neg h2, if_neg h2]
    · rw [if_neg h1, if_neg h1]
theorem SnapM.cell_updD (n : Int) : upd (SnapM.cell st vw vv) 36 (.int .i64 n) = SnapM.cell { st with done := n } vw vv := by
  funext j
  unfold SnapM.cell upd
  dsimp only
  by_cases e : j = 36
  · subst e
    rw [if_pos rfl, if_neg (by omega), if_pos rfl]
  · rw [if_neg e]
    by_cases h1 : j < 36
    · rw [if_pos h1, if_pos h1]
    · rw [if_neg h1, if_neg h1, if_neg e, if_neg e]

theorem SnapM.SW.setDone (h : SnapM.SW w N st vw vv wr) (n : Int) : SnapM.SW w N { st with done := n } vw vv (wr.setCell ⟨N, 36, none⟩ (.int .i64 n)) := by
  refine ⟨h.lt, ?_, h.fw.setCell h.b0 (by decide) _ _, h.fv.setCell h.b0 (by decide) _ _, h.below.setCell h.lt _⟩
  have := h.b0.tabSet 36 (.int .i64 n)
  rwa [SnapM.cell_updD] at this
theorem SnapM.SW.setBegan (h : SnapM.SW w N st vw vv wr) {x : Nat} (hx : x < 12) (b : Bool) : SnapM.SW w N { st with began := upd st.began x b } vw vv (wr.setCell ⟨N, x * 3, none⟩ (.bool b)) := by
  refine ⟨h.lt, ?_, h.fw.setCell h.b0 (by decide) _ _, h.fv.setCell h.b0 (by decide) _ _, h.below.setCell h.lt _⟩
  have := h.b0.tabSet (x * 3) (.bool b)
  rwa [SnapM.cell_updB x hx] at this
theorem SnapM.SW.setFr (h : SnapM.SW w N st vw vv wr) {x : Nat} (hx : x < 12) (n : Int) : SnapM.SW w N { st with fr := upd st.fr x n } vw vv (wr.setCell ⟨N, x * 3 + 1, none⟩ (.int .i64 n)) := by
  refine ⟨h.lt, ?_, h.fw.setCell h.b0 (by decide) _ _, h.fv.setCell h.b0 (by decide) _ _, h.below.setCell h.lt _⟩
  have := h.b0.tabSet (x * 3 + 1) (.int .i64 n)
  rwa [SnapM.cell_updF x hx] at this
theorem SnapM.SW.setNone (h : SnapM.SW w N st vw vv wr) {x : Nat} (hx : x < 12) : SnapM.SW w N { st with wr := upd st.wr x [] } (upd vw x (.slice none 0 0)) vv (wr.setCell ⟨N, x * 3 + 2, none⟩ (.slice none 0 0)) := by
  refine ⟨h.lt, ?_, ?_, h.fv.setCell h.b0 (by decide) _ _, h.below.setCell h.lt _⟩
  · have := h.b0.tabSet (x * 3 + 2) (.slice none 0 0)
    rwa [SnapM.cell_updW x hx] at this
  · refine ((h.fw.reset x).congr (fun i _ => ?_) (fun i _ => ?_)).setCell h.b0 (by decide) _ _
    · simp only [upd]; split <;> rfl
    · simp only [upd]; split <;> rfl
/-- A version more. -/
theorem SnapM.SW.putV (h : SnapM.SW w N st vw vv wr) {w1 : World} {it g cap : Nat} {k t : Int} (hi : it < 20) (ho : w1.ownsRow w.heap.size 139 2 (.slice (some ⟨g, 0, none⟩) ((st.vs it).length + 1) cap) ((st.vs it).length + 1) (verVals (st.vs it) ++ [.int .i64 k, .int .i64 t])) (hg : wr.grownBy w1 (vv it).ownBlock)
    (hat : (vv it).ownBlock = some g ∨ g = wr.heap.size) : SnapM.SW w N { st with vs := upd st.vs it (st.vs it ++ [⟨k, t⟩]) } vw (upd vv it (.slice (some ⟨g, 0, none⟩) ((st.vs it).length + 1) cap)) (w1.setCell ⟨N, 37 + it, none⟩ (.slice (some ⟨g, 0, none⟩) ((st.vs it).length + 1) cap)) := by
  have b1 := h.b0.grown hg (h.b0.ne_own (h.fv.own it hi) (by decide))
  have f1 := h.fw.kept hg (fun i hi' => own_apart (h.fw.own i hi') (h.fv.own it hi) (by decide))
  have f2 := h.fv.append hi ho hg (by rcases hat with h | h; · exact Or.inl h.symm
                                      · exact Or.inr (by rw [h]; rfl))
  refine ⟨h.lt, ?_, f1.setCell b1 (by decide) _ _, ?_, (h.below.grown hg h.below.size (fun b hb => ((h.fv.own it hi).lt b hb).1)).setCell h.lt _⟩
  · have := b1.tabSet (37 + it) (.slice (some ⟨g, 0, none⟩) ((st.vs it).length + 1) cap)
    rwa [SnapM.cell_updV] at this
  · refine (f2.congr (fun i _ => ?_) (fun i _ => ?_)).setCell b1 (by decide) _ _
    · simp only [upd]
      by_cases e : i = it
      · subst e; simp
      · simp [e]
    · simp only [upd]
      by_cases e : i = it
      · subst e; simp [verVals]
      · simp [e]
/-- An item more. -/
theorem SnapM.SW.putW (h : SnapM.SW w N st vw vv wr) {w1 : World} {x g cap : Nat} {k : Int} (hi : x < 12) (ho : w1.ownsRow w.heap.size 3 1 (.slice (some ⟨g, 0, none⟩) ((st.wr x).length + 1) cap) ((st.wr x).length + 1) (intVals (st.wr x) ++ [.int .i64 k])) (hg : wr.grownBy w1 (vw x).ownBlock)
    (hat : (vw x).ownBlock = some g ∨ g = wr.heap.size) : SnapM.SW w N { st with wr := upd st.wr x (st.wr x ++ [k]) } (upd vw x (.slice (some ⟨g, 0, none⟩) ((st.wr x).length + 1) cap)) vv (w1.setCell ⟨N, x * 3 + 2, none⟩ (.slice (some ⟨g, 0, none⟩) ((st.wr x).length + 1) cap)) := by
  have b1 := h.b0.grown hg (h.b0.ne_own (h.fw.own x hi) (by decide))
  have f1 := h.fv.kept hg (fun i hi' => own_apart (h.fv.own i hi') (h.fw.own x hi) (by decide))
  have f2 := h.fw.append hi ho hg (by rcases hat with h | h; · exact Or.inl h.symm
                                      · exact Or.inr (by rw [h]; rfl))
  refine ⟨h.lt, ?_, ?_, f1.setCell b1 (by decide) _ _, (h.below.grown hg h.below.size (fun b hb => ((h.fw.own x hi).lt b hb).1)).setCell h.lt _⟩
  · have := b1.tabSet (x * 3 + 2) (.slice (some ⟨g, 0, none⟩) ((st.wr x).length + 1) cap)
    rwa [SnapM.cell_updW x hi] at this
  · refine (f2.congr (fun i _ => ?_) (fun i _ => ?_)).setCell b1 (by decide) _ _
    · simp only [upd]
      by_cases e : i = x
      · subst e; simp
      · simp [e]
    · simp only [upd]
      by_cases e : i = x
      · subst e; simp [intVals]
      · simp [e]
end
/-- A row of another kind stays. -/
theorem SnapM.Kept.own {N base n e sz t : Nat} {w w' : World} {v : Value} {xs C : List Value} (h : SnapM.Kept N w w') (ho : w.ownsRow base e sz v n xs) (hN : Blk w N t C) (ht : t ≠ e) (h1 : e ≠ 3) (h2 : e ≠ 139) : w'.ownsRow base e sz v n xs := by
  refine ⟨ho.1, ?_⟩
  rcases ho.2 with h3 | ⟨g, cap, cur, rfl, h3, h4, h5⟩
  · exact Or.inl h3
  · refine Or.inr ⟨g, cap, cur, rfl, h3, h.same _ _ _ _ h4 (fun e0 => ?_) h1 h2, h5⟩
    have := hN.ne_own ho ht
    rw [e0] at this
    exact this rfl
end Go.Proofs.Ytfmgncfikaefhaa
