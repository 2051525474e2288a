/- The world of skew.Play. -/
import Derived.Test.YtgkclgmekbgjmaaSkL
import Derived.Test.YtgkclgmekbgjmaaDidA
import Derived.Test.YtgkclgmekbgjmaaIntIdx
import Derived.BigQuiet
namespace Go.Proofs.Ytgkclgmekbgjmaa
open Go.RowKit Go.Lib

/-- The table's cells. -/
def SkM.cell (st : SkSt) (v : Nat → Value) (i : Nat) : Value :=
  if i < 72 then (if i % 6 = 0 then .bool (st.began (i / 6)) else if i % 6 = 1 then .bool (st.dn (i / 6)) else if i % 6 = 2 then .int .i64 (st.fr (i / 6)) else if i % 6 = 3 then .int .i64 (st.at_ (i / 6)) else if i % 6 = 4 then v (i / 6) else v (12 + i / 6))
  else if i = 72 then .int .i64 st.done else v (24 + (i - 73))
/-- Where row r's slice stands. -/
def SkM.place (r : Nat) : Nat := if r < 12 then r * 6 + 4 else if r < 24 then (r - 12) * 6 + 5 else 73 + (r - 24)
theorem SkM.place_rd {x : Nat} (h : x < 12) : SkM.place x = x * 6 + 4 := if_pos h
theorem SkM.place_wr {x : Nat} (h : x < 12) : SkM.place (12 + x) = x * 6 + 5 := by unfold SkM.place; rw [if_neg (by omega), if_pos (by omega)]; omega
theorem SkM.place_ws (i : Nat) : SkM.place (24 + i) = 73 + i := by unfold SkM.place; rw [if_neg (by omega), if_neg (by omega)]; omega
section
variable {st : SkSt} {v : Nat → Value}
theorem SkM.cell_began (x : Nat) (h : x < 12) : SkM.cell st v (x * 6) = .bool (st.began x) := by
  unfold SkM.cell; rw [if_pos (by omega), if_pos (by omega), show x * 6 / 6 = x by omega]
theorem SkM.cell_dn (x : Nat) (h : x < 12) : SkM.cell st v (x * 6 + 1) = .bool (st.dn x) := by
  unfold SkM.cell; rw [if_pos (by omega), if_neg (by omega), if_pos (by omega), show (x * 6 + 1) / 6 = x by omega]
theorem SkM.cell_fr (x : Nat) (h : x < 12) : SkM.cell st v (x * 6 + 2) = .int .i64 (st.fr x) := by
  unfold SkM.cell; rw [if_pos (by omega), if_neg (by omega), if_neg (by omega), if_pos (by omega), show (x * 6 + 2) / 6 = x by omega]
theorem SkM.cell_at (x : Nat) (h : x < 12) : SkM.cell st v (x * 6 + 3) = .int .i64 (st.at_ x) := by
  unfold SkM.cell; rw [if_pos (by omega), if_neg (by omega), if_neg (by omega), if_neg (by omega), if_pos (by omega), show (x * 6 + 3) / 6 = x by omega]
theorem SkM.cell_rd (x : Nat) (h : x < 12) : SkM.cell st v (x * 6 + 4) = v x := by
  unfold SkM.cell; rw [if_pos (by omega), if_neg (by omega), if_neg (by omega), if_neg (by omega), if_neg (by omega), if_pos (by omega), show (x * 6 + 4) / 6 = x by omega]
theorem SkM.cell_wr (x : Nat) (h : x < 12) : SkM.cell st v (x * 6 + 5) = v (12 + x) := by
  unfold SkM.cell; rw [if_pos (by omega), if_neg (by omega), if_neg (by omega), if_neg (by omega), if_neg (by omega), if_neg (by omega), show (x * 6 + 5) / 6 = x by omega]
theorem SkM.cell_done : SkM.cell st v 72 = .int .i64 st.done := rfl
theorem SkM.cell_ws (i : Nat) : SkM.cell st v (73 + i) = v (24 + i) := by
  unfold SkM.cell; rw [if_neg (by omega), if_neg (by omega), show 73 + i - 73 = i by omega]
theorem SkM.cell_updR (r : Nat) (hr : r < 44) (v' : Value) (rows : Nat → List Int) : upd (SkM.cell st v) (SkM.place r) v' = SkM.cell { st with rows := rows } (upd v r v') := by
  funext j
  unfold SkM.cell upd SkM.place
  dsimp only
  by_cases h1 : r < 12
  · rw [if_pos h1]
    by_cases e : j = r * 6 + 4
    · subst e
      rw [if_pos rfl, if_pos (by omega), if_neg (by omega), if_neg (by omega), if_neg (by omega), if_neg (by omega), if_pos (by omega), if_pos (by omega)]
    · rw [if_neg e]
      by_cases hj : j < 72
      · rw [if_pos hj, if_pos hj]
        by_cases m4 : j % 6 = 4
        · rw [if_neg (by omega : ¬ j % 6 = 0), if_neg (by omega : ¬ j % 6 = 1), if_neg (by omega : ¬ j % 6 = 2), if_neg (by omega : ¬ j % 6 = 3), if_pos m4, if_neg (by omega : ¬ j % 6 = 0), if_neg (by omega : ¬ j % 6 = 1), if_neg (by omega : ¬ j % 6 = 2), if_neg (by omega : ¬ j % 6 = 3), if_pos m4, if_neg (by omega)]
        · rw [if_neg m4, if_neg m4, if_neg (by omega : ¬ 12 + j / 6 = r)]
      · rw [if_neg hj, if_neg hj]
        by_cases h72 : j = 72
        · rw [if_pos h72, if_pos h72]
        · rw [if_neg h72, if_neg h72, if_neg (by omega)]
  · rw [if_neg h1]
    by_cases h2 : r < 24
    · rw [if_pos h2]
      by_cases e : j = (r - 12) * 6 + 5
      · subst e
        rw [if_pos rfl, if_pos (by omega), if_neg (by omega), if_neg (by omega), if_neg (by omega), if_neg (by omega), if_neg (by omega), if_pos (by omega)]
      · rw [if_neg e]
        by_cases hj : j < 72
        · rw [if_pos hj, if_pos hj]
          by_cases m5 : j % 6 = 5
          · rw [if_neg (by omega : ¬ j % 6 = 0), if_neg (by omega : ¬ j % 6 = 1), if_neg (by omega : ¬ j % 6 = 2), if_neg (by omega : ¬ j % 6 = 3), if_neg (by omega : ¬ j % 6 = 4), if_neg (by omega : ¬ j % 6 = 0), if_neg (by omega : ¬ j % 6 = 1), if_neg (by omega : ¬ j % 6 = 2), if_neg (by omega : ¬ j % 6 = 3), if_neg (by omega : ¬ j % 6 = 4), if_neg (by omega)]
          · by_cases m0 : j % 6 = 0
            · rw [if_pos m0, if_pos m0]
            · rw [if_neg m0, if_neg m0]
              by_cases m1 : j % 6 = 1
              · rw [if_pos m1, if_pos m1]
              · rw [if_neg m1, if_neg m1]
                by_cases m2 : j % 6 = 2
                · rw [if_pos m2, if_pos m2]
                · rw [if_neg m2, if_neg m2]
                  by_cases m3 : j % 6 = 3
                  · rw [if_pos m3, if_pos m3]
                  · rw [if_neg m3, if_neg m3, if_pos (by omega), if_pos (by omega), if_neg (by omega)]
        · rw [if_neg hj, if_neg hj]
          by_cases h72 : j = 72
          · rw [if_pos h72, if_pos h72]
          · rw [if_neg h72, if_neg h72, if_neg (by omega)]
    · rw [if_neg h2]
      by_cases e : j = 73 + (r - 24)
      · subst e
        rw [if_pos rfl, if_neg (by omega), if_neg (by omega), if_pos (by omega)]
      · rw [if_neg e]
        by_cases hj : j < 72
        · rw [if_pos hj, if_pos hj, if_neg (by omega : ¬ j / 6 = r), if_neg (by omega : ¬ 12 + j / 6 = r)]
        · rw [if_neg hj, if_neg hj]
          by_cases h72 : j = 72
          · rw [if_pos h72, if_pos h72]
          · rw [if_neg h72, if_neg h72, if_neg (by omega)]
theorem SkM.cell_updB (x : Nat) (hx : x < 12) (b : Bool) : upd (SkM.cell st v) (x * 6) (.bool b) = SkM.cell { st with began := upd st.began x b } v := by
  funext j
  unfold SkM.cell upd
  dsimp only
  by_cases e : j = x * 6
  · subst e
    rw [if_pos rfl, if_pos (by omega), if_pos (by omega), if_pos (by omega)]
  · rw [if_neg e]
    by_cases hj : j < 72
    · rw [if_pos hj, if_pos hj]
      by_cases m : j % 6 = 0
      · rw [if_pos m, if_pos m, if_neg (by omega)]
      · rw [if_neg m, if_neg m]
    · rw [if_neg hj, if_neg hj]
theorem SkM.cell_updN (x : Nat) (hx : x < 12) (b : Bool) : upd (SkM.cell st v) (x * 6 + 1) (.bool b) = SkM.cell { st with dn := upd st.dn x b } v := by
  funext j
  unfold SkM.cell upd
  dsimp only
  by_cases e : j = x * 6 + 1
  · subst e
    rw [if_pos rfl, if_pos (by omega), if_neg (by omega), if_pos (by omega), if_pos (by omega)]
  · rw [if_neg e]
    by_cases hj : j < 72
    · rw [if_pos hj, if_pos hj]
      by_cases m : j % 6 = 1
      · rw [if_neg (by omega : ¬ j % 6 = 0), if_pos m, if_neg (by omega : ¬ j % 6 = 0), if_pos m, if_neg (by omega)]
      · rw [if_neg m, if_neg m]
    · rw [if_neg hj, if_neg hj]
theorem SkM.cell_updF (x : Nat) (hx : x < 12) (n : Int) : upd (SkM.cell st v) (x * 6 + 2) (.int .i64 n) = SkM.cell { st with fr := upd st.fr x n } v := by
  funext j
  unfold SkM.cell upd
  dsimp only
  by_cases e : j = x * 6 + 2
  · subst e
    rw [if_pos rfl, if_pos (by omega), if_neg (by omega), if_neg (by omega), if_pos (by omega), if_pos (by omega)]
  · rw [if_neg e]
    by_cases hj : j < 72
    · rw [if_pos hj, if_pos hj]
      by_cases m : j % 6 = 2
      · rw [if_neg (by omega : ¬ j % 6 = 0), if_neg (by omega : ¬ j % 6 = 1), if_pos m, if_neg (by omega : ¬ j % 6 = 0), if_neg (by omega : ¬ j % 6 = 1), if_pos m, if_neg (by omega)]
      · rw [if_neg m, if_neg m]
    · rw [if_neg hj, if_neg hj]
theorem SkM.cell_updA (x : Nat) (hx : x < 12) (n : Int) : upd (SkM.cell st v) (x * 6 + 3) (.int .i64 n) = SkM.cell { st with at_ := upd st.at_ x n } v := by
  funext j
  unfold SkM.cell upd
  dsimp only
  by_cases e : j = x * 6 + 3
  · subst e
    rw [if_pos rfl, if_pos (by omega), if_neg (by omega), if_neg (by omega), if_neg (by omega), if_pos (by omega), if_pos (by omega)]
  · rw [if_neg e]
    by_cases hj : j < 72
    · rw [if_pos hj, if_pos hj]
      by_cases m : j % 6 = 3
      · rw [if_neg (by omega : ¬ j % 6 = 0), if_neg (by omega : ¬ j % 6 = 1), if_neg (by omega : ¬ j % 6 = 2), if_pos m, if_neg (by omega : ¬ j % 6 = 0), if_neg (by omega : ¬ j % 6 = 1), if_neg (by omega : ¬ j % 6 = 2), if_pos m, if_neg (by omega)]
      · rw [if_neg m, if_neg m]
    · rw [if_neg hj, if_neg hj]
theorem SkM.cell_updD (n : Int) : upd (SkM.cell st v) 72 (.int .i64 n) = SkM.cell { st with done := n } v := by
  funext j
  unfold SkM.cell upd
  dsimp only
  by_cases e : j = 72
  · subst e
    rw [if_pos rfl, if_neg (by omega), if_pos rfl]
  · rw [if_neg e]
    by_cases h1 : j < 72
    · rw [if_pos h1, if_pos h1]
    · rw [if_neg h1, if_neg h1, if_neg e, if_neg e]
end

structure SkM.SW (w : World) (N : Nat) (st : SkSt) (v : Nat → Value) (wr : World) : Prop where
  lt : w.heap.size ≤ N
  b0 : Blk wr N 130 (Tab 93 (SkM.cell st v))
  fam : Fam wr w.heap.size 44 3 1 v (fun i => (st.rows i).length) (fun i => intVals (st.rows i))
  below : Below w.heap.size w wr

/-- Whatever is none of the table's rows stays as it was. -/
structure SkM.Kept (N : Nat) (w w' : World) : Prop where
  size : w.heap.size ≤ w'.heap.size
  same : ∀ g cs t fr, w.heap[g]? = some (.cells cs t fr) → g ≠ N → t ≠ 3 → w'.heap[g]? = some (.cells cs t fr)
theorem SkM.Kept.refl (N : Nat) (w : World) : SkM.Kept N w w := ⟨Nat.le_refl _, fun _ _ _ _ h _ _ => h⟩
theorem SkM.Kept.trans {N : Nat} {a b c : World} (h : SkM.Kept N a b) (h2 : SkM.Kept N b c) : SkM.Kept N a c :=
  ⟨Nat.le_trans h.size h2.size, fun g cs t fr h0 h1 h3 => h2.same g cs t fr (h.same g cs t fr h0 h1 h3) h1 h3⟩
theorem SkM.Kept.blk {N : Nat} {w w' : World} {b t : Nat} {C : List Value} (h : SkM.Kept N w w') (hb : Blk w b t C) (hN : b ≠ N) (h1 : t ≠ 3) : Blk w' b t C := h.same _ _ _ _ hb hN h1
theorem SkM.Kept.of_below {N : Nat} {w w' : World} (h : Below w.heap.size w w') : SkM.Kept N w w' :=
  ⟨h.size, fun g _ _ _ h0 _ _ => (h.block g (Array.getElem?_eq_some_iff.1 h0).1).trans h0⟩
theorem SkM.Kept.alloc {N : Nat} {w w' : World} (h : SkM.Kept N w w') (o : Obj) : SkM.Kept N w (w'.alloc o) := h.trans (SkM.Kept.of_below ((Below.refl _ _).alloc (Nat.le_refl _) o))
theorem SkM.Kept.drew {N : Nat} {w w' : World} (h : SkM.Kept N w w') : SkM.Kept N w w'.drew := ⟨h.size, h.same⟩
/-- A store into the table, or into what is new. -/
theorem SkM.Kept.set {N : Nat} {w w' : World} (h : SkM.Kept N w w') {b : Nat} (hb : b = N ∨ w.heap.size ≤ b) (o : Nat) (v : Value) : SkM.Kept N w (w'.setCell ⟨b, o, none⟩ v) :=
  ⟨by rw [World.size_setCell]; exact h.size, fun g cs t fr h0 h1 h3 => by
    have h5 := h.same g cs t fr h0 h1 h3
    have hl : g < w.heap.size := (Array.getElem?_eq_some_iff.1 h0).1
    rw [Below.heap_setCell _ _ _ _ (by show g ≠ b; omega)]
    exact h5⟩
theorem SkM.Kept.grown {N base n : Nat} {sz : Nat} {w w' w2 : World} {v : Value} {xs : List Value} (h : SkM.Kept N w w') (ho : w'.ownsRow base 3 sz v n xs) (hg : w'.grownBy w2 v.ownBlock) : SkM.Kept N w w2 :=
  ⟨Nat.le_trans h.size hg.size, fun g cs t fr h0 h1 h3 => by
    have h5 := h.same g cs t fr h0 h1 h3
    rw [hg.block g (Array.getElem?_eq_some_iff.1 h5).1]
    · exact h5
    · intro h6
      rcases ho.2 with ⟨rfl, _⟩ | ⟨g', cap, cur, rfl, _, hh, _⟩
      · simp [Value.ownBlock] at h6
      · simp only [Value.ownBlock, Option.some.injEq] at h6
        subst h6
        rw [h5] at hh
        simp at hh
        exact h3 hh.2.1⟩
/-- A row of another kind stays. -/
theorem SkM.Kept.own {N base n e sz t : Nat} {w w' : World} {v : Value} {xs C : List Value} (h : SkM.Kept N w w') (ho : w.ownsRow base e sz v n xs) (hN : Blk w N t C) (ht : t ≠ e) (h1 : e ≠ 3) : w'.ownsRow base e sz v n xs := by
  refine ⟨ho.1, ?_⟩
  rcases ho.2 with h3 | ⟨g, cap, cur, rfl, h3, h4, h5⟩
  · exact Or.inl h3
  · refine Or.inr ⟨g, cap, cur, rfl, h3, h.same _ _ _ _ h4 (fun e0 => ?_) h1, h5⟩
    have := hN.ne_own ho ht
    rw [e0] at this
    exact this rfl

section
variable {w wr : World} {N : Nat} {st : SkSt} {v : Nat → Value}
theorem SkM.SW.alloc (h : SkM.SW w N st v wr) (o : Obj) : SkM.SW w N st v (wr.alloc o) := ⟨h.lt, h.b0.alloc o, h.fam.alloc o, h.below.alloc h.below.size o⟩
theorem SkM.SW.drew (h : SkM.SW w N st v wr) : SkM.SW w N st v wr.drew := ⟨h.lt, h.b0.drew, h.fam.drew, h.below.drew⟩
theorem SkM.SW.after {w' : World} (h : SkM.SW w N st v wr) (hb : Below wr.heap.size wr w') : SkM.SW w N st v w' := ⟨h.lt, h.b0.after hb, h.fam.after hb, below_tr h.below hb⟩
/-- A store into a block of another kind. -/
theorem SkM.SW.other (h : SkM.SW w N st v wr) {b t : Nat} {C : List Value} (hb : Blk wr b t C) (hB : w.heap.size ≤ b) (h0 : t ≠ 130) (h1 : t ≠ 3) (o : Nat) (u : Value) : SkM.SW w N st v (wr.setCell ⟨b, o, none⟩ u) :=
  ⟨h.lt, h.b0.other (by have := hb.ne h.b0 h0; show N ≠ b; omega) _, h.fam.setCell hb h1 o u, h.below.setCell hB _⟩
theorem SkM.SW.cell (h : SkM.SW w N st v wr) {i : Nat} (hi : i < 93) : wr.cell? ⟨N, i, none⟩ = some (SkM.cell st v i) := h.b0.tabCell hi
theorem SkM.SW.setDone (h : SkM.SW w N st v wr) (n : Int) : SkM.SW w N { st with done := n } v (wr.setCell ⟨N, 72, none⟩ (.int .i64 n)) := by
  refine ⟨h.lt, ?_, h.fam.setCell h.b0 (by decide) _ _, h.below.setCell h.lt _⟩
  have := h.b0.tabSet 72 (.int .i64 n)
  rwa [SkM.cell_updD] at this
theorem SkM.SW.setBegan (h : SkM.SW w N st v wr) {x : Nat} (hx : x < 12) (b : Bool) : SkM.SW w N { st with began := upd st.began x b } v (wr.setCell ⟨N, x * 6, none⟩ (.bool b)) := by
  refine ⟨h.lt, ?_, h.fam.setCell h.b0 (by decide) _ _, h.below.setCell h.lt _⟩
  have := h.b0.tabSet (x * 6) (.bool b)
  rwa [SkM.cell_updB x hx] at this
theorem SkM.SW.setDn (h : SkM.SW w N st v wr) {x : Nat} (hx : x < 12) (b : Bool) : SkM.SW w N { st with dn := upd st.dn x b } v (wr.setCell ⟨N, x * 6 + 1, none⟩ (.bool b)) := by
  refine ⟨h.lt, ?_, h.fam.setCell h.b0 (by decide) _ _, h.below.setCell h.lt _⟩
  have := h.b0.tabSet (x * 6 + 1) (.bool b)
  rwa [SkM.cell_updN x hx] at this
theorem SkM.SW.setFr (h : SkM.SW w N st v wr) {x : Nat} (hx : x < 12) (n : Int) : SkM.SW w N { st with fr := upd st.fr x n } v (wr.setCell ⟨N, x * 6 + 2, none⟩ (.int .i64 n)) := by
  refine ⟨h.lt, ?_, h.fam.setCell h.b0 (by decide) _ _, h.below.setCell h.lt _⟩
  have := h.b0.tabSet (x * 6 + 2) (.int .i64 n)
  rwa [SkM.cell_updF x hx] at this
theorem SkM.SW.setAt (h : SkM.SW w N st v wr) {x : Nat} (hx : x < 12) (n : Int) : SkM.SW w N { st with at_ := upd st.at_ x n } v (wr.setCell ⟨N, x * 6 + 3, none⟩ (.int .i64 n)) := by
  refine ⟨h.lt, ?_, h.fam.setCell h.b0 (by decide) _ _, h.below.setCell h.lt _⟩
  have := h.b0.tabSet (x * 6 + 3) (.int .i64 n)
  rwa [SkM.cell_updA x hx] at this
theorem SkM.place_lt {r : Nat} (hr : r < 44) : SkM.place r < 93 := by
  unfold SkM.place; split
  · omega
  · split <;> omega
theorem SkM.SW.setNone (h : SkM.SW w N st v wr) {r : Nat} (hr : r < 44) : SkM.SW w N { st with rows := upd st.rows r [] } (upd v r (.slice none 0 0)) (wr.setCell ⟨N, SkM.place r, none⟩ (.slice none 0 0)) := by
  refine ⟨h.lt, ?_, ?_, h.below.setCell h.lt _⟩
  · have := h.b0.tabSet (SkM.place r) (.slice none 0 0)
    rwa [SkM.cell_updR r hr] at this
  · refine ((h.fam.reset r).congr (fun i _ => ?_) (fun i _ => ?_)).setCell h.b0 (by decide) _ _
    · simp only [upd]; split <;> rfl
    · simp only [upd]; split <;> rfl
/-- A number more in row r. -/
theorem SkM.SW.putR (h : SkM.SW w N st v wr) {w1 : World} {r g cap : Nat} {k : Int} (hi : r < 44) (ho : w1.ownsRow w.heap.size 3 1 (.slice (some ⟨g, 0, none⟩) ((st.rows r).length + 1) cap) ((st.rows r).length + 1) (intVals (st.rows r) ++ [.int .i64 k])) (hg : wr.grownBy w1 (v r).ownBlock)
    (hat : (v r).ownBlock = some g ∨ g = wr.heap.size) : SkM.SW w N { st with rows := upd st.rows r (st.rows r ++ [k]) } (upd v r (.slice (some ⟨g, 0, none⟩) ((st.rows r).length + 1) cap)) (w1.setCell ⟨N, SkM.place r, none⟩ (.slice (some ⟨g, 0, none⟩) ((st.rows r).length + 1) cap)) := by
  have b1 := h.b0.grown hg (h.b0.ne_own (h.fam.own r hi) (by decide))
  have f2 := h.fam.append hi ho hg (by rcases hat with h | h; · exact Or.inl h.symm
                                       · exact Or.inr (by rw [h]; rfl))
  refine ⟨h.lt, ?_, ?_, (h.below.grown hg h.below.size (fun b hb => ((h.fam.own r hi).lt b hb).1)).setCell h.lt _⟩
  · have := b1.tabSet (SkM.place r) (.slice (some ⟨g, 0, none⟩) ((st.rows r).length + 1) cap)
    rwa [SkM.cell_updR r hi] at this
  · refine (f2.congr (fun i _ => ?_) (fun i _ => ?_)).setCell b1 (by decide) _ _
    · simp only [upd]
      by_cases e : i = r
      · subst e; simp
      · simp [e]
    · simp only [upd]
      by_cases e : i = r
      · subst e; simp [intVals]
      · simp [e]
/-- Row r as a slice, with its cell and what stands there. -/
theorem SkM.SW.row (h : SkM.SW w N st v wr) {r : Nat} (hr : r < 44) : ∃ ao cap, v r = .slice ao (st.rows r).length cap ∧ IntsAt wr ao (st.rows r) ∧ wr.cell? ⟨N, SkM.place r, none⟩ = some (.slice ao (st.rows r).length cap) ∧ (ao = none → cap = 0) := by
  obtain ⟨ao, cap, h1, _, h2, h3, _⟩ := IntsAt.own (h.fam.own r hr)
  refine ⟨ao, cap, h1, h2, ?_, h3⟩
  rw [h.cell (SkM.place_lt hr), ← h1]
  congr 1
  by_cases h1 : r < 12
  · rw [SkM.place_rd h1, SkM.cell_rd r h1]
  · by_cases h2 : r < 24
    · obtain ⟨x, rfl⟩ : ∃ x, r = 12 + x := ⟨r - 12, by omega⟩
      rw [SkM.place_wr (by omega), SkM.cell_wr x (by omega)]
    · obtain ⟨x, rfl⟩ : ∃ x, r = 24 + x := ⟨r - 24, by omega⟩
      rw [SkM.place_ws, SkM.cell_ws]
end
end Go.Proofs.Ytgkclgmekbgjmaa
