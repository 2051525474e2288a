/- The world of snap.Play. -/
import Derived.Test.YtfmgncfikaefhaaSnapM
import Derived.Test.YtfmgncfikaefhaaOpsRow
namespace Go.Proofs.Ytfmgncfikaefhaa
open Go.RowKit Go.Lib

def verVals (l : List VerM) : List Value := l.flatMap fun v => [.int .i64 v.by_, .int .i64 v.at_]
theorem verVals_len (l : List VerM) : (verVals l).length = l.length * 2 := by
  induction l with
  | nil => rfl
  | cons v r ih => simp only [verVals, List.flatMap_cons, List.length_append, List.length_cons, List.length_nil] at ih ⊢; omega
theorem verVals_append (a b : List VerM) : verVals (a ++ b) = verVals a ++ verVals b := by simp [verVals]
theorem verVals_at (l : List VerM) : ∀ (k : Nat) (h : k < l.length), (verVals l)[k * 2]? = some (.int .i64 l[k].by_) ∧ (verVals l)[k * 2 + 1]? = some (.int .i64 l[k].at_) := by
  induction l with
  | nil => intro k h; simp at h
  | cons v r ih =>
    intro k h
    cases k with
    | zero => exact ⟨rfl, rfl⟩
    | succ k =>
      have h2 := ih k (by simpa using h)
      have e1 : (k + 1) * 2 = k * 2 + 1 + 1 := by omega
      rw [e1]
      simp only [verVals, List.flatMap_cons, List.cons_append, List.nil_append, List.getElem?_cons_succ, List.getElem_cons_succ]
      exact h2

/-- The table's cells. -/
def SnapM.cell (st : SnSt) (vw vv : Nat → Value) (i : Nat) : Value :=
  if i < 36 then (if i % 3 = 0 then .bool (st.began (i / 3)) else if i % 3 = 1 then .int .i64 (st.fr (i / 3)) else vw (i / 3))
  else if i = 36 then .int .i64 st.done else vv (i - 37)

structure SnapM.SW (w : World) (N : Nat) (st : SnSt) (vw vv : Nat → Value) (wr : World) : Prop where
  lt : w.heap.size ≤ N
  b0 : Blk wr N 114 (Tab 57 (SnapM.cell st vw vv))
  fw : Fam wr w.heap.size 12 3 1 vw (fun i => (st.wr i).length) (fun i => intVals (st.wr i))
  fv : Fam wr w.heap.size 20 139 2 vv (fun i => (st.vs i).length) (fun i => verVals (st.vs i))
  below : Below w.heap.size w wr

/-- Whatever is none of the table's rows stays as it was. -/
structure SnapM.Kept (N : Nat) (w w' : World) : Prop where
  size : w.heap.size ≤ w'.heap.size
  same : ∀ g cs t fr, w.heap[g]? = some (.cells cs t fr) → g ≠ N → t ≠ 3 → t ≠ 139 → w'.heap[g]? = some (.cells cs t fr)
theorem SnapM.Kept.refl (N : Nat) (w : World) : SnapM.Kept N w w := ⟨Nat.le_refl _, fun _ _ _ _ h _ _ _ => h⟩
theorem SnapM.Kept.trans {N : Nat} {a b c : World} (h : SnapM.Kept N a b) (h2 : SnapM.Kept N b c) : SnapM.Kept N a c :=
  ⟨Nat.le_trans h.size h2.size, fun g cs t fr h0 h1 h3 h4 => h2.same g cs t fr (h.same g cs t fr h0 h1 h3 h4) h1 h3 h4⟩
theorem SnapM.Kept.blk {N : Nat} {w w' : World} {b t : Nat} {C : List Value} (h : SnapM.Kept N w w') (hb : Blk w b t C) (hN : b ≠ N) (h1 : t ≠ 3) (h2 : t ≠ 139) : Blk w' b t C := h.same _ _ _ _ hb hN h1 h2
theorem SnapM.Kept.alloc {N : Nat} {w w' : World} (h : SnapM.Kept N w w') (o : Obj) : SnapM.Kept N w (w'.alloc o) :=
  ⟨by rw [World.size_alloc]; have := h.size; omega, fun g cs t fr h0 h1 h3 h4 => by
    have h5 := h.same g cs t fr h0 h1 h3 h4
    exact (Below.heap_alloc _ _ _ (Array.getElem?_eq_some_iff.1 h5).1).trans h5⟩
theorem SnapM.Kept.drew {N : Nat} {w w' : World} (h : SnapM.Kept N w w') : SnapM.Kept N w w'.drew := ⟨h.size, h.same⟩
/-- A store into the table, or into what is new. -/
theorem SnapM.Kept.set {N : Nat} {w w' : World} (h : SnapM.Kept N w w') {b : Nat} (hb : b = N ∨ w.heap.size ≤ b) (o : Nat) (v : Value) : SnapM.Kept N w (w'.setCell ⟨b, o, none⟩ v) :=
  ⟨by rw [World.size_setCell]; exact h.size, fun g cs t fr h0 h1 h3 h4 => by
    have h5 := h.same g cs t fr h0 h1 h3 h4
    have hl : g < w.heap.size := (Array.getElem?_eq_some_iff.1 h0).1
    rw [Below.heap_setCell _ _ _ _ (by show g ≠ b; omega)]
    exact h5⟩
theorem SnapM.Kept.grown {N base n : Nat} {e sz : Nat} {w w' w2 : World} {v : Value} {xs : List Value} (h : SnapM.Kept N w w') (ho : w'.ownsRow base e sz v n xs) (he : e = 3 ∨ e = 139) (hg : w'.grownBy w2 v.ownBlock) : SnapM.Kept N w w2 :=
  ⟨Nat.le_trans h.size hg.size, fun g cs t fr h0 h1 h3 h4 => by
    have h5 := h.same g cs t fr h0 h1 h3 h4
    rw [hg.block g (Array.getElem?_eq_some_iff.1 h5).1]
    · exact h5
    · intro h6
      rcases ho.2 with ⟨rfl, _⟩ | ⟨g', cap, cur, rfl, _, hh, _⟩
      · simp [Value.ownBlock] at h6
      · simp only [Value.ownBlock, Option.some.injEq] at h6
        subst h6
        rw [h5] at hh
        simp at hh
        rcases he with rfl | rfl
        · exact h3 hh.2.1
        · exact h4 hh.2.1⟩

theorem verRow_at {w : World} {base n : Nat} {v : Value} {l : List VerM} (h : w.ownsRow base 139 2 v n (verVals l)) :
    ∃ ao cap, v = .slice ao l.length cap ∧ (∀ k (hk : k < l.length), ∃ g, ao = some ⟨g, 0, none⟩ ∧ g < w.heap.size ∧ w.cell? ⟨g, k * 2, none⟩ = some (.int .i64 l[k].by_) ∧ w.cell? ⟨g, k * 2 + 1, none⟩ = some (.int .i64 l[k].at_)) ∧ l.length ≤ cap ∧ (ao = none → cap = 0) := by
  have hl : n = l.length := by have := h.1; rw [verVals_len] at this; omega
  rcases h.2 with ⟨h1, h2⟩ | ⟨g, cap, cur, h1, h2, h3, h4, _⟩
  · have : l = [] := List.eq_nil_of_length_eq_zero (by omega)
    subst this
    exact ⟨none, 0, h1, fun k hk => by simp at hk, Nat.le_refl _, fun _ => rfl⟩
  · subst hl
    refine ⟨_, cap, h1, fun k hk => ⟨g, rfl, (Array.getElem?_eq_some_iff.1 h3).1, ?_⟩, h4, fun h => by simp at h⟩
    have ho := h
    rw [h1] at ho
    obtain ⟨c0, c1⟩ := verVals_at l k hk
    rw [ho.cellAt (k * 2) (by omega), ho.cellAt (k * 2 + 1) (by omega)]
    exact ⟨c0, c1⟩

section
variable {w wr : World} {N : Nat} {st : SnSt} {vw vv : Nat → Value}
theorem SnapM.SW.alloc (h : SnapM.SW w N st vw vv wr) (o : Obj) : SnapM.SW w N st vw vv (wr.alloc o) :=
  ⟨h.lt, h.b0.alloc o, h.fw.alloc o, h.fv.alloc o, h.below.alloc h.below.size o⟩
theorem SnapM.SW.drew (h : SnapM.SW w N st vw vv wr) : SnapM.SW w N st vw vv wr.drew := ⟨h.lt, h.b0.drew, h.fw.drew, h.fv.drew, h.below.drew⟩
theorem SnapM.SW.after {w' : World} (h : SnapM.SW w N st vw vv wr) (hb : Below wr.heap.size wr w') : SnapM.SW w N st vw vv w' :=
  ⟨h.lt, h.b0.after hb, h.fw.after hb, h.fv.after hb, below_tr h.below hb⟩
/-- A store into a block of another kind. -/
theorem SnapM.SW.other (h : SnapM.SW w N st vw vv wr) {b t : Nat} {C : List Value} (hb : Blk wr b t C) (hB : w.heap.size ≤ b) (h0 : t ≠ 114) (h1 : t ≠ 3) (h2 : t ≠ 139) (o : Nat) (u : Value) : SnapM.SW w N st vw vv (wr.setCell ⟨b, o, none⟩ u) :=
  ⟨h.lt, h.b0.other (by have := hb.ne h.b0 h0; show N ≠ b; omega) _, h.fw.setCell hb h1 o u, h.fv.setCell hb h2 o u, h.below.setCell hB _⟩
theorem SnapM.SW.cell (h : SnapM.SW w N st vw vv wr) {i : Nat} (hi : i < 57) : wr.cell? ⟨N, i, none⟩ = some (SnapM.cell st vw vv i) := h.b0.tabCell hi
theorem SnapM.cell_began (x : Nat) (hx : x < 12) : SnapM.cell st vw vv (x * 3) = .bool (st.began x) := by
  unfold SnapM.cell; rw [if_pos (by omega), if_pos (by omega), show x * 3 / 3 = x by omega]
theorem SnapM.cell_fr (x : Nat) (hx : x < 12) : SnapM.cell st vw vv (x * 3 + 1) = .int .i64 (st.fr x) := by
  unfold SnapM.cell; rw [if_pos (by omega), if_neg (by omega), if_pos (by omega), show (x * 3 + 1) / 3 = x by omega]
theorem SnapM.cell_wr (x : Nat) (hx : x < 12) : SnapM.cell st vw vv (x * 3 + 2) = vw x := by
  unfold SnapM.cell; rw [if_pos (by omega), if_neg (by omega), if_neg (by omega), show (x * 3 + 2) / 3 = x by omega]
theorem SnapM.cell_done : SnapM.cell st vw vv 36 = .int .i64 st.done := rfl
theorem SnapM.cell_vs (i : Nat) : SnapM.cell st vw vv (37 + i) = vv i := by
  unfold SnapM.cell; rw [if_neg (by omega), if_neg (by omega), show 37 + i - 37 = i by omega]
end
end Go.Proofs.Ytfmgncfikaefhaa
