/- The memory of stamp.Play. -/
import Derived.Test.YtnhhjjhhicmfpaaStampM
import Derived.Test.YtnhhjjhhicmfpaaOpsRow
namespace Go.Proofs.Ytnhhjjhhicmfpaa
open Go.RowKit Go.Lib

/-- w: the call's; N: the first of four blocks; v, v1: the rows of what is done, and of the dead. -/
structure StampM.SW (w : World) (N : Nat) (st : SSt) (v v1 : Value) (ds : List Int) (wr : World) : Prop where
  lt : w.heap.size < N
  b0 : Blk wr w.heap.size 39 [.slice none 0 0, .slice none 0 0, .slice none 0 0]
  b1 : Blk wr N 39 [v, v1, .slice none 0 0]
  b2 : Blk wr (N + 1) 77 (Tab 12 fun i => .bool (st.dead i))
  b3 : Blk wr (N + 2) 52 (Tab 20 fun i => .int .i64 (st.rd i))
  b4 : Blk wr (N + 3) 52 (Tab 20 fun i => .int .i64 (st.wr i))
  own : wr.ownsRow w.heap.size 25 3 v st.run.length (opVals st.run)
  own1 : wr.ownsRow w.heap.size 3 1 v1 ds.length (intVals ds)
  below : Below w.heap.size w wr

section
variable {w wr : World} {N : Nat} {st : SSt} {v v1 : Value} {ds : List Int}
theorem StampM.SW.alloc (h : StampM.SW w N st v v1 ds wr) (o : Obj) : StampM.SW w N st v v1 ds (wr.alloc o) :=
  ⟨h.lt, h.b0.alloc o, h.b1.alloc o, h.b2.alloc o, h.b3.alloc o, h.b4.alloc o, h.own.alloc o, h.own1.alloc o, h.below.alloc h.below.size o⟩
theorem StampM.SW.drew (h : StampM.SW w N st v v1 ds wr) : StampM.SW w N st v v1 ds wr.drew :=
  ⟨h.lt, h.b0.drew, h.b1.drew, h.b2.drew, h.b3.drew, h.b4.drew, h.own.drew, h.own1.drew, h.below.drew⟩
/-- A store into a block of the call's own that is none of these. -/
theorem StampM.SW.other (h : StampM.SW w N st v v1 ds wr) {b : Nat} (hlt : N + 3 < b) (hv : v.ownBlock ≠ some b) (hv1 : v1.ownBlock ≠ some b) (o : Nat) (u : Value) : StampM.SW w N st v v1 ds (wr.setCell ⟨b, o, none⟩ u) :=
  ⟨h.lt, h.b0.other (by have := h.lt; show _ ≠ b; omega) _, h.b1.other (by show _ ≠ b; omega) _, h.b2.other (by show _ ≠ b; omega) _, h.b3.other (by show _ ≠ b; omega) _, h.b4.other (by show _ ≠ b; omega) _,
    ownsRow_setCell_other h.own hv _, ownsRow_setCell_other h.own1 hv1 _, h.below.setCell (by have := h.lt; show _ ≤ b; omega) _⟩
theorem StampM.SW.setDead (h : StampM.SW w N st v v1 ds wr) (x : Nat) : StampM.SW w N { st with dead := upd st.dead x true } v v1 ds (wr.setCell ⟨N + 1, x, none⟩ (.bool true)) := by
  refine ⟨h.lt, h.b0.other (by have := h.lt; show _ ≠ N + 1; omega) _, h.b1.other (by show _ ≠ N + 1; omega) _, ?_, h.b3.other (by show _ ≠ N + 1; omega) _, h.b4.other (by show _ ≠ N + 1; omega) _,
    ownsRow_setCell_other h.own (h.b2.ne_own h.own (by decide)) _, ownsRow_setCell_other h.own1 (h.b2.ne_own h.own1 (by decide)) _, h.below.setCell (by have := h.lt; show _ ≤ N + 1; omega) _⟩
  have := h.b2.tabSet x (.bool true)
  rwa [show upd (fun i => Value.bool (st.dead i)) x (.bool true) = (fun i => Value.bool (upd st.dead x true i)) from by funext i; simp only [upd]; split <;> rfl] at this
theorem StampM.SW.setRd (h : StampM.SW w N st v v1 ds wr) (x : Nat) (n : Int) : StampM.SW w N { st with rd := upd st.rd x n } v v1 ds (wr.setCell ⟨N + 2, x, none⟩ (.int .i64 n)) := by
  refine ⟨h.lt, h.b0.other (by have := h.lt; show _ ≠ N + 2; omega) _, h.b1.other (by show _ ≠ N + 2; omega) _, h.b2.other (by show _ ≠ N + 2; omega) _, ?_, h.b4.other (by show _ ≠ N + 2; omega) _,
    ownsRow_setCell_other h.own (h.b3.ne_own h.own (by decide)) _, ownsRow_setCell_other h.own1 (h.b3.ne_own h.own1 (by decide)) _, h.below.setCell (by have := h.lt; show _ ≤ N + 2; omega) _⟩
  have := h.b3.tabSet x (.int .i64 n)
  rwa [show upd (fun i => Value.int .i64 (st.rd i)) x (.int .i64 n) = (fun i => Value.int .i64 (upd st.rd x n i)) from by funext i; simp only [upd]; split <;> rfl] at this
theorem StampM.SW.setWr (h : StampM.SW w N st v v1 ds wr) (x : Nat) (n : Int) : StampM.SW w N { st with wr := upd st.wr x n } v v1 ds (wr.setCell ⟨N + 3, x, none⟩ (.int .i64 n)) := by
  refine ⟨h.lt, h.b0.other (by have := h.lt; show _ ≠ N + 3; omega) _, h.b1.other (by show _ ≠ N + 3; omega) _, h.b2.other (by show _ ≠ N + 3; omega) _, h.b3.other (by show _ ≠ N + 3; omega) _, ?_,
    ownsRow_setCell_other h.own (h.b4.ne_own h.own (by decide)) _, ownsRow_setCell_other h.own1 (h.b4.ne_own h.own1 (by decide)) _, h.below.setCell (by have := h.lt; show _ ≤ N + 3; omega) _⟩
  have := h.b4.tabSet x (.int .i64 n)
  rwa [show upd (fun i => Value.int .i64 (st.wr i)) x (.int .i64 n) = (fun i => Value.int .i64 (upd st.wr x n i)) from by funext i; simp only [upd]; split <;> rfl] at this

/-- Something more is done. -/
theorem StampM.SW.more (h : StampM.SW w N st v v1 ds wr) {w1 : World} {g cap : Nat} {o : OpM} (ho : w1.ownsRow w.heap.size 25 3 (.slice (some ⟨g, 0, none⟩) (st.run.length + 1) cap) (st.run.length + 1) (opVals st.run ++ [.int .i64 o.tx, .int .i64 o.kind, .int .i64 o.item])) (hg : wr.grownBy w1 v.ownBlock) :
    Blk w1 N 39 [v, v1, .slice none 0 0] ∧
    StampM.SW w N { st with run := st.run ++ [o] } (.slice (some ⟨g, 0, none⟩) (st.run.length + 1) cap) v1 ds (w1.setCell ⟨N, 0, none⟩ (.slice (some ⟨g, 0, none⟩) (st.run.length + 1) cap)) := by
  have c0 := h.b0.grown hg (h.b0.ne_own h.own (by decide))
  have c1 := h.b1.grown hg (h.b1.ne_own h.own (by decide))
  have c2 := h.b2.grown hg (h.b2.ne_own h.own (by decide))
  have c3 := h.b3.grown hg (h.b3.ne_own h.own (by decide))
  have c4 := h.b4.grown hg (h.b4.ne_own h.own (by decide))
  have k1 := h.own1.kept hg (own_apart h.own1 h.own (by decide))
  refine ⟨c1, h.lt, c0.other (by have := h.lt; show _ ≠ N; omega) _, c1.set 0 _, c2.other (by show _ ≠ N; omega) _, c3.other (by show _ ≠ N; omega) _, c4.other (by show _ ≠ N; omega) _, ?_,
    ownsRow_setCell_other k1 (c1.ne_own k1 (by decide)) _, (h.below.grown hg h.below.size (fun b hb => (h.own.lt b hb).1)).setCell (by have := h.lt; show _ ≤ N; omega) _⟩
  have : w1.ownsRow w.heap.size 25 3 (.slice (some ⟨g, 0, none⟩) (st.run.length + 1) cap) (st.run ++ [o]).length (opVals (st.run ++ [o])) := by
    rw [opVals_append, List.length_append]; exact ho
  exact ownsRow_setCell_other this (c1.ne_own this (by decide)) _
/-- One more is dead. -/
theorem StampM.SW.dies (h : StampM.SW w N st v v1 ds wr) {w1 : World} {g cap : Nat} {x : Int} (ho : w1.ownsRow w.heap.size 3 1 (.slice (some ⟨g, 0, none⟩) (ds.length + 1) cap) (ds.length + 1) (intVals ds ++ [.int .i64 x])) (hg : wr.grownBy w1 v1.ownBlock) :
    Blk w1 N 39 [v, v1, .slice none 0 0] ∧
    StampM.SW w N st v (.slice (some ⟨g, 0, none⟩) (ds.length + 1) cap) (ds ++ [x]) (w1.setCell ⟨N, 1, none⟩ (.slice (some ⟨g, 0, none⟩) (ds.length + 1) cap)) := by
  have c0 := h.b0.grown hg (h.b0.ne_own h.own1 (by decide))
  have c1 := h.b1.grown hg (h.b1.ne_own h.own1 (by decide))
  have c2 := h.b2.grown hg (h.b2.ne_own h.own1 (by decide))
  have c3 := h.b3.grown hg (h.b3.ne_own h.own1 (by decide))
  have c4 := h.b4.grown hg (h.b4.ne_own h.own1 (by decide))
  have k1 := h.own.kept hg (own_apart h.own h.own1 (by decide))
  refine ⟨c1, h.lt, c0.other (by have := h.lt; show _ ≠ N; omega) _, c1.set 1 _, c2.other (by show _ ≠ N; omega) _, c3.other (by show _ ≠ N; omega) _, c4.other (by show _ ≠ N; omega) _,
    ownsRow_setCell_other k1 (c1.ne_own k1 (by decide)) _, ?_, (h.below.grown hg h.below.size (fun b hb => (h.own1.lt b hb).1)).setCell (by have := h.lt; show _ ≤ N; omega) _⟩
  have : w1.ownsRow w.heap.size 3 1 (.slice (some ⟨g, 0, none⟩) (ds.length + 1) cap) (ds ++ [x]).length (intVals (ds ++ [x])) := by
    rw [intVals_append, List.length_append]; exact ho
  exact ownsRow_setCell_other this (c1.ne_own this (by decide)) _
end
end Go.Proofs.Ytnhhjjhhicmfpaa
