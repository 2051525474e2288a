/- WHAT A CALL LEAVES STANDING: all blocks but those of a given set. -/
import Derived.Test.YtpeaefeoogcepaaDoorHeap
namespace Go.Proofs.YtpeaefeoogcepaaDoor
open Go.RowKit Go.Lib

/-- All blocks but those of S stand as they stood. -/
structure KeptS (S : Nat → Prop) (w w' : World) : Prop where
  os : w'.os = w.os
  tape : w'.tape = w.tape
  output : w'.output = w.output
  size : w.heap.size ≤ w'.heap.size
  block : ∀ k, k < w.heap.size → ¬ S k → w'.heap[k]? = w.heap[k]?

section
variable {S : Nat → Prop} {w w' w2 : World}
theorem KeptS.refl (S : Nat → Prop) (w : World) : KeptS S w w := ⟨rfl, rfl, rfl, Nat.le_refl _, fun _ _ _ => rfl⟩
/-- The second call may turn what the first one made as well. -/
theorem KeptS.trans {S' : Nat → Prop} (h : KeptS S w w') (k : KeptS S' w' w2) (hs : ∀ b, b < w.heap.size → S' b → S b) : KeptS S w w2 :=
  ⟨k.os.trans h.os, k.tape.trans h.tape, k.output.trans h.output, Nat.le_trans h.size k.size, fun i hi h1 =>
    (k.block i (Nat.lt_of_lt_of_le hi h.size) (fun h2 => h1 (hs i hi h2))).trans (h.block i hi h1)⟩
theorem KeptS.then_ (h : KeptS S w w') (k : KeptS S w' w2) : KeptS S w w2 := h.trans k (fun _ _ h => h)
theorem KeptS.of_below (h : Below w.heap.size w w') : KeptS S w w' := ⟨h.os, h.tape, h.output, h.size, fun k hk _ => h.block k hk⟩
theorem KeptS.after (h : KeptS S w w') (k : Below w'.heap.size w' w2) : KeptS S w w2 := h.then_ (.of_below k)
theorem KeptS.alloc (h : KeptS S w w') (o : Obj) : KeptS S w (w'.alloc o) := h.after ((Below.refl _ _).alloc (Nat.le_refl _) o)
theorem KeptS.drew (h : KeptS S w w') : KeptS S w w'.drew := ⟨h.os, h.tape, h.output, h.size, h.block⟩
theorem KeptS.set (h : KeptS S w w') {b : Nat} (hb : S b ∨ w.heap.size ≤ b) (o : Nat) (v : Value) : KeptS S w (w'.setCell ⟨b, o, none⟩ v) := by
  have e := (Below.refl 0 w').setCell (p := ⟨b, o, none⟩) (Nat.zero_le _) v
  refine ⟨e.os.trans h.os, e.tape.trans h.tape, e.output.trans h.output, Nat.le_trans h.size e.size, fun k hk h1 => ?_⟩
  rw [Below.heap_setCell _ _ _ _ (by
    show k ≠ b
    rintro rfl
    rcases hb with hb | hb
    · exact h1 hb
    · omega)]
  exact h.block k hk h1
theorem KeptS.setRow (h : KeptS S w w') {g : Nat} (hb : S g ∨ w.heap.size ≤ g) (cs : Array Value) : KeptS S w (w'.setRow g cs) := by
  have e : Below 0 w' (w'.setRow g cs) := below_setRow (Below.refl 0 w') (Nat.zero_le _) cs
  refine ⟨e.os.trans h.os, e.tape.trans h.tape, e.output.trans h.output, Nat.le_trans h.size e.size, fun k hk h1 => ?_⟩
  rw [setRow_other _ _ _ _ (by
    rintro rfl
    rcases hb with hb | hb
    · exact h1 hb
    · omega)]
  exact h.block k hk h1
theorem KeptS.grown (h : KeptS S w w') {row : Option Nat} (hg : w'.grownBy w2 row) (hb : ∀ b, row = some b → S b ∨ w.heap.size ≤ b) : KeptS S w w2 :=
  ⟨hg.os.trans h.os, hg.tape.trans h.tape, hg.output.trans h.output, Nat.le_trans h.size hg.size, fun k hk h1 => by
    rw [hg.block k (Nat.lt_of_lt_of_le hk h.size) (fun e => by
      rcases hb k e.symm with h2 | h2
      · exact h1 h2
      · omega)]
    exact h.block k hk h1⟩
theorem KeptS.below (h : KeptS S w w') {B : Nat} (hB : B ≤ w.heap.size) (hS : ∀ b, S b → B ≤ b) : Below B w w' :=
  ⟨h.os, h.tape, h.output, h.size, fun k hk => h.block k (by omega) (fun h1 => by have := hS k h1; omega)⟩
theorem KeptS.blk (h : KeptS S w w') {b t : Nat} {C : List Value} (hb : Blk w b t C) (hs : ¬ S b) : Blk w' b t C := (h.block b hb.lt hs).trans hb
theorem KeptS.cell (h : KeptS S w w') {a : Addr} {v : Value} (hc : w.cell? a = some v) (hs : ¬ S a.block) : w'.cell? a = some v :=
  (World.cell?_of_block (h.block a.block (World.block_lt_of_cell? w a hc) hs)).trans hc
theorem KeptS.own (h : KeptS S w w') {base e size n : Nat} {v : Value} {xs : List Value} (ho : w.ownsRow base e size v n xs) (hs : ∀ b, v.ownBlock = some b → ¬ S b) : w'.ownsRow base e size v n xs := by
  refine ⟨ho.1, ?_⟩
  rcases ho.2 with h1 | ⟨g, cap, cur, rfl, h2, h3, h4⟩
  · exact Or.inl h1
  · exact Or.inr ⟨g, cap, cur, rfl, h2, (h.block g (Array.getElem?_eq_some_iff.1 h3).1 (hs g rfl)).trans h3, h4⟩
end
end Go.Proofs.YtpeaefeoogcepaaDoor
