/- A block that is overwritten whole. -/
import Derived.Test.YtnhhjjhhicmfpaaHeap
namespace Go.Proofs.Ytnhhjjhhicmfpaa
open Go.RowKit Go.Lib

def setL {α : Type} : List α → Nat → List α → List α
  | C, _, [] => C
  | C, o, v :: r => setL (C.set o v) (o + 1) r
theorem setL_get {α : Type} : ∀ (vs C : List α) (o i : Nat), o + vs.length ≤ C.length → (setL C o vs)[i]? = if o ≤ i ∧ i < o + vs.length then vs[i - o]? else C[i]?
  | [], C, o, i, _ => by
    rw [setL, if_neg]
    simp only [List.length_nil]; omega
  | v :: r, C, o, i, h => by
    simp only [List.length_cons] at h
    rw [setL, setL_get r _ (o + 1) i (by simp; omega)]
    by_cases e : i = o
    · subst e
      rw [if_neg (by omega), if_pos (by simp), List.getElem?_set_self (by omega), Nat.sub_self]
      rfl
    · by_cases h1 : o + 1 ≤ i ∧ i < o + 1 + r.length
      · rw [if_pos h1, if_pos (by simp; omega)]
        rw [show i - o = (i - (o + 1)) + 1 by omega, List.getElem?_cons_succ]
      · rw [if_neg h1, if_neg (by simp; omega), List.getElem?_set_ne (fun h => e h.symm)]
theorem setL_all {α : Type} {vs C : List α} (h : vs.length = C.length) : setL C 0 vs = vs := by
  apply List.ext_getElem?
  intro i
  rw [setL_get vs C 0 i (by omega)]
  by_cases h1 : i < vs.length
  · rw [if_pos (by omega)]; simp
  · rw [if_neg (by omega), List.getElem?_eq_none (by omega), List.getElem?_eq_none (by omega)]
theorem Blk.setL {b t : Nat} : ∀ (vs : List Value) {w : World} {C : List Value} (o : Nat), Blk w b t C → Blk (w.setCells b o vs) b t (Go.Proofs.Ytnhhjjhhicmfpaa.setL C o vs)
  | [], _, _, _, h => h
  | v :: r, _, _, o, h => Blk.setL r (o + 1) (h.set o v)
theorem Blk.setAll {w : World} {b t : Nat} {C vs : List Value} (h : Blk w b t C) (hl : vs.length = C.length) : Blk (w.setCells b 0 vs) b t vs := by
  have := Blk.setL vs 0 h
  rwa [setL_all hl] at this
theorem Below.setCells {N b : Nat} {a : World} (hb : N ≤ b) : ∀ (vs : List Value) {w : World} (o : Nat), Below N a w → Below N a (w.setCells b o vs)
  | [], _, _, h => h
  | v :: r, _, o, h => Below.setCells hb r (o + 1) (h.setCell hb v)
end Go.Proofs.Ytnhhjjhhicmfpaa
