/- Rows of ints in memory. -/
import Derived.Test.YtpeaefeoogcepaaDoorHeap
namespace Go.Proofs.YtpeaefeoogcepaaDoor
open Go.RowKit Go.Lib

def intVals (l : List Int) : List Value := l.map (Value.int .i64)
theorem intVals_len (l : List Int) : (intVals l).length = l.length := by simp [intVals]
theorem intVals_get {l : List Int} {k : Nat} (h : k < l.length) : (intVals l)[k]? = some (.int .i64 l[k]) := by simp [intVals, h]
theorem intVals_append (l m : List Int) : intVals (l ++ m) = intVals l ++ intVals m := by simp [intVals]
/-- Numbers l stand where a slice of so many begins. -/
def IntsAt (w : World) (ao : Option Addr) (l : List Int) : Prop :=
  l = [] ∨ ∃ b off, ao = some ⟨b, off, none⟩ ∧ b < w.heap.size ∧ ∀ k (h : k < l.length), w.cell? ⟨b, off + k, none⟩ = some (.int .i64 l[k])
theorem IntsAt.below {B : Nat} {w w' : World} {ao : Option Addr} {l : List Int} (h : IntsAt w ao l) (hb : Below B w w') (hB : w.heap.size ≤ B) : IntsAt w' ao l := by
  rcases h with h | ⟨b, off, h1, h2, h3⟩
  · exact Or.inl h
  · exact Or.inr ⟨b, off, h1, Nat.lt_of_lt_of_le h2 hb.size, fun k hk => (hb.cell (p := ⟨b, off + k, none⟩) (Nat.lt_of_lt_of_le h2 hB)).trans (h3 k hk)⟩
theorem IntsAt.own {w : World} {base n : Nat} {v : Value} {l : List Int} (h : w.ownsRow base 3 1 v n (intVals l)) : ∃ ao cap, v = .slice ao l.length cap ∧ n = l.length ∧ IntsAt w ao l ∧ (ao = none → cap = 0) ∧ l.length ≤ cap := by
  have hl : n = l.length := by have := h.1; rw [intVals_len] at this; omega
  rcases h.2 with ⟨h1, h2⟩ | ⟨g, cap, cur, h1, h2, h3, h4, _⟩
  · have : l = [] := List.eq_nil_of_length_eq_zero (by omega)
    subst this
    exact ⟨none, 0, h1, h2, Or.inl rfl, fun _ => rfl, Nat.le_refl _⟩
  · subst hl
    refine ⟨_, cap, h1, rfl, Or.inr ⟨g, 0, rfl, (Array.getElem?_eq_some_iff.1 h3).1, fun k hk => ?_⟩, (fun h => by simp at h), h4⟩
    have ho := h
    rw [h1] at ho
    rw [Nat.zero_add, ho.cellAt k (by omega), intVals_get hk]

def IntsM.find (p : Int → Bool) (l : List Int) : Int := if l.findIdx p < l.length then (l.findIdx p : Int) else -1
/-- A function value that is a function of the program enters it. -/
theorem enters_fn {f : FuncId} {fn : Func} {c : Code} (hf : Tryd.prog.funcs[f]? = some fn) (hname : (fn.name == "runtime.NumGoroutine") = false) (hb : fn.body = some c) : ∀ args w, (callFunc f args).run Tryd.prog w = .ok (.enter f args) w := by
  intro args w
  have h1 : fn.name ≠ "runtime.NumGoroutine" := by simpa using hname
  simp [callFunc, hf, h1, hb, mark]


end Go.Proofs.YtpeaefeoogcepaaDoor
