/- A slice of structs of two ints in memory. -/
import Derived.Test.YtjbmkhalmmahkaaLkM
import Derived.Test.YtjbmkhalmmahkaaHeap
namespace Go.Proofs.Ytjbmkhalmmahkaa
open Go.RowKit Go.Lib

/-- They stand where a slice begins. -/
def LksAt (w : World) (ao : Option Addr) (l : List LkM) : Prop :=
  l = [] ∨ ∃ b off, ao = some ⟨b, off, none⟩ ∧ b < w.heap.size ∧ ∀ k (h : k < l.length), w.cell? ⟨b, off + k * 2, none⟩ = some (.int .i64 l[k].tx) ∧ w.cell? ⟨b, off + k * 2 + 1, none⟩ = some (.int .i64 l[k].mode)
theorem LksAt.below {B : Nat} {w w' : World} {ao : Option Addr} {l : List LkM} (h : LksAt w ao l) (hb : Below B w w') (hB : w.heap.size ≤ B) : LksAt w' ao l := by
  rcases h with h | ⟨b, off, h1, h2, h3⟩
  · exact Or.inl h
  · exact Or.inr ⟨b, off, h1, Nat.lt_of_lt_of_le h2 hb.size, fun k hk => ⟨(hb.cell (p := ⟨b, off + k * 2, none⟩) (Nat.lt_of_lt_of_le h2 hB)).trans (h3 k hk).1, (hb.cell (p := ⟨b, off + k * 2 + 1, none⟩) (Nat.lt_of_lt_of_le h2 hB)).trans (h3 k hk).2⟩⟩
def lkVals (l : List LkM) : List Value := l.flatMap fun d => [.int .i64 d.tx, .int .i64 d.mode]
theorem lkVals_len (l : List LkM) : (lkVals l).length = l.length * 2 := by
  induction l with
  | nil => rfl
  | cons v r ih => simp only [lkVals, List.flatMap_cons, List.length_append, List.length_cons, List.length_nil] at ih ⊢; omega
theorem lkVals_append (a b : List LkM) : lkVals (a ++ b) = lkVals a ++ lkVals b := by simp [lkVals]
theorem lkVals_one (l : List LkM) : ∀ u ∈ lkVals l, u.oneCell' = true := by
  intro u hu
  simp only [lkVals, List.mem_flatMap] at hu
  obtain ⟨o, _, h⟩ := hu
  simp at h
  rcases h with rfl | rfl <;> rfl
theorem lkVals_at (l : List LkM) : ∀ (k : Nat) (h : k < l.length), (lkVals l)[k * 2]? = some (.int .i64 l[k].tx) ∧ (lkVals l)[k * 2 + 1]? = some (.int .i64 l[k].mode) := by
  induction l with
  | nil => intro k h; simp at h
  | cons v r ih =>
    intro k h
    cases k with
    | zero => exact ⟨rfl, rfl⟩
    | succ k =>
      have h2 := ih k (by simpa using h)
      have e1 : (k + 1) * 2 = k * 2 + 1 + 1 := by omega
      rw [e1]
      simp only [lkVals, List.flatMap_cons, List.cons_append, List.nil_append, List.getElem?_cons_succ, List.getElem_cons_succ]
      exact h2
theorem LksAt.own {w : World} {base n : Nat} {v : Value} {l : List LkM} (h : w.ownsRow base 28 2 v n (lkVals l)) : ∃ ao cap, v = .slice ao l.length cap ∧ n = l.length ∧ LksAt w ao l ∧ (ao = none → cap = 0) ∧ l.length ≤ cap := by
  have hl : n = l.length := by have := h.1; rw [lkVals_len] at this; omega
  rcases h.2 with ⟨h1, h2⟩ | ⟨g, cap, cur, h1, h2, h3, h4, _⟩
  · have : l = [] := List.eq_nil_of_length_eq_zero (by omega)
    subst this
    exact ⟨none, 0, h1, hl, Or.inl rfl, fun _ => rfl, Nat.le_refl _⟩
  · subst hl
    refine ⟨_, cap, h1, rfl, Or.inr ⟨g, 0, rfl, (Array.getElem?_eq_some_iff.1 h3).1, fun k hk => ?_⟩, (fun h => by cases h), h4⟩
    have ho := h
    rw [h1] at ho
    obtain ⟨c0, c1⟩ := lkVals_at l k hk
    rw [Nat.zero_add, ho.cellAt (k * 2) (by omega), ho.cellAt (k * 2 + 1) (by omega)]
    exact ⟨c0, c1⟩

end Go.Proofs.Ytjbmkhalmmahkaa
