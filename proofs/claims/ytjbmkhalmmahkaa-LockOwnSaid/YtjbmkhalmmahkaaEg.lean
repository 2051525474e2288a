/- A slice of structs of two ints in memory. -/
import Derived.Test.YtjbmkhalmmahkaaGrB
import Derived.Test.YtjbmkhalmmahkaaHeap
namespace Go.Proofs.Ytjbmkhalmmahkaa
open Go.RowKit Go.Lib

/-- They stand where a slice begins. -/
def EgsAt (w : World) (ao : Option Addr) (l : List EgM) : Prop :=
  l = [] ∨ ∃ b off, ao = some ⟨b, off, none⟩ ∧ b < w.heap.size ∧ ∀ k (h : k < l.length), w.cell? ⟨b, off + k * 2, none⟩ = some (.int .i64 l[k].frm) ∧ w.cell? ⟨b, off + k * 2 + 1, none⟩ = some (.int .i64 l[k].to_)
theorem EgsAt.below {B : Nat} {w w' : World} {ao : Option Addr} {l : List EgM} (h : EgsAt w ao l) (hb : Below B w w') (hB : w.heap.size ≤ B) : EgsAt w' ao l := by
  rcases h with h | ⟨b, off, h1, h2, h3⟩
  · exact Or.inl h
  · exact Or.inr ⟨b, off, h1, Nat.lt_of_lt_of_le h2 hb.size, fun k hk => ⟨(hb.cell (p := ⟨b, off + k * 2, none⟩) (Nat.lt_of_lt_of_le h2 hB)).trans (h3 k hk).1, (hb.cell (p := ⟨b, off + k * 2 + 1, none⟩) (Nat.lt_of_lt_of_le h2 hB)).trans (h3 k hk).2⟩⟩
def egVals (l : List EgM) : List Value := l.flatMap fun d => [.int .i64 d.frm, .int .i64 d.to_]
theorem egVals_len (l : List EgM) : (egVals l).length = l.length * 2 := by
  induction l with
  | nil => rfl
  | cons v r ih => simp only [egVals, List.flatMap_cons, List.length_append, List.length_cons, List.length_nil] at ih ⊢; omega
theorem egVals_append (a b : List EgM) : egVals (a ++ b) = egVals a ++ egVals b := by simp [egVals]
theorem egVals_one (l : List EgM) : ∀ u ∈ egVals l, u.oneCell' = true := by
  intro u hu
  simp only [egVals, List.mem_flatMap] at hu
  obtain ⟨o, _, h⟩ := hu
  simp at h
  rcases h with rfl | rfl <;> rfl
theorem egVals_at (l : List EgM) : ∀ (k : Nat) (h : k < l.length), (egVals l)[k * 2]? = some (.int .i64 l[k].frm) ∧ (egVals l)[k * 2 + 1]? = some (.int .i64 l[k].to_) := by
  induction l with
  | nil => intro k h; simp at h
  | cons v r ih =>
    intro k h
    cases k with
    | zero => exact ⟨rfl, rfl⟩
    | succ k =>
      have h2 := ih k (by simpa using h)
      have e1 : (k + 1) * 2 = k * 2 + 1 + 1 := by omega
      rw [e1]
      simp only [egVals, List.flatMap_cons, List.cons_append, List.nil_append, List.getElem?_cons_succ, List.getElem_cons_succ]
      exact h2
theorem EgsAt.own {w : World} {base n : Nat} {v : Value} {l : List EgM} (h : w.ownsRow base 76 2 v n (egVals l)) : ∃ ao cap, v = .slice ao l.length cap ∧ n = l.length ∧ EgsAt w ao l ∧ (ao = none → cap = 0) ∧ l.length ≤ cap := by
  have hl : n = l.length := by have := h.1; rw [egVals_len] at this; omega
  rcases h.2 with ⟨h1, h2⟩ | ⟨g, cap, cur, h1, h2, h3, h4, _⟩
  · have : l = [] := List.eq_nil_of_length_eq_zero (by omega)
    subst this
    exact ⟨none, 0, h1, hl, Or.inl rfl, fun _ => rfl, Nat.le_refl _⟩
  · subst hl
    refine ⟨_, cap, h1, rfl, Or.inr ⟨g, 0, rfl, (Array.getElem?_eq_some_iff.1 h3).1, fun k hk => ?_⟩, (fun h => by cases h), h4⟩
    have ho := h
    rw [h1] at ho
    obtain ⟨c0, c1⟩ := egVals_at l k hk
    rw [Nat.zero_add, ho.cellAt (k * 2) (by omega), ho.cellAt (k * 2 + 1) (by omega)]
    exact ⟨c0, c1⟩

end Go.Proofs.Ytjbmkhalmmahkaa
