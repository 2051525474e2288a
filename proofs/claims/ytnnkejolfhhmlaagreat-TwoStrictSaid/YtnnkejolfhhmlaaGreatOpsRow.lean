/- Operations as cells; rows of two kinds lie apart. -/
import Derived.Test.YtnnkejolfhhmlaaGreatChkI
import Derived.Test.YtnnkejolfhhmlaaGreatInts
namespace Go.Proofs.YtnnkejolfhhmlaaGreat
open Go.RowKit Go.Lib

/-- Operations as cells. -/
def opVals (l : List OpM) : List Value := l.flatMap fun o => [.int .i64 o.tx, .int .i64 o.kind, .int .i64 o.item]
theorem opVals_len (l : List OpM) : (opVals l).length = l.length * 3 := by
  induction l with
  | nil => rfl
  | cons o l ih => simp only [opVals, List.flatMap_cons, List.length_append, List.length_cons, List.length_nil] at *; omega
theorem opVals_append (a b : List OpM) : opVals (a ++ b) = opVals a ++ opVals b := by simp [opVals]
theorem opVals_one (o : OpM) : opVals [o] = [.int .i64 o.tx, .int .i64 o.kind, .int .i64 o.item] := rfl
theorem opVals_one' (l : List OpM) : ∀ u ∈ opVals l, u.oneCell' = true := by
  intro u hu
  simp only [opVals, List.mem_flatMap] at hu
  obtain ⟨o, _, h⟩ := hu
  simp at h
  rcases h with rfl | rfl | rfl <;> rfl
theorem opVals_at (l : List OpM) : ∀ (k : Nat) (h : k < l.length), (opVals l)[k * 3]? = some (.int .i64 l[k].tx) ∧ (opVals l)[k * 3 + 1]? = some (.int .i64 l[k].kind) ∧ (opVals l)[k * 3 + 2]? = some (.int .i64 l[k].item) := by
  induction l with
  | nil => intro k h; simp at h
  | cons s l ih =>
    intro k h
    cases k with
    | zero => simp [opVals]
    | succ k =>
      have := ih k (by simpa using h)
      simp only [opVals, List.flatMap_cons] at this ⊢
      have e1 : (k + 1) * 3 = k * 3 + 3 := by omega
      have e2 : k * 3 + 3 + 1 = k * 3 + 1 + 3 := by omega
      have e3 : k * 3 + 3 + 2 = k * 3 + 2 + 3 := by omega
      rw [e1, e2, e3]
      simpa using this
/-- A row of operations of the call's own. -/
theorem OpsAt.own {w : World} {base n : Nat} {v : Value} {l : List OpM} (h : w.ownsRow base 30 3 v n (opVals l)) :
    ∃ ao cap, v = .slice ao l.length cap ∧ n = l.length ∧ OpsAt w ao l ∧ (ao = none → cap = 0) ∧ l.length ≤ cap := by
  have hl : n = l.length := by have := h.1; rw [opVals_len] at this; omega
  rcases h.2 with ⟨h1, h2⟩ | ⟨g, cap, cur, h1, h2, h3, h4, _⟩
  · have : l = [] := List.eq_nil_of_length_eq_zero (by omega)
    subst this
    exact ⟨none, 0, h1, h2, Or.inl rfl, fun _ => rfl, Nat.le_refl _⟩
  · subst hl
    refine ⟨_, cap, h1, rfl, Or.inr ⟨g, 0, rfl, (Array.getElem?_eq_some_iff.1 h3).1, fun k hk => ?_⟩, (fun h => by simp at h), h4⟩
    have ho := h
    rw [h1] at ho
    obtain ⟨c0, c1, c2⟩ := opVals_at l k hk
    rw [Nat.zero_add, ho.cellAt (k * 3) (by omega), ho.cellAt (k * 3 + 1) (by omega), ho.cellAt (k * 3 + 2) (by omega)]
    exact ⟨c0, c1, c2⟩

theorem own_apart {w : World} {base e e' s s' n n' : Nat} {v v' : Value} {xs xs' : List Value} (h : w.ownsRow base e s v n xs) (h' : w.ownsRow base e' s' v' n' xs') (hne : e ≠ e') : v.ownBlock = none ∨ v.ownBlock ≠ v'.ownBlock := by
  rcases h.2 with ⟨rfl, _⟩ | ⟨g, cap, cur, rfl, _, hg, _⟩
  · exact Or.inl rfl
  · right
    intro e0
    rcases h'.2 with ⟨rfl, _⟩ | ⟨g', cap', cur', rfl, _, hg', _⟩
    · simp [Value.ownBlock] at e0
    · simp only [Value.ownBlock, Option.some.injEq] at e0
      subst e0
      rw [hg] at hg'
      simp at hg'
      exact hne hg'.2
end Go.Proofs.YtnnkejolfhhmlaaGreat
