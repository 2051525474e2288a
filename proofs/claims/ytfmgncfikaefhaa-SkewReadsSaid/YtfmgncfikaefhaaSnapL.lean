/- snap.Play: what it leaves, opened. -/
import Derived.Test.YtfmgncfikaefhaaSnapP
namespace Go.Proofs.Ytfmgncfikaefhaa
open Go.RowKit Go.Lib

/-- Decisions stand where a slice begins. -/
def DidAt (w : World) (ao : Option Addr) (l : List DidM) : Prop :=
  l = [] ∨ ∃ b, ao = some ⟨b, 0, none⟩ ∧ b < w.heap.size ∧ ∀ k (h : k < l.length), w.cell? ⟨b, k * 2, none⟩ = some (.bool l[k].ok) ∧ w.cell? ⟨b, k * 2 + 1, none⟩ = some (.int .i64 l[k].from_)
theorem DidAt.below {B : Nat} {w w' : World} {ao : Option Addr} {l : List DidM} (h : DidAt w ao l) (hb : Below B w w') (hB : w.heap.size ≤ B) : DidAt w' ao l := by
  rcases h with h | ⟨b, h1, h2, h3⟩
  · exact Or.inl h
  · exact Or.inr ⟨b, h1, Nat.lt_of_lt_of_le h2 hb.size, fun k hk => ⟨(hb.cell (p := ⟨b, k * 2, none⟩) (Nat.lt_of_lt_of_le h2 hB)).trans (h3 k hk).1, (hb.cell (p := ⟨b, k * 2 + 1, none⟩) (Nat.lt_of_lt_of_le h2 hB)).trans (h3 k hk).2⟩⟩
theorem didVals_at (l : List DidM) : ∀ (k : Nat) (h : k < l.length), (didVals l)[k * 2]? = some (.bool l[k].ok) ∧ (didVals l)[k * 2 + 1]? = some (.int .i64 l[k].from_) := by
  induction l with
  | nil => intro k h; simp at h
  | cons v r ih =>
    intro k h
    cases k with
    | zero => exact ⟨rfl, rfl⟩
    | succ k =>
      have h2 := ih k (by simpa using h)
      have e1 : (k + 1) * 2 = k * 2 + 1 + 1 := by omega
      rw [e1]
      simp only [didVals, List.flatMap_cons, List.cons_append, List.nil_append, List.getElem?_cons_succ, List.getElem_cons_succ]
      exact h2
theorem DidAt.own {w : World} {base n : Nat} {v : Value} {l : List DidM} (h : w.ownsRow base 65 2 v n (didVals l)) : ∃ ao cap, v = .slice ao l.length cap ∧ DidAt w ao l := by
  have hl : n = l.length := by have := h.1; rw [didVals_len] at this; omega
  rcases h.2 with ⟨h1, h2⟩ | ⟨g, cap, cur, h1, h2, h3, h4, _⟩
  · have : l = [] := List.eq_nil_of_length_eq_zero (by omega)
    subst this
    exact ⟨none, 0, h1, Or.inl rfl⟩
  · subst hl
    refine ⟨_, cap, h1, Or.inr ⟨g, rfl, (Array.getElem?_eq_some_iff.1 h3).1, fun k hk => ?_⟩⟩
    have ho := h
    rw [h1] at ho
    obtain ⟨c0, c1⟩ := didVals_at l k hk
    rw [ho.cellAt (k * 2) (by omega), ho.cellAt (k * 2 + 1) (by omega)]
    exact ⟨c0, c1⟩
/-- What Play leaves, opened. -/
def SnapM.Left (l : List OpM) (w : World) (e : Ending) (w' : World) : Prop :=
  Below w.heap.size w w' ∧ ∃ (D : List DidM) (ao : Option Addr) (c1 : Nat) (c : Int), c = RunM.check l ∧ e = .returned (.tuple #[.slice ao D.length c1, .int .i64 c]) ∧ DidAt w' ao D ∧ (c ≠ 0 → D = []) ∧ (c = 0 → D = SnapM.play l)
theorem snap_left (l : List OpM) (ao : Option Addr) (cap : Nat) (w : World) (h : OpsAt w ao l) (hf : RunM.Fits l) :
    Calls Try.prog 28 #[.slice ao l.length cap] w (SnapM.Left l w) := by
  refine (snap_any l ao cap w h hf).mono ?_
  rintro e w' ⟨hb, ⟨hc, rfl⟩ | ⟨hc, v, rfl, hr⟩⟩
  · exact ⟨hb, [], none, 0, _, rfl, rfl, Or.inl rfl, fun _ => rfl, fun h => absurd h hc⟩
  · obtain ⟨ao, c1, rfl, h2⟩ := DidAt.own hr
    exact ⟨hb, _, ao, c1, 0, hc.symm, rfl, h2, fun h => absurd rfl h, fun _ => rfl⟩
end Go.Proofs.Ytfmgncfikaefhaa
