/- SnapFirst's map, in plain Lean: where each one began. -/
import Derived.Test.YtlmibgjflgkalaaFirstM
import Derived.Maps.Views
namespace Go.Proofs.Ytlmibgjflgkalaa
open Go.RowKit Go.Lib Go.Maps

/-- The map before operation i. -/
def FirstM.D (l : List OpM) : Nat → DataW Unit
  | 0 => .map []
  | i + 1 => if h : i < l.length then (if Maps.has (FirstM.D l i) (.int .i64 l[i].tx) = true then FirstM.D l i else (FirstM.D l i).put (.int .i64 l[i].tx) (.lit (.int .i64 (i : Int)))) else FirstM.D l i
theorem FirstM.isMap (l : List OpM) : ∀ i, IsMap (FirstM.D l i)
  | 0 => isMap_empty
  | i + 1 => by
    unfold FirstM.D
    split
    · split
      · exact FirstM.isMap l i
      · exact (FirstM.isMap l i).put _ _
    · exact FirstM.isMap l i
theorem FirstM.key (t : Int) : WideAt.IsKeyLit (.int .i64 t) := by simp [WideAt.IsKeyLit]
theorem FirstM.key_ne {a b : Int} (h : a ≠ b) : (Lit.int .i64 a) ≠ Lit.int .i64 b := fun e => h (by injection e)
theorem FirstM.has (l : List OpM) (t : Int) : ∀ i, i ≤ l.length → (Maps.has (FirstM.D l i) (.int .i64 t) = true ↔ ∃ j, ∃ h : j < l.length, j < i ∧ l[j].tx = t)
  | 0, _ => ⟨fun h => by simp [FirstM.D, Maps.has] at h, fun ⟨j, _, h, _⟩ => by omega⟩
  | i + 1, hi => by
    have ih := FirstM.has l t i (by omega)
    have hil : i < l.length := by omega
    unfold FirstM.D
    rw [dif_pos hil]
    constructor
    · intro h
      by_cases e : l[i].tx = t
      · exact ⟨i, hil, by omega, e⟩
      · split at h
        · obtain ⟨j, hj, h1, h2⟩ := ih.1 h; exact ⟨j, hj, by omega, h2⟩
        · rw [has_put_other (FirstM.key_ne (Ne.symm e))] at h
          obtain ⟨j, hj, h1, h2⟩ := ih.1 h; exact ⟨j, hj, by omega, h2⟩
    · rintro ⟨j, hj, h1, h2⟩
      by_cases e : l[i].tx = t
      · split
        · rename_i hh; rw [← e]; exact hh
        · rw [e]; exact has_put_same (FirstM.isMap l i) (FirstM.key t) _
      · have hji : j < i := by
          by_cases ej : j = i
          · subst ej; exact absurd h2 e
          · omega
        have := ih.2 ⟨j, hj, hji, h2⟩
        split
        · exact this
        · rw [has_put_other (FirstM.key_ne (Ne.symm e))]; exact this
theorem FirstM.at_ (l : List OpM) (t : Int) : ∀ i, i ≤ l.length → Maps.has (FirstM.D l i) (.int .i64 t) = true → ∃ f, ∃ h : f < l.length, f < i ∧ l[f].tx = t ∧ (∀ j (h' : j < l.length), j < f → l[j].tx ≠ t) ∧ ∀ z, (FirstM.D l i).atKey (.int .i64 t) z = .lit (.int .i64 (f : Int))
  | 0, _, h => by simp [FirstM.D, Maps.has] at h
  | i + 1, hi, h => by
    have ih := FirstM.at_ l t i (by omega)
    have hil : i < l.length := by omega
    unfold FirstM.D at h ⊢
    rw [dif_pos hil] at h ⊢
    by_cases e : l[i].tx = t
    · split at h
      · rename_i hh
        rw [if_pos hh]
        obtain ⟨f, hf, h1, h2⟩ := ih h
        exact ⟨f, hf, by omega, h2⟩
      · rename_i hh
        rw [if_neg hh]
        refine ⟨i, hil, by omega, e, fun j hj hji et => ?_, fun z => by rw [e]; exact atKey_put_same (FirstM.isMap l i) (FirstM.key t) _ z⟩
        exact hh ((FirstM.has l _ i (by omega)).2 ⟨j, hj, hji, by rw [et, e]⟩)
    · split at h
      · rename_i hh
        rw [if_pos hh]
        obtain ⟨f, hf, h1, h2⟩ := ih h
        exact ⟨f, hf, by omega, h2⟩
      · rename_i hh
        rw [if_neg hh]
        rw [has_put_other (FirstM.key_ne (Ne.symm e))] at h
        obtain ⟨f, hf, h1, h2, h3, h4⟩ := ih h
        exact ⟨f, hf, by omega, h2, h3, fun z => by rw [atKey_put_other (FirstM.key_ne (Ne.symm e))]; exact h4 z⟩
end Go.Proofs.Ytlmibgjflgkalaa
