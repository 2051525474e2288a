/- Pacts, in plain Lean: what is decided stays, all come to an end. -/
import Derived.Test.YtnolidjjeknmmaaPactM
namespace Go.Proofs.Ytnolidjjeknmmaa
open Go.RowKit Go.Lib

theorem PactM.step_len (s : PactSt) (kind : Int) (who by_ : Nat) : (PactM.step s kind who by_).parts.length = s.parts.length ∧ (PactM.step s kind who by_).votes.length = s.votes.length := by
  unfold PactM.step PactM.vote PactM.refuse PactM.hear PactM.makeUp PactM.giveUp PactM.tell PactM.ask
  repeat' split
  all_goals simp
/-- Nobody who is over comes back; nobody who is ready goes back. -/
def PactM.Onward (a b : Int) : Prop := (2 ≤ a → b = a) ∧ (a = 1 → b ≠ 0)
theorem PactM.onward_refl (a : Int) : PactM.Onward a a := ⟨fun _ => rfl, fun h => by omega⟩
theorem PactM.onward_set {s : PactSt} {who : Nat} (hw : who < s.parts.length) {x : Int} (h : PactM.Onward (s.parts.getD who 0) x) (i : Nat) : PactM.Onward (s.parts.getD i 0) ((s.parts.set who x).getD i 0) := by
  rw [PactM.getD_set _ _ _ _ hw]
  split
  · rename_i e; rw [e]; exact h
  · exact PactM.onward_refl _
theorem PactM.onward_of {a b : Int} (h1 : a < 2) (h2 : a = 1 → b ≠ 0) : PactM.Onward a b := ⟨fun h => by omega, h2⟩
theorem PactM.step_onward (s : PactSt) (kind : Int) {who by_ : Nat} (hw : who < s.parts.length) (hb : by_ < s.parts.length) (i : Nat) : PactM.Onward (s.parts.getD i 0) ((PactM.step s kind who by_).parts.getD i 0) := by
  unfold PactM.step
  split
  · unfold PactM.vote
    split
    · exact PactM.onward_set hw (PactM.onward_of (by omega) (by omega)) i
    · exact PactM.onward_refl _
  split
  · unfold PactM.refuse
    split
    · exact PactM.onward_set hw (PactM.onward_of (by omega) (by omega)) i
    · exact PactM.onward_refl _
  split
  · unfold PactM.hear
    split
    · exact PactM.onward_refl _
    split
    · exact PactM.onward_refl _
    split
    · exact PactM.onward_refl _
    · exact PactM.onward_refl _
  split
  · unfold PactM.makeUp
    split
    · exact PactM.onward_refl _
    split
    · exact PactM.onward_refl _
    split
    · exact PactM.onward_refl _
    · exact PactM.onward_refl _
  split
  · unfold PactM.giveUp
    split
    · exact PactM.onward_refl _
    · exact PactM.onward_refl _
  split
  · unfold PactM.tell
    split
    · split
      · exact PactM.onward_set hw (PactM.onward_of (by omega) (by omega)) i
      split
      · exact PactM.onward_set hw (PactM.onward_of (by omega) (by omega)) i
      · exact PactM.onward_refl _
    · exact PactM.onward_refl _
  · unfold PactM.ask
    split
    · exact PactM.onward_refl _
    rename_i hn
    split
    · rename_i h0
      have hne : who ≠ by_ := by omega
      have h1 := PactM.onward_set hb (x := 3) (PactM.onward_of (by omega) (by omega)) i
      have e1 : (s.parts.set by_ 3).getD who 0 = 1 := by rw [PactM.getD_set _ _ _ _ hb, if_neg hne]; omega
      have h2 := PactM.onward_set (s := { s with parts := s.parts.set by_ 3 }) (who := who) (by simpa using hw) (x := 3) (PactM.onward_of (by simp only; omega) (by omega)) i
      exact ⟨fun h => by rw [h2.1 (by rw [h1.1 h]; exact h)]; exact h1.1 h, fun h e => by
        simp only at e
        rw [PactM.getD_set _ _ _ _ (by simpa using hw), PactM.getD_set _ _ _ _ hb] at e
        split at e
        · omega
        split at e
        · omega
        · omega⟩
    split
    · exact PactM.onward_set hw (PactM.onward_of (by omega) (by omega)) i
    · exact PactM.onward_refl _
theorem PactM.step_stays (s : PactSt) (kind : Int) {who by_ : Nat} (hw : who < s.parts.length) (hb : by_ < s.parts.length) (i : Nat) :
    (2 ≤ s.parts.getD i 0 → (PactM.step s kind who by_).parts.getD i 0 = s.parts.getD i 0) ∧ (s.parts.getD i 0 = 1 → (PactM.step s kind who by_).parts.getD i 0 ≠ 0) := PactM.step_onward s kind hw hb i
theorem PactM.step_lead (s : PactSt) (kind : Int) (who by_ : Nat) (h : s.lead ≠ 0) : (PactM.step s kind who by_).lead = s.lead := by
  unfold PactM.step PactM.vote PactM.refuse PactM.hear PactM.makeUp PactM.giveUp PactM.tell PactM.ask
  repeat' split
  all_goals first | rfl | (exfalso; omega)

/-- All are told. -/
def PactM.told (s : PactSt) : Nat → PactSt
  | 0 => s
  | i + 1 => PactM.step (PactM.told s i) 6 i 0
theorem PactM.told_good {s : PactSt} (h : PactM.Good s) : ∀ i, i ≤ s.parts.length → PactM.Good (PactM.told s i) ∧ (PactM.told s i).parts.length = s.parts.length
  | 0, _ => ⟨h, rfl⟩
  | i + 1, hi => by
    obtain ⟨h1, h2⟩ := PactM.told_good h i (by omega)
    have := h.n1
    exact ⟨PactM.step_good h1 6 (by omega) (by omega), by rw [PactM.told, (PactM.step_len _ _ _ _).1, h2]⟩
theorem PactM.told_end {s : PactSt} (h : PactM.Good s) (hl : s.lead ≠ 0) : ∀ i, i ≤ s.parts.length → (PactM.told s i).lead = s.lead ∧ ∀ j, j < i → (PactM.told s i).parts.getD j 0 = if s.lead = 2 then 3 else 2
  | 0, _ => ⟨rfl, fun j h => by omega⟩
  | i + 1, hi => by
    obtain ⟨h1, h2⟩ := PactM.told_end h hl i (by omega)
    obtain ⟨g1, g2⟩ := PactM.told_good h i (by omega)
    have h0 := h.n1
    have hle : (PactM.told s (i + 1)).lead = s.lead := by rw [PactM.told, PactM.step_lead _ _ _ _ (by rw [h1]; exact hl), h1]
    refine ⟨hle, fun j hj => ?_⟩
    by_cases e : j = i
    · subst e
      have he := g1.each j (by omega)
      unfold PactM.okI at he
      rw [PactM.told]
      have hg := fun x => PactM.getD_set (PactM.told s j).parts j j x (by omega)
      have hcom := g1.com
      have l0 := h.l0; have l2 := h.l2
      unfold PactM.step
      rw [if_neg (by decide), if_neg (by decide), if_neg (by decide), if_neg (by decide), if_neg (by decide), if_pos rfl]
      unfold PactM.tell
      by_cases e1 : s.lead = 2
      · rw [if_pos e1]
        split
        · rw [if_neg (by omega), if_pos (by omega)]
          simp only [hg, if_true]
        · rename_i hn
          omega
      · rw [if_neg e1]
        split
        · rw [if_pos (by omega)]
          simp only [hg, if_true]
        · rename_i hn
          have := (hcom (by omega) j (by omega)).2
          omega
    · have hs := (PactM.step_stays (PactM.told s i) 6 (who := i) (by_ := 0) (by omega) (by omega) j).1
      have hj2 := h2 j (by omega)
      rw [PactM.told, hs (by rw [hj2]; split <;> omega), hj2]

/-- One asks all. -/
def PactM.row (s : PactSt) (i : Nat) : Nat → PactSt
  | 0 => s
  | k + 1 => PactM.step (PactM.row s i k) 7 i k
/-- All ask all. -/
def PactM.sweep (s : PactSt) (n : Nat) : Nat → PactSt
  | 0 => s
  | i + 1 => PactM.row (PactM.sweep s n i) i n
theorem PactM.row_good {s : PactSt} (h : PactM.Good s) {i : Nat} (hi : i < s.parts.length) : ∀ k, k ≤ s.parts.length → PactM.Good (PactM.row s i k) ∧ (PactM.row s i k).parts.length = s.parts.length
  | 0, _ => ⟨h, rfl⟩
  | k + 1, hk => by
    obtain ⟨h1, h2⟩ := PactM.row_good h hi k (by omega)
    exact ⟨PactM.step_good h1 7 (by omega) (by omega), by rw [PactM.row, (PactM.step_len _ _ _ _).1, h2]⟩
theorem PactM.sweep_good {s : PactSt} (h : PactM.Good s) : ∀ i, i ≤ s.parts.length → PactM.Good (PactM.sweep s s.parts.length i) ∧ (PactM.sweep s s.parts.length i).parts.length = s.parts.length
  | 0, _ => ⟨h, rfl⟩
  | i + 1, hi => by
    obtain ⟨h1, h2⟩ := PactM.sweep_good h i (by omega)
    have h3 := PactM.row_good h1 (i := i) (by omega) s.parts.length (by omega)
    exact ⟨h3.1, h3.2.trans h2⟩
theorem PactM.step7 (s : PactSt) (i k : Nat) : PactM.step s 7 i k = PactM.ask s i k := by
  unfold PactM.step
  rw [if_neg (by decide), if_neg (by decide), if_neg (by decide), if_neg (by decide), if_neg (by decide), if_neg (by decide)]
/-- Who is not ready does not become so by asking. -/
theorem PactM.ask_keeps (s : PactSt) {i k : Nat} (hi : i < s.parts.length) (hk : k < s.parts.length) (j : Nat) (h : s.parts.getD j 0 ≠ 1) : (PactM.ask s i k).parts.getD j 0 ≠ 1 := by
  have g := fun x => PactM.getD_set s.parts i j x hi
  have g2 := fun x => PactM.getD_set s.parts k j x hk
  have g3 := fun x y => PactM.getD_set (s.parts.set k x) i j y (by simpa using hi)
  unfold PactM.ask
  split
  · exact h
  split
  · simp only [g3, g2]
    split
    · omega
    split
    · omega
    · exact h
  split
  · simp only [g]
    split
    · omega
    · exact h
  · exact h
theorem PactM.row_keeps {s : PactSt} (h : PactM.Good s) {i : Nat} (hi : i < s.parts.length) (j : Nat) (hj : s.parts.getD j 0 ≠ 1) : ∀ k, k ≤ s.parts.length → (PactM.row s i k).parts.getD j 0 ≠ 1
  | 0, _ => hj
  | k + 1, hk => by
    have h2 := (PactM.row_good h hi k (by omega)).2
    rw [PactM.row, PactM.step7]
    exact PactM.ask_keeps _ (by omega) (by omega) j (PactM.row_keeps h hi j hj k (by omega))
theorem PactM.row_ends {s : PactSt} (h : PactM.Good s) {i k0 : Nat} (hi : i < s.parts.length) (h0 : k0 < s.parts.length) (hn : s.parts.getD k0 0 ≠ 1) : ∀ k, k ≤ s.parts.length → k0 < k → (PactM.row s i k).parts.getD i 0 ≠ 1
  | 0, _, h => by omega
  | k + 1, hk, hlt => by
    obtain ⟨g1, g2⟩ := PactM.row_good h hi k (by omega)
    rw [PactM.row, PactM.step7]
    by_cases e : k0 = k
    · subst e
      have hk0 := PactM.row_keeps h hi k0 hn k0 (by omega)
      by_cases h1 : (PactM.row s i k0).parts.getD i 0 = 1
      · have hne : i ≠ k0 := by intro e; subst e; exact hk0 h1
        have he := g1.each k0 (by omega)
        unfold PactM.okI at he
        unfold PactM.ask
        rw [if_neg (by omega)]
        split
        · simp only
          rw [PactM.getD_set _ _ _ _ (by simp; omega), if_pos rfl]; omega
        · rw [if_pos (by omega)]
          simp only
          rw [PactM.getD_set _ _ _ _ (by omega), if_pos rfl]; exact hk0
      · exact PactM.ask_keeps _ (by omega) (by omega) i h1
    · exact PactM.ask_keeps _ (by omega) (by omega) i (PactM.row_ends h hi h0 hn k (by omega) (by omega))
theorem PactM.sweep_keeps {s : PactSt} (h : PactM.Good s) (j : Nat) (hj : s.parts.getD j 0 ≠ 1) : ∀ i, i ≤ s.parts.length → (PactM.sweep s s.parts.length i).parts.getD j 0 ≠ 1
  | 0, _ => hj
  | i + 1, hi => by
    obtain ⟨h1, h2⟩ := PactM.sweep_good h i (by omega)
    have h3 := PactM.row_keeps h1 (i := i) (by omega) j (PactM.sweep_keeps h j hj i (by omega)) s.parts.length (by omega)
    exact h3
theorem PactM.sweep_ends {s : PactSt} (h : PactM.Good s) {k0 : Nat} (h0 : k0 < s.parts.length) (hn : s.parts.getD k0 0 ≠ 1) : ∀ i, i ≤ s.parts.length → ∀ j, j < i → (PactM.sweep s s.parts.length i).parts.getD j 0 ≠ 1
  | 0, _, j, h => by omega
  | i + 1, hi, j, hj => by
    obtain ⟨h1, h2⟩ := PactM.sweep_good h i (by omega)
    by_cases e : j = i
    · subst e
      have h3 := PactM.row_ends h1 (i := j) (k0 := k0) (by omega) (by omega) (PactM.sweep_keeps h k0 hn j (by omega)) s.parts.length (by omega) h0
      exact h3
    · have h3 := PactM.row_keeps h1 (i := i) (by omega) j (PactM.sweep_ends h h0 hn i (by omega) j (by omega)) s.parts.length (by omega)
      exact h3
theorem PactM.ask_stuck (s : PactSt) (hall : ∀ j, j < s.parts.length → s.parts.getD j 0 = 1) {i k : Nat} (hk : k < s.parts.length) : PactM.ask s i k = s := by
  have := hall k hk
  unfold PactM.ask
  split
  · rfl
  rw [if_neg (by omega), if_neg (by omega)]
theorem PactM.row_stuck (s : PactSt) (hall : ∀ j, j < s.parts.length → s.parts.getD j 0 = 1) (i : Nat) : ∀ k, k ≤ s.parts.length → PactM.row s i k = s
  | 0, _ => rfl
  | k + 1, hk => by rw [PactM.row, PactM.step7, PactM.row_stuck s hall i k (by omega), PactM.ask_stuck s hall (by omega)]
theorem PactM.sweep_stuck (s : PactSt) (hall : ∀ j, j < s.parts.length → s.parts.getD j 0 = 1) : ∀ i, PactM.sweep s s.parts.length i = s
  | 0 => rfl
  | i + 1 => by rw [PactM.sweep, PactM.sweep_stuck s hall i, PactM.row_stuck s hall i _ (Nat.le_refl _)]
end Go.Proofs.Ytnolidjjeknmmaa
