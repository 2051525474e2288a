/- Pacts, in plain Lean: what is right, what a beat does, and that it stays right. -/
import Derived.Test.YtnolidjjeknmmaaHeap
namespace Go.Proofs.Ytnolidjjeknmmaa
open Go.RowKit Go.Lib

structure PactSt where
  lead : Int
  votes : List Int
  parts : List Int

def PactM.okI (lead p v : Int) : Prop := 0 ≤ p ∧ p ≤ 3 ∧ 0 ≤ v ∧ v ≤ 2 ∧ (v = 2 → p = 3) ∧ (v = 1 → p ≠ 0) ∧ (p = 2 → lead = 1)
structure PactM.Good (s : PactSt) : Prop where
  n1 : 1 ≤ s.parts.length
  n8 : s.parts.length ≤ 8
  vl : s.votes.length = s.parts.length
  l0 : 0 ≤ s.lead
  l2 : s.lead ≤ 2
  each : ∀ i, i < s.parts.length → PactM.okI s.lead (s.parts.getD i 0) (s.votes.getD i 0)
  com : s.lead = 1 → ∀ i, i < s.parts.length → s.votes.getD i 0 = 1 ∧ s.parts.getD i 0 ≠ 3
  opn : s.lead = 0 → (∃ i, i < s.parts.length ∧ s.parts.getD i 0 = 3) → ∃ i, i < s.parts.length ∧ s.parts.getD i 0 = 3 ∧ s.votes.getD i 0 ≠ 1

theorem PactM.getD_set (l : List Int) (k i : Nat) (x : Int) (hk : k < l.length) : (l.set k x).getD i 0 = if i = k then x else l.getD i 0 := by
  rw [List.getD_eq_getElem?_getD, List.getD_eq_getElem?_getD, List.getElem?_set]
  by_cases h : k = i
  · subst h; simp [hk]
  · rw [if_neg h, if_neg (fun e => h e.symm)]

/-- What a beat does. -/
def PactM.vote (s : PactSt) (who : Nat) : PactSt := if s.parts.getD who 0 = 0 then { s with parts := s.parts.set who 1 } else s
def PactM.refuse (s : PactSt) (who : Nat) : PactSt := if s.parts.getD who 0 = 0 then { s with parts := s.parts.set who 3 } else s
def PactM.hear (s : PactSt) (who : Nat) : PactSt :=
  if s.lead ≠ 0 then s else if s.parts.getD who 0 = 1 then { s with votes := s.votes.set who 1 } else if s.parts.getD who 0 = 3 ∧ s.votes.getD who 0 = 0 then { s with votes := s.votes.set who 2 } else s
def PactM.makeUp (s : PactSt) : PactSt := if s.lead ≠ 0 then s else if (2 : Int) ∈ s.votes then { s with lead := 2 } else if (0 : Int) ∈ s.votes then s else { s with lead := 1 }
def PactM.giveUp (s : PactSt) : PactSt := if s.lead = 0 then { s with lead := 2 } else s
def PactM.tell (s : PactSt) (who : Nat) : PactSt :=
  if s.parts.getD who 0 = 0 ∨ s.parts.getD who 0 = 1 then (if s.lead = 1 then { s with parts := s.parts.set who 2 } else if s.lead = 2 then { s with parts := s.parts.set who 3 } else s) else s
def PactM.ask (s : PactSt) (who by_ : Nat) : PactSt :=
  if s.parts.getD who 0 ≠ 1 ∨ who = by_ then s else if s.parts.getD by_ 0 = 0 then { s with parts := (s.parts.set by_ 3).set who 3 } else if s.parts.getD by_ 0 = 2 ∨ s.parts.getD by_ 0 = 3 then { s with parts := s.parts.set who (s.parts.getD by_ 0) } else s
def PactM.step (s : PactSt) (kind : Int) (who by_ : Nat) : PactSt :=
  if kind = 1 then PactM.vote s who else if kind = 2 then PactM.refuse s who else if kind = 3 then PactM.hear s who else if kind = 4 then PactM.makeUp s else if kind = 5 then PactM.giveUp s else if kind = 6 then PactM.tell s who else PactM.ask s who by_

theorem PactM.set_good {s : PactSt} (h : PactM.Good s) {who : Nat} (hw : who < s.parts.length) {x : Int} (hx : PactM.okI s.lead x (s.votes.getD who 0)) (hc : s.lead = 1 → x ≠ 3)
    (ho : s.lead = 0 → x = 3 → s.votes.getD who 0 ≠ 1 ∨ ∃ i, i < s.parts.length ∧ i ≠ who ∧ s.parts.getD i 0 = 3 ∧ s.votes.getD i 0 ≠ 1) (hk : s.parts.getD who 0 ≠ 3) : PactM.Good { s with parts := s.parts.set who x } := by
  refine ⟨by simpa using h.n1, by simpa using h.n8, by simpa using h.vl, h.l0, h.l2, fun i hi => ?_, fun hl i hi => ?_, fun hl hex => ?_⟩
  · have hi' : i < s.parts.length := by simpa using hi
    simp only
    rw [PactM.getD_set _ _ _ _ hw]
    split
    · rename_i e; subst e; exact hx
    · exact h.each i hi'
  · have hi' : i < s.parts.length := by simpa using hi
    simp only
    rw [PactM.getD_set _ _ _ _ hw]
    refine ⟨(h.com hl i hi').1, ?_⟩
    split
    · exact hc hl
    · exact (h.com hl i hi').2
  · obtain ⟨i, hi, h3⟩ := hex
    have hi' : i < s.parts.length := by simpa using hi
    simp only at h3
    rw [PactM.getD_set _ _ _ _ hw] at h3
    have key : ∀ j, j < s.parts.length → s.parts.getD j 0 = 3 → s.votes.getD j 0 ≠ 1 → ∃ i, i < (s.parts.set who x).length ∧ (s.parts.set who x).getD i 0 = 3 ∧ s.votes.getD i 0 ≠ 1 := fun j hj h1 h2 => by
      refine ⟨j, by simpa using hj, ?_, h2⟩
      rw [PactM.getD_set _ _ _ _ hw, if_neg (fun e => hk (by rw [← e]; exact h1))]
      exact h1
    split at h3
    · rename_i e
      subst e
      rcases ho hl h3 with h5 | ⟨j, hj, _, h6, h7⟩
      · refine ⟨i, hi, ?_, h5⟩
        show (s.parts.set i x).getD i 0 = 3
        rw [PactM.getD_set _ _ _ _ hw, if_pos rfl]; exact h3
      · exact key j hj h6 h7
    · obtain ⟨j, hj, h6, h7⟩ := h.opn hl ⟨i, hi', h3⟩
      exact key j hj h6 h7

theorem PactM.vote_good {s : PactSt} (h : PactM.Good s) {who : Nat} (hw : who < s.parts.length) : PactM.Good (PactM.vote s who) := by
  unfold PactM.vote
  split
  · rename_i h0
    have he := h.each who hw
    unfold PactM.okI at he
    refine PactM.set_good h hw ?_ (fun _ => by decide) (fun _ h => absurd h (by decide)) (by omega)
    unfold PactM.okI
    omega
  · exact h
theorem PactM.no_lead {s : PactSt} (h : PactM.Good s) {who : Nat} (hw : who < s.parts.length) (h0 : s.parts.getD who 0 = 0) : s.lead ≠ 1 ∧ s.votes.getD who 0 = 0 := by
  have he := h.each who hw
  unfold PactM.okI at he
  refine ⟨fun hl => ?_, by omega⟩
  have := (h.com hl who hw).1
  omega
theorem PactM.refuse_good {s : PactSt} (h : PactM.Good s) {who : Nat} (hw : who < s.parts.length) : PactM.Good (PactM.refuse s who) := by
  unfold PactM.refuse
  split
  · rename_i h0
    obtain ⟨h1, h2⟩ := PactM.no_lead h hw h0
    refine PactM.set_good h hw ?_ (fun e => absurd e h1) (fun _ _ => Or.inl (by omega)) (by omega)
    unfold PactM.okI
    omega
  · exact h
theorem PactM.votes_good {s : PactSt} (h : PactM.Good s) {who : Nat} (hw : who < s.parts.length) {x : Int} (hl : s.lead = 0) (hx : PactM.okI s.lead (s.parts.getD who 0) x) (hne : s.parts.getD who 0 = 3 → x ≠ 1) : PactM.Good { s with votes := s.votes.set who x } := by
  have hv : who < s.votes.length := by rw [h.vl]; exact hw
  refine ⟨h.n1, h.n8, by simpa using h.vl, h.l0, h.l2, fun i hi => ?_, fun h1 => by simp only at h1; omega, fun _ hex => ?_⟩
  · simp only
    rw [PactM.getD_set _ _ _ _ hv]
    split
    · rename_i e; subst e; exact hx
    · exact h.each i hi
  · obtain ⟨j, hj, h6, h7⟩ := h.opn hl hex
    refine ⟨j, hj, h6, ?_⟩
    simp only
    rw [PactM.getD_set _ _ _ _ hv]
    split
    · rename_i e; subst e; exact hne h6
    · exact h7
theorem PactM.hear_good {s : PactSt} (h : PactM.Good s) {who : Nat} (hw : who < s.parts.length) : PactM.Good (PactM.hear s who) := by
  unfold PactM.hear
  have he := h.each who hw
  unfold PactM.okI at he
  split
  · exact h
  rename_i hl
  split
  · exact PactM.votes_good h hw (by omega) (by unfold PactM.okI; omega) (by omega)
  split
  · exact PactM.votes_good h hw (by omega) (by unfold PactM.okI; omega) (by omega)
  · exact h
theorem PactM.mem_getD {l : List Int} {x : Int} : x ∈ l ↔ ∃ i, i < l.length ∧ l.getD i 0 = x := by
  constructor
  · intro h
    obtain ⟨i, hi, e⟩ := List.getElem_of_mem h
    exact ⟨i, hi, by rw [List.getD_eq_getElem?_getD, List.getElem?_eq_getElem hi]; exact e⟩
  · rintro ⟨i, hi, e⟩
    rw [List.getD_eq_getElem?_getD, List.getElem?_eq_getElem hi] at e
    have e' : l[i] = x := e
    rw [← e']; exact List.getElem_mem hi
theorem PactM.lead_good {s : PactSt} (h : PactM.Good s) (hl : s.lead = 0) : PactM.Good { s with lead := 2 } := by
  refine ⟨h.n1, h.n8, h.vl, (by simp only; omega), (by simp only; omega), fun i hi => ?_, fun h1 => by simp at h1, fun h1 => by simp at h1⟩
  have he := h.each i hi
  unfold PactM.okI at he ⊢
  simp only
  omega
theorem PactM.makeUp_good {s : PactSt} (h : PactM.Good s) : PactM.Good (PactM.makeUp s) := by
  unfold PactM.makeUp
  split
  · exact h
  rename_i hl
  have hl0 : s.lead = 0 := by omega
  split
  · exact PactM.lead_good h hl0
  rename_i h2
  split
  · exact h
  rename_i h0
  have hall : ∀ i, i < s.parts.length → s.votes.getD i 0 = 1 := fun i hi => by
    have he := h.each i hi
    unfold PactM.okI at he
    have n0 : s.votes.getD i 0 ≠ 0 := fun e => h0 (PactM.mem_getD.2 ⟨i, by rw [h.vl]; exact hi, e⟩)
    have n2 : s.votes.getD i 0 ≠ 2 := fun e => h2 (PactM.mem_getD.2 ⟨i, by rw [h.vl]; exact hi, e⟩)
    omega
  refine ⟨h.n1, h.n8, h.vl, (by simp only; omega), (by simp only; omega), fun i hi => ?_, fun _ i hi => ⟨hall i hi, fun h3 => ?_⟩, fun h1 => by simp at h1⟩
  · have he := h.each i hi
    unfold PactM.okI at he ⊢
    simp only
    omega
  · obtain ⟨j, hj, _, h7⟩ := h.opn hl0 ⟨i, hi, h3⟩
    exact h7 (hall j hj)
theorem PactM.giveUp_good {s : PactSt} (h : PactM.Good s) : PactM.Good (PactM.giveUp s) := by
  unfold PactM.giveUp
  split
  · rename_i hl; exact PactM.lead_good h hl
  · exact h
theorem PactM.tell_good {s : PactSt} (h : PactM.Good s) {who : Nat} (hw : who < s.parts.length) : PactM.Good (PactM.tell s who) := by
  unfold PactM.tell
  have he := h.each who hw
  unfold PactM.okI at he
  split
  · rename_i h01
    split
    · rename_i hl
      have := h.com hl who hw
      exact PactM.set_good h hw (by unfold PactM.okI; omega) (fun _ => by decide) (fun _ h => absurd h (by decide)) (by omega)
    split
    · rename_i hl
      exact PactM.set_good h hw (by unfold PactM.okI; omega) (by omega) (by omega) (by omega)
    · exact h
  · exact h
theorem PactM.ask_good {s : PactSt} (h : PactM.Good s) {who by_ : Nat} (hw : who < s.parts.length) (hb : by_ < s.parts.length) : PactM.Good (PactM.ask s who by_) := by
  unfold PactM.ask
  have he := h.each who hw
  have hf := h.each by_ hb
  unfold PactM.okI at he hf
  split
  · exact h
  rename_i hn
  have hp1 : s.parts.getD who 0 = 1 := by omega
  have hne : who ≠ by_ := by omega
  split
  · rename_i h0
    obtain ⟨h1, h2⟩ := PactM.no_lead h hb h0
    have g1 : PactM.Good { s with parts := s.parts.set by_ 3 } :=
      PactM.set_good h hb (by unfold PactM.okI; omega) (fun e => absurd e h1) (fun _ _ => Or.inl (by omega)) (by omega)
    have e1 : (s.parts.set by_ 3).getD who 0 = 1 := by rw [PactM.getD_set _ _ _ _ hb, if_neg hne]; exact hp1
    have e2 : (s.parts.set by_ 3).getD by_ 0 = 3 := by rw [PactM.getD_set _ _ _ _ hb, if_pos rfl]
    exact PactM.set_good (s := { s with parts := s.parts.set by_ 3 }) g1 (by simpa using hw) (by unfold PactM.okI; simp only; omega) (fun e => absurd e h1) (fun _ _ => Or.inr ⟨by_, by simpa using hb, fun e => hne e.symm, e2, by simp only; omega⟩) (by simp only; omega)
  split
  · rename_i h23
    refine PactM.set_good h hw (by unfold PactM.okI; omega) (fun hl => ?_) (fun hl h3 => Or.inr ?_) (by omega)
    · have := (h.com hl by_ hb).2; omega
    · obtain ⟨j, hj, h6, h7⟩ := h.opn hl ⟨by_, hb, h3⟩
      exact ⟨j, hj, fun e => by subst e; omega, h6, h7⟩
  · exact h
theorem PactM.step_good {s : PactSt} (h : PactM.Good s) (kind : Int) {who by_ : Nat} (hw : who < s.parts.length) (hb : by_ < s.parts.length) : PactM.Good (PactM.step s kind who by_) := by
  unfold PactM.step
  split
  · exact PactM.vote_good h hw
  split
  · exact PactM.refuse_good h hw
  split
  · exact PactM.hear_good h hw
  split
  · exact PactM.makeUp_good h
  split
  · exact PactM.giveUp_good h
  split
  · exact PactM.tell_good h hw
  · exact PactM.ask_good h hw hb
end Go.Proofs.Ytnolidjjeknmmaa
