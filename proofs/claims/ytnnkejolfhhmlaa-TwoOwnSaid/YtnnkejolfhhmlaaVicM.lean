/- The victims of waiting, in plain Lean: each round takes the last node that lies on a loop, till there is none. -/
import Derived.Test.YtnnkejolfhhmlaaTjL
import Derived.Test.YtnnkejolfhhmlaaVicV
namespace Go.Proofs.Ytnnkejolfhhmlaa
open Go.RowKit Go.Lib
namespace VicM
/-- Does a part wait for ever? -/
def cyc (l : List EgM) (p : List Nat) : Bool := decide (1 < p.length) || GrM.E l p[0]! p[0]!
theorem cyc_iff {n : Nat} {l : List EgM} {P : List (List Nat)} {p : List Nat} {k : Nat} (h : TjM.IsParts n l P) (hp : p ∈ P) (hk : k ∈ p) : cyc l p = true ↔ GrM.Path n l k k := by
  obtain ⟨h1, h2, h3⟩ := h.scc p hp
  have hlt : ∀ x ∈ p, x < n := fun x hx => (h.mem x).1 (List.mem_flatten.2 ⟨p, hp, hx⟩)
  have hm := head_mem h1
  have hcase : ∀ b ∈ p, b ≠ k → GrM.Path n l k k := fun b hb hbk => by
    obtain ⟨h4, h5⟩ := (h3 k hk b (hlt b hb)).1 hb
    rcases h4 with h4 | h4
    · exact absurd h4.symm hbk
    · rcases h5 with h5 | h5
      · exact absurd h5 hbk
      · exact h4.trans h5
  unfold cyc
  rw [Bool.or_eq_true, decide_eq_true_iff]
  constructor
  · rintro (h4 | h4)
    · obtain ⟨b, hb, hbk⟩ : ∃ b ∈ p, b ≠ k := by
        match p, h4, h2 with
        | a :: c :: r, _, h2 =>
          rw [List.pairwise_cons] at h2
          have hac := h2.1 c List.mem_cons_self
          by_cases e : a = k
          · exact ⟨c, by simp, by omega⟩
          · exact ⟨a, by simp, e⟩
      exact hcase b hb hbk
    · by_cases e : p[0]! = k
      · rw [e] at h4
        exact .one (hlt k hk) h4
      · exact hcase _ hm e
  · intro hpath
    by_cases h4 : 1 < p.length
    · exact Or.inl h4
    · right
      have hpk : p = [k] := by
        match p, h4, hk with
        | [a], _, hk => rw [List.mem_singleton] at hk; rw [hk]
        | a :: c :: r, h4, _ => exact absurd (by simp) h4
      have hE : GrM.E l k k = true := by
        generalize hkk : k = y at hpath
        have hy : GrM.Path n l k y := by rw [hkk]; exact hpath
        clear hpath
        cases hy with
        | one _ h6 => rw [hkk] at h6; exact h6
        | @more b _ h5 h6 h7 =>
          rw [← hkk] at h6 h7
          have : b ∈ p := (h3 k hk b h5.lt).2 ⟨Or.inr h5, Or.inr (.one h6 h7)⟩
          rw [hpk, List.mem_singleton] at this
          rw [this] at h7
          rw [← hkk]; exact h7
      rw [hpk]
      exact hE
theorem le_last : ∀ {p : List Nat}, p.Pairwise (· < ·) → ∀ (hl : 0 < p.length) (x : Nat), x ∈ p → x ≤ p[p.length - 1] := fun {p} h hl x hx => by
  obtain ⟨i, hi, rfl⟩ := List.mem_iff_getElem.1 hx
  by_cases e : i = p.length - 1
  · simp [e]
  · exact Nat.le_of_lt (List.pairwise_iff_getElem.1 h i (p.length - 1) hi (by omega) (by omega))
/-- The worst of the first parts. -/
structure Worst (n : Nat) (l : List EgM) (P : List (List Nat)) (i : Nat) (wo : Int) : Prop where
  le : ∀ q (h : q < P.length), q < i → cyc l P[q] = true → ∀ k ∈ P[q], (k : Int) ≤ wo
  is : wo = -1 ∨ ∃ k : Nat, k < n ∧ GrM.Path n l k k ∧ wo = k
section
variable {n : Nat} {l : List EgM} {P : List (List Nat)} {i : Nat} {wo : Int}
theorem Worst.start : Worst n l P 0 (-1) := ⟨fun q _ h => by omega, Or.inl rfl⟩
theorem Worst.skip (h : Worst n l P i wo) (hi : i < P.length) (hc : cyc l P[i] = false) : Worst n l P (i + 1) wo :=
  ⟨fun q hq hqi hcq k hk => by
    by_cases e : q = i
    · subst e; rw [hc] at hcq; cases hcq
    · exact h.le q hq (by omega) hcq k hk, h.is⟩
theorem Worst.take (h : Worst n l P i wo) (hP : TjM.IsParts n l P) (hi : i < P.length) (hc : cyc l P[i] = true) (h0 : 0 < P[i].length) : Worst n l P (i + 1) (max wo ((P[i][P[i].length - 1] : Nat) : Int)) := by
  have hm : P[i][P[i].length - 1] ∈ P[i] := List.getElem_mem _
  have hpath := (cyc_iff hP (List.getElem_mem hi) hm).1 hc
  refine ⟨fun q hq hqi hcq k hk => ?_, ?_⟩
  · by_cases e : q = i
    · subst e
      have := le_last (hP.scc _ (List.getElem_mem hi)).2.1 h0 k hk
      omega
    · have := h.le q hq (by omega) hcq k hk
      omega
  · have hlt : P[i][P[i].length - 1] < n := (hP.mem _).1 (List.mem_flatten.2 ⟨_, List.getElem_mem hi, hm⟩)
    by_cases e : wo ≤ ((P[i][P[i].length - 1] : Nat) : Int)
    · exact Or.inr ⟨_, hlt, hpath, by omega⟩
    · rcases h.is with h1 | ⟨k, h1, h2, h3⟩
      · omega
      · exact Or.inr ⟨k, h1, h2, by omega⟩
theorem Worst.none (h : Worst n l P P.length wo) (hP : TjM.IsParts n l P) (h0 : wo < 0) (k : Nat) (hk : k < n) : ¬ GrM.Path n l k k := fun hp => by
  obtain ⟨p, hpP, hkp⟩ := List.mem_flatten.1 ((hP.mem k).2 hk)
  obtain ⟨q, hq, rfl⟩ := List.mem_iff_getElem.1 hpP
  have := h.le q hq hq ((cyc_iff hP hpP hkp).2 hp) k hkp
  omega
theorem Worst.some (h : Worst n l P P.length wo) (hP : TjM.IsParts n l P) (h0 : ¬ wo < 0) : ∃ k : Nat, wo = k ∧ k < n ∧ GrM.Path n l k k ∧ ∀ j, GrM.Path n l j j → j ≤ k := by
  rcases h.is with h1 | ⟨k, h1, h2, h3⟩
  · omega
  · refine ⟨k, h3, h1, h2, fun j hj => ?_⟩
    obtain ⟨p, hpP, hkp⟩ := List.mem_flatten.1 ((hP.mem j).2 hj.lt)
    obtain ⟨q, hq, rfl⟩ := List.mem_iff_getElem.1 hpP
    have := h.le q hq hq ((cyc_iff hP hpP hkp).2 hj) j hkp
    omega
end
theorem path_out {n : Nat} {l : List EgM} {a b : Nat} (h : GrM.Path n l a b) : ∃ c, GrM.E l a c = true := by
  induction h with
  | one _ h2 => exact ⟨_, h2⟩
  | more _ _ _ ih => exact ih
theorem del_lt {n : Nat} {l : List EgM} {k : Nat} (h : GrM.Path n l k k) : (del (k : Int) l).length < l.length := by
  obtain ⟨c, hc⟩ := path_out h
  rw [GrM.E_iff] at hc
  unfold del
  exact (List.length_filter_lt_length_iff_exists).2 ⟨_, hc, by simp⟩
theorem Vic.empty {n : Nat} {l : List EgM} {out : List Nat} (h : Vic n l out) : out = [] ↔ GrM.order n l ≠ none := by
  rw [Ne, GrM.order_none_iff]
  cases h with
  | done h => simp only [true_iff]; rintro ⟨a, _, hp⟩; exact h a hp
  | step h1 _ _ => simp only [reduceCtorEq, false_iff, Classical.not_not]; exact ⟨_, h1.lt, h1⟩
theorem Vic.after {n : Nat} {l : List EgM} {out : List Nat} (h : Vic n l out) (L : List EgM) (hL : L = l.filter fun e => !(decide (e.frm ∈ GrM.ints out) || decide (e.to_ ∈ GrM.ints out))) : GrM.order n L ≠ none := by
  induction h with
  | @done l h =>
    rw [Ne, GrM.order_none_iff]
    rintro ⟨a, _, hp⟩
    have : L = l := by rw [hL]; exact List.filter_eq_self.2 (fun x _ => by simp [GrM.ints])
    rw [this] at hp
    exact h a hp
  | @step l k out h1 h2 h3 ih =>
    refine ih ?_
    rw [hL]
    unfold del
    rw [List.filter_filter]
    apply List.filter_congr
    intro x _
    simp only [GrM.ints, List.map_cons, List.mem_cons, Bool.decide_or, Bool.not_or]
    rw [show (x.frm == (k : Int)) = decide (x.frm = k) from rfl, show (x.to_ == (k : Int)) = decide (x.to_ = k) from rfl]
    cases decide (x.frm = k) <;> cases decide (x.to_ = k) <;> simp
theorem Vic.len {n : Nat} {l : List EgM} {out : List Nat} (h : Vic n l out) : out.length ≤ l.length := by
  induction h with
  | done _ => simp
  | step h1 _ _ ih => have := del_lt h1; simp only [List.length_cons]; omega
theorem Vic.lt {n : Nat} {l : List EgM} {out : List Nat} (h : Vic n l out) : ∀ k ∈ out, k < n := by
  induction h with
  | done _ => simp
  | step h1 _ _ ih =>
    intro k hk
    rcases List.mem_cons.1 hk with rfl | hk
    · exact h1.lt
    · exact ih k hk
def ex : List EgM := [⟨0, 1⟩, ⟨1, 0⟩]
theorem ex_vic {out : List Nat} (h : Vic 3 ex out) : out = [1] := by
  have hE : ∀ a b, GrM.E ex a b = true ↔ (a = 0 ∧ b = 1) ∨ (a = 1 ∧ b = 0) := fun a b => by
    rw [GrM.E_iff]; unfold ex; simp; omega
  have h1 : GrM.Path 3 ex 1 1 := .more (.one (by omega) ((hE 1 0).2 (by omega))) (by omega) ((hE 0 1).2 (by omega))
  have h2 : ∀ a b, GrM.Path 3 ex a b → b ≤ 1 := fun a b hp => by
    cases hp with
    | one _ h => have := (hE _ _).1 h; omega
    | more _ _ h => have := (hE _ _).1 h; omega
  cases h with
  | done h => exact absurd h1 (h 1)
  | @step _ k out h3 h4 h5 =>
    have h6 := h2 k k h3
    have h7 := h4 1 h1
    obtain rfl : k = 1 := by omega
    have hd : del ((1 : Nat) : Int) ex = [] := by decide
    rw [hd] at h5
    cases h5 with
    | done _ => rfl
    | step h8 _ _ =>
      obtain ⟨c, hc⟩ := path_out h8
      rw [GrM.E_iff] at hc
      cases hc
end VicM
end Go.Proofs.Ytnnkejolfhhmlaa
