/- GraphParts, in plain Lean. -/
import Derived.Test.YtgkclgmekbgjmaaTjP
namespace Go.Proofs.Ytgkclgmekbgjmaa
open Go.RowKit Go.Lib

/-- Two rising lists with the same members are one. -/
theorem strict_ext : ∀ (l m : List Nat), l.Pairwise (· < ·) → m.Pairwise (· < ·) → (∀ x, x ∈ l ↔ x ∈ m) → l = m
  | [], [], _, _, _ => rfl
  | [], b :: m, _, _, h => by have := (h b).2 List.mem_cons_self; cases this
  | a :: l, [], _, _, h => by have := (h a).1 List.mem_cons_self; cases this
  | a :: l, b :: m, h1, h2, h => by
    rw [List.pairwise_cons] at h1 h2
    have e : a = b := by
      have ha := (h a).1 List.mem_cons_self
      have hb := (h b).2 List.mem_cons_self
      rcases List.mem_cons.1 ha with e | ha
      · exact e
      · rcases List.mem_cons.1 hb with e | hb
        · exact e.symm
        · have := h2.1 a ha; have := h1.1 b hb; omega
    subst e
    rw [strict_ext l m h1.2 h2.2 (fun x => ?_)]
    constructor
    · intro hx
      rcases List.mem_cons.1 ((h x).1 (List.mem_cons_of_mem _ hx)) with e | h3
      · have := h1.1 x hx; omega
      · exact h3
    · intro hx
      rcases List.mem_cons.1 ((h x).2 (List.mem_cons_of_mem _ hx)) with e | h3
      · have := h2.1 x hx; omega
      · exact h3
namespace TjM
def ex : List EgM := [⟨2, 0⟩, ⟨0, 2⟩]
theorem ex_E (x y : Nat) : GrM.E ex x y = true ↔ (x = 2 ∧ y = 0) ∨ (x = 0 ∧ y = 2) := by
  rw [GrM.E_iff]
  unfold ex
  simp
  omega
theorem ex_R (x y : Nat) : R 3 ex x y ↔ x = y ∨ ((x = 0 ∨ x = 2) ∧ (y = 0 ∨ y = 2)) := by
  constructor
  · intro h
    have := R.closed (n := 3) (l := ex) (A := fun y => x = y ∨ ((x = 0 ∨ x = 2) ∧ (y = 0 ∨ y = 2))) (fun a ha b _ he => by
      rw [ex_E] at he; omega) (Or.inl rfl) h
    exact this
  · rintro (rfl | ⟨h1, h2⟩)
    · exact R.refl _
    · by_cases e : x = y
      · exact Or.inl e
      · exact R.edge (by omega) (by rw [ex_E]; omega)
theorem ex_parts {P : List (List Nat)} (h : IsParts 3 ex P) (hp : P.Pairwise fun p q => p[0]! < q[0]!) : P = [[0, 2], [1]] := by
  have hA : ∀ p ∈ P, p = [0, 2] ∨ p = [1] := fun p hpp => by
    obtain ⟨h1, h2, h3⟩ := h.scc p hpp
    have hm := head_mem h1
    have h0 : p[0]! < 3 := (h.mem _).1 (List.mem_flatten.2 ⟨p, hpp, hm⟩)
    have h4 := h3 _ hm
    have h5 : ∀ x ∈ p, x < 3 := fun x hx => (h.mem _).1 (List.mem_flatten.2 ⟨p, hpp, hx⟩)
    by_cases e : p[0]! = 1
    · right
      refine strict_ext _ _ h2 (by simp) (fun x => ?_)
      rw [List.mem_singleton]
      constructor
      · intro hx
        have := (h4 x (h5 x hx)).1 hx
        rw [ex_R, ex_R] at this; omega
      · intro hx
        exact (h4 x (by omega)).2 (by rw [ex_R, ex_R]; omega)
    · left
      refine strict_ext _ _ h2 (by simp) (fun x => ?_)
      simp only [List.mem_cons, List.not_mem_nil, or_false]
      constructor
      · intro hx
        have h6 := (h4 x (h5 x hx)).1 hx
        rw [ex_R, ex_R] at h6; omega
      · intro hx
        exact (h4 x (by omega)).2 (by rw [ex_R, ex_R]; omega)
  have h0 : [0, 2] ∈ P := by
    obtain ⟨p, hp1, hp2⟩ := List.mem_flatten.1 ((h.mem 0).2 (by omega))
    rcases hA p hp1 with rfl | rfl
    · exact hp1
    · simp at hp2
  have h1 : [1] ∈ P := by
    obtain ⟨p, hp1, hp2⟩ := List.mem_flatten.1 ((h.mem 1).2 (by omega))
    rcases hA p hp1 with rfl | rfl
    · simp at hp2
    · exact hp1
  match P, hA, h0, h1, hp with
  | [], _, h0, _, _ => cases h0
  | [p], hA, h0, h1, _ => rw [List.mem_singleton] at h0 h1; rw [← h0] at h1; cases h1
  | p :: q :: r, hA, h0, h1, hp =>
    rw [List.pairwise_cons, List.pairwise_cons] at hp
    have hpq := hp.1 q List.mem_cons_self
    have hp' := hA p List.mem_cons_self
    have hq' := hA q (List.mem_cons_of_mem _ List.mem_cons_self)
    have hr : r = [] := by
      cases r with
      | nil => rfl
      | cons s r =>
        have h6 := hp.2.1 s List.mem_cons_self
        have hs' := hA s (List.mem_cons_of_mem _ (List.mem_cons_of_mem _ List.mem_cons_self))
        rcases hp' with rfl | rfl <;> rcases hq' with rfl | rfl <;> rcases hs' with rfl | rfl <;> simp at hpq h6
    subst hr
    rcases hp' with rfl | rfl <;> rcases hq' with rfl | rfl <;> simp at hpq ⊢
/-- Which part each node is in, of the first ones. -/
structure Told (P : List (List Nat)) (i j : Nat) (g : Nat → Int) : Prop where
  old : ∀ q (h : q < P.length), q < i → ∀ x ∈ P[q], g x = (q : Int)
  now : ∀ (h : i < P.length), ∀ x ∈ P[i].take j, g x = (i : Int)
theorem Told.start (P : List (List Nat)) (g : Nat → Int) : Told P 0 0 g := ⟨fun q _ h => by omega, fun _ x hx => by simp at hx⟩
theorem Told.put {P : List (List Nat)} {i j : Nat} {g : Nat → Int} (h : Told P i j g) (hn : P.flatten.Nodup) (hi : i < P.length) (hj : j < P[i].length) : Told P i (j + 1) (upd g P[i][j] (i : Int)) := by
  refine ⟨fun q hq hqi x hx => ?_, fun _ x hx => ?_⟩
  · rw [upd_other _ _ (fun e => ?_)]
    · exact h.old q hq hqi x hx
    · have := flat_one hn hq hi (x := x) hx (by rw [e]; exact List.getElem_mem _)
      omega
  · unfold upd
    split
    · rfl
    · rw [List.take_succ_eq_append_getElem hj] at hx
      rcases List.mem_append.1 hx with hx | hx
      · exact h.now hi x hx
      · rw [List.mem_singleton] at hx; contradiction
theorem Told.next {P : List (List Nat)} {i j : Nat} {g : Nat → Int} (h : Told P i j g) (hi : i < P.length) (hj : j = P[i].length) : Told P (i + 1) 0 g := by
  refine ⟨fun q hq hqi x hx => ?_, fun _ x hx => by simp at hx⟩
  by_cases e : q = i
  · subst e
    exact h.now hq x (by rw [hj, List.take_length]; exact hx)
  · exact h.old q hq (by omega) x hx
theorem Told.all {n : Nat} {l : List EgM} {P : List (List Nat)} {g : Nat → Int} (h : Told P P.length 0 g) (hP : IsParts n l P) {a b : Nat} (ha : a < n) (hb : b < n) : (R n l a b ∧ R n l b a) ↔ g a = g b := by
  obtain ⟨p, hp, hap⟩ := List.mem_flatten.1 ((hP.mem a).2 ha)
  obtain ⟨q, hq, hbq⟩ := List.mem_flatten.1 ((hP.mem b).2 hb)
  obtain ⟨i, hi, rfl⟩ := List.mem_iff_getElem.1 hp
  obtain ⟨j, hj, rfl⟩ := List.mem_iff_getElem.1 hq
  rw [h.old i hi hi a hap, h.old j hj hj b hbq, ← (hP.scc _ hp).2.2 a hap b hb]
  constructor
  · intro hbi
    rw [flat_one hP.nd hi hj hbi hbq]
  · intro e
    have e2 : i = j := by omega
    subst e2; exact hbq
theorem IsParts.count {n : Nat} {l : List EgM} {P : List (List Nat)} (hP : IsParts n l P) : P.flatten.length = n := by
  have h1 := List.Nodup.length_le_of_subset hP.nd (l₂ := List.range n) (fun x hx => List.mem_range.2 ((hP.mem x).1 hx))
  have h2 := List.Nodup.length_le_of_subset List.nodup_range (l₁ := List.range n) (l₂ := P.flatten) (fun x hx => (hP.mem x).2 (List.mem_range.1 hx))
  rw [List.length_range] at h1 h2; omega
theorem flat_take (P : List (List Nat)) {i : Nat} (hi : i < P.length) : (P.take (i + 1)).flatten.length = (P.take i).flatten.length + P[i].length := by
  rw [List.take_succ_eq_append_getElem hi, List.flatten_append, List.length_append]; simp
theorem R_iff_mutual {n : Nat} {l : List EgM} {a b : Nat} : (R n l a b ∧ R n l b a) ↔ a = b ∨ (GrM.Path n l a b ∧ GrM.Path n l b a) := by
  constructor
  · rintro ⟨h1 | h1, h2 | h2⟩
    · exact Or.inl h1
    · exact Or.inl h1
    · exact Or.inl h2.symm
    · exact Or.inr ⟨h1, h2⟩
  · rintro (rfl | ⟨h1, h2⟩)
    · exact ⟨R.refl _, R.refl _⟩
    · exact ⟨Or.inr h1, Or.inr h2⟩
end TjM
end Go.Proofs.Ytgkclgmekbgjmaa
