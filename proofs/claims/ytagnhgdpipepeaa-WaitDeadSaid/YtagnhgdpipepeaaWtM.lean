/- wait.Dead: the plain laws of its tables. -/
import Derived.Test.YtagnhgdpipepeaaGrB
namespace Go.Proofs.Ytagnhgdpipepeaa
namespace GrM
/-- The edges that stand when out has gone. -/
def leftOf (l : List EgM) (out : List Nat) : List EgM := l.filter fun e => !out.any fun o => decide (e.to_ = (o : Int))
def cnt (L : List EgM) (k x : Nat) : Int := ((L.filter fun e => decide (e.to_ = (k : Int) ∧ e.frm = (x : Int))).length : Int)
/-- Dead's table while k is taken out: the edges L have been looked at. -/
def wIn (l : List EgM) (out : List Nat) (k : Nat) (L : List EgM) (x : Nat) : Int := Go.Proofs.Ytagnhgdpipepeaa.upd (waits l out) k (-1) x - cnt L k x
section
variable {n : Nat} {l : List EgM} {out : List Nat} {k : Nat}
theorem waits_bounds (l : List EgM) (out : List Nat) (x : Nat) : -1 ≤ waits l out x ∧ waits l out x ≤ l.length := by
  unfold waits
  have h := List.length_filter_le (fun e : EgM => decide (e.frm = (x : Int)) && !out.any fun o => decide (e.to_ = (o : Int))) l
  split <;> omega
theorem cnt_bounds (L : List EgM) (k x : Nat) : 0 ≤ cnt L k x ∧ cnt L k x ≤ L.length := by
  unfold cnt
  have h := List.length_filter_le (fun e : EgM => decide (e.to_ = (k : Int) ∧ e.frm = (x : Int))) L
  omega
theorem wIn_bounds (l : List EgM) (out : List Nat) (k : Nat) (L : List EgM) (x : Nat) : -1 - (L.length : Int) ≤ wIn l out k L x ∧ wIn l out k L x ≤ l.length := by
  have h1 := waits_bounds l out x
  have h2 := cnt_bounds L k x
  unfold wIn Go.Proofs.Ytagnhgdpipepeaa.upd
  split <;> omega
theorem waits_snoc (l : List EgM) (e : EgM) (x : Nat) : waits (l ++ [e]) [] x = waits l [] x + if e.frm = (x : Int) then 1 else 0 := by
  unfold waits
  simp only [List.contains_nil, Bool.false_eq_true, if_false, List.any_nil, Bool.not_false, Bool.and_true, List.filter_append, List.length_append]
  by_cases h : e.frm = (x : Int) <;> simp [h]
theorem cnt_snoc (L : List EgM) (e : EgM) (k x : Nat) : cnt (L ++ [e]) k x = cnt L k x + if e.to_ = (k : Int) ∧ e.frm = (x : Int) then 1 else 0 := by
  unfold cnt
  rw [List.filter_append, List.length_append]
  by_cases h : e.to_ = (k : Int) ∧ e.frm = (x : Int) <;> simp [h]
theorem leftOf_snoc (l : List EgM) (out : List Nat) (k : Nat) : leftOf l (out ++ [k]) = (leftOf l out).filter fun e => !decide (e.to_ = (k : Int)) := by
  unfold leftOf
  rw [List.filter_filter]
  congr 1
  funext e
  rw [List.any_append]
  simp only [List.any_cons, List.any_nil, Bool.or_false, Bool.not_or]
  rw [Bool.and_comm]
theorem leftOf_nil (l : List EgM) : leftOf l [] = l := by
  unfold leftOf
  rw [List.filter_eq_self]
  intro a _
  rfl
theorem leftOf_len (l : List EgM) (out : List Nat) : (leftOf l out).length ≤ l.length := List.length_filter_le _ _
theorem filter_split {α : Type} (p q : α → Bool) (l : List α) : (l.filter p).length = (l.filter fun x => p x && q x).length + (l.filter fun x => p x && !q x).length := by
  induction l with
  | nil => rfl
  | cons a r ih =>
    rw [List.filter_cons, List.filter_cons, List.filter_cons]
    cases hp : p a <;> cases hq : q a <;> simp [ih] <;> omega
/-- Behind all of them it is the table without k. -/
theorem wIn_all (hl : ∀ e ∈ l, ∃ a b : Nat, e = ⟨a, b⟩ ∧ a < n ∧ b < n) (ho : Out n (rev l) out) (hk0 : waits l out k = 0) (hkn : k < n) (x : Nat) : wIn l out k (leftOf l out) x = waits l (out ++ [k]) x := by
  have hz := tab_zero.1 ((waits_zero hl).1 hk0)
  have hno : ∀ e ∈ leftOf l out, e.frm ≠ (k : Int) ∧ ∀ y ∈ out, e.frm ≠ (y : Int) := by
    intro e he
    unfold leftOf at he
    rw [List.mem_filter] at he
    obtain ⟨a, b, rfl, ha, hb⟩ := hl e he.1
    have hbo : b ∉ out := by
      intro hbo
      have h2 := he.2
      simp only [Bool.not_eq_true', List.any_eq_false, decide_eq_true_eq] at h2
      exact h2 b hbo rfl
    constructor
    · intro h
      have : a = k := by simp only at h; omega
      subst this
      have h3 := hz.2 b hb hbo
      rw [E_rev, E_iff.2 he.1] at h3; cases h3
    · intro y hy h
      have : a = y := by simp only at h; omega
      subst this
      have h3 := ho.none_behind a hy b hb hbo
      rw [E_rev, E_iff.2 he.1] at h3; cases h3
  have hc0 : ∀ y : Nat, (y = k ∨ y ∈ out) → cnt (leftOf l out) k y = 0 := by
    intro y hy
    unfold cnt
    have : ((leftOf l out).filter fun e => decide (e.to_ = (k : Int) ∧ e.frm = (y : Int))) = [] := by
      rw [List.filter_eq_nil_iff]
      intro e he h
      have h2 := of_decide_eq_true h
      rcases hy with rfl | hy
      · exact (hno e he).1 h2.2
      · exact (hno e he).2 y hy h2.2
    rw [this]; rfl
  unfold wIn Go.Proofs.Ytagnhgdpipepeaa.upd
  by_cases e : x = k
  · subst e
    rw [if_pos rfl, hc0 x (Or.inl rfl)]
    unfold waits
    rw [if_pos (by simp)]; omega
  · rw [if_neg e]
    by_cases hxo : x ∈ out
    · rw [hc0 x (Or.inr hxo)]
      have h1 : out.contains x = true := by simpa using hxo
      have h2 : (out ++ [k]).contains x = true := by simp; exact Or.inl hxo
      unfold waits
      rw [if_pos h1, if_pos h2]; omega
    · have h1 : ¬ out.contains x = true := by simpa using hxo
      have h2 : ¬ (out ++ [k]).contains x = true := by simp; exact ⟨hxo, e⟩
      unfold waits cnt leftOf
      rw [if_neg h1, if_neg h2, List.filter_filter]
      have hs := filter_split (fun e : EgM => decide (e.frm = (x : Int)) && !out.any fun o => decide (e.to_ = (o : Int))) (fun e => decide (e.to_ = (k : Int))) l
      have e1 : (l.filter fun e => (decide (e.frm = (x : Int)) && !out.any fun o => decide (e.to_ = (o : Int))) && decide (e.to_ = (k : Int))) = l.filter fun a => decide (a.to_ = (k : Int) ∧ a.frm = (x : Int)) && !out.any fun o => decide (a.to_ = (o : Int)) := by
        congr 1
        funext a
        rw [Bool.eq_iff_iff]
        simp only [Bool.and_eq_true, decide_eq_true_eq]
        exact ⟨fun h => ⟨⟨h.2, h.1.1⟩, h.1.2⟩, fun h => ⟨⟨h.1.2, h.2⟩, h.1.1⟩⟩
      have e2 : (l.filter fun e => (decide (e.frm = (x : Int)) && !out.any fun o => decide (e.to_ = (o : Int))) && !decide (e.to_ = (k : Int))) = l.filter fun e => decide (e.frm = (x : Int)) && !(out ++ [k]).any fun o => decide (e.to_ = (o : Int)) := by
        congr 1
        funext a
        rw [List.any_append]
        simp only [List.any_cons, List.any_nil, Bool.or_false, Bool.not_or]
        rw [Bool.and_assoc]
      rw [e1, e2] at hs
      omega
/-- The node that Dead takes next. -/
def wpick (n : Nat) (l : List EgM) (out : List Nat) : Nat := (List.range n).findIdx fun x => decide (waits l out x = 0)
theorem wpick_spec (hp : wpick n l out < n) : waits l out (wpick n l out) = 0 := by
  unfold wpick at hp ⊢
  have h1 : (List.range n).findIdx (fun x => decide (waits l out x = 0)) < (List.range n).length := by simpa using hp
  have := List.findIdx_getElem (w := h1)
  rw [List.getElem_range] at this
  exact of_decide_eq_true this
theorem wpick_none (hp : ¬ wpick n l out < n) {x : Nat} (hx : x < n) : waits l out x ≠ 0 := by
  intro h
  apply hp
  unfold wpick
  have := List.findIdx_lt_length_of_exists (xs := List.range n) (p := fun x => decide (waits l out x = 0)) ⟨x, List.mem_range.2 hx, by simpa using h⟩
  simpa using this
theorem waits_pos (hp : ¬ wpick n l out < n) {x : Nat} (hx : x < n) : decide (0 < waits l out x) = true ↔ x ∉ out := by
  have h := wpick_none hp hx
  rw [decide_eq_true_iff]
  unfold waits at h ⊢
  by_cases hxo : out.contains x = true
  · rw [if_pos hxo]
    constructor
    · intro h2; omega
    · intro h2; exact absurd (by simpa using hxo) h2
  · rw [if_neg hxo] at h ⊢
    constructor
    · intro _; simpa using hxo
    · intro _; omega
end
end GrM
end Go.Proofs.Ytagnhgdpipepeaa
