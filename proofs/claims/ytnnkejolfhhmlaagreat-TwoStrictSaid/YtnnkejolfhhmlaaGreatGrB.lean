/- Graphs, in plain Lean: a search, who can go on, and their laws. -/
import Derived.Test.YtnnkejolfhhmlaaGreatHeap
namespace Go.Proofs.YtnnkejolfhhmlaaGreat
section
structure EgM where
  frm : Int
  to_ : Int
  deriving Inhabited, DecidableEq
namespace GrM
/-- What graph.Check answers. -/
def formOk (n : Int) (l : List EgM) : Bool := l.all fun e => decide (0 ≤ e.frm ∧ e.frm < n ∧ 0 ≤ e.to_ ∧ e.to_ < n)
def check (n : Int) (l : List EgM) : Int := if n < 0 ∨ 60 < n then 1 else if 2000 < l.length then 2 else if formOk n l = true then 0 else 4
/-- Is there an edge? -/
def E (l : List EgM) (a b : Nat) : Bool := l.any fun e => decide (e.frm = a ∧ e.to_ = b)
/-- The next nodes of a, rising, each once. -/
def next (n : Nat) (l : List EgM) (a : Nat) : List Nat := (List.range n).filter fun b => E l a b
theorem mem_next {n : Nat} {l : List EgM} {a b : Nat} : b ∈ next n l a ↔ b < n ∧ E l a b = true := by
  unfold next; rw [List.mem_filter, List.mem_range]
theorem next_nodup (n : Nat) (l : List EgM) (a : Nat) : (next n l a).Nodup := List.nodup_iff_pairwise_ne.2 (List.Pairwise.filter _ (List.nodup_iff_pairwise_ne.1 List.nodup_range))
theorem next_sorted (n : Nat) (l : List EgM) (a : Nat) : (next n l a).Pairwise (· < ·) := List.Pairwise.filter _ List.pairwise_lt_range
theorem next_len (n : Nat) (l : List EgM) (a : Nat) : (next n l a).length ≤ n := by
  unfold next
  exact Nat.le_trans (List.length_filter_le _ _) (by simp)
theorem check_ok {n : Int} {l : List EgM} (h : check n l = 0) : ∃ m : Nat, n = m ∧ m ≤ 60 ∧ l.length ≤ 2000 ∧ ∀ e ∈ l, ∃ a b : Nat, e = ⟨a, b⟩ ∧ a < m ∧ b < m := by
  unfold check at h
  split at h
  · cases h
  split at h
  · cases h
  split at h
  case isFalse => cases h
  rename_i h1 h2 h3
  refine ⟨n.toNat, by omega, by omega, by omega, fun e he => ?_⟩
  unfold formOk at h3
  have := of_decide_eq_true (List.all_eq_true.1 h3 e he)
  refine ⟨e.frm.toNat, e.to_.toNat, ?_, by omega, by omega⟩
  obtain ⟨x, y⟩ := e
  simp only at this ⊢
  congr 1 <;> omega
theorem E_iff {l : List EgM} {a b : Nat} : E l a b = true ↔ (⟨a, b⟩ : EgM) ∈ l := by
  unfold E
  rw [List.any_eq_true]
  constructor
  · rintro ⟨⟨x, y⟩, h1, h2⟩
    have := of_decide_eq_true h2
    simp only at this
    obtain ⟨rfl, rfl⟩ := this
    exact h1
  · intro h
    exact ⟨_, h, by simp⟩
/-- How many of the nodes that are not out come to x. -/
def ahead (n : Nat) (l : List EgM) (out : List Nat) (x : Nat) : Nat := ((List.range n).filter fun i => !out.contains i && E l i x).length
/-- The table that Order keeps. -/
def tab (n : Nat) (l : List EgM) (out : List Nat) (x : Nat) : Int := if out.contains x then -1 else ahead n l out x
/-- The node that Order takes next, n: none. -/
def pick (n : Nat) (l : List EgM) (out : List Nat) : Nat := (List.range n).findIdx fun x => decide (tab n l out x = 0)
/-- What stands when Order has taken out: each of them had nobody left ahead of it. -/
inductive Out (n : Nat) (l : List EgM) : List Nat → Prop
  | nil : Out n l []
  | snoc {out : List Nat} {k : Nat} : Out n l out → k < n → tab n l out k = 0 → Out n l (out ++ [k])
section
variable {n : Nat} {l : List EgM} {out : List Nat} {k x : Nat}
theorem tab_zero : tab n l out x = 0 ↔ x ∉ out ∧ ∀ i, i < n → i ∉ out → E l i x = false := by
  unfold tab
  by_cases h : out.contains x = true
  · rw [if_pos h]
    constructor
    · intro h2; omega
    · rintro ⟨h1, _⟩; exact absurd (by simpa using h) h1
  · rw [if_neg h]
    have hx : x ∉ out := by simpa using h
    constructor
    · intro h2
      refine ⟨hx, fun i hi hio => ?_⟩
      have h3 : ahead n l out x = 0 := by omega
      unfold ahead at h3
      have h4 := List.eq_nil_of_length_eq_zero h3
      rw [List.filter_eq_nil_iff] at h4
      have h5 := h4 i (List.mem_range.2 hi)
      cases hE : E l i x with
      | false => rfl
      | true => exact absurd (by simp [hio, hE]) h5
    · rintro ⟨_, h1⟩
      have : ahead n l out x = 0 := by
        unfold ahead
        have h4 : ((List.range n).filter fun i => !out.contains i && E l i x) = [] := by
          rw [List.filter_eq_nil_iff]
          intro i hi h2
          simp only [Bool.and_eq_true, Bool.not_eq_true', List.contains_eq_mem, decide_eq_false_iff_not] at h2
          rw [h1 i (List.mem_range.1 hi) h2.1] at h2
          cases h2.2
        rw [h4]; rfl
      omega
theorem Out.lt (h : Out n l out) : ∀ x ∈ out, x < n := by
  induction h with
  | nil => simp
  | snoc h1 h2 _ ih =>
    intro x hx
    rcases List.mem_append.1 hx with hx | hx
    · exact ih x hx
    · rw [List.mem_singleton] at hx; omega
theorem Out.nodup (h : Out n l out) : out.Nodup := by
  induction h with
  | nil => exact List.nodup_nil
  | snoc h1 h2 h3 ih =>
    rw [List.nodup_append]
    refine ⟨ih, by simp, ?_⟩
    rintro a ha b hb rfl
    rw [List.mem_singleton] at hb
    subst hb
    exact (tab_zero.1 h3).1 ha
theorem Out.len (h : Out n l out) : out.length ≤ n := by
  have := List.Nodup.length_le_of_subset h.nodup (l₂ := List.range n) (fun x hx => List.mem_range.2 (h.lt x hx))
  simpa using this
/-- Who has been taken is not reached by one taken later, nor by one not taken. -/
theorem Out.none_behind (h : Out n l out) : ∀ x ∈ out, ∀ i, i < n → i ∉ out → E l i x = false := by
  induction h with
  | nil => simp
  | @snoc out k h1 h2 h3 ih =>
    intro x hx i hi hio
    have hio' : i ∉ out := fun h => hio (List.mem_append_left _ h)
    rcases List.mem_append.1 hx with hx | hx
    · exact ih x hx i hi hio'
    · rw [List.mem_singleton] at hx; subst hx
      exact (tab_zero.1 h3).2 i hi hio'
theorem Out.forward (h : Out n l out) : ∀ i j (hi : i < out.length) (hj : j < out.length), E l out[i] out[j] = true → i < j := by
  induction h with
  | nil => intro i j hi; simp at hi
  | @snoc out k h1 h2 h3 ih =>
    intro i j hi hj hE
    have hz := tab_zero.1 h3
    simp only [List.length_append, List.length_singleton] at hi hj
    by_cases hj2 : j = out.length
    · subst hj2
      rw [List.getElem_concat_length rfl] at hE
      by_cases hi2 : i = out.length
      · subst hi2
        rw [List.getElem_concat_length rfl] at hE
        rw [hz.2 k h2 hz.1] at hE; cases hE
      · omega
    · by_cases hi2 : i = out.length
      · subst hi2
        rw [List.getElem_concat_length rfl, List.getElem_append_left (by omega)] at hE
        rw [h1.none_behind _ (List.getElem_mem _) k h2 hz.1] at hE; cases hE
      · rw [List.getElem_append_left (by omega), List.getElem_append_left (by omega)] at hE
        exact ih i j (by omega) (by omega) hE
/-- The table behind one more. -/
theorem tab_snoc (hk : tab n l out k = 0) (hkn : k < n) (hx : x ≠ k) : tab n l (out ++ [k]) x = if out.contains x then -1 else if E l k x = true then tab n l out x - 1 else tab n l out x := by
  have hz := tab_zero.1 hk
  unfold tab
  by_cases h : out.contains x = true
  · have : (out ++ [k]).contains x = true := by simp at h ⊢; exact Or.inl h
    rw [if_pos this, if_pos h]
  · have h2 : ¬ (out ++ [k]).contains x = true := by simp at h ⊢; exact ⟨h, hx⟩
    rw [if_neg h2, if_neg h]
    have key : ahead n l out x = ahead n l (out ++ [k]) x + if E l k x = true then 1 else 0 := by
      unfold ahead
      have hr : ∀ (r : List Nat), r.Nodup → ((r.filter fun i => !out.contains i && E l i x).length = (r.filter fun i => !(out ++ [k]).contains i && E l i x).length + if k ∈ r ∧ E l k x = true then 1 else 0) := by
        intro r
        induction r with
        | nil => intro _; simp
        | cons a r ih =>
          intro hnd
          obtain ⟨h3, h4⟩ := List.nodup_cons.1 hnd
          have ih := ih h4
          by_cases hak : a = k
          · subst hak
            have h5 : (out ++ [a]).contains a = true := by simp
            have h6 : out.contains a = false := by simpa using hz.1
            rw [List.filter_cons, List.filter_cons, h5, h6]
            simp only [Bool.not_true, Bool.false_and, Bool.false_eq_true, if_false, Bool.not_false, Bool.true_and]
            rw [if_neg (by rintro ⟨h7, _⟩; exact h3 h7)] at ih
            cases hE : E l a x with
            | true => simp only [if_true, List.length_cons, ih, List.mem_cons, true_or, and_true, Nat.add_zero]
            | false => simp only [Bool.false_eq_true, if_false, ih, and_false, Nat.add_zero]
          · have h5 : (out ++ [k]).contains a = out.contains a := by
              simp [hak]
            rw [List.filter_cons, List.filter_cons, h5]
            have h6 : (k ∈ a :: r) ↔ k ∈ r := by
              rw [List.mem_cons]
              exact ⟨fun h => h.resolve_left (fun e => hak e.symm), Or.inr⟩
            have h7 : (if k ∈ a :: r ∧ E l k x = true then 1 else 0) = (if k ∈ r ∧ E l k x = true then 1 else 0) := by
              simp only [h6]
            rw [h7]
            split
            · simp only [List.length_cons, ih]; omega
            · exact ih
      rw [hr _ List.nodup_range]
      simp [hkn]
    rw [key]
    split <;> omega
theorem pick_spec (hp : pick n l out < n) : tab n l out (pick n l out) = 0 := by
  unfold pick at hp ⊢
  have h1 : (List.range n).findIdx (fun x => decide (tab n l out x = 0)) < (List.range n).length := by simpa using hp
  have := List.findIdx_getElem (w := h1)
  rw [List.getElem_range] at this
  exact of_decide_eq_true this
theorem pick_none (hp : ¬ pick n l out < n) {x : Nat} (hx : x < n) : tab n l out x ≠ 0 := by
  intro h
  apply hp
  unfold pick
  have := List.findIdx_lt_length_of_exists (xs := List.range n) (p := fun x => decide (tab n l out x = 0)) ⟨x, List.mem_range.2 hx, by simpa using h⟩
  simpa using this
end
/-- Order, in plain Lean: what is taken within so many rounds; none: a loop. -/
def orderGo (n : Nat) (l : List EgM) : Nat → List Nat → Option (List Nat)
  | 0, out => some out
  | f + 1, out => if out.length < n then (if pick n l out < n then orderGo n l f (out ++ [pick n l out]) else none) else some out
def order (n : Nat) (l : List EgM) : Option (List Nat) := orderGo n l n []
theorem orderGo_ok {n : Nat} {l : List EgM} : ∀ f out r, Out n l out → n ≤ out.length + f → orderGo n l f out = some r → Out n l r ∧ r.length = n
  | 0, out, r, h, hf, hr => by
    obtain rfl : out = r := by simpa [orderGo] using hr
    exact ⟨h, Nat.le_antisymm h.len (by omega)⟩
  | f + 1, out, r, h, hf, hr => by
    unfold orderGo at hr
    split at hr
    · split at hr
      · rename_i h2
        exact orderGo_ok f _ r (h.snoc h2 (pick_spec h2)) (by rw [List.length_append]; simp; omega) hr
      · cases hr
    · obtain rfl : out = r := by simpa using hr
      exact ⟨h, Nat.le_antisymm h.len (by omega)⟩
theorem order_ok {n : Nat} {l : List EgM} {r : List Nat} (h : order n l = some r) : Out n l r ∧ r.length = n := orderGo_ok n [] r .nil (by simp) h
theorem orderGo_none {n : Nat} {l : List EgM} : ∀ f out, Out n l out → orderGo n l f out = none → ∃ out', Out n l out' ∧ out'.length < n ∧ ∀ x, x < n → tab n l out' x ≠ 0
  | 0, out, _, hr => by cases hr
  | f + 1, out, h, hr => by
    unfold orderGo at hr
    split at hr
    · rename_i h1
      split at hr
      · rename_i h2
        exact orderGo_none f _ (h.snoc h2 (pick_spec h2)) hr
      · rename_i h2
        exact ⟨out, h, h1, fun x hx => pick_none h2 hx⟩
    · cases hr
theorem order_none {n : Nat} {l : List EgM} (h : order n l = none) : ∃ out, Out n l out ∧ out.length < n ∧ ∀ x, x < n → tab n l out x ≠ 0 := orderGo_none n [] .nil h

/-- a comes to b, by one edge or more. -/
inductive Path (n : Nat) (l : List EgM) : Nat → Nat → Prop
  | one {a b : Nat} : b < n → E l a b = true → Path n l a b
  | more {a b c : Nat} : Path n l a b → c < n → E l b c = true → Path n l a c
theorem Path.lt {n : Nat} {l : List EgM} {a b : Nat} (h : Path n l a b) : b < n := by cases h <;> assumption
theorem Path.trans {n : Nat} {l : List EgM} {a b c : Nat} (h : Path n l a b) (k : Path n l b c) : Path n l a c := by
  induction k with
  | one h1 h2 => exact .more h h1 h2
  | more _ h1 h2 ih => exact .more ih h1 h2
/-- With a loop there is no order. -/
theorem no_loop {n : Nat} {l : List EgM} {r : List Nat} (h : Out n l r) (hl : r.length = n) {a : Nat} (ha : a < n) : ¬ Path n l a a := by
  have hall : ∀ x, x < n → x ∈ r := by
    intro x hx
    by_cases hxr : x ∈ r
    · exact hxr
    · have := List.Nodup.length_le_of_subset (l₁ := x :: r) (List.nodup_cons.2 ⟨hxr, h.nodup⟩) (l₂ := List.range n) (by
        intro y hy
        rcases List.mem_cons.1 hy with rfl | hy
        · exact List.mem_range.2 hx
        · exact List.mem_range.2 (h.lt y hy))
      simp at this; omega
  have key : ∀ {a b}, a < n → Path n l a b → r.idxOf a < r.idxOf b := by
    intro a b ha hp
    have step : ∀ {a b}, a < n → b < n → E l a b = true → r.idxOf a < r.idxOf b := by
      intro a b ha hb hE
      have h1 := List.idxOf_lt_length_of_mem (hall a ha)
      have h2 := List.idxOf_lt_length_of_mem (hall b hb)
      refine h.forward _ _ h1 h2 ?_
      rw [List.getElem_idxOf, List.getElem_idxOf]
      exact hE
    induction hp with
    | one h1 h2 => exact step ha h1 h2
    | more h0 h1 h2 ih => exact Nat.lt_trans ih (step h0.lt h1 h2)
  intro hp
  exact Nat.lt_irrefl _ (key ha hp)
/-- Where Order finds nobody there is a loop. -/
theorem loop_of_stuck {n : Nat} {l : List EgM} {out : List Nat} (hl : out.length < n) (hs : ∀ x, x < n → tab n l out x ≠ 0) : ∃ a, a < n ∧ Path n l a a := by
  -- each one left has one left ahead of it
  have hpred : ∀ x, x < n → x ∉ out → ∃ i, i < n ∧ i ∉ out ∧ E l i x = true := by
    intro x hx hxo
    have h1 := hs x hx
    rw [Ne, tab_zero] at h1
    refine Classical.byContradiction fun h2 => ?_
    exact h1 ⟨hxo, fun i hi hio => by
      cases hE : E l i x with
      | false => rfl
      | true => exact absurd ⟨i, hi, hio, hE⟩ h2⟩
  obtain ⟨x0, hx0, hx0o⟩ : ∃ x, x < n ∧ x ∉ out := by
    refine Classical.byContradiction fun h2 => ?_
    have h3 : ∀ x, x ∈ List.range n → x ∈ out := fun x hx =>
      Classical.byContradiction fun h4 => h2 ⟨x, List.mem_range.1 hx, h4⟩
    have := List.Nodup.length_le_of_subset List.nodup_range h3
    simp at this; omega
  -- walk back m steps: a chain
  have chain : ∀ m, ∃ c : List Nat, c.length = m + 1 ∧ (∀ y ∈ c, y < n ∧ y ∉ out) ∧ c.Pairwise (fun a b => Path n l a b) := by
    intro m
    induction m with
    | zero => exact ⟨[x0], rfl, by simp [hx0, hx0o], by simp⟩
    | succ m ih =>
      obtain ⟨c, h1, h2, h3⟩ := ih
      rcases c with _ | ⟨y, r⟩
      · simp at h1
      · obtain ⟨i, hi, hio, hE⟩ := hpred y (h2 y List.mem_cons_self).1 (h2 y List.mem_cons_self).2
        have hy := (h2 y List.mem_cons_self).1
        refine ⟨i :: y :: r, by simp at h1 ⊢; exact h1, ?_, ?_⟩
        · intro z hz
          rcases List.mem_cons.1 hz with rfl | hz
          · exact ⟨hi, hio⟩
          · exact h2 z hz
        · rw [List.pairwise_cons]
          refine ⟨fun z hz => ?_, h3⟩
          rcases List.mem_cons.1 hz with rfl | hz
          · exact .one hy hE
          · exact Path.trans (.one hy hE) ((List.pairwise_cons.1 h3).1 z hz)
  obtain ⟨c, h1, h2, h3⟩ := chain n
  refine Classical.byContradiction fun hno => ?_
  have hnd : c.Nodup := by
    rw [List.nodup_iff_pairwise_ne]
    refine List.Pairwise.imp_of_mem ?_ h3
    rintro a b ha hb hp rfl
    exact hno ⟨a, (h2 a ha).1, hp⟩
  have := List.Nodup.length_le_of_subset hnd (l₂ := List.range n) (fun y hy => List.mem_range.2 (h2 y hy).1)
  simp at this; omega
theorem order_none_iff {n : Nat} {l : List EgM} : order n l = none ↔ ∃ a, a < n ∧ Path n l a a := by
  constructor
  · intro h
    obtain ⟨out, _, h2, h3⟩ := order_none h
    exact loop_of_stuck h2 h3
  · rintro ⟨a, ha, hp⟩
    cases hr : order n l with
    | none => rfl
    | some r =>
      obtain ⟨h1, h2⟩ := order_ok hr
      exact absurd hp (no_loop h1 h2 ha)
end GrM
end
section
namespace GrM
def ints (l : List Nat) : List Int := l.map fun (k : Nat) => (k : Int)

/-- A search from a: S has been seen, Q is to be looked at. -/
structure Bfs (n : Nat) (l : List EgM) (a : Nat) (S : Nat → Bool) (Q : List Nat) : Prop where
  seen : ∀ x, S x = true → Path n l a x
  queue : ∀ x ∈ Q, Path n l a x
  first : ∀ b, b < n → E l a b = true → S b = true ∨ b ∈ Q
  step : ∀ x, S x = true → ∀ b, b < n → E l x b = true → S b = true ∨ b ∈ Q
section
variable {n : Nat} {l : List EgM} {a k : Nat} {S : Nat → Bool} {Q : List Nat}
theorem Bfs.start (n : Nat) (l : List EgM) (a : Nat) : Bfs n l a (fun _ => false) (next n l a) :=
  ⟨fun x h => (by cases h), fun x hx => (by obtain ⟨h1, h2⟩ := mem_next.1 hx; exact .one h1 h2), fun b hb hE => Or.inr (mem_next.2 ⟨hb, hE⟩), fun x h => (by cases h)⟩
theorem Bfs.skip (h : Bfs n l a S (k :: Q)) (hk : S k = true) : Bfs n l a S Q := by
  have key : ∀ b, S b = true ∨ b ∈ k :: Q → S b = true ∨ b ∈ Q := by
    rintro b (h1 | h1)
    · exact Or.inl h1
    · rcases List.mem_cons.1 h1 with rfl | h1
      · exact Or.inl hk
      · exact Or.inr h1
  exact ⟨h.seen, fun x hx => h.queue x (List.mem_cons_of_mem _ hx), fun b hb hE => key b (h.first b hb hE), fun x hx b hb hE => key b (h.step x hx b hb hE)⟩
theorem Bfs.visit (h : Bfs n l a S (k :: Q)) : Bfs n l a (Go.Proofs.YtnnkejolfhhmlaaGreat.upd S k true) (Q ++ next n l k) := by
  have hp := h.queue k List.mem_cons_self
  have key : ∀ b, S b = true ∨ b ∈ k :: Q → Go.Proofs.YtnnkejolfhhmlaaGreat.upd S k true b = true ∨ b ∈ Q ++ next n l k := by
    rintro b (h1 | h1)
    · left; unfold Go.Proofs.YtnnkejolfhhmlaaGreat.upd; split
      · rfl
      · exact h1
    · rcases List.mem_cons.1 h1 with rfl | h1
      · left; unfold Go.Proofs.YtnnkejolfhhmlaaGreat.upd; rw [if_pos rfl]
      · exact Or.inr (List.mem_append_left _ h1)
  refine ⟨fun x hx => ?_, fun x hx => ?_, fun b hb hE => key b (h.first b hb hE), fun x hx b hb hE => ?_⟩
  · unfold Go.Proofs.YtnnkejolfhhmlaaGreat.upd at hx
    split at hx
    · rename_i e; subst e; exact hp
    · exact h.seen x hx
  · rcases List.mem_append.1 hx with hx | hx
    · exact h.queue x (List.mem_cons_of_mem _ hx)
    · obtain ⟨h1, h2⟩ := mem_next.1 hx
      exact .more hp h1 h2
  · unfold Go.Proofs.YtnnkejolfhhmlaaGreat.upd at hx
    split at hx
    · rename_i e; subst e
      exact Or.inr (List.mem_append_right _ (mem_next.2 ⟨hb, hE⟩))
    · exact key b (h.step x hx b hb hE)
theorem Bfs.done (h : Bfs n l a S []) {b : Nat} : S b = true ↔ Path n l a b := by
  refine ⟨h.seen b, fun hp => ?_⟩
  induction hp with
  | one h1 h2 => exact (h.first _ h1 h2).resolve_right (by simp)
  | more _ h1 h2 ih => exact (h.step _ ih _ h1 h2).resolve_right (by simp)
end

/-- Whoever has a next one of the same kind comes to a loop. -/
theorem loop_from {n : Nat} {l : List EgM} (A : Nat → Prop) (hA : ∀ x, A x → x < n) (hs : ∀ x, A x → ∃ y, A y ∧ E l x y = true) {x : Nat} (hx : A x) : ∃ a, (a = x ∨ Path n l x a) ∧ Path n l a a := by
  have chain : ∀ m, ∃ c : List Nat, c.length = m + 1 ∧ (∀ y ∈ c, A y ∧ (y = x ∨ Path n l x y)) ∧ c.Pairwise (fun a b => Path n l b a) := by
    intro m
    induction m with
    | zero => exact ⟨[x], rfl, by simp [hx], by simp⟩
    | succ m ih =>
      obtain ⟨c, h1, h2, h3⟩ := ih
      rcases c with _ | ⟨y, r⟩
      · simp at h1
      · obtain ⟨hy, hxy⟩ := h2 y List.mem_cons_self
        obtain ⟨z, hz, hE⟩ := hs y hy
        have hp : Path n l y z := .one (hA z hz) hE
        refine ⟨z :: y :: r, by simp at h1 ⊢; exact h1, ?_, ?_⟩
        · intro q hq
          rcases List.mem_cons.1 hq with rfl | hq
          · refine ⟨hz, Or.inr ?_⟩
            rcases hxy with rfl | hxy
            · exact hp
            · exact hxy.trans hp
          · exact h2 q hq
        · rw [List.pairwise_cons]
          refine ⟨fun q hq => ?_, h3⟩
          rcases List.mem_cons.1 hq with rfl | hq
          · exact hp
          · exact ((List.pairwise_cons.1 h3).1 q hq).trans hp
  obtain ⟨c, h1, h2, h3⟩ := chain n
  refine Classical.byContradiction fun hno => ?_
  have hnd : c.Nodup := by
    rw [List.nodup_iff_pairwise_ne]
    refine List.Pairwise.imp_of_mem ?_ h3
    rintro a b ha hb hp rfl
    exact hno ⟨a, (h2 a ha).2, hp⟩
  have := List.Nodup.length_le_of_subset hnd (l₂ := List.range n) (fun y hy => List.mem_range.2 (hA y (h2 y hy).1))
  simp at this; omega

def rev (l : List EgM) : List EgM := l.map fun e => ⟨e.to_, e.frm⟩
theorem E_rev (l : List EgM) (a b : Nat) : E (rev l) a b = E l b a := by
  unfold E rev
  rw [List.any_map]
  congr 1
  funext e
  simp only [Function.comp_apply]
  rw [Bool.eq_iff_iff, decide_eq_true_iff, decide_eq_true_iff]
  exact ⟨fun h => ⟨h.2, h.1⟩, fun h => ⟨h.2, h.1⟩⟩
/-- For how many Dead's table lets x wait. -/
def waits (l : List EgM) (out : List Nat) (x : Nat) : Int :=
  if out.contains x then -1 else ((l.filter fun e => decide (e.frm = (x : Int)) && !out.any fun o => decide (e.to_ = (o : Int))).length : Int)
theorem waits_zero {n : Nat} {l : List EgM} {out : List Nat} {x : Nat} (hl : ∀ e ∈ l, ∃ a b : Nat, e = ⟨a, b⟩ ∧ a < n ∧ b < n) : waits l out x = 0 ↔ tab n (rev l) out x = 0 := by
  rw [tab_zero]
  unfold waits
  by_cases h : out.contains x = true
  · rw [if_pos h]
    constructor
    · intro h2; omega
    · rintro ⟨h1, _⟩; exact absurd (by simpa using h) h1
  · rw [if_neg h]
    have hx : x ∉ out := by simpa using h
    constructor
    · intro h2
      refine ⟨hx, fun i hi hio => ?_⟩
      have h4 := List.eq_nil_of_length_eq_zero (by omega : (l.filter fun e => decide (e.frm = (x : Int)) && !out.any fun o => decide (e.to_ = (o : Int))).length = 0)
      rw [List.filter_eq_nil_iff] at h4
      rw [E_rev]
      cases hE : E l x i with
      | false => rfl
      | true =>
        have h5 := h4 _ (E_iff.1 hE)
        refine absurd ?_ h5
        simp only [decide_true, Bool.true_and, Bool.not_eq_true', List.any_eq_false, decide_eq_true_eq]
        intro o ho e
        exact hio (by rwa [show i = o by omega])
    · rintro ⟨_, h1⟩
      have h4 : (l.filter fun e => decide (e.frm = (x : Int)) && !out.any fun o => decide (e.to_ = (o : Int))) = [] := by
        rw [List.filter_eq_nil_iff]
        intro e he h2
        obtain ⟨a, b, rfl, ha, hb⟩ := hl e he
        simp only [Bool.and_eq_true, decide_eq_true_eq, Bool.not_eq_true', List.any_eq_false] at h2
        have hax : a = x := by omega
        subst hax
        have h3 := h1 b hb (fun hbo => h2.2 b hbo rfl)
        rw [E_rev, E_iff.2 he] at h3
        cases h3
      rw [h4]; rfl
/-- Who is left waits for ever just if they come to a loop. -/
theorem dead_iff {n : Nat} {l : List EgM} {out : List Nat} (h : Out n (rev l) out) (hs : ∀ x, x < n → tab n (rev l) out x ≠ 0) {k : Nat} (hk : k < n) : k ∉ out ↔ Path n l k k ∨ ∃ i, Path n l k i ∧ Path n l i i := by
  constructor
  · intro hko
    have hnext : ∀ x, (x < n ∧ x ∉ out) → ∃ y, (y < n ∧ y ∉ out) ∧ E l x y = true := by
      rintro x ⟨hx, hxo⟩
      refine Classical.byContradiction fun h2 => ?_
      refine hs x hx (tab_zero.2 ⟨hxo, fun i hi hio => ?_⟩)
      rw [E_rev]
      cases hE : E l x i with
      | false => rfl
      | true => exact absurd ⟨i, ⟨hi, hio⟩, hE⟩ h2
    obtain ⟨a, ha, hp⟩ := loop_from (fun x => x < n ∧ x ∉ out) (fun x h => h.1) hnext ⟨hk, hko⟩
    rcases ha with rfl | ha
    · exact Or.inl hp
    · exact Or.inr ⟨a, ha, hp⟩
  · intro hp hko
    have stay : ∀ {a b}, a ∈ out → Path n l a b → b ∈ out ∧ out.idxOf b < out.idxOf a := by
      have step : ∀ {a b}, a ∈ out → b < n → E l a b = true → b ∈ out ∧ out.idxOf b < out.idxOf a := by
        intro a b ha hb hE
        have hbo : b ∈ out := by
          refine Classical.byContradiction fun hbo => ?_
          have := h.none_behind a ha b hb hbo
          rw [E_rev, hE] at this; cases this
        refine ⟨hbo, ?_⟩
        have h1 := List.idxOf_lt_length_of_mem ha
        have h2 := List.idxOf_lt_length_of_mem hbo
        refine h.forward _ _ h2 h1 ?_
        rw [List.getElem_idxOf, List.getElem_idxOf, E_rev]
        exact hE
      intro a b ha hp
      induction hp with
      | one h1 h2 => exact step ha h1 h2
      | more _ h1 h2 ih =>
        obtain ⟨h3, h4⟩ := step ih.1 h1 h2
        exact ⟨h3, Nat.lt_trans h4 ih.2⟩
    rcases hp with hp | ⟨i, hi, hp⟩
    · exact Nat.lt_irrefl _ (stay hko hp).2
    · exact Nat.lt_irrefl _ (stay (stay hko hi).1 hp).2
/-- Where all edges rise, or all fall, there is an order. -/
theorem order_of_rise {n : Nat} {l : List EgM} (h : (∀ e ∈ l, e.frm < e.to_) ∨ ∀ e ∈ l, e.to_ < e.frm) : ∃ r, order n l = some r := by
  cases hr : order n l with
  | some r => exact ⟨r, rfl⟩
  | none =>
    obtain ⟨a, ha, hp⟩ := order_none_iff.1 hr
    exfalso
    rcases h with h | h
    · have key : ∀ {a b}, Path n l a b → a < b := by
        intro a b hp
        induction hp with
        | one h1 h2 => have := h _ (E_iff.1 h2); simp only at this; omega
        | more _ h1 h2 ih => have := h _ (E_iff.1 h2); simp only at this; omega
      exact Nat.lt_irrefl _ (key hp)
    · have key : ∀ {a b}, Path n l a b → b < a := by
        intro a b hp
        induction hp with
        | one h1 h2 => have := h _ (E_iff.1 h2); simp only at this; omega
        | more _ h1 h2 ih => have := h _ (E_iff.1 h2); simp only at this; omega
      exact Nat.lt_irrefl _ (key hp)
end GrM
end
end Go.Proofs.YtnnkejolfhhmlaaGreat
