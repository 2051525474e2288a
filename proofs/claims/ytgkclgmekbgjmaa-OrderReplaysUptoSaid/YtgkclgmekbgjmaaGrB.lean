/- Graphs, in plain Lean: a search, who can go on, and their laws. -/
import Derived.Test.YtgkclgmekbgjmaaGrM
import Derived.Test.YtgkclgmekbgjmaaHeap
namespace Go.Proofs.Ytgkclgmekbgjmaa
namespace GrM
def ints (l : List Nat) : List Int := l.map fun (k : Nat) => (k : Int)

/-- A search from a: S has been seen, Q is to be looked at. -/
structure Bfs (n : Nat) (l : List EgM) (a : Nat) (S : Nat → Bool) (Q : List Nat) : Prop where
  seen : ∀ x, S x = true → Path n l a x
  queue : ∀ x ∈ Q, Path n l a x
  first : ∀ b, b < n → E l a b = true → S b = true ∨ b ∈ Q
  step : ∀ x, S x = true → ∀ b, b < n → E l x b = true → S b = true ∨ b ∈ Q
section
variable {n : Nat} {l : List EgM} {a k : Nat} {S : Nat → Bool} {Q : List Nat}
theorem Bfs.start (n : Nat) (l : List EgM) (a : Nat) : Bfs n l a (fun _ => false) (next n l a) :=
  ⟨fun x h => (by cases h), fun x hx => (by obtain ⟨h1, h2⟩ := mem_next.1 hx; exact .one h1 h2), fun b hb hE => Or.inr (mem_next.2 ⟨hb, hE⟩), fun x h => (by cases h)⟩
theorem Bfs.skip (h : Bfs n l a S (k :: Q)) (hk : S k = true) : Bfs n l a S Q := by
  have key : ∀ b, S b = true ∨ b ∈ k :: Q → S b = true ∨ b ∈ Q := by
    rintro b (h1 | h1)
    · exact Or.inl h1
    · rcases List.mem_cons.1 h1 with rfl | h1
      · exact Or.inl hk
      · exact Or.inr h1
  exact ⟨h.seen, fun x hx => h.queue x (List.mem_cons_of_mem _ hx), fun b hb hE => key b (h.first b hb hE), fun x hx b hb hE => key b (h.step x hx b hb hE)⟩
theorem Bfs.visit (h : Bfs n l a S (k :: Q)) : Bfs n l a (Go.Proofs.Ytgkclgmekbgjmaa.upd S k true) (Q ++ next n l k) := by
  have hp := h.queue k List.mem_cons_self
  have key : ∀ b, S b = true ∨ b ∈ k :: Q → Go.Proofs.Ytgkclgmekbgjmaa.upd S k true b = true ∨ b ∈ Q ++ next n l k := by
    rintro b (h1 | h1)
    · left; unfold Go.Proofs.Ytgkclgmekbgjmaa.upd; split
      · rfl
      · exact h1
    · rcases List.mem_cons.1 h1 with rfl | h1
      · left; unfold Go.Proofs.Ytgkclgmekbgjmaa.upd; rw [if_pos rfl]
      · exact Or.inr (List.mem_append_left _ h1)
  refine ⟨fun x hx => ?_, fun x hx => ?_, fun b hb hE => key b (h.first b hb hE), fun x hx b hb hE => ?_⟩
  · unfold Go.Proofs.Ytgkclgmekbgjmaa.upd at hx
    split at hx
    · rename_i e; subst e; exact hp
    · exact h.seen x hx
  · rcases List.mem_append.1 hx with hx | hx
    · exact h.queue x (List.mem_cons_of_mem _ hx)
    · obtain ⟨h1, h2⟩ := mem_next.1 hx
      exact .more hp h1 h2
  · unfold Go.Proofs.Ytgkclgmekbgjmaa.upd at hx
    split at hx
    · rename_i e; subst e
      exact Or.inr (List.mem_append_right _ (mem_next.2 ⟨hb, hE⟩))
    · exact key b (h.step x hx b hb hE)
theorem Bfs.done (h : Bfs n l a S []) {b : Nat} : S b = true ↔ Path n l a b := by
  refine ⟨h.seen b, fun hp => ?_⟩
  induction hp with
  | one h1 h2 => exact (h.first _ h1 h2).resolve_right (by simp)
  | more _ h1 h2 ih => exact (h.step _ ih _ h1 h2).resolve_right (by simp)
end

/-- Whoever has a next one of the same kind comes to a loop. -/
theorem loop_from {n : Nat} {l : List EgM} (A : Nat → Prop) (hA : ∀ x, A x → x < n) (hs : ∀ x, A x → ∃ y, A y ∧ E l x y = true) {x : Nat} (hx : A x) : ∃ a, (a = x ∨ Path n l x a) ∧ Path n l a a := by
  have chain : ∀ m, ∃ c : List Nat, c.length = m + 1 ∧ (∀ y ∈ c, A y ∧ (y = x ∨ Path n l x y)) ∧ c.Pairwise (fun a b => Path n l b a) := by
    intro m
    induction m with
    | zero => exact ⟨[x], rfl, by simp [hx], by simp⟩
    | succ m ih =>
      obtain ⟨c, h1, h2, h3⟩ := ih
      rcases c with _ | ⟨y, r⟩
      · simp at h1
      · obtain ⟨hy, hxy⟩ := h2 y List.mem_cons_self
        obtain ⟨z, hz, hE⟩ := hs y hy
        have hp : Path n l y z := .one (hA z hz) hE
        refine ⟨z :: y :: r, by simp at h1 ⊢; exact h1, ?_, ?_⟩
        · intro q hq
          rcases List.mem_cons.1 hq with rfl | hq
          · refine ⟨hz, Or.inr ?_⟩
            rcases hxy with rfl | hxy
            · exact hp
            · exact hxy.trans hp
          · exact h2 q hq
        · rw [List.pairwise_cons]
          refine ⟨fun q hq => ?_, h3⟩
          rcases List.mem_cons.1 hq with rfl | hq
          · exact hp
          · exact ((List.pairwise_cons.1 h3).1 q hq).trans hp
  obtain ⟨c, h1, h2, h3⟩ := chain n
  refine Classical.byContradiction fun hno => ?_
  have hnd : c.Nodup := by
    rw [List.nodup_iff_pairwise_ne]
    refine List.Pairwise.imp_of_mem ?_ h3
    rintro a b ha hb hp rfl
    exact hno ⟨a, (h2 a ha).2, hp⟩
  have := List.Nodup.length_le_of_subset hnd (l₂ := List.range n) (fun y hy => List.mem_range.2 (hA y (h2 y hy).1))
  simp at this; omega

def rev (l : List EgM) : List EgM := l.map fun e => ⟨e.to_, e.frm⟩
theorem E_rev (l : List EgM) (a b : Nat) : E (rev l) a b = E l b a := by
  unfold E rev
  rw [List.any_map]
  congr 1
  funext e
  simp only [Function.comp_apply]
  rw [Bool.eq_iff_iff, decide_eq_true_iff, decide_eq_true_iff]
  exact ⟨fun h => ⟨h.2, h.1⟩, fun h => ⟨h.2, h.1⟩⟩
/-- For how many Dead's table lets x wait. -/
def waits (l : List EgM) (out : List Nat) (x : Nat) : Int :=
  if out.contains x then -1 else ((l.filter fun e => decide (e.frm = (x : Int)) && !out.any fun o => decide (e.to_ = (o : Int))).length : Int)
theorem waits_zero {n : Nat} {l : List EgM} {out : List Nat} {x : Nat} (hl : ∀ e ∈ l, ∃ a b : Nat, e = ⟨a, b⟩ ∧ a < n ∧ b < n) : waits l out x = 0 ↔ tab n (rev l) out x = 0 := by
  rw [tab_zero]
  unfold waits
  by_cases h : out.contains x = true
  · rw [if_pos h]
    constructor
    · intro h2; omega
    · rintro ⟨h1, _⟩; exact absurd (by simpa using h) h1
  · rw [if_neg h]
    have hx : x ∉ out := by simpa using h
    constructor
    · intro h2
      refine ⟨hx, fun i hi hio => ?_⟩
      have h4 := List.eq_nil_of_length_eq_zero (by omega : (l.filter fun e => decide (e.frm = (x : Int)) && !out.any fun o => decide (e.to_ = (o : Int))).length = 0)
      rw [List.filter_eq_nil_iff] at h4
      rw [E_rev]
      cases hE : E l x i with
      | false => rfl
      | true =>
        have h5 := h4 _ (E_iff.1 hE)
        refine absurd ?_ h5
        simp only [decide_true, Bool.true_and, Bool.not_eq_true', List.any_eq_false, decide_eq_true_eq]
        intro o ho e
        exact hio (by rwa [show i = o by omega])
    · rintro ⟨_, h1⟩
      have h4 : (l.filter fun e => decide (e.frm = (x : Int)) && !out.any fun o => decide (e.to_ = (o : Int))) = [] := by
        rw [List.filter_eq_nil_iff]
        intro e he h2
        obtain ⟨a, b, rfl, ha, hb⟩ := hl e he
        simp only [Bool.and_eq_true, decide_eq_true_eq, Bool.not_eq_true', List.any_eq_false] at h2
        have hax : a = x := by omega
        subst hax
        have h3 := h1 b hb (fun hbo => h2.2 b hbo rfl)
        rw [E_rev, E_iff.2 he] at h3
        cases h3
      rw [h4]; rfl
/-- Who is left waits for ever just if they come to a loop. -/
theorem dead_iff {n : Nat} {l : List EgM} {out : List Nat} (h : Out n (rev l) out) (hs : ∀ x, x < n → tab n (rev l) out x ≠ 0) {k : Nat} (hk : k < n) : k ∉ out ↔ Path n l k k ∨ ∃ i, Path n l k i ∧ Path n l i i := by
  constructor
  · intro hko
    have hnext : ∀ x, (x < n ∧ x ∉ out) → ∃ y, (y < n ∧ y ∉ out) ∧ E l x y = true := by
      rintro x ⟨hx, hxo⟩
      refine Classical.byContradiction fun h2 => ?_
      refine hs x hx (tab_zero.2 ⟨hxo, fun i hi hio => ?_⟩)
      rw [E_rev]
      cases hE : E l x i with
      | false => rfl
      | true => exact absurd ⟨i, ⟨hi, hio⟩, hE⟩ h2
    obtain ⟨a, ha, hp⟩ := loop_from (fun x => x < n ∧ x ∉ out) (fun x h => h.1) hnext ⟨hk, hko⟩
    rcases ha with rfl | ha
    · exact Or.inl hp
    · exact Or.inr ⟨a, ha, hp⟩
  · intro hp hko
    have stay : ∀ {a b}, a ∈ out → Path n l a b → b ∈ out ∧ out.idxOf b < out.idxOf a := by
      have step : ∀ {a b}, a ∈ out → b < n → E l a b = true → b ∈ out ∧ out.idxOf b < out.idxOf a := by
        intro a b ha hb hE
        have hbo : b ∈ out := by
          refine Classical.byContradiction fun hbo => ?_
          have := h.none_behind a ha b hb hbo
          rw [E_rev, hE] at this; cases this
        refine ⟨hbo, ?_⟩
        have h1 := List.idxOf_lt_length_of_mem ha
        have h2 := List.idxOf_lt_length_of_mem hbo
        refine h.forward _ _ h2 h1 ?_
        rw [List.getElem_idxOf, List.getElem_idxOf, E_rev]
        exact hE
      intro a b ha hp
      induction hp with
      | one h1 h2 => exact step ha h1 h2
      | more _ h1 h2 ih =>
        obtain ⟨h3, h4⟩ := step ih.1 h1 h2
        exact ⟨h3, Nat.lt_trans h4 ih.2⟩
    rcases hp with hp | ⟨i, hi, hp⟩
    · exact Nat.lt_irrefl _ (stay hko hp).2
    · exact Nat.lt_irrefl _ (stay (stay hko hi).1 hp).2
/-- Where all edges rise, or all fall, there is an order. -/
theorem order_of_rise {n : Nat} {l : List EgM} (h : (∀ e ∈ l, e.frm < e.to_) ∨ ∀ e ∈ l, e.to_ < e.frm) : ∃ r, order n l = some r := by
  cases hr : order n l with
  | some r => exact ⟨r, rfl⟩
  | none =>
    obtain ⟨a, ha, hp⟩ := order_none_iff.1 hr
    exfalso
    rcases h with h | h
    · have key : ∀ {a b}, Path n l a b → a < b := by
        intro a b hp
        induction hp with
        | one h1 h2 => have := h _ (E_iff.1 h2); simp only at this; omega
        | more _ h1 h2 ih => have := h _ (E_iff.1 h2); simp only at this; omega
      exact Nat.lt_irrefl _ (key hp)
    · have key : ∀ {a b}, Path n l a b → b < a := by
        intro a b hp
        induction hp with
        | one h1 h2 => have := h _ (E_iff.1 h2); simp only at this; omega
        | more _ h1 h2 ih => have := h _ (E_iff.1 h2); simp only at this; omega
      exact Nat.lt_irrefl _ (key hp)
end GrM
end Go.Proofs.Ytgkclgmekbgjmaa
