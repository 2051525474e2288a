/- TwoStrict is proved for every input: no condition stands ahead of it. -/
import Derived.Test.YtnnkejolfhhmlaaGreatLike
import Derived.Test.YtnnkejolfhhmlaaGreatChkI
import Derived.Test.YtnnkejolfhhmlaaGreatOpsRow
import Derived.Deep.MidRow
import Derived.Deep.DeepMust
import Derived.Test.YtnnkejolfhhmlaaGreatSlOps
import Derived.Test.YtnnkejolfhhmlaaGreatStampM
import Derived.Test.YtnnkejolfhhmlaaGreatHeap
import Derived.BigQuiet
import Derived.Test.YtnnkejolfhhmlaaGreatTwoL
import Derived.Test.YtnnkejolfhhmlaaGreatRunKindsM
import Derived.Test.YtnnkejolfhhmlaaGreatOpen
import Derived.Deep.Strs
import Derived.Test.YtnnkejolfhhmlaaGreatLawKit
import Derived.Test.YtnnkejolfhhmlaaGreatTwoO
import Derived.Test.YtnnkejolfhhmlaaGreatKinds
namespace Go.Proofs.YtnnkejolfhhmlaaGreat
section
open Go.RowKit Go.Lib Go.Sort
namespace RunM

/-- Operations, each with its number within its transaction. -/
def lab : List OpM → List OpM → List (OpM × Nat)
  | _, [] => []
  | acc, o :: r => (o, acc.countP fun q => q.tx == o.tx) :: lab (acc ++ [o]) r
theorem lab_append : ∀ (p acc r : List OpM), lab acc (p ++ r) = lab acc p ++ lab (acc ++ p) r
  | [], acc, r => by simp [lab]
  | o :: p, acc, r => by
    rw [List.cons_append, lab, lab, lab_append p, List.cons_append, List.append_assoc]; rfl
theorem lab_perm : ∀ (r acc acc' : List OpM), acc.Perm acc' → lab acc r = lab acc' r
  | [], _, _, _ => rfl
  | o :: r, acc, acc', h => by
    rw [lab, lab, h.countP_eq, lab_perm r _ _ (h.append_right [o])]
theorem lab_range : ∀ (l acc : List OpM), lab acc l = (List.range l.length).map fun i => (l[i]!, (acc ++ l.take i).countP fun q => q.tx == (l[i]!).tx)
  | [], _ => rfl
  | o :: l, acc => by
    rw [lab, lab_range l, List.length_cons, List.range_succ_eq_map, List.map_cons, List.map_map]
    congr 1
    · simp
    · apply List.map_congr_left
      intro i hi
      simp
theorem lab_of (l : List OpM) : lab [] l = (List.range l.length).map fun i => (l[i]!, ord l i) := by
  rw [lab_range]; rfl

/-- The pairs of one with those behind. -/
def prOf (a : OpM × Nat) (r : List (OpM × Nat)) : List PairM := (r.filter fun b => clash a.1 b.1).map fun b => ⟨a.1.tx, a.2, b.1.tx, b.2⟩
def prs : List (OpM × Nat) → List PairM
  | [] => []
  | a :: r => prOf a r ++ prs r
theorem flatMap_same {α β : Type} {l : List α} {f g : α → List β} (h : ∀ a ∈ l, f a = g a) : l.flatMap f = l.flatMap g := by
  rw [List.flatMap_def, List.flatMap_def, List.map_congr_left h]
theorem prs_range (g : Nat → OpM × Nat) : ∀ (n s : Nat), prs ((List.range' s n).map g) = (List.range' s n).flatMap fun i => ((List.range' s n).filter fun k => decide (i < k) && clash (g i).1 (g k).1).map fun k => ⟨(g i).1.tx, (g i).2, (g k).1.tx, (g k).2⟩
  | 0, s => rfl
  | n + 1, s => by
    rw [List.range'_succ, List.map_cons, prs, prs_range g n, List.flatMap_cons]
    congr 1
    · unfold prOf
      rw [List.filter_cons, if_neg (by simp), List.filter_map, List.map_map]
      have : (List.range' (s + 1) n).filter ((fun b => clash (g s).1 b.1) ∘ g) = (List.range' (s + 1) n).filter fun k => decide (s < k) && clash (g s).1 (g k).1 := by
        apply List.filter_congr
        intro k hk
        have := (List.mem_range'_1.1 hk).1
        rw [decide_eq_true (by omega : s < k)]; simp
      rw [this]; rfl
    · apply flatMap_same
      intro i hi
      have := (List.mem_range'_1.1 hi).1
      rw [List.filter_cons, if_neg (by simp; omega)]
theorem pairs_lab (l : List OpM) : pairs l = prs (lab [] l) := by
  rw [lab_of, List.range_eq_range', prs_range, ← List.range_eq_range']
  rfl
theorem prOf_perm (a : OpM × Nat) {r r' : List (OpM × Nat)} (h : r.Perm r') : (prOf a r).Perm (prOf a r') := (h.filter _).map _
theorem prs_front : ∀ (P A B : List (OpM × Nat)), A.Perm B → ((prs (P ++ A)).Perm (prs (P ++ B)) ↔ (prs A).Perm (prs B))
  | [], A, B, _ => Iff.rfl
  | a :: P, A, B, h => by
    rw [List.cons_append, List.cons_append, prs, prs, ← prs_front P A B h]
    have hp := prOf_perm a (h.append_left P)
    constructor
    · intro h1
      exact (List.perm_append_left_iff _).1 (h1.trans (hp.symm.append_right _))
    · intro h1
      exact hp.append h1
theorem clash_comm (a b : OpM) : clash a b = clash b a := by
  unfold clash
  rw [Bool.eq_iff_iff]
  simp only [Bool.and_eq_true, Bool.not_eq_true', beq_eq_false_iff_ne, decide_eq_true_eq, beq_iff_eq, Bool.or_eq_true]
  constructor
  · rintro ⟨⟨⟨⟨h1, h2⟩, h3⟩, h4⟩, h5⟩
    exact ⟨⟨⟨⟨fun e => h1 e.symm, h3⟩, h2⟩, h4.symm⟩, h5.symm⟩
  · rintro ⟨⟨⟨⟨h1, h2⟩, h3⟩, h4⟩, h5⟩
    exact ⟨⟨⟨⟨fun e => h1 e.symm, h3⟩, h2⟩, h4.symm⟩, h5.symm⟩
theorem prs_swap (X Y : OpM × Nat) (S : List (OpM × Nat)) (hne : X.1.tx ≠ Y.1.tx) : (prs (X :: Y :: S)).Perm (prs (Y :: X :: S)) ↔ clash X.1 Y.1 = false := by
  have e : ∀ U V : OpM × Nat, prs (U :: V :: S) = prOf U [V] ++ (prOf U S ++ (prOf V S ++ prs S)) := by
    intro U V
    have : prOf U (V :: S) = prOf U [V] ++ prOf U S := by
      unfold prOf
      rw [show V :: S = [V] ++ S from rfl, List.filter_append, List.map_append]
    rw [prs, prs, this, List.append_assoc]
  have hrest : (prOf X S ++ (prOf Y S ++ prs S)).Perm (prOf Y S ++ (prOf X S ++ prs S)) := by
    rw [← List.append_assoc, ← List.append_assoc]
    exact List.perm_append_comm.append_right _
  rw [e, e]
  cases hc : clash X.1 Y.1 with
  | false =>
    have h1 : prOf X [Y] = [] := by simp [prOf, hc]
    have h2 : prOf Y [X] = [] := by simp [prOf, clash_comm Y.1 X.1, hc]
    rw [h1, h2]
    simpa using hrest
  | true =>
    have h1 : prOf X [Y] = [⟨X.1.tx, X.2, Y.1.tx, Y.2⟩] := by simp [prOf, hc]
    have h2 : prOf Y [X] = [⟨Y.1.tx, Y.2, X.1.tx, X.2⟩] := by simp [prOf, clash_comm Y.1 X.1, hc]
    rw [h1, h2]
    refine ⟨fun h => ?_, fun h => by simp at h⟩
    have h3 := (List.perm_append_right_iff _).1 ((h.trans (hrest.symm.append_left _)))
    have := List.singleton_perm_singleton.1 h3
    injection this with h4
    exact absurd h4 hne
theorem pairs_swap (p s : List OpM) (x y : OpM) (hne : x.tx ≠ y.tx) : (pairs (p ++ x :: y :: s)).Perm (pairs (p ++ y :: x :: s)) ↔ clash x y = false := by
  rw [pairs_lab, pairs_lab, lab_append, lab_append]
  simp only [lab, List.nil_append]
  have e1 : ((p ++ [x]).countP fun q => q.tx == y.tx) = p.countP fun q => q.tx == y.tx := by
    rw [List.countP_append, List.countP_singleton, if_neg (by simpa using hne)]; rfl
  have e2 : ((p ++ [y]).countP fun q => q.tx == x.tx) = p.countP fun q => q.tx == x.tx := by
    rw [List.countP_append, List.countP_singleton, if_neg (by simpa using fun e => hne e.symm)]; rfl
  have e3 : lab (p ++ [x] ++ [y]) s = lab (p ++ [y] ++ [x]) s := lab_perm s _ _ (by
    rw [List.append_assoc, List.append_assoc]
    exact List.Perm.append_left p (List.Perm.swap y x []))
  rw [e1, e2, e3, prs_front _ _ _ (List.Perm.swap _ _ _)]
  exact prs_swap _ _ _ hne

theorem go_front : ∀ (p a b : List OpM) (ov : Nat → Bool), (∀ ov, go a ov = 0 ↔ go b ov = 0) → (go (p ++ a) ov = 0 ↔ go (p ++ b) ov = 0)
  | [], a, b, ov, h => h ov
  | o :: p, a, b, ov, h => by
    rw [List.cons_append, List.cons_append, go, go]
    split
    · exact Iff.rfl
    · split
      · exact Iff.rfl
      · exact go_front p a b _ h
theorem go_swap (x y : OpM) (s : List OpM) (hne : x.tx ≠ y.tx) (ov : Nat → Bool) (h : go (x :: y :: s) ov = 0) : go (y :: x :: s) ov = 0 := by
  rw [go_cons, go_cons] at h
  obtain ⟨h1, h2, h3, h4, h5⟩ := h
  have b1 := bad_zero h1
  have b2 := bad_zero h3
  have hn : x.tx.toNat ≠ y.tx.toNat := by omega
  rw [upd_other _ _ (fun e => hn e.symm)] at h4
  rw [go_cons, go_cons]
  refine ⟨h3, h4, h1, by rw [upd_other _ _ hn]; exact h2, ?_⟩
  rw [← h5]
  congr 1
  funext z
  unfold upd
  by_cases e1 : z = x.tx.toNat
  · subst e1; rw [if_pos rfl, if_neg hn, if_pos rfl]
  · by_cases e2 : z = y.tx.toNat
    · subst e2; rw [if_neg e1, if_pos rfl, if_pos rfl]
    · rw [if_neg e1, if_neg e2, if_neg e2, if_neg e1]
theorem check_swap (p s : List OpM) (x y : OpM) (hne : x.tx ≠ y.tx) (h : check (p ++ x :: y :: s) = 0) : check (p ++ y :: x :: s) = 0 := by
  obtain ⟨h1, h2, _⟩ := check_ok h
  unfold check
  rw [if_neg (by simp at h1 ⊢; omega)]
  exact (go_front p _ _ _ (fun ov => ⟨go_swap x y s hne ov, go_swap y x s (fun e => hne e.symm) ov⟩)).1 h2
theorem of_swap (p s : List OpM) (x y : OpM) (hne : x.tx ≠ y.tx) (t : Nat) : of (p ++ x :: y :: s) t = of (p ++ y :: x :: s) t := by
  unfold of
  rw [List.filter_append, List.filter_append]
  congr 1
  by_cases h1 : x.tx = (t : Int)
  · have h2 : y.tx ≠ (t : Int) := fun e => hne (h1.trans e.symm)
    simp [h1, h2]
  · simp [List.filter_cons, h1]
theorem like_swap (p s : List OpM) (x y : OpM) (hne : x.tx ≠ y.tx) (h : check (p ++ x :: y :: s) = 0) :
    likeOk (p ++ x :: y :: s) (p ++ y :: x :: s) = 0 ∧ like (p ++ x :: y :: s) (p ++ y :: x :: s) = !clash x y := by
  have h2 := check_swap p s x y hne h
  refine ⟨by unfold likeOk; rw [h, h2]; simp, ?_⟩
  unfold like
  rw [h, h2]
  have e1 : sameTo (p ++ x :: y :: s) (p ++ y :: x :: s) 12 = true := by
    unfold sameTo
    rw [List.all_eq_true]
    intro t _
    exact decide_eq_true (of_swap p s x y hne t)
  rw [e1]
  simp only [decide_true, Bool.true_and]
  rw [Bool.eq_iff_iff, decide_eq_true_eq, PairM.sorted_eq, pairs_swap p s x y hne]
  simp
end RunM
end
section
open Go.RowKit Go.Lib Go.Sort
namespace RunM

/-- Labelled operations, one transaction behind another. -/
def turnL (L : List (OpM × Nat)) (ts : List Int) : List (OpM × Nat) := ts.flatMap fun t => L.filter fun x => x.1.tx == t
theorem lab_fst : ∀ (l acc : List OpM), (lab acc l).map Prod.fst = l
  | [], _ => rfl
  | o :: r, acc => by rw [lab, List.map_cons, lab_fst r]
theorem lab_filter (t : Int) : ∀ (l acc acc' : List OpM), acc.countP (fun q => q.tx == t) = acc'.countP (fun q => q.tx == t) → lab acc (l.filter fun o => o.tx == t) = (lab acc' l).filter fun x => x.1.tx == t
  | [], _, _, _ => rfl
  | o :: r, acc, acc', h => by
    rw [lab, List.filter_cons, List.filter_cons]
    cases e : (o.tx == t) with
    | true =>
      have e2 : o.tx = t := by simpa using e
      simp only [if_true]
      rw [lab, lab_filter t r (acc ++ [o]) (acc' ++ [o]) (by rw [List.countP_append, List.countP_append, h]), e2, h]
    | false =>
      simp only [Bool.false_eq_true, if_false]
      exact lab_filter t r acc (acc' ++ [o]) (by rw [List.countP_append, h, List.countP_singleton, e]; simp)
theorem lab_turn (l : List OpM) : ∀ (ts : List Int) (acc : List OpM), ts.Nodup → (∀ q ∈ acc, ¬ q.tx ∈ ts) → lab acc (StampM.inTurn l ts) = turnL (lab [] l) ts
  | [], _, _, _ => rfl
  | t :: ts, acc, hn, ha => by
    obtain ⟨h1, h2⟩ := List.nodup_cons.1 hn
    unfold StampM.inTurn turnL
    rw [List.flatMap_cons, List.flatMap_cons, lab_append]
    have h0 : acc.countP (fun q => q.tx == t) = ([] : List OpM).countP (fun q => q.tx == t) := by
      rw [List.countP_nil, List.countP_eq_zero]
      intro q hq
      have := ha q hq
      simp at this ⊢
      exact this.1
    rw [lab_filter t l acc [] h0]
    congr 1
    refine lab_turn l ts _ h2 ?_
    intro q hq
    rcases List.mem_append.1 hq with h | h
    · intro h3; exact ha q h (by simp [h3])
    · have : q.tx = t := by simpa using (List.mem_filter.1 h).2
      rw [this]; exact h1
theorem mem_turnL {L : List (OpM × Nat)} {x : OpM × Nat} {ts : List Int} : x ∈ turnL L ts ↔ x ∈ L ∧ x.1.tx ∈ ts := by
  unfold turnL
  simp only [List.mem_flatMap, List.mem_filter, beq_iff_eq]
  constructor
  · rintro ⟨t, ht, h, rfl⟩; exact ⟨h, ht⟩
  · rintro ⟨h, h2⟩; exact ⟨_, h2, h, rfl⟩
theorem sub2_append {α : Type} {x y : α} {A B : List α} : [x, y].Sublist (A ++ B) ↔ [x, y].Sublist A ∨ [x, y].Sublist B ∨ (x ∈ A ∧ y ∈ B) := by
  constructor
  · intro h
    obtain ⟨l1, l2, e, h1, h2⟩ := List.sublist_append_iff.1 h
    match l1, l2, e with
    | [], l2, e => rw [List.nil_append] at e; subst e; exact Or.inr (Or.inl h2)
    | [a], l2, e =>
      simp only [List.cons_append, List.nil_append, List.cons.injEq] at e
      obtain ⟨rfl, rfl⟩ := e
      exact Or.inr (Or.inr ⟨List.singleton_sublist.1 h1, List.singleton_sublist.1 h2⟩)
    | [a, b], l2, e =>
      simp only [List.cons_append, List.nil_append, List.cons.injEq] at e
      obtain ⟨rfl, rfl, rfl⟩ := e
      exact Or.inl h1
    | a :: b :: c :: r, l2, e =>
      have := congrArg List.length e
      simp at this
  · rintro (h | h | ⟨h1, h2⟩)
    · exact h.trans (List.sublist_append_left _ _)
    · exact h.trans (List.sublist_append_right _ _)
    · exact (List.singleton_sublist.2 h1).append (List.singleton_sublist.2 h2)
theorem sub2_cons {α : Type} {x y a : α} {B : List α} : [x, y].Sublist (a :: B) ↔ [x, y].Sublist B ∨ (x = a ∧ y ∈ B) := by
  rw [show a :: B = [a] ++ B from rfl, sub2_append]
  simp only [List.mem_singleton]
  constructor
  · rintro (h | h | h)
    · have := h.length_le; simp at this
    · exact Or.inl h
    · exact Or.inr h
  · rintro (h | h)
    · exact Or.inr (Or.inl h)
    · exact Or.inr (Or.inr h)
theorem sub2_turnL {L : List (OpM × Nat)} {x y : OpM × Nat} (hne : x.1.tx ≠ y.1.tx) : ∀ ts : List Int, [x, y].Sublist (turnL L ts) ↔ x ∈ L ∧ y ∈ L ∧ [x.1.tx, y.1.tx].Sublist ts
  | [] => by simp [turnL]
  | t :: ts => by
    have ih := sub2_turnL (L := L) hne ts
    have : turnL L (t :: ts) = (L.filter fun x => x.1.tx == t) ++ turnL L ts := by simp [turnL]
    rw [this, sub2_append, sub2_cons, ih, mem_turnL, List.mem_filter]
    simp only [beq_iff_eq]
    constructor
    · rintro (h | h | ⟨⟨h1, h2⟩, h3, h4⟩)
      · exfalso
        have e1 : x.1.tx = t := by simpa using (List.mem_filter.1 (h.subset (by simp : x ∈ [x, y]))).2
        have e2 : y.1.tx = t := by simpa using (List.mem_filter.1 (h.subset (by simp : y ∈ [x, y]))).2
        exact hne (e1.trans e2.symm)
      · exact ⟨h.1, h.2.1, Or.inl h.2.2⟩
      · exact ⟨h1, h3, Or.inr ⟨h2, h4⟩⟩
    · rintro ⟨h1, h2, h3 | ⟨h3, h4⟩⟩
      · exact Or.inr (Or.inl ⟨h1, h2, h3⟩)
      · exact Or.inr (Or.inr ⟨⟨h1, h3⟩, h2, h4⟩)

/-- The pairs of a labelled run are told by who stands ahead of whom. -/
theorem mem_prs {p : PairM} : ∀ {L : List (OpM × Nat)}, p ∈ prs L ↔ ∃ x y, [x, y].Sublist L ∧ clash x.1 y.1 = true ∧ p = ⟨x.1.tx, x.2, y.1.tx, y.2⟩
  | [] => by simp [prs]
  | a :: r => by
    rw [prs, List.mem_append, mem_prs]
    unfold prOf
    simp only [List.mem_map, List.mem_filter]
    constructor
    · rintro (⟨y, ⟨h1, h2⟩, rfl⟩ | ⟨x, y, h1, h2, rfl⟩)
      · exact ⟨a, y, sub2_cons.2 (Or.inr ⟨rfl, h1⟩), h2, rfl⟩
      · exact ⟨x, y, sub2_cons.2 (Or.inl h1), h2, rfl⟩
    · rintro ⟨x, y, h1, h2, rfl⟩
      rcases sub2_cons.1 h1 with h | ⟨rfl, h⟩
      · exact Or.inr ⟨x, y, h, h2, rfl⟩
      · exact Or.inl ⟨y, ⟨h, h2⟩, rfl⟩
/-- No label stands twice. -/
def Keyed (L : List (OpM × Nat)) : Prop := L.Pairwise fun x y => ¬ (x.1.tx = y.1.tx ∧ x.2 = y.2)
theorem keyed_lab : ∀ (l acc : List OpM), Keyed (lab acc l) ∧ ∀ x ∈ lab acc l, acc.countP (fun q => q.tx == x.1.tx) ≤ x.2
  | [], _ => ⟨List.Pairwise.nil, by simp [lab]⟩
  | o :: r, acc => by
    obtain ⟨h1, h2⟩ := keyed_lab r (acc ++ [o])
    refine ⟨List.pairwise_cons.2 ⟨fun y hy => ?_, h1⟩, fun x hx => ?_⟩
    · rintro ⟨e1, e2⟩
      have := h2 y hy
      simp only at e1 e2
      rw [List.countP_append, List.countP_singleton, ← e1, ← e2] at this
      simp at this
      omega
    · rw [lab] at hx
      rcases List.mem_cons.1 hx with rfl | hx
      · exact Nat.le_refl _
      · have := h2 x hx
        rw [List.countP_append] at this
        omega
theorem prs_nodup : ∀ (L : List (OpM × Nat)), Keyed L → (prs L).Nodup
  | [], _ => List.nodup_nil
  | a :: r, h => by
    obtain ⟨h1, h2⟩ := List.pairwise_cons.1 h
    rw [prs, List.nodup_append]
    refine ⟨?_, prs_nodup r h2, ?_⟩
    · unfold prOf
      refine List.pairwise_map.2 ((h2.sublist (List.filter_sublist)).imp ?_)
      intro x y hxy e
      injection e with e1 e2 e3 e4
      exact hxy ⟨e3, by omega⟩
    · intro p hp q hq e
      subst e
      obtain ⟨y, hy, rfl⟩ := List.mem_map.1 hp
      obtain ⟨x, z, hs, _, e⟩ := mem_prs.1 hq
      injection e with e1 e2 e3 e4
      exact h1 x (hs.subset (by simp)) ⟨e1, by omega⟩
theorem keyed_turn {L : List (OpM × Nat)} (h : Keyed L) {ts : List Int} (hn : ts.Nodup) : Keyed (turnL L ts) := by
  unfold Keyed turnL
  rw [List.pairwise_flatMap]
  refine ⟨fun t _ => h.sublist List.filter_sublist, hn.imp ?_⟩
  intro a b hab x hx y hy
  have e1 : x.1.tx = a := by simpa using (List.mem_filter.1 hx).2
  have e2 : y.1.tx = b := by simpa using (List.mem_filter.1 hy).2
  rintro ⟨e, _⟩
  exact hab (e1.symm.trans (e.trans e2))
theorem perm_mem {α : Type} [DecidableEq α] {l m : List α} (hl : l.Nodup) (hm : m.Nodup) (h : ∀ a, a ∈ l ↔ a ∈ m) : l.Perm m := by
  rw [List.perm_iff_count]
  intro a
  rw [hl.count, hm.count]
  simp [h a]
/-- Of two that clash, whichever stands ahead. -/
theorem sub2_two {α : Type} {x y : α} : ∀ {L : List α}, x ∈ L → y ∈ L → x ≠ y → [x, y].Sublist L ∨ [y, x].Sublist L
  | a :: r, hx, hy, hne => by
    rcases List.mem_cons.1 hx with rfl | hx
    · rcases List.mem_cons.1 hy with e | hy
      · exact absurd e.symm hne
      · exact Or.inl (sub2_cons.2 (Or.inr ⟨rfl, hy⟩))
    · rcases List.mem_cons.1 hy with e | hy
      · rw [e]; exact Or.inr (sub2_cons.2 (Or.inr ⟨rfl, hx⟩))
      · rcases sub2_two hx hy hne with h | h
        · exact Or.inl (sub2_cons.2 (Or.inl h))
        · exact Or.inr (sub2_cons.2 (Or.inl h))
theorem sub2_anti {α : Type} {x y : α} {L : List α} (hn : L.Nodup) (h1 : [x, y].Sublist L) (h2 : [y, x].Sublist L) : False := by
  induction L with
  | nil => simp at h1
  | cons a r ih =>
    obtain ⟨hn1, hn2⟩ := List.nodup_cons.1 hn
    rcases sub2_cons.1 h1 with h | ⟨rfl, h⟩
    · rcases sub2_cons.1 h2 with h3 | ⟨rfl, h3⟩
      · exact ih hn2 h h3
      · exact hn1 (h.subset (by simp))
    · rcases sub2_cons.1 h2 with h3 | ⟨h4, h3⟩
      · exact hn1 (h3.subset (by simp))
      · subst h4; exact hn1 h
theorem sub2_map {l : List OpM} {a b : OpM} : [a, b].Sublist l ↔ ∃ x y, [x, y].Sublist (lab [] l) ∧ x.1 = a ∧ y.1 = b := by
  constructor
  · intro h
    rw [← lab_fst l []] at h
    obtain ⟨l', h1, h2⟩ := List.sublist_map_iff.1 h
    match l', h2 with
    | [x, y], h2 =>
      simp only [List.map_cons, List.map_nil, List.cons.injEq, and_true] at h2
      exact ⟨x, y, h1, h2.1.symm, h2.2.symm⟩
  · rintro ⟨x, y, h, rfl, rfl⟩
    have := h.map Prod.fst
    rwa [lab_fst] at this
theorem pairs_turn {m : List OpM} {s : List Int} (hs : s.Nodup) (ha : ∀ o ∈ m, o.tx ∈ s) :
    (pairs m).Perm (pairs (StampM.inTurn m s)) ↔ ∀ a b, [a, b].Sublist m → clash a b = true → [a.tx, b.tx].Sublist s := by
  have hk := (keyed_lab m []).1
  rw [pairs_lab, pairs_lab, lab_turn m s [] hs (by simp)]
  have hne : ∀ {a b : OpM}, clash a b = true → a.tx ≠ b.tx := by
    intro a b h e
    unfold clash at h
    rw [e] at h; simp at h
  have hin : ∀ {x : OpM × Nat}, x ∈ lab [] m → x.1.tx ∈ s := by
    intro x hx
    refine ha _ ?_
    have := List.mem_map_of_mem (f := Prod.fst) hx
    rwa [lab_fst] at this
  constructor
  · intro hp a b hab hc
    obtain ⟨x, y, hxy, rfl, rfl⟩ := sub2_map.1 hab
    obtain ⟨x', y', h1, h2, e⟩ := mem_prs.1 (hp.mem_iff.1 (mem_prs.2 ⟨x, y, hxy, hc, rfl⟩))
    injection e with e1 e2 e3 e4
    have := ((sub2_turnL (hne h2) s).1 h1).2.2
    rwa [e1, e3]
  · intro h
    refine perm_mem (prs_nodup _ hk) (prs_nodup _ (keyed_turn hk hs)) fun p => ?_
    rw [mem_prs, mem_prs]
    constructor
    · rintro ⟨x, y, hxy, hc, rfl⟩
      refine ⟨x, y, (sub2_turnL (hne hc) s).2 ⟨hxy.subset (by simp), hxy.subset (by simp), ?_⟩, hc, rfl⟩
      exact h _ _ (sub2_map.2 ⟨x, y, hxy, rfl, rfl⟩) hc
    · rintro ⟨x, y, hxy, hc, rfl⟩
      obtain ⟨h1, h2, h3⟩ := (sub2_turnL (hne hc) s).1 hxy
      refine ⟨x, y, ?_, hc, rfl⟩
      rcases sub2_two h1 h2 (fun e => hne hc (by rw [e])) with h4 | h4
      · exact h4
      · exact (sub2_anti hs h3 (h _ _ (sub2_map.2 ⟨y, x, h4, rfl, rfl⟩) (by rw [clash_comm]; exact hc))).elim
theorem of_turn {m : List OpM} (t : Nat) : ∀ {s : List Int}, s.Nodup → of (StampM.inTurn m s) t = if (t : Int) ∈ s then of m t else []
  | [], _ => by simp [StampM.inTurn, of]
  | u :: s, hs => by
    obtain ⟨h1, h2⟩ := List.nodup_cons.1 hs
    have : StampM.inTurn m (u :: s) = (m.filter fun o => o.tx == u) ++ StampM.inTurn m s := by simp [StampM.inTurn]
    have ih := of_turn (m := m) t h2
    unfold of at ih ⊢
    rw [this, List.filter_append, ih, List.filter_filter]
    by_cases e : (t : Int) = u
    · subst e
      rw [if_neg h1, if_pos (by simp), List.append_nil]
      congr 1; funext o; simp
    · have : (m.filter fun o => (o.tx == (t : Int)) && (o.tx == u)) = [] := by
        rw [List.filter_eq_nil_iff]
        intro o _
        simp
        omega
      rw [this, List.nil_append]
      by_cases h : (t : Int) ∈ s
      · rw [if_pos h, if_pos (by simp [h])]
      · rw [if_neg h, if_neg (by simp [h, e])]
theorem turn_perm {m : List OpM} {s : List Int} (hs : s.Nodup) (ha : ∀ o ∈ m, o.tx ∈ s) : (StampM.inTurn m s).Perm m := by
  rw [List.perm_iff_count]
  intro a
  have key : ∀ {s : List Int}, s.Nodup → (StampM.inTurn m s).count a = if a.tx ∈ s then m.count a else 0 := by
    intro s
    induction s with
    | nil => intro _; simp [StampM.inTurn]
    | cons u s ih =>
      intro hs
      obtain ⟨h1, h2⟩ := List.nodup_cons.1 hs
      have : StampM.inTurn m (u :: s) = (m.filter fun o => o.tx == u) ++ StampM.inTurn m s := by simp [StampM.inTurn]
      rw [this, List.count_append, ih h2]
      by_cases e : a.tx = u
      · subst e
        rw [if_neg h1, if_pos (by simp), List.count_filter (by simp)]; rfl
      · have : (m.filter fun o => o.tx == u).count a = 0 := by
          rw [List.count_eq_zero]
          intro h
          exact e (by simpa using (List.mem_filter.1 h).2)
        rw [this]
        by_cases h : a.tx ∈ s
        · rw [if_pos h, if_pos (by simp [h])]; omega
        · rw [if_neg h, if_neg (by simp [h, e])]
  rw [key hs]
  split
  · rfl
  · rename_i h
    symm
    rw [List.count_eq_zero]
    intro h2
    exact h (ha a h2)
theorem check_turn {m : List OpM} {s : List Int} (h : check m = 0) (hs : s.Nodup) (ha : ∀ o ∈ m, o.tx ∈ s) : check (StampM.inTurn m s) = 0 := by
  have hp := turn_perm hs ha
  rw [check_iff] at *
  refine ⟨by rw [hp.length_eq]; exact h.1, fun o ho => h.2.1 o (hp.mem_iff.1 ho), ?_⟩
  unfold StampM.inTurn
  rw [List.pairwise_flatMap]
  refine ⟨fun t _ => h.2.2.sublist List.filter_sublist, hs.imp ?_⟩
  intro a b hab x hx y hy e
  have e1 : x.tx = a := by simpa using (List.mem_filter.1 hx).2
  have e2 : y.tx = b := by simpa using (List.mem_filter.1 hy).2
  exact absurd (e1.symm.trans (e.trans e2)) hab
/-- A run is like its transactions one behind another just if, of two that clash, whose operation is ahead stands ahead. -/
theorem like_turn {m : List OpM} {s : List Int} (h : check m = 0) (hs : s.Nodup) (ha : ∀ o ∈ m, o.tx ∈ s) :
    likeOk m (StampM.inTurn m s) = 0 ∧ (like m (StampM.inTurn m s) = true ↔ ∀ a b, [a, b].Sublist m → clash a b = true → [a.tx, b.tx].Sublist s) := by
  have h2 := check_turn h hs ha
  refine ⟨by unfold likeOk; rw [h, h2]; simp, ?_⟩
  unfold like
  rw [h, h2]
  have e1 : sameTo m (StampM.inTurn m s) 12 = true := by
    unfold sameTo
    rw [List.all_eq_true]
    intro t _
    refine decide_eq_true ?_
    rw [of_turn t hs]
    split
    · rfl
    · rename_i h3
      unfold of
      rw [List.filter_eq_nil_iff]
      intro o ho
      simp
      intro e
      exact h3 (e ▸ ha o ho)
  rw [e1]
  simp only [decide_true, Bool.true_and]
  rw [decide_eq_true_eq, PairM.sorted_eq, pairs_turn hs ha]
/-- A run without those that do not commit. -/
def ofCom (l : List OpM) : List OpM := l.filter fun o => decide ((⟨o.tx, 3, 0⟩ : OpM) ∈ l)
theorem ofCom_check {l : List OpM} (h : check l = 0) : check (ofCom l) = 0 := check_sub h List.filter_sublist
end RunM
end
section
open Go.RowKit Go.Lib

theorem Tryz.infoOpT : (Tryz.prog.info? 30).map (fun i => (i.zero, i.size, i.bytes)) = some (some (.agg #[.int .i64 0, .int .i64 0, .int .i64 0]), 3, 24) := by kernel_rfl

/-- A row of operations of the call's own is handed back. -/
def OpsM.Row (l : List OpM) (w : World) (e : Ending) (w' : World) : Prop :=
  ∃ v, e = .returned v ∧ w'.ownsRow w.heap.size 30 3 v l.length (opVals l) ∧ Below w.heap.size w w'
theorem OpsAt.fits {l : List OpM} (h : RunM.Fits l) (p : OpM → Bool) : (l.filter p).length ≤ 9000000000000 := Nat.le_trans (List.length_filter_le _ _) h.1

set_option maxRecDepth 20000 in
set_option maxHeartbeats 2000000 in
theorem own_any (l : List OpM) (t : Int) (ao : Option Addr) (cap : Nat) (w : World) (h : OpsAt w ao l) (hn : l.length ≤ 5000000000) :
    Calls Tryz.prog 33 #[.slice ao l.length cap, .int .i64 t] w (OpsM.Row (l.filter (fun o => o.tx == t)) w) := by
  obtain ⟨i0, hi0, hz0, hz1, hz2⟩ := info_parts Tryz.infoOpT
  have H := box h
  clear h
  go_enter Tryz.func33, Tryz.ntmps33
  go_wp2_with fail
  go_loopw [5, 10] (fun t5 t10 wr => ∃ k : Nat, k ≤ l.length ∧ t10 = .int .i64 (k : Int) ∧ wr.ownsRow w.heap.size 30 3 t5 ((l.take k).filter (fun o => o.tx == t)).length (opVals ((l.take k).filter (fun o => o.tx == t))) ∧ Box (Below w.heap.size w wr)) (fun _ t10 _ => l.length - (intOf t10).toNat)
  case atStart => exact ⟨0, Nat.zero_le _, rfl, World.ownsRow_nil _ _ _ _, ⟨Below.refl _ _⟩⟩
  case round =>
    obtain ⟨k, hk, rfl, hown, Hb⟩ := hrel
    by_cases hlt : k < l.length
    · obtain ⟨b, off, rfl, hb, hrow⟩ := ((H.out.below Hb.out (Nat.le_refl _)).resolve_left (by intro h; rw [h] at hlt; simp at hlt))
      obtain ⟨hc0, hc1, hc2⟩ := hrow k hlt
      have Hown := box hown
      have hlen : ((l.take k).filter (fun o => o.tx == t)).length ≤ k := by
        have h1 := List.length_filter_le (fun o : OpM => o.tx == t) (l.take k)
        have h2 := List.length_take_le k l
        omega
      have HT : Box ((l.take (k + 1)).filter (fun o => o.tx == t) = (l.take k).filter (fun o => o.tx == t) ++ (if (l[k].tx == t) = true then [l[k]] else [])) := ⟨by
        rw [List.take_succ_eq_append_getElem hlt, List.filter_append]
        congr 1
        cases h : (l[k].tx == t) <;> simp [h]⟩
      have hbs := Hb.out.size
      generalize l[k] = o at *
      obtain ⟨a0, a1, a2⟩ := o
      simp only at hc0 hc1 hc2 HT
      generalize (l.take k).filter (fun o => o.tx == t) = ms at *
      clear hrow
      cases e0 : (a0 == t) with
      | false =>
        have HE := box e0
        clear hown
        go_wp2_with fail
        go_roundw
        case rel =>
          refine ⟨k + 1, hlt, by go_num, ?_, ⟨Hb.out.alloc hbs _⟩⟩
          rw [HT.out, if_neg (by rw [HE.out]; simp), List.append_nil]
          exact Hown.out.alloc _
        case measure => simp [intOf]; omega
      | true =>
        have HE := box e0
        have hown2 := (hown.alloc (.cells #[.int .i64 a0, .int .i64 a1, .int .i64 a2] 30)).alloc (.cells #[.int .i64 a0, .int .i64 a1, .int .i64 a2] 30)
        clear hown
        go_wp2_with (at_builtin; go_must (refine wpList_append_own _ rfl _ _ 22 rfl w.heap.size 30 i0 _ 3 24 Tryz.underlying22 hi0 hz0 hz1 hz2 rfl (by decide) _ _ _ rfl hown2 ⟨wr.heap.size + 1, 0, none⟩ 1 1 [.int .i64 a0, .int .i64 a1, .int .i64 a2] rfl rfl (by have h := cells_new (wr.alloc (.cells #[.int .i64 a0, .int .i64 a1, .int .i64 a2] 30)) [.int .i64 a0, .int .i64 a1, .int .i64 a2] 30; rw [World.size_alloc] at h; exact h) (by simp [Value.oneCell']) (by unfold maxLen; omega) (by omega) (by simp; omega) ?_))
        intro v' w2 hown3 hgrow _
        have hB2 : Below w.heap.size w w2 := ((Hb.out.alloc hbs _).alloc (by rw [World.size_alloc]; omega) _).grown hgrow (by simp; omega) (fun b hb => (Hown.out.lt b hb).1)
        have HB2 := box hB2; have HO := box hown3
        clear hown3 hgrow hown2 hB2
        go_wp2_with fail
        go_roundw
        case rel =>
          refine ⟨k + 1, hlt, by go_num, ?_, HB2⟩
          rw [HT.out, if_pos HE.out, opVals_append, List.length_append]
          exact HO.out
        case measure => simp [intOf]; omega
    · have Hown := box hown
      have HE : Box (l.take k = l) := ⟨List.take_of_length_le (by omega)⟩
      rw [HE.out] at Hown
      clear hown
      go_wp2_with fail
      go_ret
      exact ⟨_, rfl, Hown.out, Hb.out⟩
end
section
open Go.RowKit Go.Lib
set_option maxRecDepth 20000 in
set_option maxHeartbeats 2000000 in
theorem inTurn_any (l : List OpM) (ts : List Int) (ao bo : Option Addr) (cap cap' : Nat) (w : World) (h : OpsAt w ao l) (h' : IntsAt w bo ts) (hn : l.length ≤ 200) (ht : ts.length ≤ 100) :
    Calls Tryz.prog 11 #[.slice ao l.length cap, .slice bo ts.length cap'] w (OpsM.Row (StampM.inTurn l ts) w) := by
  obtain ⟨i0, hi0, hz0, hz1, hz2⟩ := info_parts Tryz.infoOpT
  have H := box h; have H' := box h'
  clear h h'
  go_enter Tryz.func11, Tryz.ntmps11
  go_wp2_with fail
  go_loopw [5, 10] (fun t5 t10 wr => ∃ k : Nat, k ≤ ts.length ∧ t10 = .int .i64 (k : Int) ∧ wr.ownsRow w.heap.size 30 3 t5 (StampM.inTurn l (ts.take k)).length (opVals (StampM.inTurn l (ts.take k))) ∧ Box (Below w.heap.size w wr)) (fun _ t10 _ => ts.length - (intOf t10).toNat)
  case atStart => exact ⟨0, Nat.zero_le _, rfl, World.ownsRow_nil _ _ _ _, ⟨Below.refl _ _⟩⟩
  case round =>
    obtain ⟨k, hk, rfl, hown, Hb⟩ := hrel
    by_cases hlt : k < ts.length
    · obtain ⟨b, off, rfl, hb, hrow⟩ := ((H'.out.below Hb.out (Nat.le_refl _)).resolve_left (by intro h; rw [h] at hlt; simp at hlt))
      have hc := hrow k hlt
      have Hown := box hown
      have hlen := StampM.inTurn_len l (ts.take k)
      have hlen2 : (StampM.inTurn l (ts.take k)).length ≤ 20000 := by
        have h2 := List.length_take_le k ts
        have : (ts.take k).length * l.length ≤ 100 * 200 := Nat.mul_le_mul (by omega) hn
        omega
      have HT : Box (StampM.inTurn l (ts.take (k + 1)) = StampM.inTurn l (ts.take k) ++ l.filter (fun o => o.tx == ts[k])) := ⟨by
        rw [List.take_succ_eq_append_getElem hlt, StampM.inTurn, List.flatMap_append]; simp [StampM.inTurn]⟩
      have hbs := Hb.out.size
      have HC := box (own_any l ts[k] ao cap wr (H.out.below Hb.out (Nat.le_refl _)) (by omega))
      have hfl : (l.filter (fun o => o.tx == ts[k])).length ≤ 200 := Nat.le_trans (List.length_filter_le _ _) hn
      generalize ts[k] = t at *
      generalize StampM.inTurn l (ts.take k) = ms at *
      generalize l.filter (fun o => o.tx == t) = fs at *
      clear hrow hown hlen
      go_wp2_with fail
      refine HC.out.mono ?_
      rintro e w1 ⟨v1, rfl, hown1, hb1⟩
      have hownA := ownsRow_below Hown.out hb1
      have HB1 : Box (Below w.heap.size w w1) := ⟨Hb.out.trans (hb1.mono hbs)⟩
      have hbs1 := HB1.out.size
      obtain ⟨ao1, cap1, rfl, _, hat1, hnil1, _⟩ := OpsAt.own hown1
      cases ao1 with
      | none =>
        obtain rfl := hnil1 rfl
        have hfs : fs = [] := hat1.resolve_right (by rintro ⟨b, off, h, _⟩; simp at h)
        subst hfs
        have HO := box hownA
        clear hb1 hown1 hat1 hnil1
        go_wp2_with (at_builtin; go_must (refine wpList_append_own_none rfl _ _ 22 rfl w.heap.size 30 i0 3 Tryz.underlying22 hi0 _ _ _ rfl hownA rfl ?_))
        clear hownA
        go_wp2_with fail
        go_roundw
        case rel =>
          refine ⟨k + 1, hlt, by go_num, ?_, HB1⟩
          rw [HT.out, List.append_nil]
          exact HO.out
        case measure => simp [intOf]; omega
      | some ad =>
        have hcs : ∀ j u, (opVals fs)[j]? = some u → w1.cell? (ad.add j) = some u := by
          rcases hown1.2 with ⟨h1, _⟩ | ⟨g, cap2, cur, h1, _⟩
          · simp at h1
          · simp only [Value.slice.injEq, Option.some.injEq] at h1
            rw [h1.1]
            exact hown1.cells (by rw [h1.1]; rfl)
        have hav := box Hown.out.lt
        have Hcs := box hcs
        clear hb1 hown1 hat1 hnil1 hcs
        go_wp2_with (at_builtin; go_must (refine wpList_append_own _ rfl _ _ 22 rfl w.heap.size 30 i0 _ 3 24 Tryz.underlying22 hi0 hz0 hz1 hz2 rfl (by decide) _ _ _ rfl hownA ad fs.length cap1 (opVals fs) rfl (opVals_len fs) Hcs.out (opVals_one' fs) (by unfold maxLen; omega) (by omega) (by omega) ?_))
        intro v' w2 hown3 hgrow _
        have hB2 : Below w.heap.size w w2 := HB1.out.grown hgrow hbs1 (fun b hb => (hav.out b hb).1)
        have HB2 := box hB2; have HO := box hown3
        clear hown3 hgrow hownA hB2
        go_wp2_with fail
        go_roundw
        case rel =>
          refine ⟨k + 1, hlt, by go_num, ?_, HB2⟩
          rw [HT.out, opVals_append, List.length_append]
          exact HO.out
        case measure => simp [intOf]; omega
    · have Hown := box hown
      have HE : Box (ts.take k = ts) := ⟨List.take_of_length_le (by omega)⟩
      rw [HE.out] at Hown
      clear hown
      go_wp2_with fail
      go_ret
      exact ⟨_, rfl, Hown.out, Hb.out⟩
end
section
open Go.RowKit Go.Lib

theorem op_any (a b c : Int) (w : World) : Calls Tryz.prog 6 #[.int .i64 a, .int .i64 b, .int .i64 c] w fun e w' => e = .returned (.agg #[.int .i64 a, .int .i64 b, .int .i64 c]) ∧ Below w.heap.size w w' := by
  go_enter Tryz.func6, Tryz.ntmps6
  go_wp2_with fail
  refine bodyPost_ret (v := .agg #[.int .i64 a, .int .i64 b, .int .i64 c]) (by simp [results, Tryz.results6, go_sem]) rfl ⟨rfl, ?_⟩
  exact (Below.refl _ _).alloc (Nat.le_refl _) _
end
section
open Go.RowKit Go.Lib

set_option maxRecDepth 20000 in
set_option maxHeartbeats 2000000 in
theorem index_ops (l : List OpM) (v : OpM) (ao : Option Addr) (cap : Nat) (w : World) (h : OpsAt w ao l) (hn : l.length ≤ 9000000000000000000) :
    Calls Tryz.prog 50 #[.slice ao l.length cap, .agg #[.int .i64 v.tx, .int .i64 v.kind, .int .i64 v.item]] w fun e w' => e = .returned (.int .i64 (OpsM.find (fun o => decide (v = o)) l)) ∧ Below w.heap.size w w' := by
  have H := box h
  obtain ⟨v0, v1, v2⟩ := v
  clear h
  go_enter Tryz.func50, Tryz.ntmps50
  go_upto_region 1 with (fail)
  refine name_world (fun W => Below w.heap.size w W ∧ Blk W w.heap.size 30 [.int .i64 v0, .int .i64 v1, .int .i64 v2]) ⟨(Below.refl _ _).alloc (Nat.le_refl _) _, Blk.new _ _ _⟩ ?_
  rintro W ⟨hbW, hkW⟩
  have HW := box hbW; have HK := box hkW
  clear hbW hkW
  generalize HB : w.heap.size = B at *
  have HBB := box HB
  clear HB
  go_wp2_with fail
  go_loopw [8] (fun t8 wr => ∃ k n : Nat, wr = W.drewN n ∧ k ≤ l.length ∧ t8 = .int .i64 (k : Int) ∧ Box (∀ j (h : j < l.length), j < k → decide (OpM.mk v0 v1 v2 = l[j]) = false)) (fun t8 _ => l.length - (intOf t8).toNat)
  case atStart => exact ⟨0, 0, rfl, Nat.zero_le _, rfl, ⟨fun j _ h => by omega⟩⟩
  case round =>
    obtain ⟨k, n0, rfl, hk, rfl, Hall⟩ := hrel
    by_cases hlt : k < l.length
    · obtain ⟨b, off, rfl, _, hrow⟩ := ((H.out.below HW.out (by rw [HBB.out]; exact Nat.le_refl _)).resolve_left (by intro h; rw [h] at hlt; simp at hlt))
      obtain ⟨hc0, hc1, hc2⟩ := hrow k hlt
      have c0 := HK.out.cell (i := 0) rfl
      have c1 := HK.out.cell (i := 1) rfl
      have c2 := HK.out.cell (i := 2) rfl
      have HF : Box (OpM.mk v0 v1 v2 = l[k] → OpsM.find (fun o => decide (OpM.mk v0 v1 v2 = o)) l = (k : Int)) := ⟨fun h => by
        have : l.findIdx (fun o => decide (OpM.mk v0 v1 v2 = o)) = k := by
          rw [List.findIdx_eq (by omega)]
          exact ⟨decide_eq_true h, fun j hj => Hall.out j (by omega) hj⟩
        unfold OpsM.find
        rw [this, if_pos hlt]⟩
      have HN : Box (OpM.mk v0 v1 v2 ≠ l[k] → ∀ j (h : j < l.length), j < k + 1 → decide (OpM.mk v0 v1 v2 = l[j]) = false) := ⟨fun h j hj h2 => by
        by_cases e : j = k
        · subst e; exact decide_eq_false h
        · exact Hall.out j hj (by omega)⟩
      generalize l[k] = o at *
      obtain ⟨a0, a1, a2⟩ := o
      simp only at hc0 hc1 hc2
      clear hrow
      cases e0 : (v0 == a0) with
      | false =>
        have Hne : Box ((OpM.mk v0 v1 v2) ≠ OpM.mk a0 a1 a2) := ⟨by intro h; injection h with h; subst h; simp at e0⟩
        go_wp2_with fail
        go_quiet (fail)
        go_wp2_with fail
        go_roundw
        case rel => exact ⟨k + 1, n0 + nq, rfl, hlt, by go_num, ⟨HN.out Hne.out⟩⟩
        case measure => simp [intOf]; omega
      | true =>
        cases e1 : (v1 == a1) with
        | false =>
          have Hne : Box ((OpM.mk v0 v1 v2) ≠ OpM.mk a0 a1 a2) := ⟨by intro h; injection h with _ h; subst h; simp at e1⟩
          go_wp2_with fail
          go_quiet (fail)
          go_wp2_with fail
          go_roundw
          case rel => exact ⟨k + 1, n0 + nq, rfl, hlt, by go_num, ⟨HN.out Hne.out⟩⟩
          case measure => simp [intOf]; omega
        | true =>
          cases e2 : (v2 == a2) with
          | false =>
            have Hne : Box ((OpM.mk v0 v1 v2) ≠ OpM.mk a0 a1 a2) := ⟨by intro h; injection h with _ _ h; subst h; simp at e2⟩
            go_wp2_with fail
            go_quiet (fail)
            go_wp2_with fail
            go_roundw
            case rel => exact ⟨k + 1, n0 + nq, rfl, hlt, by go_num, ⟨HN.out Hne.out⟩⟩
            case measure => simp [intOf]; omega
          | true =>
            have Heq : Box ((OpM.mk v0 v1 v2) = OpM.mk a0 a1 a2) := ⟨by
              rw [beq_iff_eq] at e0 e1 e2
              rw [e0, e1, e2]⟩
            go_wp2_with fail
            go_quiet (fail)
            go_wp2_with fail
            go_ret
            exact ⟨by rw [HF.out Heq.out]; rfl, by first | exact HW.out.trans ⟨rfl, rfl, rfl, Nat.le_refl _, fun _ _ => rfl⟩ | (rw [HBB.out]; exact HW.out.trans ⟨rfl, rfl, rfl, Nat.le_refl _, fun _ _ => rfl⟩)⟩
    · have HF : Box (OpsM.find (fun o => decide (OpM.mk v0 v1 v2 = o)) l = -1) := ⟨by
        unfold OpsM.find
        rw [if_neg]
        intro h
        have h2 := List.findIdx_getElem (w := h)
        have := Hall.out _ h (by omega)
        rw [this] at h2; simp at h2⟩
      go_wp2_with fail
      go_ret
      exact ⟨by rw [HF.out]; rfl, by first | exact HW.out.trans ⟨rfl, rfl, rfl, Nat.le_refl _, fun _ _ => rfl⟩ | (rw [HBB.out]; exact HW.out.trans ⟨rfl, rfl, rfl, Nat.le_refl _, fun _ _ => rfl⟩)⟩
theorem any_eq_mem (v : OpM) (l : List OpM) : l.any (fun o => decide (v = o)) = decide (v ∈ l) := by
  rw [Bool.eq_iff_iff, List.any_eq_true, decide_eq_true_eq]
  constructor
  · rintro ⟨o, h, e⟩
    rw [of_decide_eq_true e]; exact h
  · intro h; exact ⟨v, h, by simp⟩
theorem contains_ops (l : List OpM) (v : OpM) (ao : Option Addr) (cap : Nat) (w : World) (h : OpsAt w ao l) (hn : l.length ≤ 9000000000000000000) :
    Calls Tryz.prog 28 #[.slice ao l.length cap, .agg #[.int .i64 v.tx, .int .i64 v.kind, .int .i64 v.item]] w fun e w' => e = .returned (.bool (decide (v ∈ l))) ∧ Below w.heap.size w w' := by
  have HI := box (OpsM.find_ge (fun o => decide (v = o)) l)
  have HC := box (fun W hW => index_ops l v ao cap W (h.below hW (Nat.le_refl _)) hn)
  have HM := box (any_eq_mem v l)
  clear h
  obtain ⟨v0, v1, v2⟩ := v
  go_enter Tryz.func28, Tryz.ntmps28
  go_wp2_with fail
  refine (HC.out _ ((Below.refl _ _).alloc (Nat.le_refl _) _)).mono ?_
  rintro e w' ⟨rfl, hb⟩
  have HB := box (below_tr ((Below.refl _ _).alloc (Nat.le_refl _) _) hb)
  clear hb
  generalize OpsM.find (fun o => decide (OpM.mk v0 v1 v2 = o)) l = y at *
  go_wp2_with fail
  go_ret
  exact ⟨by rw [← HM.out, ← HI.out]; rfl, HB.out⟩
end
section
open Go.RowKit Go.Lib

set_option maxRecDepth 20000 in
set_option maxHeartbeats 4000000 in
theorem ofCom_any (l : List OpM) (ao : Option Addr) (cap : Nat) (w : World) (h : OpsAt w ao l) (hn : l.length * 24 ≤ 140737488355328) :
    Calls Tryz.prog 9 #[.slice ao l.length cap] w (OpsM.Row (RunM.ofCom l) w) := by
  obtain ⟨i0, hi0, hz0, hz1, hz2⟩ := info_parts Tryz.infoOpT
  have H := box h
  have HCn := box (fun (v : OpM) W (hb : Below w.heap.size w W) => contains_ops l v ao cap W (h.below hb (Nat.le_refl _)) (by omega))
  clear h
  obtain ⟨q, Hq⟩ : ∃ q : OpM → Bool, Box (∀ o : OpM, decide ((⟨o.tx, 3, 0⟩ : OpM) ∈ l) = q o) := ⟨_, ⟨fun _ => rfl⟩⟩
  have HD : Box (RunM.ofCom l = l.filter q) := ⟨by unfold RunM.ofCom; congr 1; funext o; exact Hq.out o⟩
  rw [HD.out]
  clear HD
  go_enter Tryz.func9, Tryz.ntmps9
  go_wp2_with fail
  go_loopw [3, 8] (fun t3 t8 wr => ∃ (k : Nat) (v3 : Value), k ≤ l.length ∧ v3 = t3 ∧ t8 = .int .i64 (k : Int) ∧ wr.ownsRow w.heap.size 30 3 v3 ((l.take k).filter q).length (opVals ((l.take k).filter q)) ∧ Box (Below w.heap.size w wr)) (fun _ t8 _ => l.length - (intOf t8).toNat)
  case atStart => exact ⟨0, _, Nat.zero_le _, rfl, rfl, World.ownsRow_nil _ _ _ _, ⟨Below.refl _ _⟩⟩
  case round =>
    obtain ⟨k, v3, hk, rfl, rfl, hown, Hb⟩ := hrel
    by_cases hlt : k < l.length
    · obtain ⟨b, off, rfl, hb, hrow⟩ := ((H.out.below Hb.out (Nat.le_refl _)).resolve_left (by intro h; rw [h] at hlt; simp at hlt))
      obtain ⟨hc0, hc1, hc2⟩ := hrow k hlt
      have Hown := box hown
      have hlen : ((l.take k).filter q).length ≤ k := by
        have h1 := List.length_filter_le q (l.take k)
        have h2 := List.length_take_le k l
        omega
      have HT : Box ((l.take (k + 1)).filter q = (l.take k).filter q ++ (if q l[k] = true then [l[k]] else [])) := ⟨by
        rw [List.take_succ_eq_append_getElem hlt, List.filter_append]
        congr 1
        cases h : q l[k] <;> simp [h]⟩
      have hbs := Hb.out.size
      have HQ := box (Hq.out l[k])
      generalize l[k] = o at *
      obtain ⟨a0, a1, a2⟩ := o
      simp only at hc0 hc1 hc2
      generalize (l.take k).filter q = ms at *
      clear hrow hown
      go_upto_region 5 with (fail)
      refine name_world (fun W => Below w.heap.size w W ∧ Blk W wr.heap.size 30 [.int .i64 a0, .int .i64 a1, .int .i64 a2] ∧ W.ownsRow w.heap.size 30 3 v3 ms.length (opVals ms)) ⟨Hb.out.alloc hbs _, Blk.new _ _ _, Hown.out.alloc _⟩ ?_
      rintro W ⟨hw1, hk1, ho1⟩
      have HW1 := box hw1; have HK1 := box hk1; have HO1 := box ho1
      have c0 := hk1.cell (i := 0) rfl
      clear hw1 hk1 ho1 hc0 hc1 hc2 Hown
      generalize wr.heap.size = A at *
      go_wp2_with fail
      refine (op_any _ _ _ _).mono ?_
      rintro e w1 ⟨rfl, hb1⟩
      have HB1 := box (below_tr HW1.out hb1)
      have HK2 := box (HK1.out.after hb1)
      have HO2 := box (ownsRow_below HO1.out hb1)
      clear hb1
      go_wp2_with fail
      refine (HCn.out ⟨a0, 3, 0⟩ w1 HB1.out).mono ?_
      rintro e w2 ⟨rfl, hb2⟩
      have HB2 := box (below_tr HB1.out hb2)
      have HK3 := box (HK2.out.after hb2)
      have HO3 := box (ownsRow_below HO2.out hb2)
      clear hb2 c0
      rw [show decide ((⟨a0, 3, 0⟩ : OpM) ∈ l) = q ⟨a0, a1, a2⟩ from HQ.out]
      obtain ⟨p, Hp⟩ : ∃ p, Box (q ⟨a0, a1, a2⟩ = p) := ⟨_, ⟨rfl⟩⟩
      rw [Hp.out]
      cases p with
      | false =>
        go_wp2_with fail
        go_roundw
        case rel =>
          refine ⟨k + 1, _, hlt, rfl, by go_num, ?_, HB2⟩
          rw [HT.out, if_neg (by rw [Hp.out]; simp), List.append_nil]
          exact HO3.out
        case measure => simp [intOf]; omega
      | true =>
        have c0 := HK3.out.cell (i := 0) rfl
        have c1 := HK3.out.cell (i := 1) rfl
        have c2 := HK3.out.cell (i := 2) rfl
        have hbs2 := HB2.out.size
        have hown2 := (HO3.out).alloc (.cells #[.int .i64 a0, .int .i64 a1, .int .i64 a2] 30)
        go_wp2_with (at_builtin; go_must (refine wpList_append_own _ rfl _ _ 22 rfl w.heap.size 30 i0 _ 3 24 Tryz.underlying22 hi0 hz0 hz1 hz2 rfl (by decide) _ _ _ rfl hown2 ⟨w2.heap.size, 0, none⟩ 1 1 [.int .i64 a0, .int .i64 a1, .int .i64 a2] rfl rfl (cells_new w2 [.int .i64 a0, .int .i64 a1, .int .i64 a2] 30) (by simp [Value.oneCell']) (by unfold maxLen; omega) (by omega) (by simp; omega) ?_))
        intro v' w3 hown3 hgrow _
        have hB3 : Below w.heap.size w w3 := (HB2.out.alloc hbs2 _).grown hgrow (by simp; omega) (fun b hb => (HO3.out.lt b hb).1)
        have HB3 := box hB3; have HO := box hown3
        clear hown3 hgrow hown2 hB3
        go_wp2_with fail
        go_roundw
        case rel =>
          refine ⟨k + 1, _, hlt, rfl, by go_num, ?_, HB3⟩
          rw [HT.out, if_pos Hp.out, opVals_append, List.length_append]
          exact HO.out
        case measure => simp [intOf]; omega
    · have Hown := box hown
      have HE : Box (l.take k = l) := ⟨List.take_of_length_le (by omega)⟩
      rw [HE.out] at Hown
      clear hown
      go_wp2_with fail
      go_ret
      exact ⟨_, rfl, Hown.out, Hb.out⟩
end
section
namespace TwoM
open LkM
section
variable {s : S} {l : List OpM}
/-- What has been done is right. -/
theorem Inv.right (H : Inv s [] (fun _ => []) (RunM.of l)) (hl : RunM.check l = 0) : RunM.check s.out = 0 := by
  obtain ⟨l1, l2, _⟩ := (RunM.check_iff l).1 hl
  have hbad : ∀ o ∈ s.out, RunM.bad o = 0 := fun o ho => by
    obtain ⟨j, hj⟩ := H.outs o ho
    exact (H.part j).1 o (mem_of.2 ⟨ho, hj⟩)
  have hdm : ∀ (m : List OpM), (∀ o ∈ m, RunM.bad o = 0) → ∀ o ∈ m, ∃ j : Nat, o.tx = j ∧ j < 12 := fun m hm o ho => by
    have := RunM.bad_zero (hm o ho)
    exact ⟨o.tx.toNat, by omega, by omega⟩
  refine (RunM.check_iff _).2 ⟨?_, hbad, ?_⟩
  · have h1 := of_sum s.out (hdm _ hbad)
    have h2 := of_sum l (hdm _ l2)
    have h3 := sum_le (f := fun k => (RunM.of s.out k).length) (g := fun k => (RunM.of l k).length) 12 (fun k _ => (H.part k).2.2)
    omega
  · rw [List.pairwise_iff_forall_sublist]
    intro x y hs e
    obtain ⟨j, hj⟩ := H.outs x (hs.subset (by simp))
    have h1 : [x, y].Sublist (RunM.of s.out j) := by
      have := hs.filter (fun o : OpM => o.tx == (j : Int))
      have e2 : [x, y].filter (fun o : OpM => o.tx == (j : Int)) = [x, y] := by
        rw [List.filter_eq_self]
        intro z hz
        simp only [List.mem_cons, List.not_mem_nil, or_false] at hz
        rcases hz with rfl | rfl
        · simpa using hj
        · simpa using e.symm.trans hj
      rw [e2] at this
      exact this
    exact List.rel_of_pairwise_cons ((H.part j).2.1.sublist h1) (List.mem_singleton.2 rfl)
theorem Rig.pre {pre post : List OpM} (h : Rig (pre ++ post)) : Rig pre := fun p o q e a ha hc => h p o (q ++ post) (by rw [e]; simp) a ha hc
/-- A run in which of two that clash the first is over is strict. -/
theorem rig_strict : ∀ (l : List OpM), Rig l → (∀ o ∈ l, RunM.bad o = 0) → (KindsM.run l).sc = true ∧ (∀ t : Nat, (KindsM.run l).en t = 0 → ended l t = false) ∧ (∀ k t, t ∈ (KindsM.run l).wr k → ∃ a ∈ l, a.tx = (t : Int) ∧ a.kind = 2 ∧ a.item = (k : Int)) := by
  intro l
  refine snoc_ind (p := fun l => Rig l → (∀ o ∈ l, RunM.bad o = 0) → (KindsM.run l).sc = true ∧ (∀ t : Nat, (KindsM.run l).en t = 0 → ended l t = false) ∧ (∀ k t, t ∈ (KindsM.run l).wr k → ∃ a ∈ l, a.tx = (t : Int) ∧ a.kind = 2 ∧ a.item = (k : Int))) ?_ ?_ l
  · intro _ _
    exact ⟨rfl, fun _ _ => rfl, fun k t h => by cases h⟩
  · intro l o ih hR hb
    obtain ⟨i1, i2, i3⟩ := ih hR.pre (fun x hx => hb x (List.mem_append_left _ hx))
    have hbo := RunM.bad_zero (hb o (by simp))
    have hstep : KindsM.run (l ++ [o]) = KindsM.step (KindsM.run l) o := by unfold KindsM.run; rw [List.foldl_append]; rfl
    have hclash : ∀ a ∈ l, RunM.clash a o = true → ended l a.tx.toNat = true := fun a ha hc => by
      obtain ⟨e, h1, h2, h3⟩ := hR l o [] rfl a ha hc
      have h4 := RunM.bad_zero (hb e (List.mem_append_left _ h1))
      exact ended_iff.2 ⟨e, h1, by rw [← h2]; exact (Int.toNat_of_nonneg h4.1).symm, h3⟩
    rw [hstep]
    generalize KindsM.run l = st at *
    have hsn : ∀ t : Nat, ended l t = false → ((o.tx == (t : Int)) && decide (3 ≤ o.kind)) = false → ended (l ++ [o]) t = false := fun t h1 h2 => by rw [ended_snoc, h1, h2]; rfl
    have hmem : ∀ k t, t ∈ st.wr k → ∃ a ∈ l ++ [o], a.tx = (t : Int) ∧ a.kind = 2 ∧ a.item = (k : Int) := fun k t h => by
      obtain ⟨a, h1, h2⟩ := i3 k t h
      exact ⟨a, List.mem_append_left _ h1, h2⟩
    unfold KindsM.step
    by_cases h3 : o.kind = 3
    · rw [if_pos h3]
      refine ⟨i1, fun t ht => ?_, hmem⟩
      have hne : t ≠ o.tx.toNat := by rintro rfl; simp only [upd_same] at ht; omega
      simp only [upd_other _ _ hne] at ht
      refine hsn t (i2 t ht) ?_
      rw [show (o.tx == (t : Int)) = false by rw [beq_eq_false_iff_ne]; omega]; rfl
    rw [if_neg h3]
    by_cases h4 : o.kind = 4
    · rw [if_pos h4]
      refine ⟨i1, fun t ht => ?_, fun k t h => hmem k t (List.mem_filter.1 h).1⟩
      have hne : t ≠ o.tx.toNat := by rintro rfl; simp only [upd_same] at ht; omega
      simp only [upd_other _ _ hne] at ht
      refine hsn t (i2 t ht) ?_
      rw [show (o.tx == (t : Int)) = false by rw [beq_eq_false_iff_ne]; omega]; rfl
    rw [if_neg h4]
    have hk3 : o.kind < 3 := by omega
    have hen : ∀ t : Nat, st.en t = 0 → ended (l ++ [o]) t = false := fun t ht => hsn t (i2 t ht) (by rw [decide_eq_false (by omega), Bool.and_false])
    have hopn : ∀ t, t ∈ st.wr o.item.toNat → KindsM.opn st o.tx.toNat t = false := fun t ht => by
      unfold KindsM.opn
      cases e1 : (t != o.tx.toNat) with
      | false => rfl
      | true =>
        rw [Bool.true_and, beq_eq_false_iff_ne]
        intro e2
        obtain ⟨a, h5, h6, h7, h8⟩ := i3 _ _ ht
        have hne : t ≠ o.tx.toNat := by simpa using e1
        have hc : RunM.clash a o = true := by
          unfold RunM.clash
          rw [show (a.tx == o.tx) = false by rw [beq_eq_false_iff_ne]; omega, decide_eq_true (by omega : a.kind < 3), decide_eq_true hk3, show (a.item == o.item) = true by rw [beq_iff_eq]; omega, show (a.kind == 2) = true by rw [beq_iff_eq]; exact h7]
          rfl
        have := hclash a h5 hc
        rw [h6, Int.toNat_natCast, i2 t e2] at this
        cases this
    have hsee : (KindsM.see st o).sc = true ∧ (KindsM.see st o).en = st.en ∧ (KindsM.see st o).wr = st.wr := by
      unfold KindsM.see
      cases hg : (st.wr o.item.toNat).getLast? with
      | none => exact ⟨i1, rfl, rfl⟩
      | some t =>
        have := hopn t (List.mem_of_getLast? hg)
        dsimp only
        split
        · exact ⟨by simp [i1, this], rfl, rfl⟩
        · exact ⟨by simp [i1, this], rfl, rfl⟩
    unfold KindsM.put
    split
    · rename_i h2
      refine ⟨hsee.1, fun t ht => hen t (by rw [← hsee.2.1]; exact ht), fun k t h => ?_⟩
      have h : t ∈ upd (KindsM.see st o).wr o.item.toNat ((KindsM.see st o).wr o.item.toNat ++ [o.tx.toNat]) k := h
      by_cases hk : k = o.item.toNat
      · subst hk
        rw [upd_same, hsee.2.2] at h
        rcases List.mem_append.1 h with h | h
        · exact hmem _ _ h
        · exact ⟨o, by simp, by rw [List.mem_singleton.1 h]; omega, h2, by omega⟩
      · rw [upd_other _ _ hk, hsee.2.2] at h
        exact hmem _ _ h
    · exact ⟨hsee.1, fun t ht => hen t (by rw [← hsee.2.1]; exact ht), fun k t h => hmem k t (by rw [← hsee.2.2]; exact h)⟩
/-- Who committed, in order. -/
def commits (l : List OpM) : List Int := (l.filter fun o => o.kind == 3).map OpM.tx
theorem sub_split {α : Type} {a b : α} : ∀ {l : List α}, [a, b].Sublist l → ∃ pre post, l = pre ++ b :: post ∧ a ∈ pre
  | [], h => by cases h
  | x :: r, h => by
    rcases List.sublist_cons_iff.1 h with h1 | ⟨r', h1, h2⟩
    · obtain ⟨pre, post, e, hm⟩ := sub_split h1
      exact ⟨x :: pre, post, by rw [e]; rfl, List.mem_cons_of_mem _ hm⟩
    · injection h1 with h3 h4
      subst h3 h4
      obtain ⟨pre, post, rfl⟩ := List.append_of_mem (List.singleton_sublist.1 h2)
      exact ⟨a :: pre, post, rfl, List.mem_cons_self⟩
theorem mem_commits {l : List OpM} {t : Int} : t ∈ commits l ↔ ∃ o ∈ l, o.kind = 3 ∧ o.tx = t := by
  unfold commits
  rw [List.mem_map]
  constructor
  · rintro ⟨o, ho, rfl⟩
    obtain ⟨h1, h2⟩ := List.mem_filter.1 ho
    exact ⟨o, h1, by simpa using h2, rfl⟩
  · rintro ⟨o, h1, h2, rfl⟩
    exact ⟨o, List.mem_filter.2 ⟨h1, by simpa using h2⟩, rfl⟩
/-- What commits is like the same transactions one behind another, as they commit. -/
theorem rig_like {l : List OpM} (hR : Rig l) (hc : RunM.check l = 0) :
    RunM.likeOk (RunM.ofCom l) (StampM.inTurn (RunM.ofCom l) (commits (RunM.ofCom l))) = 0 ∧ RunM.like (RunM.ofCom l) (StampM.inTurn (RunM.ofCom l) (commits (RunM.ofCom l))) = true := by
  have hm := RunM.ofCom_check hc
  obtain ⟨_, hb, hp⟩ := (RunM.check_iff l).1 hc
  obtain ⟨_, mb, mp⟩ := (RunM.check_iff _).1 hm
  have hcom : ∀ o ∈ RunM.ofCom l, (⟨o.tx, 3, 0⟩ : OpM) ∈ RunM.ofCom l := fun o ho => by
    unfold RunM.ofCom at ho ⊢
    obtain ⟨h1, h2⟩ := List.mem_filter.1 ho
    have h2 : (⟨o.tx, 3, 0⟩ : OpM) ∈ l := of_decide_eq_true h2
    exact List.mem_filter.2 ⟨h2, decide_eq_true h2⟩
  have hnd : (commits (RunM.ofCom l)).Nodup := by
    unfold commits
    rw [List.nodup_iff_pairwise_ne, List.pairwise_map]
    refine List.Pairwise.imp_of_mem ?_ (mp.sublist List.filter_sublist)
    intro x y hx hy h e
    have h1 : x.kind = 3 := by simpa using (List.mem_filter.1 hx).2
    have := h e
    omega
  obtain ⟨h1, h2⟩ := RunM.like_turn hm hnd (fun o ho => mem_commits.2 ⟨_, hcom o ho, rfl, rfl⟩)
  refine ⟨h1, h2.2 fun a b hab hcl => ?_⟩
  obtain ⟨c1, c2, c3, _, _⟩ := clash_what hcl
  have hab' : [a, b].Sublist l := hab.trans List.filter_sublist
  have ham : a ∈ RunM.ofCom l := hab.subset (by simp)
  have hbm : b ∈ RunM.ofCom l := hab.subset (by simp)
  have hA := hcom a ham
  have hB := hcom b hbm
  -- both commits in the run, a's ahead of b's
  have hne : (⟨a.tx, 3, 0⟩ : OpM) ≠ ⟨b.tx, 3, 0⟩ := by
    intro e; injection e with e; exact c1 e
  have hord : [(⟨a.tx, 3, 0⟩ : OpM), ⟨b.tx, 3, 0⟩].Sublist (RunM.ofCom l) := by
    have hAl : (⟨a.tx, 3, 0⟩ : OpM) ∈ l := (List.mem_filter.1 hA).1
    have hBl : (⟨b.tx, 3, 0⟩ : OpM) ∈ l := (List.mem_filter.1 hB).1
    have hsub : [(⟨a.tx, 3, 0⟩ : OpM), ⟨b.tx, 3, 0⟩].Sublist l := by
      obtain ⟨pre, post, e, hap⟩ := sub_split hab'
      obtain ⟨z, hz1, hz2, hz3⟩ := hR pre b post e a hap hcl
      rw [e] at hp hAl hBl ⊢
      rw [List.pairwise_append, List.pairwise_cons] at hp
      -- the end of a is its commit
      have hza : (⟨a.tx, 3, 0⟩ : OpM) ∈ pre := by
        rcases List.mem_append.1 hAl with h | h
        · exact h
        · have := hp.2.2 z hz1 _ h hz2
          omega
      have hbp : (⟨b.tx, 3, 0⟩ : OpM) ∈ b :: post := by
        rcases List.mem_append.1 hBl with h | h
        · have := hp.2.2 _ h b List.mem_cons_self rfl
          have : (3 : Int) < 3 := this
          omega
        · exact h
      have h3 := (List.singleton_sublist.2 hza).append (List.singleton_sublist.2 hbp)
      exact h3
    have := hsub.filter (fun o => decide ((⟨o.tx, 3, 0⟩ : OpM) ∈ l))
    have e2 : [(⟨a.tx, 3, 0⟩ : OpM), ⟨b.tx, 3, 0⟩].filter (fun o => decide ((⟨o.tx, 3, 0⟩ : OpM) ∈ l)) = [(⟨a.tx, 3, 0⟩ : OpM), ⟨b.tx, 3, 0⟩] := by
      rw [List.filter_eq_self]
      intro z hz
      simp only [List.mem_cons, List.not_mem_nil, or_false] at hz
      rcases hz with rfl | rfl
      · exact decide_eq_true hAl
      · exact decide_eq_true hBl
    rw [e2] at this
    exact this
  have h4 := (hord.filter (fun o => o.kind == 3)).map OpM.tx
  exact h4
end
end TwoM
end
section
open Go.ChangeShapes Go.WideShapes Go.ChangeAt Go.RowKit Go.ChangeMaps Go.Deep

theorem Tryz.cellsOp : Tryz.prog.cellsOf 30 = 3 := by kernel_rfl
theorem Tryz.cellsInt : Tryz.prog.cellsOf 3 = 1 := by kernel_rfl
theorem Tryz.bytesOp : Tryz.prog.bytesOf 30 = 24 := by kernel_rfl

section
variable {H : Type} {enc : TypeId × Value → H} {w : World}

theorem open_int1 {n : Nat} {c : Value} {y : DataW H × List MemPlace} (h : DataW.trod enc Tryz.prog w 0 (fun _ => true) true n 3 [c] = some y) :
    ∃ x : Int, c = .int .i64 x ∧ -9223372036854775808 ≤ x ∧ x ≤ 9223372036854775807 := by
  obtain ⟨x, e, rfl, hw⟩ := DataW.trod_int Tryz.underlying3 h
  simp only [List.cons.injEq, and_true] at e
  refine ⟨x, e, ?_⟩
  have hw2 : (decide (IntKind.i64.min ≤ x) && decide (x ≤ IntKind.i64.max)) = true := hw
  rw [Bool.and_eq_true, decide_eq_true_eq, decide_eq_true_eq] at hw2
  exact hw2

set_option maxRecDepth 100000 in
theorem open_op {n : Nat} {cs : List Value} {x : DataW H × List MemPlace} (h : DataW.trod enc Tryz.prog w 0 (fun _ => true) true n 30 cs = some x) :
    ∃ o : OpM, cs = [.int .i64 o.tx, .int .i64 o.kind, .int .i64 o.item] ∧ (-9223372036854775808 ≤ o.tx ∧ o.tx ≤ 9223372036854775807 ∧ -9223372036854775808 ≤ o.kind ∧ o.kind ≤ 9223372036854775807 ∧ -9223372036854775808 ≤ o.item ∧ o.item ≤ 9223372036854775807) := by
  obtain ⟨y0, y1, y2, m, rfl, hl, h0, h1, h2⟩ := trod_struct3 Tryz.underlying30 h
  rw [Tryz.cellsOp] at hl
  match cs, hl with
  | [c0, c1, c2], _ =>
    simp only [Tryz.cellsInt, List.drop_zero, List.take_succ_cons, List.take_zero, List.drop_succ_cons] at h0 h1 h2
    obtain ⟨x0, rfl, a0, b0⟩ := open_int1 h0
    obtain ⟨x1, rfl, a1, b1⟩ := open_int1 h1
    obtain ⟨x2, rfl, a2, b2⟩ := open_int1 h2
    exact ⟨⟨x0, x1, x2⟩, rfl, a0, b0, a1, b1, a2, b2⟩

set_option maxRecDepth 100000 in
/-- A run that came in. -/
theorem open_ops {r : Reach} {b0 : Nat} {v : Value} {d : DataW H} {p : List MemPlace} (hval : Value.okWide Tryz.prog w r b0 22 v) (h : DataW.Trod enc Tryz.prog w 0 (fun _ => true) true 22 v d p) (hsz : ∀ n ∈ d.weights Tryz.prog 22, n ≤ reachBytes) :
    ∃ ao cap l, v = .slice ao l.length cap ∧ (ao = none → cap = 0) ∧ OpsAt w ao l ∧ RunM.Fits l ∧ l.length ≤ cap ∧ cap * 24 ≤ 140737488355328 := by
  obtain ⟨a0, n0, c0, rfl⟩ := okWide_slice Tryz.underlying22 hval
  obtain ⟨fuel, hf⟩ := h
  have hf : DataW.trod enc Tryz.prog w 0 (fun _ => true) true fuel 22 [.slice a0 n0 c0] = some (d, p) := hf
  have hr : reachBytes = 140737488351232 := rfl
  rcases Open.slice_rows (w := w) Tryz.underlying22 Tryz.cellsOp (by omega) hf with ⟨h1, e⟩ | ⟨a, len, cap, m, D, Pl, h1, hle, hmx, e, hel, hpl⟩
  · rw [h1]
    exact ⟨none, 0, [], rfl, fun _ => rfl, Or.inl rfl, ⟨by simp, by simp⟩, Nat.le_refl _, by omega⟩
  · simp only at e
    rw [e] at hsz
    have hcap := hsz _ (Open.weights_cap Tryz.underlying22)
    rw [Tryz.bytesOp] at hcap
    simp only [List.length_map, List.length_range] at hcap
    obtain ⟨F, hF⟩ := choose_lt (α := OpM) (n := len) (p := fun i o => (w.cell? (a.add (i * 3 + 0)) = some (.int .i64 o.tx) ∧ w.cell? (a.add (i * 3 + 1)) = some (.int .i64 o.kind) ∧ w.cell? (a.add (i * 3 + 2)) = some (.int .i64 o.item)) ∧
        (-9223372036854775808 ≤ o.tx ∧ o.tx ≤ 9223372036854775807 ∧ -9223372036854775808 ≤ o.kind ∧ o.kind ≤ 9223372036854775807 ∧ -9223372036854775808 ≤ o.item ∧ o.item ≤ 9223372036854775807)) (fun i hi => by
      obtain ⟨cs', c1, c2, c3⟩ := hel i hi
      obtain ⟨o, rfl, hb⟩ := open_op c3
      exact ⟨o, ⟨c2 0 (by omega), c2 1 (by omega), c2 2 (by omega)⟩, hb⟩)
    have hlen : ((List.range len).map F).length = len := by simp
    refine ⟨some a, cap, (List.range len).map F, (by rw [hlen, h1]), (fun h => by cases h), ?_, ⟨(by rw [hlen]; omega), ?_⟩, (by rw [hlen]; exact hle), (by omega)⟩
    · by_cases h0 : len = 0
      · left; subst h0; rfl
      · right
        obtain ⟨b, off, rfl, hb⟩ := hpl (by omega)
        refine ⟨b, off, rfl, hb, fun k hk => ?_⟩
        rw [hlen] at hk
        obtain ⟨⟨f0, f1, f2⟩, _⟩ := hF k hk
        rw [Addr.add_lit] at f0 f1 f2
        simp only [List.getElem_map, List.getElem_range]
        exact ⟨f0, f1, f2⟩
    · intro s hs
      obtain ⟨i, hi, rfl⟩ := List.mem_map.1 hs
      have hi' : i < len := by simpa using hi
      exact (hF i hi').2
end
end
section
section
open Go.RowKit Go.Lib

theorem Tryz.infoIntTS : (Tryz.prog.info? 3).map (fun i => (i.zero, i.size, i.bytes)) = some (some (.int .i64 0), 1, 8) := by kernel_rfl
set_option maxRecDepth 20000 in
set_option maxHeartbeats 4000000 in
theorem commitsOf_any (l : List OpM) (ao : Option Addr) (cap : Nat) (w : World) (h : OpsAt w ao l) (hn : l.length ≤ 1000) :
    Calls Tryz.prog 12 #[.slice ao l.length cap] w fun e w' => ∃ v, e = .returned v ∧ w'.ownsRow w.heap.size 3 1 v (TwoM.commits l).length (intVals (TwoM.commits l)) ∧ Below w.heap.size w w' := by
  obtain ⟨i0, hi0, hz0, hz1, hz2⟩ := info_parts Tryz.infoIntTS
  have H := box h
  clear h
  obtain ⟨N, HN⟩ : ∃ x, Box (l.length = x) := ⟨_, ⟨rfl⟩⟩
  rw [HN.out] at hn ⊢
  go_enter Tryz.func12, Tryz.ntmps12
  go_wp2_with fail
  go_loopw [3, 8] (fun t3 t8 wr => ∃ k : Nat, k ≤ N ∧ t8 = .int .i64 (k : Int) ∧ wr.ownsRow w.heap.size 3 1 t3 (TwoM.commits (l.take k)).length (intVals (TwoM.commits (l.take k))) ∧ Box (Below w.heap.size w wr)) (fun _ t8 _ => N - (RowKit.intOf t8).toNat)
  case atStart => exact ⟨0, Nat.zero_le _, rfl, World.ownsRow_nil _ _ _ _, ⟨Below.refl _ _⟩⟩
  case round =>
    obtain ⟨k, hk, rfl, hown, Hb⟩ := hrel
    by_cases hlt : k < N
    · have hkl : k < l.length := by rw [HN.out]; exact hlt
      obtain ⟨b, off, rfl, hb, hrow⟩ := ((H.out.below Hb.out (Nat.le_refl _)).resolve_left (by intro h; rw [h] at hkl; simp at hkl))
      obtain ⟨hc0, hc1, hc2⟩ := hrow k hkl
      have Hown := box hown
      have hlen : (TwoM.commits (l.take k)).length ≤ k := by
        unfold TwoM.commits
        rw [List.length_map]
        have h1 := List.length_filter_le (fun o : OpM => o.kind == 3) (l.take k)
        have h2 := List.length_take_le k l
        omega
      have HT : Box (TwoM.commits (l.take (k + 1)) = TwoM.commits (l.take k) ++ (if (l[k].kind == 3) = true then [l[k].tx] else [])) := ⟨by
        unfold TwoM.commits
        rw [List.take_succ_eq_append_getElem hkl, List.filter_append, List.map_append]
        congr 1
        cases h : (l[k].kind == 3) <;> simp [h]⟩
      have hbs := Hb.out.size
      generalize l[k] = o at *
      obtain ⟨a0, a1, a2⟩ := o
      simp only at hc0 hc1 hc2 HT
      generalize TwoM.commits (l.take k) = ms at *
      clear hrow
      cases e0 : (a1 == 3) with
      | false =>
        have HE := box e0
        clear hown
        go_wp2_with fail
        go_roundw
        case rel =>
          refine ⟨k + 1, hlt, by go_num, ?_, ⟨Hb.out.alloc hbs _⟩⟩
          rw [HT.out, if_neg (by rw [HE.out]; simp), List.append_nil]
          exact Hown.out.alloc _
        case measure => simp [RowKit.intOf]; omega
      | true =>
        have HE := box e0
        have hown2 := (hown.alloc (.cells #[.int .i64 a0, .int .i64 a1, .int .i64 a2] 30)).alloc (.cells #[.int .i64 a0] 3)
        clear hown
        go_wp2_with (at_builtin; go_must (refine wpList_append_own _ rfl _ _ 23 rfl w.heap.size 3 i0 _ 1 8 Tryz.underlying23 hi0 hz0 hz1 hz2 rfl (by decide) _ _ _ rfl hown2 ⟨wr.heap.size + 1, 0, none⟩ 1 1 [.int .i64 a0] rfl rfl (by have := cells_new (wr.alloc (.cells #[.int .i64 a0, .int .i64 a1, .int .i64 a2] 30)) [.int .i64 a0] 3; simpa using this) (by simp [Value.oneCell']) (by unfold maxLen; omega) (by omega) (by simp; omega) ?_))
        intro v' w9 hown3 hgrow _
        have hB9 : Below w.heap.size w w9 := ((Hb.out.alloc hbs _).alloc (by simp; omega) _).grown hgrow (by simp; omega) (fun b hb => (Hown.out.lt b hb).1)
        have HB9 := box hB9; have HO := box hown3
        clear hown3 hgrow hown2 hB9
        go_wp2_with fail
        go_roundw
        case rel =>
          refine ⟨k + 1, hlt, by go_num, ?_, HB9⟩
          rw [HT.out, if_pos HE.out, intVals_append, List.length_append]
          exact HO.out
        case measure => simp [RowKit.intOf]; omega
    · obtain rfl : k = N := by omega
      have HO : Box (wr.ownsRow w.heap.size 3 1 u3 (TwoM.commits l).length (intVals (TwoM.commits l))) := ⟨by
        rw [List.take_of_length_le (by rw [HN.out]; exact Nat.le_refl _)] at hown; exact hown⟩
      obtain ⟨ca, cc, rfl, _, _, _, _⟩ := IntsAt.own HO.out
      clear hown
      go_wp2_with fail
      go_ret
      exact ⟨_, rfl, HO.out, Hb.out⟩
end
section
open Go.RowKit Go.Lib
theorem TwoM.commits_len {m : List OpM} (h : RunM.check m = 0) : (TwoM.commits m).length ≤ 12 := by
  obtain ⟨_, h2, h3⟩ := (RunM.check_iff m).1 h
  unfold TwoM.commits
  rw [List.length_map]
  have h4 : ∀ o ∈ m.filter (fun o => o.kind == 3), o.kind = 3 := fun o ho => by simpa using (List.mem_filter.1 ho).2
  have h5 := h3.sublist (List.filter_sublist (p := fun o : OpM => o.kind == 3))
  have h6 := TwoM.of_sum (m.filter fun o => o.kind == 3) (fun o ho => ⟨o.tx.toNat, by have := RunM.bad_zero (h2 o (List.mem_filter.1 ho).1); omega⟩)
  have h7 := TwoM.sum_le (f := fun k => (RunM.of (m.filter fun o => o.kind == 3) k).length) (g := fun _ => 1) 12 (fun k _ => by
    have h8 : (RunM.of (m.filter fun o => o.kind == 3) k).Pairwise fun x y => x.tx = y.tx → x.kind < 3 := h5.sublist List.filter_sublist
    have h9 : ∀ o ∈ RunM.of (m.filter fun o => o.kind == 3) k, o.tx = (k : Int) ∧ o.kind = 3 := fun o ho => ⟨(TwoM.mem_of.1 ho).2, h4 o (TwoM.mem_of.1 ho).1⟩
    match hl : RunM.of (m.filter fun o => o.kind == 3) k with
    | [] => simp
    | [x] => simp
    | x :: y :: r =>
      rw [hl] at h8 h9
      have a := (List.pairwise_cons.1 h8).1 y List.mem_cons_self ((h9 x (by simp)).1.trans (h9 y (by simp)).1.symm)
      have b := (h9 x (by simp)).2
      omega)
  have h8 : ((List.range 12).map fun _ : Nat => 1).sum = 12 := by decide
  omega
open TwoM in
theorem two_exS (b cap : Nat) (w : World) (h : Blk w b 30 [.int .i64 0, .int .i64 2, .int .i64 1, .int .i64 1, .int .i64 1, .int .i64 1, .int .i64 0, .int .i64 3, .int .i64 0, .int .i64 1, .int .i64 3, .int .i64 0]) :
    Calls Tryz.prog 5 #[.slice (some ⟨b, 0, none⟩) 4 cap] w fun e w' => Below w.heap.size w w' ∧ ∃ ao bo bn co cn c1 c2 c3, e = .returned (.tuple #[.agg #[.slice ao 4 c1, .slice bo bn c2, .slice co cn c3], .int .i64 0]) ∧ OpsAt w' ao [⟨0, 2, 1⟩, ⟨0, 3, 0⟩, ⟨1, 1, 1⟩, ⟨1, 3, 0⟩] := by
  refine (play_o exS (some ⟨b, 0, none⟩) cap w (Or.inr ⟨b, 0, rfl, h.lt, ?_⟩) ⟨by decide, by decide⟩).mono ?_
  · intro k hk
    match k, hk with
    | 0, _ => exact ⟨h.cell rfl, h.cell rfl, h.cell rfl⟩
    | 1, _ => exact ⟨h.cell rfl, h.cell rfl, h.cell rfl⟩
    | 2, _ => exact ⟨h.cell rfl, h.cell rfl, h.cell rfl⟩
    | 3, _ => exact ⟨h.cell rfl, h.cell rfl, h.cell rfl⟩
  · rintro e w' ⟨hb, ⟨hc, _⟩ | ⟨_, s, ao, bo, co, c1, c2, c3, ht, _, _, rfl, h1, _, h2, h3⟩⟩
    · exact absurd (by decide) hc
    · rw [exS_is ht] at h1 ⊢
      exact ⟨hb, ao, bo, _, co, _, c1, c2, c3, rfl, h1⟩
open TwoM in
set_option maxRecDepth 100000 in
set_option maxHeartbeats 16000000 in
theorem twoStrict_calls (l : List OpM) (ao : Option Addr) (cap : Nat) (w : World) (h : OpsAt w ao l) (hf : RunM.Fits l) :
    Calls Tryz.prog 3 #[.slice ao l.length cap] w fun e w' => e = .returned (.bool true) ∧ Below w.heap.size w w' := by
  have H := box h; have Hf := box hf
  clear h hf
  obtain ⟨N, HN⟩ : ∃ x, Box (l.length = x) := ⟨_, ⟨rfl⟩⟩
  rw [HN.out]
  go_enter Tryz.func3, Tryz.ntmps3
  go_wp2_with fail
  refine (op_any _ _ _ _).mono ?_
  rintro e w1 ⟨rfl, hb1⟩
  have HB1 := box hb1; clear hb1
  go_wp2_with fail
  refine (op_any _ _ _ _).mono ?_
  rintro e w2 ⟨rfl, hb2⟩
  have HB2 := box (below_tr HB1.out hb2); clear hb2
  go_wp2_with fail
  refine (op_any _ _ _ _).mono ?_
  rintro e w3 ⟨rfl, hb3⟩
  have HB3 := box (below_tr HB2.out hb3); clear hb3
  go_wp2_with fail
  refine (op_any _ _ _ _).mono ?_
  rintro e w4 ⟨rfl, hb4⟩
  have HB4 := box (below_tr HB3.out hb4); clear hb4
  go_wp2_with fail
  refine (two_exS w4.heap.size 4 _ (Blk.new w4 [.int .i64 0, .int .i64 2, .int .i64 1, .int .i64 1, .int .i64 1, .int .i64 1, .int .i64 0, .int .i64 3, .int .i64 0, .int .i64 1, .int .i64 3, .int .i64 0] _)).mono ?_
  rintro e w5 ⟨hb5, ro, bo, bn, co, cn, c1, c2, c3, rfl, hat⟩
  have HB5 := box (below_tr (HB4.out.alloc HB4.out.size _) hb5)
  have HA := box hat
  clear hb5 hat
  have hs5 := HB5.out.size
  go_upto_region 2 with (fail)
  refine name_world (fun W => Below w.heap.size w W ∧ w.heap.size ≤ w5.heap.size ∧ OpsAt W ro [⟨0, 2, 1⟩, ⟨0, 3, 0⟩, ⟨1, 1, 1⟩, ⟨1, 3, 0⟩] ∧ Blk W w5.heap.size 25 [.slice ro 4 c1, .slice bo bn c2, .slice co cn c3]) ⟨HB5.out.alloc hs5 _, hs5, HA.out.below ((Below.refl _ _).alloc (Nat.le_refl _) _) (Nat.le_refl _), Blk.new _ _ _⟩ ?_
  rintro W ⟨hbW, hBw, haW, hkW⟩
  have HW := box hbW; have HA4 := box haW; have HK := box hkW
  clear hbW haW hkW HB5 HA hs5
  generalize w5.heap.size = B at *
  have HCc : Box (∀ wx, Below W.heap.size W wx → wx.cell? ⟨B, 0, none⟩ = some (.slice ro 4 c1)) := ⟨fun wx hx => (HK.out.after hx).cell rfl⟩
  have HEq : Box (∀ (wx : World) c, Below W.heap.size W wx → Blk wx c 30 [.int .i64 0, .int .i64 2, .int .i64 1, .int .i64 0, .int .i64 3, .int .i64 0, .int .i64 1, .int .i64 1, .int .i64 1, .int .i64 1, .int .i64 3, .int .i64 0] →
      Calls Tryz.prog 7 #[.slice ro 4 c1, .slice (some ⟨c, 0, none⟩) 4 4] wx fun e w' => e = .returned (.bool true) ∧ ∃ n, w' = wx.drewN n) := ⟨fun wx c hx hc => equal_ops [⟨0, 2, 1⟩, ⟨0, 3, 0⟩, ⟨1, 1, 1⟩, ⟨1, 3, 0⟩] [⟨0, 2, 1⟩, ⟨0, 3, 0⟩, ⟨1, 1, 1⟩, ⟨1, 3, 0⟩] ro (some ⟨c, 0, none⟩) c1 4 wx (HA4.out.below hx (Nat.le_refl _)) (Or.inr ⟨c, 0, rfl, hc.lt, by
      intro k hk
      match k, hk with
      | 0, _ => exact ⟨hc.cell rfl, hc.cell rfl, hc.cell rfl⟩
      | 1, _ => exact ⟨hc.cell rfl, hc.cell rfl, hc.cell rfl⟩
      | 2, _ => exact ⟨hc.cell rfl, hc.cell rfl, hc.cell rfl⟩
      | 3, _ => exact ⟨hc.cell rfl, hc.cell rfl, hc.cell rfl⟩⟩) (by decide) (by decide)⟩
  have HX := box (Below.refl W.heap.size W)
  go_cut [31] (fun s wx => s = .bool false ∧ Below W.heap.size W wx)
  case first =>
    go_region_held3 (fun w' => w'.cell? ⟨B, 0, none⟩ = some (.slice ro 4 c1)) (first | exact HCc.out _ HX.out | exact HCc.out _ HX.out.drew | exact HCc.out _ (HX.out.alloc HX.out.size _) | assumption) (first
      | (go_at_call 6; refine (op_any _ _ _ _).mono ?_; rintro e w9 ⟨rfl, hb9⟩; replace HX : Box (Below W.heap.size W w9) := ⟨by first | exact below_tr HX.out hb9 | exact below_tr HX.out.drew hb9⟩; clear hb9)
      | (go_at_call 7; refine (HEq.out _ _ (HX.out.alloc HX.out.size _) (Blk.new _ _ _)).mono ?_; rintro e w6 ⟨rfl, n6, rfl⟩)
      | fail)
    go_step
    go_step
    go_meet
    exact ⟨rfl, below_tr (HX.out.alloc HX.out.size _) ⟨rfl, rfl, rfl, Nat.le_refl _, fun _ _ => rfl⟩⟩
  case rest =>
  obtain ⟨rfl, hcx⟩ := hcut
  have HWc := box (HW.out.trans (hcx.mono HW.out.size))
  have HKc := box (HK.out.after hcx)
  clear hcx HCc HEq HX HW HA4 HK
  have hp := play_any l ao cap wc (H.out.below HWc.out (Nat.le_refl _)) Hf.out
  rw [HN.out] at hp
  have HP := box hp
  clear hp
  go_wp2_with fail
  refine HP.out.mono ?_
  clear HP
  rintro e w7 ⟨hb7, ⟨hc, rfl⟩ | ⟨hc, s, rv, dv, lv, ht, rfl, k1, k2, k3⟩⟩
  · have HB7 := box (HWc.out.trans (hb7.mono HWc.out.size))
    have HK7 := box (HKc.out.after hb7)
    have p0 := HK7.out.cell (i := 0) rfl
    have p1 := HK7.out.cell (i := 1) rfl
    have p2 := HK7.out.cell (i := 2) rfl
    have f0 := HK7.out.frozen 0
    have f1 := HK7.out.frozen 1
    have f2 := HK7.out.frozen 2
    have hlB := HK7.out.lt
    generalize RunM.check l = c at *
    have g1 : (c != 0) = true := by simpa using hc
    clear hb7 hc
    go_wp2_with fail
    go_ret
    exact ⟨by simp, ((HB7.out.setCell hBw _).setCell hBw _).setCell hBw _⟩
  have HB7 := box (HWc.out.trans (hb7.mono HWc.out.size))
  have HK7 := box (HKc.out.after hb7)
  have p0 := HK7.out.cell (i := 0) rfl
  have p1 := HK7.out.cell (i := 1) rfl
  have p2 := HK7.out.cell (i := 2) rfl
  have f0 := HK7.out.frozen 0
  have f1 := HK7.out.frozen 1
  have f2 := HK7.out.frozen 2
  have hlB := HK7.out.lt
  obtain ⟨hI, hA⟩ := takes_known hc ht
  have hBc := HKc.out.lt
  have k0 := k1
  obtain ⟨ao7, d1, rfl, _, _, hOn, _⟩ := OpsAt.own k1
  obtain ⟨bo7, d2, rfl, _, _, _, _⟩ := IntsAt.own k2
  obtain ⟨co7, d3, rfl, _, _, _, _⟩ := IntsAt.own k3
  have HOn := box hOn
  have hck : RunM.check s.out = 0 := hI.right hc
  have hck' := (RunM.check_iff _).1 hck
  have HCk := box hck
  have HSc : Box ((KindsM.run s.out).sc = true) := ⟨(rig_strict s.out hI.rig hck'.2.1).1⟩
  have HLk := box (rig_like hI.rig hck)
  have hol : s.out.length ≤ 200 := hck'.1
  have HO9 : Box (∀ u0 u1 u2, OpsAt (((w7.setCell ⟨B, 0, none⟩ u0).setCell ⟨B, 1, none⟩ u1).setCell ⟨B, 2, none⟩ u2) ao7 s.out) := ⟨fun u0 u1 u2 => by
    have hne : (Value.slice ao7 s.out.length d1).ownBlock ≠ some B := fun e => by have := (k0.lt B e).1; omega
    have k4 : (w7.setCell ⟨B, 0, none⟩ u0).ownsRow wc.heap.size 30 3 (.slice ao7 s.out.length d1) s.out.length (opVals s.out) := ownsRow_setCell_other k0 hne u0
    have k5 : ((w7.setCell ⟨B, 0, none⟩ u0).setCell ⟨B, 1, none⟩ u1).ownsRow wc.heap.size 30 3 (.slice ao7 s.out.length d1) s.out.length (opVals s.out) := ownsRow_setCell_other k4 hne u1
    have k6 : (((w7.setCell ⟨B, 0, none⟩ u0).setCell ⟨B, 1, none⟩ u1).setCell ⟨B, 2, none⟩ u2).ownsRow wc.heap.size 30 3 (.slice ao7 s.out.length d1) s.out.length (opVals s.out) := ownsRow_setCell_other k5 hne u2
    obtain ⟨a1, c1', e1, _, h4, _, _⟩ := OpsAt.own k6
    injection e1 with e1 _ _
    subst e1
    exact h4⟩
  generalize (pick (isLate s) 12).length = LL at *
  generalize (pick s.dead 12).length = DL at *
  clear hb7 hc ht hI hA hck hck' k0 k1 k2 k3 hOn hBc
  obtain ⟨R, HR⟩ : ∃ x, Box (s.out = x) := ⟨_, ⟨rfl⟩⟩
  rw [HR.out] at HO9 HCk HSc HLk hol ⊢
  go_upto_region 5 with (fail)
  obtain ⟨V, HV⟩ : ∃ x, Box (((w7.setCell ⟨B, 0, none⟩ (.slice ao7 R.length d1)).setCell ⟨B, 1, none⟩ (.slice bo7 DL d2)).setCell ⟨B, 2, none⟩ (.slice co7 LL d3) = x) := ⟨_, ⟨rfl⟩⟩
  have HOV : Box (OpsAt V ao7 R) := ⟨by rw [← HV.out]; exact HO9.out _ _ _⟩
  have HKV : Box (Blk V B 25 [.slice ao7 R.length d1, .slice bo7 DL d2, .slice co7 LL d3]) := ⟨by rw [← HV.out]; exact ((HK7.out.set 0 _).set 1 _).set 2 _⟩
  have HBV : Box (Below w.heap.size w V) := ⟨by rw [← HV.out]; exact ((HB7.out.setCell hBw _).setCell hBw _).setCell hBw _⟩
  rw [HV.out]
  clear HV HO9 p0 p1 p2 f0 f1 f2 hlB HK7 HB7
  have q0 := HKV.out.cell (i := 0) rfl
  have hKd := kinds_any R ao7 d1 V HOV.out ⟨by omega, fun o ho => by
    have := RunM.bad_zero (((RunM.check_iff R).1 HCk.out).2.1 o ho); omega⟩
  rw [show KindsM.out R = .tuple #[.agg #[.bool (KindsM.run R).rc, .bool (KindsM.run R).cc, .bool true], .int .i64 0] by unfold KindsM.out; rw [if_pos HCk.out, HSc.out]] at hKd
  have HKd := box hKd
  clear hKd
  go_wp2_with fail
  refine HKd.out.mono ?_
  rintro e w8 ⟨rfl, hb8⟩
  have HB8 := box (HBV.out.trans (hb8.mono HBV.out.size))
  have HO8 := box (HOV.out.below hb8 (Nat.le_refl _))
  have HK8 := box (HKV.out.after hb8)
  have hs8 := HB8.out.size
  clear hb8 HKd q0 HBV HOV HKV
  go_upto_region 8 with (fail)
  refine name_world (fun W => Below w.heap.size w W ∧ OpsAt W ao7 R ∧ Blk W B 25 [.slice ao7 R.length d1, .slice bo7 DL d2, .slice co7 LL d3] ∧ Blk W w8.heap.size 34 [.bool (KindsM.run R).rc, .bool (KindsM.run R).cc, .bool true]) ⟨HB8.out.alloc hs8 _, HO8.out.below ((Below.refl _ _).alloc (Nat.le_refl _) _) (Nat.le_refl _), HK8.out.alloc _, Blk.new _ _ _⟩ ?_
  rintro W9 ⟨hbW, hoW, hkW, hrW⟩
  have HW9 := box hbW; have HO9 := box hoW; have HK9 := box hkW; have HR9 := box hrW
  clear hbW hoW hkW hrW HB8 HO8 HK8 hs8
  generalize w8.heap.size = B8 at *
  have q0 := HK9.out.cell (i := 0) rfl
  have HOf := box (ofCom_any R ao7 d1 W9 HO9.out (by omega))
  go_wp2_with fail
  refine HOf.out.mono ?_
  rintro e w10 ⟨v10, rfl, hown10, hb10⟩
  obtain ⟨a10, e10, rfl, _, hat10, hn10, _⟩ := OpsAt.own hown10
  have HM := box hat10; have HMn := box hn10
  have HB10 := box (HW9.out.trans (hb10.mono HW9.out.size))
  have HR10 := box (HR9.out.after hb10)
  have HmC : Box (RunM.check (RunM.ofCom R) = 0) := ⟨RunM.ofCom_check HCk.out⟩
  clear hb10 hown10 hat10 hn10 HOf q0 HW9 HO9 HK9 HR9
  obtain ⟨M, HMe⟩ : ∃ x, Box (RunM.ofCom R = x) := ⟨_, ⟨rfl⟩⟩
  rw [HMe.out] at HLk HM HmC ⊢
  have hm200 : M.length ≤ 200 := ((RunM.check_iff M).1 HmC.out).1
  have HmF : Box (RunM.Fits M) := ⟨⟨by omega, fun o ho => by have := RunM.bad_zero (((RunM.check_iff M).1 HmC.out).2.1 o ho); omega⟩⟩
  have HCo := box (commitsOf_any M a10 e10 w10 HM.out (by omega))
  go_wp2_with fail
  refine HCo.out.mono ?_
  rintro e w11 ⟨v11, rfl, hown11, hb11⟩
  obtain ⟨a11, e11, rfl, _, hat11, _, _⟩ := IntsAt.own hown11
  have HC11 := box hat11
  have HB11 := box (HB10.out.trans (hb11.mono HB10.out.size))
  have HR11 := box (HR10.out.after hb11)
  have HM11 := box (HM.out.below hb11 (Nat.le_refl _))
  have hcl : (commits M).length ≤ 100 := Nat.le_trans (commits_len HmC.out) (by omega)
  clear hb11 hown11 hat11 HCo HB10 HR10 HM
  have HIt := box (inTurn_any M (commits M) a10 a11 e10 e11 w11 HM11.out HC11.out hm200 hcl)
  go_wp2_with fail
  refine HIt.out.mono ?_
  rintro e w12 ⟨v12, rfl, hown12, hb12⟩
  obtain ⟨a12, e12, rfl, _, hat12, hn12, _⟩ := OpsAt.own hown12
  have HT12 := box hat12; have HTn := box hn12
  have HB12 := box (HB11.out.trans (hb12.mono HB11.out.size))
  have HR12 := box (HR11.out.after hb12)
  have HM12 := box (HM11.out.below hb12 (Nat.le_refl _))
  clear hb12 hown12 hat12 hn12 HIt HB11 HR11 HM11 HC11
  have HOk := box HLk.out.1; have HLik := box HLk.out.2
  have HTF : Box (RunM.Fits (StampM.inTurn M (commits M))) := ⟨by
    have h1 := HLk.out.1
    unfold RunM.likeOk at h1
    rw [HmC.out, if_neg (by simp)] at h1
    have h2 := (RunM.check_iff _).1 h1
    exact ⟨by omega, fun o ho => by have := RunM.bad_zero (h2.2.1 o ho); omega⟩⟩
  obtain ⟨T, HTT⟩ : ∃ x, Box (StampM.inTurn M (commits M) = x) := ⟨_, ⟨rfl⟩⟩
  rw [HTT.out] at HT12 HTF HOk HLik ⊢
  have hlk := like_any M T a10 a12 e10 e12 w12 HM12.out HT12.out HMn.out HTn.out HmF.out HTF.out
  rw [HOk.out, HLik.out] at hlk
  have HLl := box hlk
  clear hlk HLk
  go_wp2_with fail
  refine HLl.out.mono ?_
  rintro e w13 ⟨rfl, hb13⟩
  have HB13 := box (HB12.out.trans (hb13.mono HB12.out.size))
  have HR13 := box (HR12.out.after hb13)
  have q2 := HR13.out.cell (i := 2) rfl
  have hl13 := HR13.out.lt
  clear hb13 HLl HB12 HR12
  go_wp2_with fail
  go_ret
  exact ⟨by simp, HB13.out⟩
end
end
section
namespace lawTwoStrict
open Go.ChangeShapes Go.WideShapes Go.ChangeAt Go.RowKit Go.ChangeMaps

set_option maxRecDepth 100000 in
theorem lifted (os : Os) (started : os.Started) (H : Type) (enc : TypeId × Value → H) :
    ReturnsInHanded {} Tryz.checked os 3 .any (Rows.twoStrictSpec.pre6 enc Tryz.prog Tryz.f3 [] false) (Rows.twoStrictSpec.post enc Tryz.prog Tryz.f3 false true false false) := by
  refine LawKit.law_lifted started (by kernel_rfl) Tryz.func3 rfl
    (fun ds h => by
      match ds, h with
      | [_], _ => rfl)
    rfl Tryz.underlying4 (by intro t ht; exact of_decide_eq_true (p := Tryz.prog.readableRec t = true ∧ t < Tryz.prog.types.size) (by revert t ht; decide +kernel))
    (ChangeSpec.witness6 (enc := enc) (C := Tryz.checked) false ⟨#[], #[.slice none 0 0], []⟩ 8 (by kernel_rfl) (by kernel_rfl) (by kernel_rfl) (by kernel_rfl)) ?_
  intro W base args ds ps hval hA hsz hlt hfz
  have hA' := hA
  rw [Tryz.params3] at hA hval
  obtain ⟨v0, vs0, d0, ds0, p0, q0, hargs, rfl, rfl, h0, r0⟩ := trodAll_cons hA
  obtain ⟨rfl, rfl, rfl⟩ := trodAll_nil r0
  obtain rfl : args = #[v0] := by cases args; simp_all
  obtain ⟨ao, cap, ls, rfl, hnil, hat, hfits, _, _⟩ := open_ops (hval 0 _ _ rfl rfl) h0 (Open.weights_bound hsz (j := 0) (by rw [Tryz.params3]; rfl) rfl)
  refine (twoStrict_calls ls ao cap W hat hfits).mono ?_
  rintro e W' ⟨rfl, hb⟩
  exact ⟨rfl, hb⟩

theorem proved : Rows.TwoStrictSaid :=
  OpenClaim.holds_of_wide 3 Tryz.f3 rfl rfl rfl rfl rfl rfl rfl ⟨rfl, rfl, rfl, rfl, rfl⟩ rfl rfl rfl rfl rfl (by kernel_rfl) Tryz.func3 (by kernel_rfl)
    (of_decide_eq_true (by kernel_rfl)) (by unfold Func.isWrapper; first | (rw [if_pos (by decide +kernel)]; kernel_rfl) | (rw [if_neg (by decide +kernel)]; exact ⟨rfl, rfl⟩))
    (fun os started H enc _ => lifted os started H enc)
end lawTwoStrict
end
end Go.Proofs.YtnnkejolfhhmlaaGreat
