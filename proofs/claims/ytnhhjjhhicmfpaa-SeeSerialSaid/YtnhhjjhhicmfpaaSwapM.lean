/- Neighbours of unlike transactions change places: plain. -/
import Derived.Test.YtnhhjjhhicmfpaaLikeM
namespace Go.Proofs.Ytnhhjjhhicmfpaa
open Go.RowKit Go.Lib Go.Sort
namespace RunM

/-- Operations, each with its number within its transaction. -/
def lab : List OpM → List OpM → List (OpM × Nat)
  | _, [] => []
  | acc, o :: r => (o, acc.countP fun q => q.tx == o.tx) :: lab (acc ++ [o]) r
theorem lab_append : ∀ (p acc r : List OpM), lab acc (p ++ r) = lab acc p ++ lab (acc ++ p) r
  | [], acc, r => by simp [lab]
  | o :: p, acc, r => by
    rw [List.cons_append, lab, lab, lab_append p, List.cons_append, List.append_assoc]; rfl
theorem lab_perm : ∀ (r acc acc' : List OpM), acc.Perm acc' → lab acc r = lab acc' r
  | [], _, _, _ => rfl
  | o :: r, acc, acc', h => by
    rw [lab, lab, h.countP_eq, lab_perm r _ _ (h.append_right [o])]
theorem lab_range : ∀ (l acc : List OpM), lab acc l = (List.range l.length).map fun i => (l[i]!, (acc ++ l.take i).countP fun q => q.tx == (l[i]!).tx)
  | [], _ => rfl
  | o :: l, acc => by
    rw [lab, lab_range l, List.length_cons, List.range_succ_eq_map, List.map_cons, List.map_map]
    congr 1
    · simp
    · apply List.map_congr_left
      intro i hi
      simp
theorem lab_of (l : List OpM) : lab [] l = (List.range l.length).map fun i => (l[i]!, ord l i) := by
  rw [lab_range]; rfl

/-- The pairs of one with those behind. -/
def prOf (a : OpM × Nat) (r : List (OpM × Nat)) : List PairM := (r.filter fun b => clash a.1 b.1).map fun b => ⟨a.1.tx, a.2, b.1.tx, b.2⟩
def prs : List (OpM × Nat) → List PairM
  | [] => []
  | a :: r => prOf a r ++ prs r
theorem flatMap_same {α β : Type} {l : List α} {f g : α → List β} (h : ∀ a ∈ l, f a = g a) : l.flatMap f = l.flatMap g := by
  rw [List.flatMap_def, List.flatMap_def, List.map_congr_left h]
theorem prs_range (g : Nat → OpM × Nat) : ∀ (n s : Nat), prs ((List.range' s n).map g) = (List.range' s n).flatMap fun i => ((List.range' s n).filter fun k => decide (i < k) && clash (g i).1 (g k).1).map fun k => ⟨(g i).1.tx, (g i).2, (g k).1.tx, (g k).2⟩
  | 0, s => rfl
  | n + 1, s => by
    rw [List.range'_succ, List.map_cons, prs, prs_range g n, List.flatMap_cons]
    congr 1
    · unfold prOf
      rw [List.filter_cons, if_neg (by simp), List.filter_map, List.map_map]
      have : (List.range' (s + 1) n).filter ((fun b => clash (g s).1 b.1) ∘ g) = (List.range' (s + 1) n).filter fun k => decide (s < k) && clash (g s).1 (g k).1 := by
        apply List.filter_congr
        intro k hk
        have := (List.mem_range'_1.1 hk).1
        rw [decide_eq_true (by omega : s < k)]; simp
      rw [this]; rfl
    · apply flatMap_same
      intro i hi
      have := (List.mem_range'_1.1 hi).1
      rw [List.filter_cons, if_neg (by simp; omega)]
theorem pairs_lab (l : List OpM) : pairs l = prs (lab [] l) := by
  rw [lab_of, List.range_eq_range', prs_range, ← List.range_eq_range']
  rfl
theorem prOf_perm (a : OpM × Nat) {r r' : List (OpM × Nat)} (h : r.Perm r') : (prOf a r).Perm (prOf a r') := (h.filter _).map _
theorem prs_front : ∀ (P A B : List (OpM × Nat)), A.Perm B → ((prs (P ++ A)).Perm (prs (P ++ B)) ↔ (prs A).Perm (prs B))
  | [], A, B, _ => Iff.rfl
  | a :: P, A, B, h => by
    rw [List.cons_append, List.cons_append, prs, prs, ← prs_front P A B h]
    have hp := prOf_perm a (h.append_left P)
    constructor
    · intro h1
      exact (List.perm_append_left_iff _).1 (h1.trans (hp.symm.append_right _))
    · intro h1
      exact hp.append h1
theorem clash_comm (a b : OpM) : clash a b = clash b a := by
  unfold clash
  rw [Bool.eq_iff_iff]
  simp only [Bool.and_eq_true, Bool.not_eq_true', beq_eq_false_iff_ne, decide_eq_true_eq, beq_iff_eq, Bool.or_eq_true]
  constructor
  · rintro ⟨⟨⟨⟨h1, h2⟩, h3⟩, h4⟩, h5⟩
    exact ⟨⟨⟨⟨fun e => h1 e.symm, h3⟩, h2⟩, h4.symm⟩, h5.symm⟩
  · rintro ⟨⟨⟨⟨h1, h2⟩, h3⟩, h4⟩, h5⟩
    exact ⟨⟨⟨⟨fun e => h1 e.symm, h3⟩, h2⟩, h4.symm⟩, h5.symm⟩
theorem prs_swap (X Y : OpM × Nat) (S : List (OpM × Nat)) (hne : X.1.tx ≠ Y.1.tx) : (prs (X :: Y :: S)).Perm (prs (Y :: X :: S)) ↔ clash X.1 Y.1 = false := by
  have e : ∀ U V : OpM × Nat, prs (U :: V :: S) = prOf U [V] ++ (prOf U S ++ (prOf V S ++ prs S)) := by
    intro U V
    have : prOf U (V :: S) = prOf U [V] ++ prOf U S := by
      unfold prOf
      rw [show V :: S = [V] ++ S from rfl, List.filter_append, List.map_append]
    rw [prs, prs, this, List.append_assoc]
  have hrest : (prOf X S ++ (prOf Y S ++ prs S)).Perm (prOf Y S ++ (prOf X S ++ prs S)) := by
    rw [← List.append_assoc, ← List.append_assoc]
    exact List.perm_append_comm.append_right _
  rw [e, e]
  cases hc : clash X.1 Y.1 with
  | false =>
    have h1 : prOf X [Y] = [] := by simp [prOf, hc]
    have h2 : prOf Y [X] = [] := by simp [prOf, clash_comm Y.1 X.1, hc]
    rw [h1, h2]
    simpa using hrest
  | true =>
    have h1 : prOf X [Y] = [⟨X.1.tx, X.2, Y.1.tx, Y.2⟩] := by simp [prOf, hc]
    have h2 : prOf Y [X] = [⟨Y.1.tx, Y.2, X.1.tx, X.2⟩] := by simp [prOf, clash_comm Y.1 X.1, hc]
    rw [h1, h2]
    refine ⟨fun h => ?_, fun h => by simp at h⟩
    have h3 := (List.perm_append_right_iff _).1 ((h.trans (hrest.symm.append_left _)))
    have := List.singleton_perm_singleton.1 h3
    injection this with h4
    exact absurd h4 hne
theorem pairs_swap (p s : List OpM) (x y : OpM) (hne : x.tx ≠ y.tx) : (pairs (p ++ x :: y :: s)).Perm (pairs (p ++ y :: x :: s)) ↔ clash x y = false := by
  rw [pairs_lab, pairs_lab, lab_append, lab_append]
  simp only [lab, List.nil_append]
  have e1 : ((p ++ [x]).countP fun q => q.tx == y.tx) = p.countP fun q => q.tx == y.tx := by
    rw [List.countP_append, List.countP_singleton, if_neg (by simpa using hne)]; rfl
  have e2 : ((p ++ [y]).countP fun q => q.tx == x.tx) = p.countP fun q => q.tx == x.tx := by
    rw [List.countP_append, List.countP_singleton, if_neg (by simpa using fun e => hne e.symm)]; rfl
  have e3 : lab (p ++ [x] ++ [y]) s = lab (p ++ [y] ++ [x]) s := lab_perm s _ _ (by
    rw [List.append_assoc, List.append_assoc]
    exact List.Perm.append_left p (List.Perm.swap y x []))
  rw [e1, e2, e3, prs_front _ _ _ (List.Perm.swap _ _ _)]
  exact prs_swap _ _ _ hne

theorem go_front : ∀ (p a b : List OpM) (ov : Nat → Bool), (∀ ov, go a ov = 0 ↔ go b ov = 0) → (go (p ++ a) ov = 0 ↔ go (p ++ b) ov = 0)
  | [], a, b, ov, h => h ov
  | o :: p, a, b, ov, h => by
    rw [List.cons_append, List.cons_append, go, go]
    split
    · exact Iff.rfl
    · split
      · exact Iff.rfl
      · exact go_front p a b _ h
theorem go_cons (o : OpM) (l : List OpM) (ov : Nat → Bool) : go (o :: l) ov = 0 ↔ bad o = 0 ∧ ov o.tx.toNat = false ∧ go l (upd ov o.tx.toNat (decide (3 ≤ o.kind))) = 0 := by
  rw [go]
  split
  · rename_i h; simp [h]
  · rename_i h
    have h0 : bad o = 0 := Classical.not_not.1 h
    split
    · rename_i h2; simp [h2]
    · rename_i h2; simp [h0, h2]
theorem go_swap (x y : OpM) (s : List OpM) (hne : x.tx ≠ y.tx) (ov : Nat → Bool) (h : go (x :: y :: s) ov = 0) : go (y :: x :: s) ov = 0 := by
  rw [go_cons, go_cons] at h
  obtain ⟨h1, h2, h3, h4, h5⟩ := h
  have b1 := bad_zero h1
  have b2 := bad_zero h3
  have hn : x.tx.toNat ≠ y.tx.toNat := by omega
  rw [upd_other _ _ (fun e => hn e.symm)] at h4
  rw [go_cons, go_cons]
  refine ⟨h3, h4, h1, by rw [upd_other _ _ hn]; exact h2, ?_⟩
  rw [← h5]
  congr 1
  funext z
  unfold upd
  by_cases e1 : z = x.tx.toNat
  · subst e1; rw [if_pos rfl, if_neg hn, if_pos rfl]
  · by_cases e2 : z = y.tx.toNat
    · subst e2; rw [if_neg e1, if_pos rfl, if_pos rfl]
    · rw [if_neg e1, if_neg e2, if_neg e2, if_neg e1]
theorem check_swap (p s : List OpM) (x y : OpM) (hne : x.tx ≠ y.tx) (h : check (p ++ x :: y :: s) = 0) : check (p ++ y :: x :: s) = 0 := by
  obtain ⟨h1, h2, _⟩ := check_ok h
  unfold check
  rw [if_neg (by simp at h1 ⊢; omega)]
  exact (go_front p _ _ _ (fun ov => ⟨go_swap x y s hne ov, go_swap y x s (fun e => hne e.symm) ov⟩)).1 h2
theorem of_swap (p s : List OpM) (x y : OpM) (hne : x.tx ≠ y.tx) (t : Nat) : of (p ++ x :: y :: s) t = of (p ++ y :: x :: s) t := by
  unfold of
  rw [List.filter_append, List.filter_append]
  congr 1
  by_cases h1 : x.tx = (t : Int)
  · have h2 : y.tx ≠ (t : Int) := fun e => hne (h1.trans e.symm)
    simp [h1, h2]
  · simp [List.filter_cons, h1]
theorem like_swap (p s : List OpM) (x y : OpM) (hne : x.tx ≠ y.tx) (h : check (p ++ x :: y :: s) = 0) :
    likeOk (p ++ x :: y :: s) (p ++ y :: x :: s) = 0 ∧ like (p ++ x :: y :: s) (p ++ y :: x :: s) = !clash x y := by
  have h2 := check_swap p s x y hne h
  refine ⟨by unfold likeOk; rw [h, h2]; simp, ?_⟩
  unfold like
  rw [h, h2]
  have e1 : sameTo (p ++ x :: y :: s) (p ++ y :: x :: s) 12 = true := by
    unfold sameTo
    rw [List.all_eq_true]
    intro t _
    exact decide_eq_true (of_swap p s x y hne t)
  rw [e1]
  simp only [decide_true, Bool.true_and]
  rw [Bool.eq_iff_iff, decide_eq_true_eq, PairM.sorted_eq, pairs_swap p s x y hne]
  simp
end RunM
end Go.Proofs.Ytnhhjjhhicmfpaa
