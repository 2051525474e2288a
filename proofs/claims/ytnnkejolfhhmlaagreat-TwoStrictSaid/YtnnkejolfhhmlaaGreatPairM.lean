/- Pairs of operations that clash: plain, as cells, and in an order. -/
import Derived.Test.YtnnkejolfhhmlaaGreatRunCl
import Derived.Shelf.SlSortCmp.NoneTotal
namespace Go.Proofs.YtnnkejolfhhmlaaGreat
open Go.RowKit Go.Lib Go.Sort

structure PairM where
  a : Int
  i : Int
  b : Int
  k : Int
  deriving DecidableEq, Inhabited

/-- Which one of its transaction's operations is the one at place i. -/
def RunM.ord (l : List OpM) (i : Nat) : Nat := (l.take i).countP fun o => o.tx == (l[i]!).tx
/-- The pairs that begin at place i, up to place n. -/
def RunM.pairsAt (l : List OpM) (i n : Nat) : List PairM :=
  ((List.range n).filter fun k => decide (i < k) && RunM.clash l[i]! l[k]!).map fun k => ⟨(l[i]!).tx, RunM.ord l i, (l[k]!).tx, RunM.ord l k⟩
def RunM.pairsTo (l : List OpM) (m : Nat) : List PairM := (List.range m).flatMap fun i => RunM.pairsAt l i l.length
def RunM.pairs (l : List OpM) : List PairM := RunM.pairsTo l l.length
theorem RunM.pairsTo_succ (l : List OpM) (m : Nat) : RunM.pairsTo l (m + 1) = RunM.pairsTo l m ++ RunM.pairsAt l m l.length := by
  unfold RunM.pairsTo; rw [List.range_succ, List.flatMap_append]; simp
theorem RunM.pairsAt_low (l : List OpM) (i n : Nat) (h : n ≤ i + 1) : RunM.pairsAt l i n = [] := by
  unfold RunM.pairsAt
  rw [List.filter_eq_nil_iff.2, List.map_nil]
  intro k hk
  have := List.mem_range.1 hk
  simp; intro h2; omega
theorem RunM.pairsAt_succ (l : List OpM) (i n : Nat) (h : i < n) : RunM.pairsAt l i (n + 1) = RunM.pairsAt l i n ++ if RunM.clash l[i]! l[n]! then [⟨(l[i]!).tx, RunM.ord l i, (l[n]!).tx, RunM.ord l n⟩] else [] := by
  unfold RunM.pairsAt
  rw [List.range_succ, List.filter_append, List.map_append]
  congr 1
  generalize hp : (fun k => decide (i < k) && RunM.clash l[i]! l[k]!) = p
  have hpn : p n = RunM.clash l[i]! l[n]! := by rw [← hp]; simp only [decide_eq_true h, Bool.true_and]
  rw [← hpn]
  cases hc : p n <;> simp [hc]
theorem RunM.pairsAt_len (l : List OpM) (i n : Nat) : (RunM.pairsAt l i n).length ≤ n := by
  unfold RunM.pairsAt
  rw [List.length_map]
  exact Nat.le_trans (List.length_filter_le _ _) (by simp)
theorem RunM.pairsTo_len (l : List OpM) (m : Nat) : (RunM.pairsTo l m).length ≤ m * l.length := by
  induction m with
  | zero => simp [RunM.pairsTo]
  | succ m ih =>
    rw [RunM.pairsTo_succ, List.length_append, Nat.add_mul, Nat.one_mul]
    have := RunM.pairsAt_len l m l.length
    omega

/-- Pairs as cells. -/
def prEnc (p : PairM) : List Value := [.int .i64 p.a, .int .i64 p.i, .int .i64 p.b, .int .i64 p.k]
def prVals (l : List PairM) : List Value := l.flatMap prEnc
theorem prVals_len (l : List PairM) : (prVals l).length = l.length * 4 := by
  induction l with
  | nil => rfl
  | cons o l ih => simp only [prVals, prEnc, List.flatMap_cons, List.length_append, List.length_cons, List.length_nil] at *; omega
theorem prVals_append (a b : List PairM) : prVals (a ++ b) = prVals a ++ prVals b := by simp [prVals]
theorem prVals_one (l : List PairM) : ∀ u ∈ prVals l, u.oneCell' = true := by
  intro u hu
  simp only [prVals, prEnc, List.mem_flatMap] at hu
  obtain ⟨o, _, h⟩ := hu
  simp at h
  rcases h with rfl | rfl | rfl | rfl <;> rfl
theorem prVals_at (l : List PairM) : ∀ (k : Nat) (h : k < l.length), (prVals l)[k * 4]? = some (.int .i64 l[k].a) ∧ (prVals l)[k * 4 + 1]? = some (.int .i64 l[k].i) ∧ (prVals l)[k * 4 + 2]? = some (.int .i64 l[k].b) ∧ (prVals l)[k * 4 + 3]? = some (.int .i64 l[k].k) := by
  induction l with
  | nil => intro k h; simp at h
  | cons s l ih =>
    intro k h
    cases k with
    | zero => simp [prVals, prEnc]
    | succ k =>
      have := ih k (by simpa using h)
      simp only [prVals, prEnc, List.flatMap_cons] at this ⊢
      have e1 : (k + 1) * 4 = k * 4 + 4 := by omega
      have e2 : k * 4 + 4 + 1 = k * 4 + 1 + 4 := by omega
      have e3 : k * 4 + 4 + 2 = k * 4 + 2 + 4 := by omega
      have e4 : k * 4 + 4 + 3 = k * 4 + 3 + 4 := by omega
      rw [e1, e2, e3, e4]
      simpa using this
/-- They stand where a slice begins. -/
def PrsAt (w : World) (ao : Option Addr) (l : List PairM) : Prop :=
  l = [] ∨ ∃ b off, ao = some ⟨b, off, none⟩ ∧ b < w.heap.size ∧
    ∀ k (h : k < l.length), w.cell? ⟨b, off + k * 4, none⟩ = some (.int .i64 l[k].a) ∧ w.cell? ⟨b, off + k * 4 + 1, none⟩ = some (.int .i64 l[k].i) ∧ w.cell? ⟨b, off + k * 4 + 2, none⟩ = some (.int .i64 l[k].b) ∧ w.cell? ⟨b, off + k * 4 + 3, none⟩ = some (.int .i64 l[k].k)
theorem PrsAt.own {w : World} {base n : Nat} {v : Value} {l : List PairM} (h : w.ownsRow base 81 4 v n (prVals l)) :
    ∃ ao cap, v = .slice ao l.length cap ∧ n = l.length ∧ PrsAt w ao l ∧ (ao = none → cap = 0) ∧ l.length ≤ cap := by
  have hl : n = l.length := by have := h.1; rw [prVals_len] at this; omega
  rcases h.2 with ⟨h1, h2⟩ | ⟨g, cap, cur, h1, h2, h3, h4, _⟩
  · have : l = [] := List.eq_nil_of_length_eq_zero (by omega)
    subst this
    exact ⟨none, 0, h1, h2, Or.inl rfl, fun _ => rfl, Nat.le_refl _⟩
  · subst hl
    refine ⟨_, cap, h1, rfl, Or.inr ⟨g, 0, rfl, (Array.getElem?_eq_some_iff.1 h3).1, fun k hk => ?_⟩, (fun h => by simp at h), h4⟩
    have ho := h
    rw [h1] at ho
    obtain ⟨c0, c1, c2, c3⟩ := prVals_at l k hk
    rw [Nat.zero_add, ho.cellAt (k * 4) (by omega), ho.cellAt (k * 4 + 1) (by omega), ho.cellAt (k * 4 + 2) (by omega), ho.cellAt (k * 4 + 3) (by omega)]
    exact ⟨c0, c1, c2, c3⟩

/-- Lists of ints, the first difference first. -/
def lexInt : List Int → List Int → Int
  | a :: x, b :: y => if Lib.compareInt a b = 0 then lexInt x y else Lib.compareInt a b
  | _, _ => 0
theorem compareInt_zero {a b : Int} : Lib.compareInt a b = 0 ↔ a = b := by
  unfold Lib.compareInt
  by_cases h1 : a < b
  · simp [h1]; omega
  · by_cases h2 : b < a
    · simp [h1, h2]; omega
    · simp [h1, h2]; omega
theorem lexInt_at : ∀ (x y : List Int) (k : Nat) (h : k < x.length) (h' : k < y.length), (∀ j (h : j < x.length) (h' : j < y.length), j < k → x[j] = y[j]) → x[k] ≠ y[k] → lexInt x y = Lib.compareInt x[k] y[k]
  | [], _, k, h, _, _, _ => by simp at h
  | _ :: _, [], k, _, h', _, _ => by simp at h'
  | a :: x, b :: y, 0, _, _, _, hne => by
    unfold lexInt
    have h0 : a ≠ b := hne
    rw [if_neg (fun e => h0 (compareInt_zero.1 e))]; rfl
  | a :: x, b :: y, k + 1, h, h', hall, hne => by
    unfold lexInt
    have h0 : a = b := hall 0 (by simp) (by simp) (by omega)
    rw [if_pos (compareInt_zero.2 h0)]
    exact lexInt_at x y k (by simpa using h) (by simpa using h') (fun j hj hj' hlt => hall (j + 1) (by simpa using hj) (by simpa using hj') (by omega)) hne
theorem lexInt_eq : ∀ (x : List Int), lexInt x x = 0
  | [] => rfl
  | a :: x => by unfold lexInt; rw [if_pos (compareInt_zero.2 rfl)]; exact lexInt_eq x

def PairM.list (p : PairM) : List Int := [p.a, p.i, p.b, p.k]
def PairM.cf (x y : PairM) : Int := lexInt x.list y.list
def PairM.lt (x y : PairM) : Prop := x.a < y.a ∨ (x.a = y.a ∧ (x.i < y.i ∨ (x.i = y.i ∧ (x.b < y.b ∨ (x.b = y.b ∧ x.k < y.k)))))
theorem PairM.ltOf_iff (x y : PairM) : ltOf PairM.cf x y = true ↔ PairM.lt x y := by
  unfold ltOf PairM.cf PairM.list PairM.lt
  simp only [lexInt, compareInt_zero, decide_eq_true_eq]
  have hc : ∀ a b : Int, Lib.compareInt a b < 0 ↔ a < b := by
    intro a b
    unfold Lib.compareInt
    by_cases h1 : a < b
    · simp [h1]
    · by_cases h2 : b < a <;> simp [h1, h2]
  split
  · split
    · split
      · split
        · omega
        · rw [hc]; omega
      · rw [hc]; omega
    · rw [hc]; omega
  · rw [hc]; omega
theorem PairM.ltOf_no (x y : PairM) : ltOf PairM.cf x y = false ↔ ¬ PairM.lt x y := by
  rw [← PairM.ltOf_iff]; simp
theorem PairM.swo : SWO (ltOf PairM.cf) where
  irrefl x := by rw [PairM.ltOf_no]; unfold PairM.lt; omega
  trans x y z h1 h2 := by rw [PairM.ltOf_iff] at *; unfold PairM.lt at *; omega
  ntrans x y z h1 h2 := by rw [PairM.ltOf_no] at *; unfold PairM.lt at *; omega
theorem PairM.whole (x y : PairM) (h1 : ltOf PairM.cf x y = false) (h2 : ltOf PairM.cf y x = false) : x = y := by
  rw [PairM.ltOf_no] at h1 h2
  obtain ⟨x0, x1, x2, x3⟩ := x
  obtain ⟨y0, y1, y2, y3⟩ := y
  unfold PairM.lt at h1 h2
  simp only at h1 h2
  have e0 : x0 = y0 := by omega
  have e1 : x1 = y1 := by omega
  have e2 : x2 = y2 := by omega
  have e3 : x3 = y3 := by omega
  rw [e0, e1, e2, e3]
/-- Pairs in order. -/
def PairM.sorted (l : List PairM) : List PairM := l.mergeSort fun x y => !(ltOf PairM.cf) y x
theorem PairM.sorted_perm (l : List PairM) : (PairM.sorted l).Perm l := List.mergeSort_perm _ _
theorem PairM.sorted_pair (l : List PairM) : (PairM.sorted l).Pairwise fun x y => (!(ltOf PairM.cf) y x) = true :=
  List.pairwise_mergeSort (fun a b c h1 h2 => by
      simp only [Bool.not_eq_true', PairM.ltOf_no] at *
      unfold PairM.lt at *; omega) (fun a b => by
      cases h1 : ltOf PairM.cf b a <;> cases h2 : ltOf PairM.cf a b <;> simp
      rw [PairM.ltOf_iff] at h1 h2; unfold PairM.lt at *; omega) l
/-- Two rows in order are one just if they hold the same. -/
theorem PairM.sorted_eq (l m : List PairM) : PairM.sorted l = PairM.sorted m ↔ l.Perm m := by
  constructor
  · intro h
    exact ((PairM.sorted_perm l).symm.trans (by rw [h])).trans (PairM.sorted_perm m)
  · intro h
    refine List.Perm.eq_of_pairwise (le := fun x y => (!(ltOf PairM.cf) y x) = true) (fun a b _ _ h1 h2 => ?_) (PairM.sorted_pair l) (PairM.sorted_pair m) (((PairM.sorted_perm l).trans h).trans (PairM.sorted_perm m).symm)
    exact PairM.whole a b (by simpa using h2) (by simpa using h1)
end Go.Proofs.YtnnkejolfhhmlaaGreat
