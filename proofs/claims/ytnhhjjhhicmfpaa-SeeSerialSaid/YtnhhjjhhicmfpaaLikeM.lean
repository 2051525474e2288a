/- run.Like: plain. -/
import Derived.Test.YtnhhjjhhicmfpaaPairM
import Derived.Test.YtnhhjjhhicmfpaaStampM
namespace Go.Proofs.Ytnhhjjhhicmfpaa
open Go.RowKit Go.Lib

/-- What transaction t does. -/
def RunM.of (l : List OpM) (t : Nat) : List OpM := l.filter fun o => o.tx == (t : Int)
/-- What run.Like answers: the runs are like each other; and whether all is right. -/
def RunM.likeOk (a b : List OpM) : Int := if RunM.check a ≠ 0 then RunM.check a else RunM.check b
def RunM.sameTo (a b : List OpM) (n : Nat) : Bool := (List.range n).all fun t => decide (RunM.of a t = RunM.of b t)
def RunM.like (a b : List OpM) : Bool := decide (RunM.check a = 0) && decide (RunM.check b = 0) && RunM.sameTo a b 12 && decide (PairM.sorted (RunM.pairs a) = PairM.sorted (RunM.pairs b))
theorem RunM.sameTo_succ (a b : List OpM) (n : Nat) : RunM.sameTo a b (n + 1) = (RunM.sameTo a b n && decide (RunM.of a n = RunM.of b n)) := by
  unfold RunM.sameTo; rw [List.range_succ, List.all_append]; simp
theorem RunM.sameTo_no {a b : List OpM} {t n : Nat} (h : t < n) (hd : decide (RunM.of a t = RunM.of b t) = false) : RunM.sameTo a b n = false := by
  unfold RunM.sameTo
  rw [List.all_eq_false]
  exact ⟨t, List.mem_range.2 h, by rw [hd]; simp⟩
theorem RunM.of_le (l : List OpM) (t : Nat) : (RunM.of l t).length ≤ l.length := List.length_filter_le _ _
end Go.Proofs.Ytnhhjjhhicmfpaa
