/- Runs, in plain Lean: which are right. -/
import Derived.Test.YtgkclgmekbgjmaaHeap
namespace Go.Proofs.Ytgkclgmekbgjmaa
open Go.RowKit Go.Lib

/-- An operation of a transaction. -/
structure OpM where
  tx : Int
  kind : Int
  item : Int
  deriving DecidableEq, Inhabited

def RunM.bad (o : OpM) : Int :=
  if o.tx < 0 ∨ 12 ≤ o.tx ∨ o.item < 0 ∨ 20 ≤ o.item then 1 else if o.kind = 1 ∨ o.kind = 2 then 0 else if (o.kind = 3 ∨ o.kind = 4) ∧ o.item = 0 then 0 else 4
def RunM.go : List OpM → (Nat → Bool) → Int
  | [], _ => 0
  | o :: l, ov => if RunM.bad o ≠ 0 then RunM.bad o else if ov o.tx.toNat = true then 4 else RunM.go l (upd ov o.tx.toNat (decide (3 ≤ o.kind)))
/-- What run.Check answers. -/
def RunM.check (l : List OpM) : Int := if 200 < l.length then 2 else RunM.go l (fun _ => false)

theorem RunM.bad_zero {o : OpM} (h : RunM.bad o = 0) : 0 ≤ o.tx ∧ o.tx < 12 ∧ 0 ≤ o.item ∧ o.item < 20 ∧ 1 ≤ o.kind ∧ o.kind ≤ 4 ∧ (3 ≤ o.kind → o.item = 0) := by
  unfold RunM.bad at h
  split at h
  · simp at h
  · split at h
    · omega
    · split at h
      · omega
      · simp at h

/-- The operations l stand where a slice of so many begins. -/
def OpsAt (w : World) (ao : Option Addr) (l : List OpM) : Prop :=
  l = [] ∨ ∃ b off, ao = some ⟨b, off, none⟩ ∧ b < w.heap.size ∧
    ∀ k (h : k < l.length), w.cell? ⟨b, off + k * 3, none⟩ = some (.int .i64 l[k].tx) ∧ w.cell? ⟨b, off + k * 3 + 1, none⟩ = some (.int .i64 l[k].kind) ∧ w.cell? ⟨b, off + k * 3 + 2, none⟩ = some (.int .i64 l[k].item)
theorem OpsAt.below {B : Nat} {w w' : World} {ao : Option Addr} {l : List OpM} (h : OpsAt w ao l) (hb : Below B w w') (hB : w.heap.size ≤ B) : OpsAt w' ao l := by
  rcases h with h | ⟨b, off, h1, h2, h3⟩
  · exact Or.inl h
  · exact Or.inr ⟨b, off, h1, Nat.lt_of_lt_of_le h2 hb.size, fun k hk => ⟨(hb.cell (p := ⟨b, off + k * 3, none⟩) (Nat.lt_of_lt_of_le h2 hB)).trans (h3 k hk).1,
      (hb.cell (p := ⟨b, off + k * 3 + 1, none⟩) (Nat.lt_of_lt_of_le h2 hB)).trans (h3 k hk).2.1, (hb.cell (p := ⟨b, off + k * 3 + 2, none⟩) (Nat.lt_of_lt_of_le h2 hB)).trans (h3 k hk).2.2⟩⟩
/-- The number k of operations is none that no machine bears; all numbers are ints. -/
def RunM.Fits (l : List OpM) : Prop := l.length ≤ 9000000000000 ∧ ∀ o ∈ l, -9223372036854775808 ≤ o.tx ∧ o.tx ≤ 9223372036854775807 ∧ -9223372036854775808 ≤ o.kind ∧ o.kind ≤ 9223372036854775807 ∧ -9223372036854775808 ≤ o.item ∧ o.item ≤ 9223372036854775807
end Go.Proofs.Ytgkclgmekbgjmaa
