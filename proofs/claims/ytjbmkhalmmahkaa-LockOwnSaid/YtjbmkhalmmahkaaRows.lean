/-
  No cell of these rows narrows 'for every input' (looked for: loops, veiled, ifaces, maps, wideKeys, modest, calm, conditions, laid).
  DERIVED. THE GIVEN ROWS OF THIS SEAT. 3 by the template 'for every input the law returns true; each argument reads behind the call as it read before'; 0 by the template 'total and deterministic' (their statements: YtjbmkhalmmahkaaTotals.lean).
  GIVEN WITH THE SEED: the statements are not yours to turn. If you find one false, say at which input.
  Laid BY PROGRAM, IN A SANDBOX (cutbox-rows.mjs): the forced cells as the released guide's own fill.sh prints them over the translation e186da87d7e45f90… (all of the seat's roots in one cut). By AI agents, Wed Nov 11 2026. No macro, syntax, notation, axiom, sorry.
-/
import Derived.Test.YtjbmkhalmmahkaaChecked
import GoSem.Claim
import GoSem.ClaimJoined
import GoSem.ClaimMapViews
import Derived.JoinedTies
import Derived.KernelRfl
namespace Go.Proofs.Ytjbmkhalmmahkaa
/- THE CELL 'sum', in the pinned program and in every row, IS THE sha256 OF THE DUMP (.gsa) THAT YtjbmkhalmmahkaaProg.lean LOADS. Nothing in Lean hashes anything: it is a label: what it is worth is what the hold of that sum in a sandbox is worth. -/
noncomputable def Try.pinned : Pinned := { name := "ytjbmkhalmmahkaa", sum := "e186da87d7e45f90e15f29adbeb8ec7221523f3fed3071c4ef49d986c4bcb00b", checked := Try.checked }
namespace Rows
def none {H : Type} : Left H := { results := [], args := [] }

/-- 'quirkeep.LockOwn': WHATEVER THE INPUT: true; the input reads as it did. -/
def lockOwnSpec : ChangeSpec := { name := "lockOwn", fn := fun _ => fun
  | [d1, d2, d3, d4] => { results := [.lit (.bool true)], args := [d1, d2, d3, d4] }
  | _ => none }
def lockOwnRow : OpenClaim := { program := "ytjbmkhalmmahkaa", sum := "e186da87d7e45f90e15f29adbeb8ec7221523f3fed3071c4ef49d986c4bcb00b", func := "quirestock/quirkeep.LockOwn", spec := "lockOwn", inPlace := ["slices.overlaps[quirestock/api.LockItem]", "slices.overlaps[quirestock/api.Lock]"], unfollowed := true, recurses := true, apart := false }
def LockOwnSaid : Prop := lockOwnRow.holds Try.pinned (OpenSpec.ofChange lockOwnSpec)

/-- ITS FALSE NEIGHBOUR: 'it returns false'. Refute it at one input. -/
def lockOwnWrong : ChangeSpec := { name := "lockOwn", fn := fun _ => fun
  | [d1, d2, d3, d4] => { results := [.lit (.bool false)], args := [d1, d2, d3, d4] }
  | _ => none }
def LockOwnWrongFalsely : Prop := lockOwnRow.holds Try.pinned (OpenSpec.ofChange lockOwnWrong)

/-- 'quirkeep.TreeLevels': WHATEVER THE INPUT: true; the input reads as it did. -/
def treeLevelsSpec : ChangeSpec := { name := "treeLevels", fn := fun _ => fun
  | [d] => { results := [.lit (.bool true)], args := [d] }
  | _ => none }
def treeLevelsRow : OpenClaim := { program := "ytjbmkhalmmahkaa", sum := "e186da87d7e45f90e15f29adbeb8ec7221523f3fed3071c4ef49d986c4bcb00b", func := "quirestock/quirkeep.TreeLevels", spec := "treeLevels", inPlace := ["slices.overlaps[int]", "slices.overlaps[string]", "slices.overlaps[*quirestock/tree.node]"], unfollowed := true, recurses := true, apart := false }
def TreeLevelsSaid : Prop := treeLevelsRow.holds Try.pinned (OpenSpec.ofChange treeLevelsSpec)

/-- ITS FALSE NEIGHBOUR: 'it returns false'. Refute it at one input. -/
def treeLevelsWrong : ChangeSpec := { name := "treeLevels", fn := fun _ => fun
  | [d] => { results := [.lit (.bool false)], args := [d] }
  | _ => none }
def TreeLevelsWrongFalsely : Prop := treeLevelsRow.holds Try.pinned (OpenSpec.ofChange treeLevelsWrong)

/-- 'quirkeep.TreeOrder': WHATEVER THE INPUT: true; the input reads as it did. -/
def treeOrderSpec : ChangeSpec := { name := "treeOrder", fn := fun _ => fun
  | [d1, d2, d3] => { results := [.lit (.bool true)], args := [d1, d2, d3] }
  | _ => none }
def treeOrderRow : OpenClaim := { program := "ytjbmkhalmmahkaa", sum := "e186da87d7e45f90e15f29adbeb8ec7221523f3fed3071c4ef49d986c4bcb00b", func := "quirestock/quirkeep.TreeOrder", spec := "treeOrder", inPlace := ["slices.overlaps[int]", "slices.overlaps[string]", "slices.overlaps[*quirestock/tree.node]"], unfollowed := true, recurses := true, apart := false }
def TreeOrderSaid : Prop := treeOrderRow.holds Try.pinned (OpenSpec.ofChange treeOrderSpec)

/-- ITS FALSE NEIGHBOUR: 'it returns false'. Refute it at one input. -/
def treeOrderWrong : ChangeSpec := { name := "treeOrder", fn := fun _ => fun
  | [d1, d2, d3] => { results := [.lit (.bool false)], args := [d1, d2, d3] }
  | _ => none }
def TreeOrderWrongFalsely : Prop := treeOrderRow.holds Try.pinned (OpenSpec.ofChange treeOrderWrong)

/- THE SECOND FORM. 'bulk': how many values and letters a reading holds, each counted each time it is reached (what is shared counts as often as it is met; a slice's spare places count too). A statement '..UptoSaid' is the law's where the arguments, and the package variables that the reading takes, are together of bulk at most 1048576: NARROWER than '..Said'. Prove '..Said' where nothing that the law and all that it calls make is longer than what came in: it says more and counts as full. Else prove '..UptoSaid'. A law counts once. -/
mutual
def uptoBulk {H : Type} : DataW H → Nat
  | .lit (.string bytes) => bytes.length + 1
  | .lit _ => 1
  | .nil => 1
  | .ptr d => uptoBulk d + 1
  | .slice elems spare => uptoBulkAll elems + uptoBulkAll spare + 1
  | .agg parts => uptoBulkAll parts + 1
  | .iface _ d => uptoBulk d + 1
  | .map entries => uptoBulkEntries entries + 1
  | .held _ => 1
def uptoBulkAll {H : Type} : List (DataW H) → Nat
  | [] => 0
  | d :: r => uptoBulk d + uptoBulkAll r
def uptoBulkEntries {H : Type} : List (Lit × DataW H) → Nat
  | [] => 0
  | x :: r => uptoBulkEntry x + uptoBulkEntries r
def uptoBulkEntry {H : Type} : Lit × DataW H → Nat
  | (.string bytes, d) => bytes.length + uptoBulk d + 1
  | (_, d) => uptoBulk d + 1
 end
def uptoSmall : (H : Type) → List (DataW H) → Bool := fun _ ds => decide (uptoBulkAll ds ≤ 1048576)
def OpenSpec.upto (s : _root_.Go.ChangeSpec) : _root_.Go.OpenSpec := { _root_.Go.OpenSpec.ofChange s with cond := some uptoSmall }

/-- 'quirkeep.LockOwn', WHERE WHAT IT READS IS OF BULK AT MOST 1048576: true; the input reads as it did. -/
def lockOwnUptoRow : OpenClaim := { program := "ytjbmkhalmmahkaa", sum := "e186da87d7e45f90e15f29adbeb8ec7221523f3fed3071c4ef49d986c4bcb00b", func := "quirestock/quirkeep.LockOwn", spec := "lockOwn", inPlace := ["slices.overlaps[quirestock/api.LockItem]", "slices.overlaps[quirestock/api.Lock]"], unfollowed := true, recurses := true, apart := false, narrowed := true }
def LockOwnUptoSaid : Prop := lockOwnUptoRow.holds Try.pinned (OpenSpec.upto lockOwnSpec)

/-- 'quirkeep.TreeLevels', WHERE WHAT IT READS IS OF BULK AT MOST 1048576: true; the input reads as it did. -/
def treeLevelsUptoRow : OpenClaim := { program := "ytjbmkhalmmahkaa", sum := "e186da87d7e45f90e15f29adbeb8ec7221523f3fed3071c4ef49d986c4bcb00b", func := "quirestock/quirkeep.TreeLevels", spec := "treeLevels", inPlace := ["slices.overlaps[int]", "slices.overlaps[string]", "slices.overlaps[*quirestock/tree.node]"], unfollowed := true, recurses := true, apart := false, narrowed := true }
def TreeLevelsUptoSaid : Prop := treeLevelsUptoRow.holds Try.pinned (OpenSpec.upto treeLevelsSpec)

/-- 'quirkeep.TreeOrder', WHERE WHAT IT READS IS OF BULK AT MOST 1048576: true; the input reads as it did. -/
def treeOrderUptoRow : OpenClaim := { program := "ytjbmkhalmmahkaa", sum := "e186da87d7e45f90e15f29adbeb8ec7221523f3fed3071c4ef49d986c4bcb00b", func := "quirestock/quirkeep.TreeOrder", spec := "treeOrder", inPlace := ["slices.overlaps[int]", "slices.overlaps[string]", "slices.overlaps[*quirestock/tree.node]"], unfollowed := true, recurses := true, apart := false, narrowed := true }
def TreeOrderUptoSaid : Prop := treeOrderUptoRow.holds Try.pinned (OpenSpec.upto treeOrderSpec)

end Rows
end Go.Proofs.Ytjbmkhalmmahkaa
