/-
  No cell of these rows narrows 'for every input' (looked for: loops, veiled, ifaces, maps, wideKeys, modest, calm, conditions, laid).
  DERIVED. THE GIVEN ROWS OF THIS SEAT. 7 by the template 'for every input the law returns true; each argument reads behind the call as it read before'; 0 by the template 'total and deterministic' (their statements: YtnpiiggmdekfiaaTotals.lean).
  GIVEN WITH THE SEED: the statements are not yours to turn. If you find one false, say at which input.
  Laid BY PROGRAM, IN A SANDBOX (cutbox-rows.mjs): the forced cells as the released guide's own fill.sh prints them over the translation 976fc4aaf13ca346… (all of the seat's roots in one cut). By AI agents, Wed Nov 11 2026. No macro, syntax, notation, axiom, sorry.
-/
import Derived.Test.YtnpiiggmdekfiaaChecked
import GoSem.Claim
import GoSem.ClaimJoined
import GoSem.ClaimMapViews
import Derived.JoinedTies
import Derived.KernelRfl
namespace Go.Proofs.Ytnpiiggmdekfiaa
/- THE CELL 'sum', in the pinned program and in every row, IS THE sha256 OF THE DUMP (.gsa) THAT YtnpiiggmdekfiaaProg.lean LOADS. Nothing in Lean hashes anything: it is a label: what it is worth is what the hold of that sum in a sandbox is worth. -/
noncomputable def Try.pinned : Pinned := { name := "ytnpiiggmdekfiaa", sum := "976fc4aaf13ca346a9bfd5205767c0068c3607ee845dd86e184e97fad169206e", checked := Try.checked }
namespace Rows
def none {H : Type} : Left H := { results := [], args := [] }

/-- 'quirkeep.SectSafe': WHATEVER THE INPUT: true; the input reads as it did. -/
def sectSafeSpec : ChangeSpec := { name := "sectSafe", fn := fun _ => fun
  | [d1, d2] => { results := [.lit (.bool true)], args := [d1, d2] }
  | _ => none }
def sectSafeRow : OpenClaim := { program := "ytnpiiggmdekfiaa", sum := "976fc4aaf13ca346a9bfd5205767c0068c3607ee845dd86e184e97fad169206e", func := "quirestock/quirkeep.SectSafe", spec := "sectSafe", inPlace := ["internal/abi.NoEscape", "internal/bytealg.MakeNoZero"], apart := false }
def SectSafeSaid : Prop := sectSafeRow.holds Try.pinned (OpenSpec.ofChange sectSafeSpec)

/-- ITS FALSE NEIGHBOUR: 'it returns false'. Refute it at one input. -/
def sectSafeWrong : ChangeSpec := { name := "sectSafe", fn := fun _ => fun
  | [d1, d2] => { results := [.lit (.bool false)], args := [d1, d2] }
  | _ => none }
def SectSafeWrongFalsely : Prop := sectSafeRow.holds Try.pinned (OpenSpec.ofChange sectSafeWrong)

/-- 'quirkeep.TreeLevels': WHATEVER THE INPUT: true; the input reads as it did. -/
def treeLevelsSpec : ChangeSpec := { name := "treeLevels", fn := fun _ => fun
  | [d] => { results := [.lit (.bool true)], args := [d] }
  | _ => none }
def treeLevelsRow : OpenClaim := { program := "ytnpiiggmdekfiaa", sum := "976fc4aaf13ca346a9bfd5205767c0068c3607ee845dd86e184e97fad169206e", func := "quirestock/quirkeep.TreeLevels", spec := "treeLevels", inPlace := ["slices.overlaps[int]", "slices.overlaps[string]", "slices.overlaps[*quirestock/tree.node]"], unfollowed := true, recurses := true, apart := false }
def TreeLevelsSaid : Prop := treeLevelsRow.holds Try.pinned (OpenSpec.ofChange treeLevelsSpec)

/-- ITS FALSE NEIGHBOUR: 'it returns false'. Refute it at one input. -/
def treeLevelsWrong : ChangeSpec := { name := "treeLevels", fn := fun _ => fun
  | [d] => { results := [.lit (.bool false)], args := [d] }
  | _ => none }
def TreeLevelsWrongFalsely : Prop := treeLevelsRow.holds Try.pinned (OpenSpec.ofChange treeLevelsWrong)

/-- 'quirkeep.TreeOrder': WHATEVER THE INPUT: true; the input reads as it did. -/
def treeOrderSpec : ChangeSpec := { name := "treeOrder", fn := fun _ => fun
  | [d1, d2, d3] => { results := [.lit (.bool true)], args := [d1, d2, d3] }
  | _ => none }
def treeOrderRow : OpenClaim := { program := "ytnpiiggmdekfiaa", sum := "976fc4aaf13ca346a9bfd5205767c0068c3607ee845dd86e184e97fad169206e", func := "quirestock/quirkeep.TreeOrder", spec := "treeOrder", inPlace := ["slices.overlaps[int]", "slices.overlaps[string]", "slices.overlaps[*quirestock/tree.node]"], unfollowed := true, recurses := true, apart := false }
def TreeOrderSaid : Prop := treeOrderRow.holds Try.pinned (OpenSpec.ofChange treeOrderSpec)

/-- ITS FALSE NEIGHBOUR: 'it returns false'. Refute it at one input. -/
def treeOrderWrong : ChangeSpec := { name := "treeOrder", fn := fun _ => fun
  | [d1, d2, d3] => { results := [.lit (.bool false)], args := [d1, d2, d3] }
  | _ => none }
def TreeOrderWrongFalsely : Prop := treeOrderRow.holds Try.pinned (OpenSpec.ofChange treeOrderWrong)

/-- 'quirkeep.LockAll': WHATEVER THE INPUT: true; the input reads as it did. -/
def lockAllSpec : ChangeSpec := { name := "lockAll", fn := fun _ => fun
  | [d] => { results := [.lit (.bool true)], args := [d] }
  | _ => none }
def lockAllRow : OpenClaim := { program := "ytnpiiggmdekfiaa", sum := "976fc4aaf13ca346a9bfd5205767c0068c3607ee845dd86e184e97fad169206e", func := "quirestock/quirkeep.LockAll", spec := "lockAll", inPlace := ["slices.overlaps[quirestock/api.LockItem]", "slices.overlaps[quirestock/api.Lock]"], unfollowed := true, recurses := true, apart := false }
def LockAllSaid : Prop := lockAllRow.holds Try.pinned (OpenSpec.ofChange lockAllSpec)

/-- ITS FALSE NEIGHBOUR: 'it returns false'. Refute it at one input. -/
def lockAllWrong : ChangeSpec := { name := "lockAll", fn := fun _ => fun
  | [d] => { results := [.lit (.bool false)], args := [d] }
  | _ => none }
def LockAllWrongFalsely : Prop := lockAllRow.holds Try.pinned (OpenSpec.ofChange lockAllWrong)

/-- 'quirkeep.LockSafe': WHATEVER THE INPUT: true; the input reads as it did. -/
def lockSafeSpec : ChangeSpec := { name := "lockSafe", fn := fun _ => fun
  | [d1, d2] => { results := [.lit (.bool true)], args := [d1, d2] }
  | _ => none }
def lockSafeRow : OpenClaim := { program := "ytnpiiggmdekfiaa", sum := "976fc4aaf13ca346a9bfd5205767c0068c3607ee845dd86e184e97fad169206e", func := "quirestock/quirkeep.LockSafe", spec := "lockSafe", inPlace := ["slices.overlaps[quirestock/api.LockItem]", "slices.overlaps[quirestock/api.Lock]"], unfollowed := true, recurses := true, apart := false }
def LockSafeSaid : Prop := lockSafeRow.holds Try.pinned (OpenSpec.ofChange lockSafeSpec)

/-- ITS FALSE NEIGHBOUR: 'it returns false'. Refute it at one input. -/
def lockSafeWrong : ChangeSpec := { name := "lockSafe", fn := fun _ => fun
  | [d1, d2] => { results := [.lit (.bool false)], args := [d1, d2] }
  | _ => none }
def LockSafeWrongFalsely : Prop := lockSafeRow.holds Try.pinned (OpenSpec.ofChange lockSafeWrong)

/-- 'quirkeep.LockOwn': WHATEVER THE INPUT: true; the input reads as it did. -/
def lockOwnSpec : ChangeSpec := { name := "lockOwn", fn := fun _ => fun
  | [d1, d2, d3, d4] => { results := [.lit (.bool true)], args := [d1, d2, d3, d4] }
  | _ => none }
def lockOwnRow : OpenClaim := { program := "ytnpiiggmdekfiaa", sum := "976fc4aaf13ca346a9bfd5205767c0068c3607ee845dd86e184e97fad169206e", func := "quirestock/quirkeep.LockOwn", spec := "lockOwn", inPlace := ["slices.overlaps[quirestock/api.LockItem]", "slices.overlaps[quirestock/api.Lock]"], unfollowed := true, recurses := true, apart := false }
def LockOwnSaid : Prop := lockOwnRow.holds Try.pinned (OpenSpec.ofChange lockOwnSpec)

/-- ITS FALSE NEIGHBOUR: 'it returns false'. Refute it at one input. -/
def lockOwnWrong : ChangeSpec := { name := "lockOwn", fn := fun _ => fun
  | [d1, d2, d3, d4] => { results := [.lit (.bool false)], args := [d1, d2, d3, d4] }
  | _ => none }
def LockOwnWrongFalsely : Prop := lockOwnRow.holds Try.pinned (OpenSpec.ofChange lockOwnWrong)

/-- 'quirkeep.WaitRule': WHATEVER THE INPUT: true; the input reads as it did. -/
def waitRuleSpec : ChangeSpec := { name := "waitRule", fn := fun _ => fun
  | [d1, d2] => { results := [.lit (.bool true)], args := [d1, d2] }
  | _ => none }
def waitRuleRow : OpenClaim := { program := "ytnpiiggmdekfiaa", sum := "976fc4aaf13ca346a9bfd5205767c0068c3607ee845dd86e184e97fad169206e", func := "quirestock/quirkeep.WaitRule", spec := "waitRule", recurses := true, apart := false }
def WaitRuleSaid : Prop := waitRuleRow.holds Try.pinned (OpenSpec.ofChange waitRuleSpec)

/-- ITS FALSE NEIGHBOUR: 'it returns false'. Refute it at one input. -/
def waitRuleWrong : ChangeSpec := { name := "waitRule", fn := fun _ => fun
  | [d1, d2] => { results := [.lit (.bool false)], args := [d1, d2] }
  | _ => none }
def WaitRuleWrongFalsely : Prop := waitRuleRow.holds Try.pinned (OpenSpec.ofChange waitRuleWrong)

/- THE SECOND FORM. 'bulk': how many values and letters a reading holds, each counted each time it is reached (what is shared counts as often as it is met; a slice's spare places count too). A statement '..UptoSaid' is the law's where the arguments, and the package variables that the reading takes, are together of bulk at most 1048576: NARROWER than '..Said'. Prove '..Said' where nothing that the law and all that it calls make is longer than what came in: it says more and counts as full. Else prove '..UptoSaid'. A law counts once. -/
mutual
def uptoBulk {H : Type} : DataW H → Nat
  | .lit (.string bytes) => bytes.length + 1
  | .lit _ => 1
  | .nil => 1
  | .ptr d => uptoBulk d + 1
  | .slice elems spare => uptoBulkAll elems + uptoBulkAll spare + 1
  | .agg parts => uptoBulkAll parts + 1
  | .iface _ d => uptoBulk d + 1
  | .map entries => uptoBulkEntries entries + 1
  | .held _ => 1
def uptoBulkAll {H : Type} : List (DataW H) → Nat
  | [] => 0
  | d :: r => uptoBulk d + uptoBulkAll r
def uptoBulkEntries {H : Type} : List (Lit × DataW H) → Nat
  | [] => 0
  | x :: r => uptoBulkEntry x + uptoBulkEntries r
def uptoBulkEntry {H : Type} : Lit × DataW H → Nat
  | (.string bytes, d) => bytes.length + uptoBulk d + 1
  | (_, d) => uptoBulk d + 1
 end
def uptoSmall : (H : Type) → List (DataW H) → Bool := fun _ ds => decide (uptoBulkAll ds ≤ 1048576)
def OpenSpec.upto (s : _root_.Go.ChangeSpec) : _root_.Go.OpenSpec := { _root_.Go.OpenSpec.ofChange s with cond := some uptoSmall }

/-- 'quirkeep.SectSafe', WHERE WHAT IT READS IS OF BULK AT MOST 1048576: true; the input reads as it did. -/
def sectSafeUptoRow : OpenClaim := { program := "ytnpiiggmdekfiaa", sum := "976fc4aaf13ca346a9bfd5205767c0068c3607ee845dd86e184e97fad169206e", func := "quirestock/quirkeep.SectSafe", spec := "sectSafe", inPlace := ["internal/abi.NoEscape", "internal/bytealg.MakeNoZero"], apart := false, narrowed := true }
def SectSafeUptoSaid : Prop := sectSafeUptoRow.holds Try.pinned (OpenSpec.upto sectSafeSpec)

/-- 'quirkeep.TreeLevels', WHERE WHAT IT READS IS OF BULK AT MOST 1048576: true; the input reads as it did. -/
def treeLevelsUptoRow : OpenClaim := { program := "ytnpiiggmdekfiaa", sum := "976fc4aaf13ca346a9bfd5205767c0068c3607ee845dd86e184e97fad169206e", func := "quirestock/quirkeep.TreeLevels", spec := "treeLevels", inPlace := ["slices.overlaps[int]", "slices.overlaps[string]", "slices.overlaps[*quirestock/tree.node]"], unfollowed := true, recurses := true, apart := false, narrowed := true }
def TreeLevelsUptoSaid : Prop := treeLevelsUptoRow.holds Try.pinned (OpenSpec.upto treeLevelsSpec)

/-- 'quirkeep.TreeOrder', WHERE WHAT IT READS IS OF BULK AT MOST 1048576: true; the input reads as it did. -/
def treeOrderUptoRow : OpenClaim := { program := "ytnpiiggmdekfiaa", sum := "976fc4aaf13ca346a9bfd5205767c0068c3607ee845dd86e184e97fad169206e", func := "quirestock/quirkeep.TreeOrder", spec := "treeOrder", inPlace := ["slices.overlaps[int]", "slices.overlaps[string]", "slices.overlaps[*quirestock/tree.node]"], unfollowed := true, recurses := true, apart := false, narrowed := true }
def TreeOrderUptoSaid : Prop := treeOrderUptoRow.holds Try.pinned (OpenSpec.upto treeOrderSpec)

/-- 'quirkeep.LockAll', WHERE WHAT IT READS IS OF BULK AT MOST 1048576: true; the input reads as it did. -/
def lockAllUptoRow : OpenClaim := { program := "ytnpiiggmdekfiaa", sum := "976fc4aaf13ca346a9bfd5205767c0068c3607ee845dd86e184e97fad169206e", func := "quirestock/quirkeep.LockAll", spec := "lockAll", inPlace := ["slices.overlaps[quirestock/api.LockItem]", "slices.overlaps[quirestock/api.Lock]"], unfollowed := true, recurses := true, apart := false, narrowed := true }
def LockAllUptoSaid : Prop := lockAllUptoRow.holds Try.pinned (OpenSpec.upto lockAllSpec)

/-- 'quirkeep.LockSafe', WHERE WHAT IT READS IS OF BULK AT MOST 1048576: true; the input reads as it did. -/
def lockSafeUptoRow : OpenClaim := { program := "ytnpiiggmdekfiaa", sum := "976fc4aaf13ca346a9bfd5205767c0068c3607ee845dd86e184e97fad169206e", func := "quirestock/quirkeep.LockSafe", spec := "lockSafe", inPlace := ["slices.overlaps[quirestock/api.LockItem]", "slices.overlaps[quirestock/api.Lock]"], unfollowed := true, recurses := true, apart := false, narrowed := true }
def LockSafeUptoSaid : Prop := lockSafeUptoRow.holds Try.pinned (OpenSpec.upto lockSafeSpec)

/-- 'quirkeep.LockOwn', WHERE WHAT IT READS IS OF BULK AT MOST 1048576: true; the input reads as it did. -/
def lockOwnUptoRow : OpenClaim := { program := "ytnpiiggmdekfiaa", sum := "976fc4aaf13ca346a9bfd5205767c0068c3607ee845dd86e184e97fad169206e", func := "quirestock/quirkeep.LockOwn", spec := "lockOwn", inPlace := ["slices.overlaps[quirestock/api.LockItem]", "slices.overlaps[quirestock/api.Lock]"], unfollowed := true, recurses := true, apart := false, narrowed := true }
def LockOwnUptoSaid : Prop := lockOwnUptoRow.holds Try.pinned (OpenSpec.upto lockOwnSpec)

/-- 'quirkeep.WaitRule', WHERE WHAT IT READS IS OF BULK AT MOST 1048576: true; the input reads as it did. -/
def waitRuleUptoRow : OpenClaim := { program := "ytnpiiggmdekfiaa", sum := "976fc4aaf13ca346a9bfd5205767c0068c3607ee845dd86e184e97fad169206e", func := "quirestock/quirkeep.WaitRule", spec := "waitRule", recurses := true, apart := false, narrowed := true }
def WaitRuleUptoSaid : Prop := waitRuleUptoRow.holds Try.pinned (OpenSpec.upto waitRuleSpec)

end Rows
end Go.Proofs.Ytnpiiggmdekfiaa
