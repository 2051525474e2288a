/-
  No cell of these rows narrows 'for every input' (looked for: loops, veiled, ifaces, maps, wideKeys, modest, calm, conditions, laid).
  DERIVED. THE GIVEN ROWS OF THIS SEAT. 10 by the template 'for every input the law returns true; each argument reads behind the call as it read before'; 0 by the template 'total and deterministic' (their statements: YtgkclgmekbgjmaaTotals.lean).
  GIVEN WITH THE SEED: the statements are not yours to turn. If you find one false, say at which input.
  Laid BY PROGRAM, IN A SANDBOX (cutbox-rows.mjs): the forced cells as the released guide's own fill.sh prints them over the translation 1caa7e4811dfb060… (all of the seat's roots in one cut). By AI agents, Wed Nov 11 2026. No macro, syntax, notation, axiom, sorry.
-/
import Derived.Test.YtgkclgmekbgjmaaChecked
import GoSem.Claim
import GoSem.ClaimJoined
import GoSem.ClaimMapViews
import Derived.JoinedTies
import Derived.KernelRfl
namespace Go.Proofs.Ytgkclgmekbgjmaa
/- THE CELL 'sum', in the pinned program and in every row, IS THE sha256 OF THE DUMP (.gsa) THAT YtgkclgmekbgjmaaProg.lean LOADS. Nothing in Lean hashes anything: it is a label: what it is worth is what the hold of that sum in a sandbox is worth. -/
noncomputable def Try.pinned : Pinned := { name := "ytgkclgmekbgjmaa", sum := "1caa7e4811dfb0608ddf972c06b9c7bd59bc90df9b79fe2cdc38b1580478d37c", checked := Try.checked }
namespace Rows
def none {H : Type} : Left H := { results := [], args := [] }

/-- 'quirkeep.OrderReplays': WHATEVER THE INPUT: true; the input reads as it did. -/
def orderReplaysSpec : ChangeSpec := { name := "orderReplays", fn := fun _ => fun
  | [d] => { results := [.lit (.bool true)], args := [d] }
  | _ => none }
def orderReplaysRow : OpenClaim := { program := "ytgkclgmekbgjmaa", sum := "1caa7e4811dfb0608ddf972c06b9c7bd59bc90df9b79fe2cdc38b1580478d37c", func := "quirestock/quirkeep.OrderReplays", spec := "orderReplays", unfollowed := true, recurses := true, apart := false }
def OrderReplaysSaid : Prop := orderReplaysRow.holds Try.pinned (OpenSpec.ofChange orderReplaysSpec)

/-- ITS FALSE NEIGHBOUR: 'it returns false'. Refute it at one input. -/
def orderReplaysWrong : ChangeSpec := { name := "orderReplays", fn := fun _ => fun
  | [d] => { results := [.lit (.bool false)], args := [d] }
  | _ => none }
def OrderReplaysWrongFalsely : Prop := orderReplaysRow.holds Try.pinned (OpenSpec.ofChange orderReplaysWrong)

/-- 'quirkeep.OrderFaults': WHATEVER THE INPUT: true; the input reads as it did. -/
def orderFaultsSpec : ChangeSpec := { name := "orderFaults", fn := fun _ => fun
  | [d] => { results := [.lit (.bool true)], args := [d] }
  | _ => none }
def orderFaultsRow : OpenClaim := { program := "ytgkclgmekbgjmaa", sum := "1caa7e4811dfb0608ddf972c06b9c7bd59bc90df9b79fe2cdc38b1580478d37c", func := "quirestock/quirkeep.OrderFaults", spec := "orderFaults", unfollowed := true, recurses := true, apart := false }
def OrderFaultsSaid : Prop := orderFaultsRow.holds Try.pinned (OpenSpec.ofChange orderFaultsSpec)

/-- ITS FALSE NEIGHBOUR: 'it returns false'. Refute it at one input. -/
def orderFaultsWrong : ChangeSpec := { name := "orderFaults", fn := fun _ => fun
  | [d] => { results := [.lit (.bool false)], args := [d] }
  | _ => none }
def OrderFaultsWrongFalsely : Prop := orderFaultsRow.holds Try.pinned (OpenSpec.ofChange orderFaultsWrong)

/-- 'quirkeep.GraphParts': WHATEVER THE INPUT: true; the input reads as it did. -/
def graphPartsSpec : ChangeSpec := { name := "graphParts", fn := fun _ => fun
  | [d1, d2] => { results := [.lit (.bool true)], args := [d1, d2] }
  | _ => none }
def graphPartsRow : OpenClaim := { program := "ytgkclgmekbgjmaa", sum := "1caa7e4811dfb0608ddf972c06b9c7bd59bc90df9b79fe2cdc38b1580478d37c", func := "quirestock/quirkeep.GraphParts", spec := "graphParts", unfollowed := true, recurses := true, apart := false }
def GraphPartsSaid : Prop := graphPartsRow.holds Try.pinned (OpenSpec.ofChange graphPartsSpec)

/-- ITS FALSE NEIGHBOUR: 'it returns false'. Refute it at one input. -/
def graphPartsWrong : ChangeSpec := { name := "graphParts", fn := fun _ => fun
  | [d1, d2] => { results := [.lit (.bool false)], args := [d1, d2] }
  | _ => none }
def GraphPartsWrongFalsely : Prop := graphPartsRow.holds Try.pinned (OpenSpec.ofChange graphPartsWrong)

/-- 'quirkeep.WaitVictims': WHATEVER THE INPUT: true; the input reads as it did. -/
def waitVictimsSpec : ChangeSpec := { name := "waitVictims", fn := fun _ => fun
  | [d1, d2] => { results := [.lit (.bool true)], args := [d1, d2] }
  | _ => none }
def waitVictimsRow : OpenClaim := { program := "ytgkclgmekbgjmaa", sum := "1caa7e4811dfb0608ddf972c06b9c7bd59bc90df9b79fe2cdc38b1580478d37c", func := "quirestock/quirkeep.WaitVictims", spec := "waitVictims", unfollowed := true, recurses := true, apart := false }
def WaitVictimsSaid : Prop := waitVictimsRow.holds Try.pinned (OpenSpec.ofChange waitVictimsSpec)

/-- ITS FALSE NEIGHBOUR: 'it returns false'. Refute it at one input. -/
def waitVictimsWrong : ChangeSpec := { name := "waitVictims", fn := fun _ => fun
  | [d1, d2] => { results := [.lit (.bool false)], args := [d1, d2] }
  | _ => none }
def WaitVictimsWrongFalsely : Prop := waitVictimsRow.holds Try.pinned (OpenSpec.ofChange waitVictimsWrong)

/-- 'quirkeep.SkewSerial': WHATEVER THE INPUT: true; the input reads as it did. -/
def skewSerialSpec : ChangeSpec := { name := "skewSerial", fn := fun _ => fun
  | [d] => { results := [.lit (.bool true)], args := [d] }
  | _ => none }
def skewSerialRow : OpenClaim := { program := "ytgkclgmekbgjmaa", sum := "1caa7e4811dfb0608ddf972c06b9c7bd59bc90df9b79fe2cdc38b1580478d37c", func := "quirestock/quirkeep.SkewSerial", spec := "skewSerial", unfollowed := true, recurses := true, apart := false }
def SkewSerialSaid : Prop := skewSerialRow.holds Try.pinned (OpenSpec.ofChange skewSerialSpec)

/-- ITS FALSE NEIGHBOUR: 'it returns false'. Refute it at one input. -/
def skewSerialWrong : ChangeSpec := { name := "skewSerial", fn := fun _ => fun
  | [d] => { results := [.lit (.bool false)], args := [d] }
  | _ => none }
def SkewSerialWrongFalsely : Prop := skewSerialRow.holds Try.pinned (OpenSpec.ofChange skewSerialWrong)

/-- 'quirkeep.LockAll': WHATEVER THE INPUT: true; the input reads as it did. -/
def lockAllSpec : ChangeSpec := { name := "lockAll", fn := fun _ => fun
  | [d] => { results := [.lit (.bool true)], args := [d] }
  | _ => none }
def lockAllRow : OpenClaim := { program := "ytgkclgmekbgjmaa", sum := "1caa7e4811dfb0608ddf972c06b9c7bd59bc90df9b79fe2cdc38b1580478d37c", func := "quirestock/quirkeep.LockAll", spec := "lockAll", inPlace := ["slices.overlaps[quirestock/api.LockItem]", "slices.overlaps[quirestock/api.Lock]"], unfollowed := true, recurses := true, apart := false }
def LockAllSaid : Prop := lockAllRow.holds Try.pinned (OpenSpec.ofChange lockAllSpec)

/-- ITS FALSE NEIGHBOUR: 'it returns false'. Refute it at one input. -/
def lockAllWrong : ChangeSpec := { name := "lockAll", fn := fun _ => fun
  | [d] => { results := [.lit (.bool false)], args := [d] }
  | _ => none }
def LockAllWrongFalsely : Prop := lockAllRow.holds Try.pinned (OpenSpec.ofChange lockAllWrong)

/-- 'quirkeep.LockSafe': WHATEVER THE INPUT: true; the input reads as it did. -/
def lockSafeSpec : ChangeSpec := { name := "lockSafe", fn := fun _ => fun
  | [d1, d2] => { results := [.lit (.bool true)], args := [d1, d2] }
  | _ => none }
def lockSafeRow : OpenClaim := { program := "ytgkclgmekbgjmaa", sum := "1caa7e4811dfb0608ddf972c06b9c7bd59bc90df9b79fe2cdc38b1580478d37c", func := "quirestock/quirkeep.LockSafe", spec := "lockSafe", inPlace := ["slices.overlaps[quirestock/api.LockItem]", "slices.overlaps[quirestock/api.Lock]"], unfollowed := true, recurses := true, apart := false }
def LockSafeSaid : Prop := lockSafeRow.holds Try.pinned (OpenSpec.ofChange lockSafeSpec)

/-- ITS FALSE NEIGHBOUR: 'it returns false'. Refute it at one input. -/
def lockSafeWrong : ChangeSpec := { name := "lockSafe", fn := fun _ => fun
  | [d1, d2] => { results := [.lit (.bool false)], args := [d1, d2] }
  | _ => none }
def LockSafeWrongFalsely : Prop := lockSafeRow.holds Try.pinned (OpenSpec.ofChange lockSafeWrong)

/-- 'quirkeep.LockOwn': WHATEVER THE INPUT: true; the input reads as it did. -/
def lockOwnSpec : ChangeSpec := { name := "lockOwn", fn := fun _ => fun
  | [d1, d2, d3, d4] => { results := [.lit (.bool true)], args := [d1, d2, d3, d4] }
  | _ => none }
def lockOwnRow : OpenClaim := { program := "ytgkclgmekbgjmaa", sum := "1caa7e4811dfb0608ddf972c06b9c7bd59bc90df9b79fe2cdc38b1580478d37c", func := "quirestock/quirkeep.LockOwn", spec := "lockOwn", inPlace := ["slices.overlaps[quirestock/api.LockItem]", "slices.overlaps[quirestock/api.Lock]"], unfollowed := true, recurses := true, apart := false }
def LockOwnSaid : Prop := lockOwnRow.holds Try.pinned (OpenSpec.ofChange lockOwnSpec)

/-- ITS FALSE NEIGHBOUR: 'it returns false'. Refute it at one input. -/
def lockOwnWrong : ChangeSpec := { name := "lockOwn", fn := fun _ => fun
  | [d1, d2, d3, d4] => { results := [.lit (.bool false)], args := [d1, d2, d3, d4] }
  | _ => none }
def LockOwnWrongFalsely : Prop := lockOwnRow.holds Try.pinned (OpenSpec.ofChange lockOwnWrong)

/-- 'quirkeep.TreeLevels': WHATEVER THE INPUT: true; the input reads as it did. -/
def treeLevelsSpec : ChangeSpec := { name := "treeLevels", fn := fun _ => fun
  | [d] => { results := [.lit (.bool true)], args := [d] }
  | _ => none }
def treeLevelsRow : OpenClaim := { program := "ytgkclgmekbgjmaa", sum := "1caa7e4811dfb0608ddf972c06b9c7bd59bc90df9b79fe2cdc38b1580478d37c", func := "quirestock/quirkeep.TreeLevels", spec := "treeLevels", inPlace := ["slices.overlaps[int]", "slices.overlaps[string]", "slices.overlaps[*quirestock/tree.node]"], unfollowed := true, recurses := true, apart := false }
def TreeLevelsSaid : Prop := treeLevelsRow.holds Try.pinned (OpenSpec.ofChange treeLevelsSpec)

/-- ITS FALSE NEIGHBOUR: 'it returns false'. Refute it at one input. -/
def treeLevelsWrong : ChangeSpec := { name := "treeLevels", fn := fun _ => fun
  | [d] => { results := [.lit (.bool false)], args := [d] }
  | _ => none }
def TreeLevelsWrongFalsely : Prop := treeLevelsRow.holds Try.pinned (OpenSpec.ofChange treeLevelsWrong)

/-- 'quirkeep.TreeOrder': WHATEVER THE INPUT: true; the input reads as it did. -/
def treeOrderSpec : ChangeSpec := { name := "treeOrder", fn := fun _ => fun
  | [d1, d2, d3] => { results := [.lit (.bool true)], args := [d1, d2, d3] }
  | _ => none }
def treeOrderRow : OpenClaim := { program := "ytgkclgmekbgjmaa", sum := "1caa7e4811dfb0608ddf972c06b9c7bd59bc90df9b79fe2cdc38b1580478d37c", func := "quirestock/quirkeep.TreeOrder", spec := "treeOrder", inPlace := ["slices.overlaps[int]", "slices.overlaps[string]", "slices.overlaps[*quirestock/tree.node]"], unfollowed := true, recurses := true, apart := false }
def TreeOrderSaid : Prop := treeOrderRow.holds Try.pinned (OpenSpec.ofChange treeOrderSpec)

/-- ITS FALSE NEIGHBOUR: 'it returns false'. Refute it at one input. -/
def treeOrderWrong : ChangeSpec := { name := "treeOrder", fn := fun _ => fun
  | [d1, d2, d3] => { results := [.lit (.bool false)], args := [d1, d2, d3] }
  | _ => none }
def TreeOrderWrongFalsely : Prop := treeOrderRow.holds Try.pinned (OpenSpec.ofChange treeOrderWrong)

/- THE SECOND FORM. 'bulk': how many values and letters a reading holds, each counted each time it is reached (what is shared counts as often as it is met; a slice's spare places count too). A statement '..UptoSaid' is the law's where the arguments, and the package variables that the reading takes, are together of bulk at most 1048576: NARROWER than '..Said'. Prove '..Said' where nothing that the law and all that it calls make is longer than what came in: it says more and counts as full. Else prove '..UptoSaid'. A law counts once. -/
mutual
def uptoBulk {H : Type} : DataW H → Nat
  | .lit (.string bytes) => bytes.length + 1
  | .lit _ => 1
  | .nil => 1
  | .ptr d => uptoBulk d + 1
  | .slice elems spare => uptoBulkAll elems + uptoBulkAll spare + 1
  | .agg parts => uptoBulkAll parts + 1
  | .iface _ d => uptoBulk d + 1
  | .map entries => uptoBulkEntries entries + 1
  | .held _ => 1
def uptoBulkAll {H : Type} : List (DataW H) → Nat
  | [] => 0
  | d :: r => uptoBulk d + uptoBulkAll r
def uptoBulkEntries {H : Type} : List (Lit × DataW H) → Nat
  | [] => 0
  | x :: r => uptoBulkEntry x + uptoBulkEntries r
def uptoBulkEntry {H : Type} : Lit × DataW H → Nat
  | (.string bytes, d) => bytes.length + uptoBulk d + 1
  | (_, d) => uptoBulk d + 1
 end
def uptoSmall : (H : Type) → List (DataW H) → Bool := fun _ ds => decide (uptoBulkAll ds ≤ 1048576)
def OpenSpec.upto (s : _root_.Go.ChangeSpec) : _root_.Go.OpenSpec := { _root_.Go.OpenSpec.ofChange s with cond := some uptoSmall }

/-- 'quirkeep.OrderReplays', WHERE WHAT IT READS IS OF BULK AT MOST 1048576: true; the input reads as it did. -/
def orderReplaysUptoRow : OpenClaim := { program := "ytgkclgmekbgjmaa", sum := "1caa7e4811dfb0608ddf972c06b9c7bd59bc90df9b79fe2cdc38b1580478d37c", func := "quirestock/quirkeep.OrderReplays", spec := "orderReplays", unfollowed := true, recurses := true, apart := false, narrowed := true }
def OrderReplaysUptoSaid : Prop := orderReplaysUptoRow.holds Try.pinned (OpenSpec.upto orderReplaysSpec)

/-- 'quirkeep.OrderFaults', WHERE WHAT IT READS IS OF BULK AT MOST 1048576: true; the input reads as it did. -/
def orderFaultsUptoRow : OpenClaim := { program := "ytgkclgmekbgjmaa", sum := "1caa7e4811dfb0608ddf972c06b9c7bd59bc90df9b79fe2cdc38b1580478d37c", func := "quirestock/quirkeep.OrderFaults", spec := "orderFaults", unfollowed := true, recurses := true, apart := false, narrowed := true }
def OrderFaultsUptoSaid : Prop := orderFaultsUptoRow.holds Try.pinned (OpenSpec.upto orderFaultsSpec)

/-- 'quirkeep.GraphParts', WHERE WHAT IT READS IS OF BULK AT MOST 1048576: true; the input reads as it did. -/
def graphPartsUptoRow : OpenClaim := { program := "ytgkclgmekbgjmaa", sum := "1caa7e4811dfb0608ddf972c06b9c7bd59bc90df9b79fe2cdc38b1580478d37c", func := "quirestock/quirkeep.GraphParts", spec := "graphParts", unfollowed := true, recurses := true, apart := false, narrowed := true }
def GraphPartsUptoSaid : Prop := graphPartsUptoRow.holds Try.pinned (OpenSpec.upto graphPartsSpec)

/-- 'quirkeep.WaitVictims', WHERE WHAT IT READS IS OF BULK AT MOST 1048576: true; the input reads as it did. -/
def waitVictimsUptoRow : OpenClaim := { program := "ytgkclgmekbgjmaa", sum := "1caa7e4811dfb0608ddf972c06b9c7bd59bc90df9b79fe2cdc38b1580478d37c", func := "quirestock/quirkeep.WaitVictims", spec := "waitVictims", unfollowed := true, recurses := true, apart := false, narrowed := true }
def WaitVictimsUptoSaid : Prop := waitVictimsUptoRow.holds Try.pinned (OpenSpec.upto waitVictimsSpec)

/-- 'quirkeep.SkewSerial', WHERE WHAT IT READS IS OF BULK AT MOST 1048576: true; the input reads as it did. -/
def skewSerialUptoRow : OpenClaim := { program := "ytgkclgmekbgjmaa", sum := "1caa7e4811dfb0608ddf972c06b9c7bd59bc90df9b79fe2cdc38b1580478d37c", func := "quirestock/quirkeep.SkewSerial", spec := "skewSerial", unfollowed := true, recurses := true, apart := false, narrowed := true }
def SkewSerialUptoSaid : Prop := skewSerialUptoRow.holds Try.pinned (OpenSpec.upto skewSerialSpec)

/-- 'quirkeep.LockAll', WHERE WHAT IT READS IS OF BULK AT MOST 1048576: true; the input reads as it did. -/
def lockAllUptoRow : OpenClaim := { program := "ytgkclgmekbgjmaa", sum := "1caa7e4811dfb0608ddf972c06b9c7bd59bc90df9b79fe2cdc38b1580478d37c", func := "quirestock/quirkeep.LockAll", spec := "lockAll", inPlace := ["slices.overlaps[quirestock/api.LockItem]", "slices.overlaps[quirestock/api.Lock]"], unfollowed := true, recurses := true, apart := false, narrowed := true }
def LockAllUptoSaid : Prop := lockAllUptoRow.holds Try.pinned (OpenSpec.upto lockAllSpec)

/-- 'quirkeep.LockSafe', WHERE WHAT IT READS IS OF BULK AT MOST 1048576: true; the input reads as it did. -/
def lockSafeUptoRow : OpenClaim := { program := "ytgkclgmekbgjmaa", sum := "1caa7e4811dfb0608ddf972c06b9c7bd59bc90df9b79fe2cdc38b1580478d37c", func := "quirestock/quirkeep.LockSafe", spec := "lockSafe", inPlace := ["slices.overlaps[quirestock/api.LockItem]", "slices.overlaps[quirestock/api.Lock]"], unfollowed := true, recurses := true, apart := false, narrowed := true }
def LockSafeUptoSaid : Prop := lockSafeUptoRow.holds Try.pinned (OpenSpec.upto lockSafeSpec)

/-- 'quirkeep.LockOwn', WHERE WHAT IT READS IS OF BULK AT MOST 1048576: true; the input reads as it did. -/
def lockOwnUptoRow : OpenClaim := { program := "ytgkclgmekbgjmaa", sum := "1caa7e4811dfb0608ddf972c06b9c7bd59bc90df9b79fe2cdc38b1580478d37c", func := "quirestock/quirkeep.LockOwn", spec := "lockOwn", inPlace := ["slices.overlaps[quirestock/api.LockItem]", "slices.overlaps[quirestock/api.Lock]"], unfollowed := true, recurses := true, apart := false, narrowed := true }
def LockOwnUptoSaid : Prop := lockOwnUptoRow.holds Try.pinned (OpenSpec.upto lockOwnSpec)

/-- 'quirkeep.TreeLevels', WHERE WHAT IT READS IS OF BULK AT MOST 1048576: true; the input reads as it did. -/
def treeLevelsUptoRow : OpenClaim := { program := "ytgkclgmekbgjmaa", sum := "1caa7e4811dfb0608ddf972c06b9c7bd59bc90df9b79fe2cdc38b1580478d37c", func := "quirestock/quirkeep.TreeLevels", spec := "treeLevels", inPlace := ["slices.overlaps[int]", "slices.overlaps[string]", "slices.overlaps[*quirestock/tree.node]"], unfollowed := true, recurses := true, apart := false, narrowed := true }
def TreeLevelsUptoSaid : Prop := treeLevelsUptoRow.holds Try.pinned (OpenSpec.upto treeLevelsSpec)

/-- 'quirkeep.TreeOrder', WHERE WHAT IT READS IS OF BULK AT MOST 1048576: true; the input reads as it did. -/
def treeOrderUptoRow : OpenClaim := { program := "ytgkclgmekbgjmaa", sum := "1caa7e4811dfb0608ddf972c06b9c7bd59bc90df9b79fe2cdc38b1580478d37c", func := "quirestock/quirkeep.TreeOrder", spec := "treeOrder", inPlace := ["slices.overlaps[int]", "slices.overlaps[string]", "slices.overlaps[*quirestock/tree.node]"], unfollowed := true, recurses := true, apart := false, narrowed := true }
def TreeOrderUptoSaid : Prop := treeOrderUptoRow.holds Try.pinned (OpenSpec.upto treeOrderSpec)

end Rows
end Go.Proofs.Ytgkclgmekbgjmaa
