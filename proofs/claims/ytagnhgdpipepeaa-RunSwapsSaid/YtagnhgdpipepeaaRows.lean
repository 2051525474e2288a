/-
  No cell of these rows narrows 'for every input' (looked for: loops, veiled, ifaces, maps, wideKeys, modest, calm, conditions, laid).
  DERIVED. THE GIVEN ROWS OF THIS SEAT. 7 by the template 'for every input the law returns true; each argument reads behind the call as it read before'; 0 by the template 'total and deterministic' (their statements: YtagnhgdpipepeaaTotals.lean).
  GIVEN WITH THE SEED: the statements are not yours to turn. If you find one false, say at which input.
  Laid BY PROGRAM, IN A SANDBOX (cutbox-rows.mjs): the forced cells as the released guide's own fill.sh prints them over the translation f73475ba0ae2ff40… (all of the seat's roots in one cut). By AI agents, Wed Nov 11 2026. No macro, syntax, notation, axiom, sorry.
-/
import Derived.Test.YtagnhgdpipepeaaChecked
import GoSem.Claim
import GoSem.ClaimJoined
import GoSem.ClaimMapViews
import Derived.JoinedTies
import Derived.KernelRfl
namespace Go.Proofs.Ytagnhgdpipepeaa
/- THE CELL 'sum', in the pinned program and in every row, IS THE sha256 OF THE DUMP (.gsa) THAT YtagnhgdpipepeaaProg.lean LOADS. Nothing in Lean hashes anything: it is a label: what it is worth is what the hold of that sum in a sandbox is worth. -/
noncomputable def Try.pinned : Pinned := { name := "ytagnhgdpipepeaa", sum := "f73475ba0ae2ff403dbaae8f8770927cf8465233976cf4ef4a90051687564d37", checked := Try.checked }
namespace Rows
def none {H : Type} : Left H := { results := [], args := [] }

/-- 'quirkeep.GraphOrder': WHATEVER THE INPUT: true; the input reads as it did. -/
def graphOrderSpec : ChangeSpec := { name := "graphOrder", fn := fun _ => fun
  | [d1, d2] => { results := [.lit (.bool true)], args := [d1, d2] }
  | _ => none }
def graphOrderRow : OpenClaim := { program := "ytagnhgdpipepeaa", sum := "f73475ba0ae2ff403dbaae8f8770927cf8465233976cf4ef4a90051687564d37", func := "quirestock/quirkeep.GraphOrder", spec := "graphOrder", unfollowed := true, recurses := true, apart := false }
def GraphOrderSaid : Prop := graphOrderRow.holds Try.pinned (OpenSpec.ofChange graphOrderSpec)

/-- ITS FALSE NEIGHBOUR: 'it returns false'. Refute it at one input. -/
def graphOrderWrong : ChangeSpec := { name := "graphOrder", fn := fun _ => fun
  | [d1, d2] => { results := [.lit (.bool false)], args := [d1, d2] }
  | _ => none }
def GraphOrderWrongFalsely : Prop := graphOrderRow.holds Try.pinned (OpenSpec.ofChange graphOrderWrong)

/-- 'quirkeep.WaitDead': WHATEVER THE INPUT: true; the input reads as it did. -/
def waitDeadSpec : ChangeSpec := { name := "waitDead", fn := fun _ => fun
  | [d1, d2] => { results := [.lit (.bool true)], args := [d1, d2] }
  | _ => none }
def waitDeadRow : OpenClaim := { program := "ytagnhgdpipepeaa", sum := "f73475ba0ae2ff403dbaae8f8770927cf8465233976cf4ef4a90051687564d37", func := "quirestock/quirkeep.WaitDead", spec := "waitDead", unfollowed := true, recurses := true, apart := false }
def WaitDeadSaid : Prop := waitDeadRow.holds Try.pinned (OpenSpec.ofChange waitDeadSpec)

/-- ITS FALSE NEIGHBOUR: 'it returns false'. Refute it at one input. -/
def waitDeadWrong : ChangeSpec := { name := "waitDead", fn := fun _ => fun
  | [d1, d2] => { results := [.lit (.bool false)], args := [d1, d2] }
  | _ => none }
def WaitDeadWrongFalsely : Prop := waitDeadRow.holds Try.pinned (OpenSpec.ofChange waitDeadWrong)

/-- 'quirkeep.WaitRule': WHATEVER THE INPUT: true; the input reads as it did. -/
def waitRuleSpec : ChangeSpec := { name := "waitRule", fn := fun _ => fun
  | [d1, d2] => { results := [.lit (.bool true)], args := [d1, d2] }
  | _ => none }
def waitRuleRow : OpenClaim := { program := "ytagnhgdpipepeaa", sum := "f73475ba0ae2ff403dbaae8f8770927cf8465233976cf4ef4a90051687564d37", func := "quirestock/quirkeep.WaitRule", spec := "waitRule", recurses := true, apart := false }
def WaitRuleSaid : Prop := waitRuleRow.holds Try.pinned (OpenSpec.ofChange waitRuleSpec)

/-- ITS FALSE NEIGHBOUR: 'it returns false'. Refute it at one input. -/
def waitRuleWrong : ChangeSpec := { name := "waitRule", fn := fun _ => fun
  | [d1, d2] => { results := [.lit (.bool false)], args := [d1, d2] }
  | _ => none }
def WaitRuleWrongFalsely : Prop := waitRuleRow.holds Try.pinned (OpenSpec.ofChange waitRuleWrong)

/-- 'quirkeep.GraphParts': WHATEVER THE INPUT: true; the input reads as it did. -/
def graphPartsSpec : ChangeSpec := { name := "graphParts", fn := fun _ => fun
  | [d1, d2] => { results := [.lit (.bool true)], args := [d1, d2] }
  | _ => none }
def graphPartsRow : OpenClaim := { program := "ytagnhgdpipepeaa", sum := "f73475ba0ae2ff403dbaae8f8770927cf8465233976cf4ef4a90051687564d37", func := "quirestock/quirkeep.GraphParts", spec := "graphParts", unfollowed := true, recurses := true, apart := false }
def GraphPartsSaid : Prop := graphPartsRow.holds Try.pinned (OpenSpec.ofChange graphPartsSpec)

/-- ITS FALSE NEIGHBOUR: 'it returns false'. Refute it at one input. -/
def graphPartsWrong : ChangeSpec := { name := "graphParts", fn := fun _ => fun
  | [d1, d2] => { results := [.lit (.bool false)], args := [d1, d2] }
  | _ => none }
def GraphPartsWrongFalsely : Prop := graphPartsRow.holds Try.pinned (OpenSpec.ofChange graphPartsWrong)

/-- 'quirkeep.WaitVictims': WHATEVER THE INPUT: true; the input reads as it did. -/
def waitVictimsSpec : ChangeSpec := { name := "waitVictims", fn := fun _ => fun
  | [d1, d2] => { results := [.lit (.bool true)], args := [d1, d2] }
  | _ => none }
def waitVictimsRow : OpenClaim := { program := "ytagnhgdpipepeaa", sum := "f73475ba0ae2ff403dbaae8f8770927cf8465233976cf4ef4a90051687564d37", func := "quirestock/quirkeep.WaitVictims", spec := "waitVictims", unfollowed := true, recurses := true, apart := false }
def WaitVictimsSaid : Prop := waitVictimsRow.holds Try.pinned (OpenSpec.ofChange waitVictimsSpec)

/-- ITS FALSE NEIGHBOUR: 'it returns false'. Refute it at one input. -/
def waitVictimsWrong : ChangeSpec := { name := "waitVictims", fn := fun _ => fun
  | [d1, d2] => { results := [.lit (.bool false)], args := [d1, d2] }
  | _ => none }
def WaitVictimsWrongFalsely : Prop := waitVictimsRow.holds Try.pinned (OpenSpec.ofChange waitVictimsWrong)

/-- 'quirkeep.RunSwaps': WHATEVER THE INPUT: true; the input reads as it did. -/
def runSwapsSpec : ChangeSpec := { name := "runSwaps", fn := fun _ => fun
  | [d1, d2] => { results := [.lit (.bool true)], args := [d1, d2] }
  | _ => none }
def runSwapsRow : OpenClaim := { program := "ytagnhgdpipepeaa", sum := "f73475ba0ae2ff403dbaae8f8770927cf8465233976cf4ef4a90051687564d37", func := "quirestock/quirkeep.RunSwaps", spec := "runSwaps", unfollowed := true, recurses := true, apart := false }
def RunSwapsSaid : Prop := runSwapsRow.holds Try.pinned (OpenSpec.ofChange runSwapsSpec)

/-- ITS FALSE NEIGHBOUR: 'it returns false'. Refute it at one input. -/
def runSwapsWrong : ChangeSpec := { name := "runSwaps", fn := fun _ => fun
  | [d1, d2] => { results := [.lit (.bool false)], args := [d1, d2] }
  | _ => none }
def RunSwapsWrongFalsely : Prop := runSwapsRow.holds Try.pinned (OpenSpec.ofChange runSwapsWrong)

/-- 'quirkeep.RunSerial': WHATEVER THE INPUT: true; the input reads as it did. -/
def runSerialSpec : ChangeSpec := { name := "runSerial", fn := fun _ => fun
  | [d1, d2] => { results := [.lit (.bool true)], args := [d1, d2] }
  | _ => none }
def runSerialRow : OpenClaim := { program := "ytagnhgdpipepeaa", sum := "f73475ba0ae2ff403dbaae8f8770927cf8465233976cf4ef4a90051687564d37", func := "quirestock/quirkeep.RunSerial", spec := "runSerial", unfollowed := true, recurses := true, apart := false }
def RunSerialSaid : Prop := runSerialRow.holds Try.pinned (OpenSpec.ofChange runSerialSpec)

/-- ITS FALSE NEIGHBOUR: 'it returns false'. Refute it at one input. -/
def runSerialWrong : ChangeSpec := { name := "runSerial", fn := fun _ => fun
  | [d1, d2] => { results := [.lit (.bool false)], args := [d1, d2] }
  | _ => none }
def RunSerialWrongFalsely : Prop := runSerialRow.holds Try.pinned (OpenSpec.ofChange runSerialWrong)

/- THE SECOND FORM. 'bulk': how many values and letters a reading holds, each counted each time it is reached (what is shared counts as often as it is met; a slice's spare places count too). A statement '..UptoSaid' is the law's where the arguments, and the package variables that the reading takes, are together of bulk at most 1048576: NARROWER than '..Said'. Prove '..Said' where nothing that the law and all that it calls make is longer than what came in: it says more and counts as full. Else prove '..UptoSaid'. A law counts once. -/
mutual
def uptoBulk {H : Type} : DataW H → Nat
  | .lit (.string bytes) => bytes.length + 1
  | .lit _ => 1
  | .nil => 1
  | .ptr d => uptoBulk d + 1
  | .slice elems spare => uptoBulkAll elems + uptoBulkAll spare + 1
  | .agg parts => uptoBulkAll parts + 1
  | .iface _ d => uptoBulk d + 1
  | .map entries => uptoBulkEntries entries + 1
  | .held _ => 1
def uptoBulkAll {H : Type} : List (DataW H) → Nat
  | [] => 0
  | d :: r => uptoBulk d + uptoBulkAll r
def uptoBulkEntries {H : Type} : List (Lit × DataW H) → Nat
  | [] => 0
  | x :: r => uptoBulkEntry x + uptoBulkEntries r
def uptoBulkEntry {H : Type} : Lit × DataW H → Nat
  | (.string bytes, d) => bytes.length + uptoBulk d + 1
  | (_, d) => uptoBulk d + 1
 end
def uptoSmall : (H : Type) → List (DataW H) → Bool := fun _ ds => decide (uptoBulkAll ds ≤ 1048576)
def OpenSpec.upto (s : _root_.Go.ChangeSpec) : _root_.Go.OpenSpec := { _root_.Go.OpenSpec.ofChange s with cond := some uptoSmall }

/-- 'quirkeep.GraphOrder', WHERE WHAT IT READS IS OF BULK AT MOST 1048576: true; the input reads as it did. -/
def graphOrderUptoRow : OpenClaim := { program := "ytagnhgdpipepeaa", sum := "f73475ba0ae2ff403dbaae8f8770927cf8465233976cf4ef4a90051687564d37", func := "quirestock/quirkeep.GraphOrder", spec := "graphOrder", unfollowed := true, recurses := true, apart := false, narrowed := true }
def GraphOrderUptoSaid : Prop := graphOrderUptoRow.holds Try.pinned (OpenSpec.upto graphOrderSpec)

/-- 'quirkeep.WaitDead', WHERE WHAT IT READS IS OF BULK AT MOST 1048576: true; the input reads as it did. -/
def waitDeadUptoRow : OpenClaim := { program := "ytagnhgdpipepeaa", sum := "f73475ba0ae2ff403dbaae8f8770927cf8465233976cf4ef4a90051687564d37", func := "quirestock/quirkeep.WaitDead", spec := "waitDead", unfollowed := true, recurses := true, apart := false, narrowed := true }
def WaitDeadUptoSaid : Prop := waitDeadUptoRow.holds Try.pinned (OpenSpec.upto waitDeadSpec)

/-- 'quirkeep.WaitRule', WHERE WHAT IT READS IS OF BULK AT MOST 1048576: true; the input reads as it did. -/
def waitRuleUptoRow : OpenClaim := { program := "ytagnhgdpipepeaa", sum := "f73475ba0ae2ff403dbaae8f8770927cf8465233976cf4ef4a90051687564d37", func := "quirestock/quirkeep.WaitRule", spec := "waitRule", recurses := true, apart := false, narrowed := true }
def WaitRuleUptoSaid : Prop := waitRuleUptoRow.holds Try.pinned (OpenSpec.upto waitRuleSpec)

/-- 'quirkeep.GraphParts', WHERE WHAT IT READS IS OF BULK AT MOST 1048576: true; the input reads as it did. -/
def graphPartsUptoRow : OpenClaim := { program := "ytagnhgdpipepeaa", sum := "f73475ba0ae2ff403dbaae8f8770927cf8465233976cf4ef4a90051687564d37", func := "quirestock/quirkeep.GraphParts", spec := "graphParts", unfollowed := true, recurses := true, apart := false, narrowed := true }
def GraphPartsUptoSaid : Prop := graphPartsUptoRow.holds Try.pinned (OpenSpec.upto graphPartsSpec)

/-- 'quirkeep.WaitVictims', WHERE WHAT IT READS IS OF BULK AT MOST 1048576: true; the input reads as it did. -/
def waitVictimsUptoRow : OpenClaim := { program := "ytagnhgdpipepeaa", sum := "f73475ba0ae2ff403dbaae8f8770927cf8465233976cf4ef4a90051687564d37", func := "quirestock/quirkeep.WaitVictims", spec := "waitVictims", unfollowed := true, recurses := true, apart := false, narrowed := true }
def WaitVictimsUptoSaid : Prop := waitVictimsUptoRow.holds Try.pinned (OpenSpec.upto waitVictimsSpec)

/-- 'quirkeep.RunSwaps', WHERE WHAT IT READS IS OF BULK AT MOST 1048576: true; the input reads as it did. -/
def runSwapsUptoRow : OpenClaim := { program := "ytagnhgdpipepeaa", sum := "f73475ba0ae2ff403dbaae8f8770927cf8465233976cf4ef4a90051687564d37", func := "quirestock/quirkeep.RunSwaps", spec := "runSwaps", unfollowed := true, recurses := true, apart := false, narrowed := true }
def RunSwapsUptoSaid : Prop := runSwapsUptoRow.holds Try.pinned (OpenSpec.upto runSwapsSpec)

/-- 'quirkeep.RunSerial', WHERE WHAT IT READS IS OF BULK AT MOST 1048576: true; the input reads as it did. -/
def runSerialUptoRow : OpenClaim := { program := "ytagnhgdpipepeaa", sum := "f73475ba0ae2ff403dbaae8f8770927cf8465233976cf4ef4a90051687564d37", func := "quirestock/quirkeep.RunSerial", spec := "runSerial", unfollowed := true, recurses := true, apart := false, narrowed := true }
def RunSerialUptoSaid : Prop := runSerialUptoRow.holds Try.pinned (OpenSpec.upto runSerialSpec)

end Rows
end Go.Proofs.Ytagnhgdpipepeaa
