/-
  No cell of these rows narrows 'for every input' (looked for: loops, veiled, ifaces, maps, wideKeys, modest, calm, conditions, laid).
  DERIVED. THE GIVEN ROWS OF THIS SEAT. 7 by the template 'for every input the law returns true; each argument reads behind the call as it read before'; 0 by the template 'total and deterministic' (their statements: YtnhhjjhhicmfpaaTotals.lean).
  GIVEN WITH THE SEED: the statements are not yours to turn. If you find one false, say at which input.
  Laid BY PROGRAM, IN A SANDBOX (cutbox-rows.mjs): the forced cells as the released guide's own fill.sh prints them over the translation 2ec0f0543270f20c… (all of the seat's roots in one cut). By AI agents, Wed Nov 11 2026. No macro, syntax, notation, axiom, sorry.
-/
import Derived.Test.YtnhhjjhhicmfpaaChecked
import GoSem.Claim
import GoSem.ClaimJoined
import GoSem.ClaimMapViews
import Derived.JoinedTies
import Derived.KernelRfl
namespace Go.Proofs.Ytnhhjjhhicmfpaa
/- THE CELL 'sum', in the pinned program and in every row, IS THE sha256 OF THE DUMP (.gsa) THAT YtnhhjjhhicmfpaaProg.lean LOADS. Nothing in Lean hashes anything: it is a label: what it is worth is what the hold of that sum in a sandbox is worth. -/
noncomputable def Try.pinned : Pinned := { name := "ytnhhjjhhicmfpaa", sum := "2ec0f0543270f20cd516a068de6ad5d41ed3a480270c1f60dac151f2eee5d11f", checked := Try.checked }
namespace Rows
def none {H : Type} : Left H := { results := [], args := [] }

/-- 'quirkeep.RunSerial': WHATEVER THE INPUT: true; the input reads as it did. -/
def runSerialSpec : ChangeSpec := { name := "runSerial", fn := fun _ => fun
  | [d1, d2] => { results := [.lit (.bool true)], args := [d1, d2] }
  | _ => none }
def runSerialRow : OpenClaim := { program := "ytnhhjjhhicmfpaa", sum := "2ec0f0543270f20cd516a068de6ad5d41ed3a480270c1f60dac151f2eee5d11f", func := "quirestock/quirkeep.RunSerial", spec := "runSerial", unfollowed := true, recurses := true, plainKeys := false, apart := false }
def RunSerialSaid : Prop := runSerialRow.holds Try.pinned (OpenSpec.ofChange runSerialSpec)

/-- ITS FALSE NEIGHBOUR: 'it returns false'. Refute it at one input. -/
def runSerialWrong : ChangeSpec := { name := "runSerial", fn := fun _ => fun
  | [d1, d2] => { results := [.lit (.bool false)], args := [d1, d2] }
  | _ => none }
def RunSerialWrongFalsely : Prop := runSerialRow.holds Try.pinned (OpenSpec.ofChange runSerialWrong)

/-- 'quirkeep.StampOrder': WHATEVER THE INPUT: true; the input reads as it did. -/
def stampOrderSpec : ChangeSpec := { name := "stampOrder", fn := fun _ => fun
  | [d] => { results := [.lit (.bool true)], args := [d] }
  | _ => none }
def stampOrderRow : OpenClaim := { program := "ytnhhjjhhicmfpaa", sum := "2ec0f0543270f20cd516a068de6ad5d41ed3a480270c1f60dac151f2eee5d11f", func := "quirestock/quirkeep.StampOrder", spec := "stampOrder", unfollowed := true, recurses := true, plainKeys := false, apart := false }
def StampOrderSaid : Prop := stampOrderRow.holds Try.pinned (OpenSpec.ofChange stampOrderSpec)

/-- ITS FALSE NEIGHBOUR: 'it returns false'. Refute it at one input. -/
def stampOrderWrong : ChangeSpec := { name := "stampOrder", fn := fun _ => fun
  | [d] => { results := [.lit (.bool false)], args := [d] }
  | _ => none }
def StampOrderWrongFalsely : Prop := stampOrderRow.holds Try.pinned (OpenSpec.ofChange stampOrderWrong)

/-- 'quirkeep.SeeLike': WHATEVER THE INPUT: true; the input reads as it did. -/
def seeLikeSpec : ChangeSpec := { name := "seeLike", fn := fun _ => fun
  | [d1, d2] => { results := [.lit (.bool true)], args := [d1, d2] }
  | _ => none }
def seeLikeRow : OpenClaim := { program := "ytnhhjjhhicmfpaa", sum := "2ec0f0543270f20cd516a068de6ad5d41ed3a480270c1f60dac151f2eee5d11f", func := "quirestock/quirkeep.SeeLike", spec := "seeLike", unfollowed := true, recurses := true, plainKeys := false, apart := false }
def SeeLikeSaid : Prop := seeLikeRow.holds Try.pinned (OpenSpec.ofChange seeLikeSpec)

/-- ITS FALSE NEIGHBOUR: 'it returns false'. Refute it at one input. -/
def seeLikeWrong : ChangeSpec := { name := "seeLike", fn := fun _ => fun
  | [d1, d2] => { results := [.lit (.bool false)], args := [d1, d2] }
  | _ => none }
def SeeLikeWrongFalsely : Prop := seeLikeRow.holds Try.pinned (OpenSpec.ofChange seeLikeWrong)

/-- 'quirkeep.SeeSerial': WHATEVER THE INPUT: true; the input reads as it did. -/
def seeSerialSpec : ChangeSpec := { name := "seeSerial", fn := fun _ => fun
  | [d] => { results := [.lit (.bool true)], args := [d] }
  | _ => none }
def seeSerialRow : OpenClaim := { program := "ytnhhjjhhicmfpaa", sum := "2ec0f0543270f20cd516a068de6ad5d41ed3a480270c1f60dac151f2eee5d11f", func := "quirestock/quirkeep.SeeSerial", spec := "seeSerial", unfollowed := true, recurses := true, plainKeys := false, apart := false }
def SeeSerialSaid : Prop := seeSerialRow.holds Try.pinned (OpenSpec.ofChange seeSerialSpec)

/-- ITS FALSE NEIGHBOUR: 'it returns false'. Refute it at one input. -/
def seeSerialWrong : ChangeSpec := { name := "seeSerial", fn := fun _ => fun
  | [d] => { results := [.lit (.bool false)], args := [d] }
  | _ => none }
def SeeSerialWrongFalsely : Prop := seeSerialRow.holds Try.pinned (OpenSpec.ofChange seeSerialWrong)

/-- 'quirkeep.SkewSerial': WHATEVER THE INPUT: true; the input reads as it did. -/
def skewSerialSpec : ChangeSpec := { name := "skewSerial", fn := fun _ => fun
  | [d] => { results := [.lit (.bool true)], args := [d] }
  | _ => none }
def skewSerialRow : OpenClaim := { program := "ytnhhjjhhicmfpaa", sum := "2ec0f0543270f20cd516a068de6ad5d41ed3a480270c1f60dac151f2eee5d11f", func := "quirestock/quirkeep.SkewSerial", spec := "skewSerial", unfollowed := true, recurses := true, plainKeys := false, apart := false }
def SkewSerialSaid : Prop := skewSerialRow.holds Try.pinned (OpenSpec.ofChange skewSerialSpec)

/-- ITS FALSE NEIGHBOUR: 'it returns false'. Refute it at one input. -/
def skewSerialWrong : ChangeSpec := { name := "skewSerial", fn := fun _ => fun
  | [d] => { results := [.lit (.bool false)], args := [d] }
  | _ => none }
def SkewSerialWrongFalsely : Prop := skewSerialRow.holds Try.pinned (OpenSpec.ofChange skewSerialWrong)

/-- 'quirkeep.GraphParts': WHATEVER THE INPUT: true; the input reads as it did. -/
def graphPartsSpec : ChangeSpec := { name := "graphParts", fn := fun _ => fun
  | [d1, d2] => { results := [.lit (.bool true)], args := [d1, d2] }
  | _ => none }
def graphPartsRow : OpenClaim := { program := "ytnhhjjhhicmfpaa", sum := "2ec0f0543270f20cd516a068de6ad5d41ed3a480270c1f60dac151f2eee5d11f", func := "quirestock/quirkeep.GraphParts", spec := "graphParts", unfollowed := true, recurses := true, plainKeys := false, apart := false }
def GraphPartsSaid : Prop := graphPartsRow.holds Try.pinned (OpenSpec.ofChange graphPartsSpec)

/-- ITS FALSE NEIGHBOUR: 'it returns false'. Refute it at one input. -/
def graphPartsWrong : ChangeSpec := { name := "graphParts", fn := fun _ => fun
  | [d1, d2] => { results := [.lit (.bool false)], args := [d1, d2] }
  | _ => none }
def GraphPartsWrongFalsely : Prop := graphPartsRow.holds Try.pinned (OpenSpec.ofChange graphPartsWrong)

/-- 'quirkeep.WaitVictims': WHATEVER THE INPUT: true; the input reads as it did. -/
def waitVictimsSpec : ChangeSpec := { name := "waitVictims", fn := fun _ => fun
  | [d1, d2] => { results := [.lit (.bool true)], args := [d1, d2] }
  | _ => none }
def waitVictimsRow : OpenClaim := { program := "ytnhhjjhhicmfpaa", sum := "2ec0f0543270f20cd516a068de6ad5d41ed3a480270c1f60dac151f2eee5d11f", func := "quirestock/quirkeep.WaitVictims", spec := "waitVictims", unfollowed := true, recurses := true, plainKeys := false, apart := false }
def WaitVictimsSaid : Prop := waitVictimsRow.holds Try.pinned (OpenSpec.ofChange waitVictimsSpec)

/-- ITS FALSE NEIGHBOUR: 'it returns false'. Refute it at one input. -/
def waitVictimsWrong : ChangeSpec := { name := "waitVictims", fn := fun _ => fun
  | [d1, d2] => { results := [.lit (.bool false)], args := [d1, d2] }
  | _ => none }
def WaitVictimsWrongFalsely : Prop := waitVictimsRow.holds Try.pinned (OpenSpec.ofChange waitVictimsWrong)

/- THE SECOND FORM. 'bulk': how many values and letters a reading holds, each counted each time it is reached (what is shared counts as often as it is met; a slice's spare places count too). A statement '..UptoSaid' is the law's where the arguments, and the package variables that the reading takes, are together of bulk at most 1048576: NARROWER than '..Said'. Prove '..Said' where nothing that the law and all that it calls make is longer than what came in: it says more and counts as full. Else prove '..UptoSaid'. A law counts once. -/
mutual
def uptoBulk {H : Type} : DataW H → Nat
  | .lit (.string bytes) => bytes.length + 1
  | .lit _ => 1
  | .nil => 1
  | .ptr d => uptoBulk d + 1
  | .slice elems spare => uptoBulkAll elems + uptoBulkAll spare + 1
  | .agg parts => uptoBulkAll parts + 1
  | .iface _ d => uptoBulk d + 1
  | .map entries => uptoBulkEntries entries + 1
  | .held _ => 1
def uptoBulkAll {H : Type} : List (DataW H) → Nat
  | [] => 0
  | d :: r => uptoBulk d + uptoBulkAll r
def uptoBulkEntries {H : Type} : List (Lit × DataW H) → Nat
  | [] => 0
  | x :: r => uptoBulkEntry x + uptoBulkEntries r
def uptoBulkEntry {H : Type} : Lit × DataW H → Nat
  | (.string bytes, d) => bytes.length + uptoBulk d + 1
  | (_, d) => uptoBulk d + 1
 end
def uptoSmall : (H : Type) → List (DataW H) → Bool := fun _ ds => decide (uptoBulkAll ds ≤ 1048576)
def OpenSpec.upto (s : _root_.Go.ChangeSpec) : _root_.Go.OpenSpec := { _root_.Go.OpenSpec.ofChange s with cond := some uptoSmall }

/-- 'quirkeep.RunSerial', WHERE WHAT IT READS IS OF BULK AT MOST 1048576: true; the input reads as it did. -/
def runSerialUptoRow : OpenClaim := { program := "ytnhhjjhhicmfpaa", sum := "2ec0f0543270f20cd516a068de6ad5d41ed3a480270c1f60dac151f2eee5d11f", func := "quirestock/quirkeep.RunSerial", spec := "runSerial", unfollowed := true, recurses := true, plainKeys := false, apart := false, narrowed := true }
def RunSerialUptoSaid : Prop := runSerialUptoRow.holds Try.pinned (OpenSpec.upto runSerialSpec)

/-- 'quirkeep.StampOrder', WHERE WHAT IT READS IS OF BULK AT MOST 1048576: true; the input reads as it did. -/
def stampOrderUptoRow : OpenClaim := { program := "ytnhhjjhhicmfpaa", sum := "2ec0f0543270f20cd516a068de6ad5d41ed3a480270c1f60dac151f2eee5d11f", func := "quirestock/quirkeep.StampOrder", spec := "stampOrder", unfollowed := true, recurses := true, plainKeys := false, apart := false, narrowed := true }
def StampOrderUptoSaid : Prop := stampOrderUptoRow.holds Try.pinned (OpenSpec.upto stampOrderSpec)

/-- 'quirkeep.SeeLike', WHERE WHAT IT READS IS OF BULK AT MOST 1048576: true; the input reads as it did. -/
def seeLikeUptoRow : OpenClaim := { program := "ytnhhjjhhicmfpaa", sum := "2ec0f0543270f20cd516a068de6ad5d41ed3a480270c1f60dac151f2eee5d11f", func := "quirestock/quirkeep.SeeLike", spec := "seeLike", unfollowed := true, recurses := true, plainKeys := false, apart := false, narrowed := true }
def SeeLikeUptoSaid : Prop := seeLikeUptoRow.holds Try.pinned (OpenSpec.upto seeLikeSpec)

/-- 'quirkeep.SeeSerial', WHERE WHAT IT READS IS OF BULK AT MOST 1048576: true; the input reads as it did. -/
def seeSerialUptoRow : OpenClaim := { program := "ytnhhjjhhicmfpaa", sum := "2ec0f0543270f20cd516a068de6ad5d41ed3a480270c1f60dac151f2eee5d11f", func := "quirestock/quirkeep.SeeSerial", spec := "seeSerial", unfollowed := true, recurses := true, plainKeys := false, apart := false, narrowed := true }
def SeeSerialUptoSaid : Prop := seeSerialUptoRow.holds Try.pinned (OpenSpec.upto seeSerialSpec)

/-- 'quirkeep.SkewSerial', WHERE WHAT IT READS IS OF BULK AT MOST 1048576: true; the input reads as it did. -/
def skewSerialUptoRow : OpenClaim := { program := "ytnhhjjhhicmfpaa", sum := "2ec0f0543270f20cd516a068de6ad5d41ed3a480270c1f60dac151f2eee5d11f", func := "quirestock/quirkeep.SkewSerial", spec := "skewSerial", unfollowed := true, recurses := true, plainKeys := false, apart := false, narrowed := true }
def SkewSerialUptoSaid : Prop := skewSerialUptoRow.holds Try.pinned (OpenSpec.upto skewSerialSpec)

/-- 'quirkeep.GraphParts', WHERE WHAT IT READS IS OF BULK AT MOST 1048576: true; the input reads as it did. -/
def graphPartsUptoRow : OpenClaim := { program := "ytnhhjjhhicmfpaa", sum := "2ec0f0543270f20cd516a068de6ad5d41ed3a480270c1f60dac151f2eee5d11f", func := "quirestock/quirkeep.GraphParts", spec := "graphParts", unfollowed := true, recurses := true, plainKeys := false, apart := false, narrowed := true }
def GraphPartsUptoSaid : Prop := graphPartsUptoRow.holds Try.pinned (OpenSpec.upto graphPartsSpec)

/-- 'quirkeep.WaitVictims', WHERE WHAT IT READS IS OF BULK AT MOST 1048576: true; the input reads as it did. -/
def waitVictimsUptoRow : OpenClaim := { program := "ytnhhjjhhicmfpaa", sum := "2ec0f0543270f20cd516a068de6ad5d41ed3a480270c1f60dac151f2eee5d11f", func := "quirestock/quirkeep.WaitVictims", spec := "waitVictims", unfollowed := true, recurses := true, plainKeys := false, apart := false, narrowed := true }
def WaitVictimsUptoSaid : Prop := waitVictimsUptoRow.holds Try.pinned (OpenSpec.upto waitVictimsSpec)

end Rows
end Go.Proofs.Ytnhhjjhhicmfpaa
