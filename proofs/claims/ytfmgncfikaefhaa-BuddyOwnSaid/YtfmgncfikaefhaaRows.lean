/-
  No cell of these rows narrows 'for every input' (looked for: loops, veiled, ifaces, maps, wideKeys, modest, calm, conditions, laid).
  DERIVED. THE GIVEN ROWS OF THIS SEAT. 6 by the template 'for every input the law returns true; each argument reads behind the call as it read before'; 0 by the template 'total and deterministic' (their statements: YtfmgncfikaefhaaTotals.lean).
  GIVEN WITH THE SEED: the statements are not yours to turn. If you find one false, say at which input.
  Laid BY PROGRAM, IN A SANDBOX (cutbox-rows.mjs): the forced cells as the released guide's own fill.sh prints them over the translation afd242b832f4a5de… (all of the seat's roots in one cut). By AI agents, Wed Nov 11 2026. No macro, syntax, notation, axiom, sorry.
-/
import Derived.Test.YtfmgncfikaefhaaChecked
import GoSem.Claim
import GoSem.ClaimJoined
import GoSem.ClaimMapViews
import Derived.JoinedTies
import Derived.KernelRfl
namespace Go.Proofs.Ytfmgncfikaefhaa
/- THE CELL 'sum', in the pinned program and in every row, IS THE sha256 OF THE DUMP (.gsa) THAT YtfmgncfikaefhaaProg.lean LOADS. Nothing in Lean hashes anything: it is a label: what it is worth is what the hold of that sum in a sandbox is worth. -/
noncomputable def Try.pinned : Pinned := { name := "ytfmgncfikaefhaa", sum := "afd242b832f4a5de6fd283827337bed04d89ec3b58115a771d5299b7407e1836", checked := Try.checked }
namespace Rows
def none {H : Type} : Left H := { results := [], args := [] }

/-- 'quirkeep.RedoSame': WHATEVER THE INPUT: true; the input reads as it did. -/
def redoSameSpec : ChangeSpec := { name := "redoSame", fn := fun _ => fun
  | [d1, d2, d3] => { results := [.lit (.bool true)], args := [d1, d2, d3] }
  | _ => none }
def redoSameRow : OpenClaim := { program := "ytfmgncfikaefhaa", sum := "afd242b832f4a5de6fd283827337bed04d89ec3b58115a771d5299b7407e1836", func := "quirestock/quirkeep.RedoSame", spec := "redoSame", unfollowed := true, recurses := true, apart := false }
def RedoSameSaid : Prop := redoSameRow.holds Try.pinned (OpenSpec.ofChange redoSameSpec)

/-- ITS FALSE NEIGHBOUR: 'it returns false'. Refute it at one input. -/
def redoSameWrong : ChangeSpec := { name := "redoSame", fn := fun _ => fun
  | [d1, d2, d3] => { results := [.lit (.bool false)], args := [d1, d2, d3] }
  | _ => none }
def RedoSameWrongFalsely : Prop := redoSameRow.holds Try.pinned (OpenSpec.ofChange redoSameWrong)

/-- 'quirkeep.RedoKeeps': WHATEVER THE INPUT: true; the input reads as it did. -/
def redoKeepsSpec : ChangeSpec := { name := "redoKeeps", fn := fun _ => fun
  | [d1, d2] => { results := [.lit (.bool true)], args := [d1, d2] }
  | _ => none }
def redoKeepsRow : OpenClaim := { program := "ytfmgncfikaefhaa", sum := "afd242b832f4a5de6fd283827337bed04d89ec3b58115a771d5299b7407e1836", func := "quirestock/quirkeep.RedoKeeps", spec := "redoKeeps", unfollowed := true, recurses := true, apart := false }
def RedoKeepsSaid : Prop := redoKeepsRow.holds Try.pinned (OpenSpec.ofChange redoKeepsSpec)

/-- ITS FALSE NEIGHBOUR: 'it returns false'. Refute it at one input. -/
def redoKeepsWrong : ChangeSpec := { name := "redoKeeps", fn := fun _ => fun
  | [d1, d2] => { results := [.lit (.bool false)], args := [d1, d2] }
  | _ => none }
def RedoKeepsWrongFalsely : Prop := redoKeepsRow.holds Try.pinned (OpenSpec.ofChange redoKeepsWrong)

/-- 'quirkeep.RedoOwn': WHATEVER THE INPUT: true; the input reads as it did. -/
def redoOwnSpec : ChangeSpec := { name := "redoOwn", fn := fun _ => fun
  | [d1, d2, d3, d4] => { results := [.lit (.bool true)], args := [d1, d2, d3, d4] }
  | _ => none }
def redoOwnRow : OpenClaim := { program := "ytfmgncfikaefhaa", sum := "afd242b832f4a5de6fd283827337bed04d89ec3b58115a771d5299b7407e1836", func := "quirestock/quirkeep.RedoOwn", spec := "redoOwn", unfollowed := true, recurses := true, apart := false }
def RedoOwnSaid : Prop := redoOwnRow.holds Try.pinned (OpenSpec.ofChange redoOwnSpec)

/-- ITS FALSE NEIGHBOUR: 'it returns false'. Refute it at one input. -/
def redoOwnWrong : ChangeSpec := { name := "redoOwn", fn := fun _ => fun
  | [d1, d2, d3, d4] => { results := [.lit (.bool false)], args := [d1, d2, d3, d4] }
  | _ => none }
def RedoOwnWrongFalsely : Prop := redoOwnRow.holds Try.pinned (OpenSpec.ofChange redoOwnWrong)

/-- 'quirkeep.SkewReads': WHATEVER THE INPUT: true; the input reads as it did. -/
def skewReadsSpec : ChangeSpec := { name := "skewReads", fn := fun _ => fun
  | [d] => { results := [.lit (.bool true)], args := [d] }
  | _ => none }
def skewReadsRow : OpenClaim := { program := "ytfmgncfikaefhaa", sum := "afd242b832f4a5de6fd283827337bed04d89ec3b58115a771d5299b7407e1836", func := "quirestock/quirkeep.SkewReads", spec := "skewReads", unfollowed := true, recurses := true, apart := false }
def SkewReadsSaid : Prop := skewReadsRow.holds Try.pinned (OpenSpec.ofChange skewReadsSpec)

/-- ITS FALSE NEIGHBOUR: 'it returns false'. Refute it at one input. -/
def skewReadsWrong : ChangeSpec := { name := "skewReads", fn := fun _ => fun
  | [d] => { results := [.lit (.bool false)], args := [d] }
  | _ => none }
def SkewReadsWrongFalsely : Prop := skewReadsRow.holds Try.pinned (OpenSpec.ofChange skewReadsWrong)

/-- 'quirkeep.BuddyOwn': WHATEVER THE INPUT: true; the input reads as it did. -/
def buddyOwnSpec : ChangeSpec := { name := "buddyOwn", fn := fun _ => fun
  | [d1, d2, d3] => { results := [.lit (.bool true)], args := [d1, d2, d3] }
  | _ => none }
def buddyOwnRow : OpenClaim := { program := "ytfmgncfikaefhaa", sum := "afd242b832f4a5de6fd283827337bed04d89ec3b58115a771d5299b7407e1836", func := "quirestock/quirkeep.BuddyOwn", spec := "buddyOwn", unfollowed := true, recurses := true, apart := false }
def BuddyOwnSaid : Prop := buddyOwnRow.holds Try.pinned (OpenSpec.ofChange buddyOwnSpec)

/-- ITS FALSE NEIGHBOUR: 'it returns false'. Refute it at one input. -/
def buddyOwnWrong : ChangeSpec := { name := "buddyOwn", fn := fun _ => fun
  | [d1, d2, d3] => { results := [.lit (.bool false)], args := [d1, d2, d3] }
  | _ => none }
def BuddyOwnWrongFalsely : Prop := buddyOwnRow.holds Try.pinned (OpenSpec.ofChange buddyOwnWrong)

/-- 'quirkeep.BuddyBack': WHATEVER THE INPUT: true; the input reads as it did. -/
def buddyBackSpec : ChangeSpec := { name := "buddyBack", fn := fun _ => fun
  | [d1, d2] => { results := [.lit (.bool true)], args := [d1, d2] }
  | _ => none }
def buddyBackRow : OpenClaim := { program := "ytfmgncfikaefhaa", sum := "afd242b832f4a5de6fd283827337bed04d89ec3b58115a771d5299b7407e1836", func := "quirestock/quirkeep.BuddyBack", spec := "buddyBack", unfollowed := true, recurses := true, apart := false }
def BuddyBackSaid : Prop := buddyBackRow.holds Try.pinned (OpenSpec.ofChange buddyBackSpec)

/-- ITS FALSE NEIGHBOUR: 'it returns false'. Refute it at one input. -/
def buddyBackWrong : ChangeSpec := { name := "buddyBack", fn := fun _ => fun
  | [d1, d2] => { results := [.lit (.bool false)], args := [d1, d2] }
  | _ => none }
def BuddyBackWrongFalsely : Prop := buddyBackRow.holds Try.pinned (OpenSpec.ofChange buddyBackWrong)

/- THE SECOND FORM. 'bulk': how many values and letters a reading holds, each counted each time it is reached (what is shared counts as often as it is met; a slice's spare places count too). A statement '..UptoSaid' is the law's where the arguments, and the package variables that the reading takes, are together of bulk at most 1048576: NARROWER than '..Said'. Prove '..Said' where nothing that the law and all that it calls make is longer than what came in: it says more and counts as full. Else prove '..UptoSaid'. A law counts once. -/
mutual
def uptoBulk {H : Type} : DataW H → Nat
  | .lit (.string bytes) => bytes.length + 1
  | .lit _ => 1
  | .nil => 1
  | .ptr d => uptoBulk d + 1
  | .slice elems spare => uptoBulkAll elems + uptoBulkAll spare + 1
  | .agg parts => uptoBulkAll parts + 1
  | .iface _ d => uptoBulk d + 1
  | .map entries => uptoBulkEntries entries + 1
  | .held _ => 1
def uptoBulkAll {H : Type} : List (DataW H) → Nat
  | [] => 0
  | d :: r => uptoBulk d + uptoBulkAll r
def uptoBulkEntries {H : Type} : List (Lit × DataW H) → Nat
  | [] => 0
  | x :: r => uptoBulkEntry x + uptoBulkEntries r
def uptoBulkEntry {H : Type} : Lit × DataW H → Nat
  | (.string bytes, d) => bytes.length + uptoBulk d + 1
  | (_, d) => uptoBulk d + 1
 end
def uptoSmall : (H : Type) → List (DataW H) → Bool := fun _ ds => decide (uptoBulkAll ds ≤ 1048576)
def OpenSpec.upto (s : _root_.Go.ChangeSpec) : _root_.Go.OpenSpec := { _root_.Go.OpenSpec.ofChange s with cond := some uptoSmall }

/-- 'quirkeep.RedoSame', WHERE WHAT IT READS IS OF BULK AT MOST 1048576: true; the input reads as it did. -/
def redoSameUptoRow : OpenClaim := { program := "ytfmgncfikaefhaa", sum := "afd242b832f4a5de6fd283827337bed04d89ec3b58115a771d5299b7407e1836", func := "quirestock/quirkeep.RedoSame", spec := "redoSame", unfollowed := true, recurses := true, apart := false, narrowed := true }
def RedoSameUptoSaid : Prop := redoSameUptoRow.holds Try.pinned (OpenSpec.upto redoSameSpec)

/-- 'quirkeep.RedoKeeps', WHERE WHAT IT READS IS OF BULK AT MOST 1048576: true; the input reads as it did. -/
def redoKeepsUptoRow : OpenClaim := { program := "ytfmgncfikaefhaa", sum := "afd242b832f4a5de6fd283827337bed04d89ec3b58115a771d5299b7407e1836", func := "quirestock/quirkeep.RedoKeeps", spec := "redoKeeps", unfollowed := true, recurses := true, apart := false, narrowed := true }
def RedoKeepsUptoSaid : Prop := redoKeepsUptoRow.holds Try.pinned (OpenSpec.upto redoKeepsSpec)

/-- 'quirkeep.RedoOwn', WHERE WHAT IT READS IS OF BULK AT MOST 1048576: true; the input reads as it did. -/
def redoOwnUptoRow : OpenClaim := { program := "ytfmgncfikaefhaa", sum := "afd242b832f4a5de6fd283827337bed04d89ec3b58115a771d5299b7407e1836", func := "quirestock/quirkeep.RedoOwn", spec := "redoOwn", unfollowed := true, recurses := true, apart := false, narrowed := true }
def RedoOwnUptoSaid : Prop := redoOwnUptoRow.holds Try.pinned (OpenSpec.upto redoOwnSpec)

/-- 'quirkeep.SkewReads', WHERE WHAT IT READS IS OF BULK AT MOST 1048576: true; the input reads as it did. -/
def skewReadsUptoRow : OpenClaim := { program := "ytfmgncfikaefhaa", sum := "afd242b832f4a5de6fd283827337bed04d89ec3b58115a771d5299b7407e1836", func := "quirestock/quirkeep.SkewReads", spec := "skewReads", unfollowed := true, recurses := true, apart := false, narrowed := true }
def SkewReadsUptoSaid : Prop := skewReadsUptoRow.holds Try.pinned (OpenSpec.upto skewReadsSpec)

/-- 'quirkeep.BuddyOwn', WHERE WHAT IT READS IS OF BULK AT MOST 1048576: true; the input reads as it did. -/
def buddyOwnUptoRow : OpenClaim := { program := "ytfmgncfikaefhaa", sum := "afd242b832f4a5de6fd283827337bed04d89ec3b58115a771d5299b7407e1836", func := "quirestock/quirkeep.BuddyOwn", spec := "buddyOwn", unfollowed := true, recurses := true, apart := false, narrowed := true }
def BuddyOwnUptoSaid : Prop := buddyOwnUptoRow.holds Try.pinned (OpenSpec.upto buddyOwnSpec)

/-- 'quirkeep.BuddyBack', WHERE WHAT IT READS IS OF BULK AT MOST 1048576: true; the input reads as it did. -/
def buddyBackUptoRow : OpenClaim := { program := "ytfmgncfikaefhaa", sum := "afd242b832f4a5de6fd283827337bed04d89ec3b58115a771d5299b7407e1836", func := "quirestock/quirkeep.BuddyBack", spec := "buddyBack", unfollowed := true, recurses := true, apart := false, narrowed := true }
def BuddyBackUptoSaid : Prop := buddyBackUptoRow.holds Try.pinned (OpenSpec.upto buddyBackSpec)

end Rows
end Go.Proofs.Ytfmgncfikaefhaa
