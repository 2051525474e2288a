/-
  No cell of these rows narrows 'for every input' (looked for: loops, veiled, ifaces, maps, wideKeys, modest, calm, conditions, laid).
  DERIVED. THE GIVEN ROWS OF THIS SEAT. 10 by the template 'for every input the law returns true; each argument reads behind the call as it read before'; 0 by the template 'total and deterministic' (their statements: YtlmibgjflgkalaaTotals.lean).
  GIVEN WITH THE SEED: the statements are not yours to turn. If you find one false, say at which input.
  Laid BY PROGRAM, IN A SANDBOX (cutbox-rows.mjs): the forced cells as the released guide's own fill.sh prints them over the translation eff9fda6dd00df6b… (all of the seat's roots in one cut). By AI agents, Wed Nov 11 2026. No macro, syntax, notation, axiom, sorry.
-/
import Derived.Test.YtlmibgjflgkalaaChecked
import GoSem.Claim
import GoSem.ClaimJoined
import GoSem.ClaimMapViews
import Derived.JoinedTies
import Derived.KernelRfl
namespace Go.Proofs.Ytlmibgjflgkalaa
/- THE CELL 'sum', in the pinned program and in every row, IS THE sha256 OF THE DUMP (.gsa) THAT YtlmibgjflgkalaaProg.lean LOADS. Nothing in Lean hashes anything: it is a label: what it is worth is what the hold of that sum in a sandbox is worth. -/
noncomputable def Try.pinned : Pinned := { name := "ytlmibgjflgkalaa", sum := "eff9fda6dd00df6b4b63f37af49498fb6f77472f64e79edcee3e5e4be8ad3e96", checked := Try.checked }
namespace Rows
def none {H : Type} : Left H := { results := [], args := [] }

/-- 'quirkeep.BuddyWhole': WHATEVER THE INPUT: true; the input reads as it did. -/
def buddyWholeSpec : ChangeSpec := { name := "buddyWhole", fn := fun _ => fun
  | [d] => { results := [.lit (.bool true)], args := [d] }
  | _ => none }
def buddyWholeRow : OpenClaim := { program := "ytlmibgjflgkalaa", sum := "eff9fda6dd00df6b4b63f37af49498fb6f77472f64e79edcee3e5e4be8ad3e96", func := "quirestock/quirkeep.BuddyWhole", spec := "buddyWhole", unfollowed := true, recurses := true, apart := false }
def BuddyWholeSaid : Prop := buddyWholeRow.holds Try.pinned (OpenSpec.ofChange buddyWholeSpec)

/-- ITS FALSE NEIGHBOUR: 'it returns false'. Refute it at one input. -/
def buddyWholeWrong : ChangeSpec := { name := "buddyWhole", fn := fun _ => fun
  | [d] => { results := [.lit (.bool false)], args := [d] }
  | _ => none }
def BuddyWholeWrongFalsely : Prop := buddyWholeRow.holds Try.pinned (OpenSpec.ofChange buddyWholeWrong)

/-- 'quirkeep.RunKinds': WHATEVER THE INPUT: true; the input reads as it did. -/
def runKindsSpec : ChangeSpec := { name := "runKinds", fn := fun _ => fun
  | [d] => { results := [.lit (.bool true)], args := [d] }
  | _ => none }
def runKindsRow : OpenClaim := { program := "ytlmibgjflgkalaa", sum := "eff9fda6dd00df6b4b63f37af49498fb6f77472f64e79edcee3e5e4be8ad3e96", func := "quirestock/quirkeep.RunKinds", spec := "runKinds", unfollowed := true, recurses := true, apart := false }
def RunKindsSaid : Prop := runKindsRow.holds Try.pinned (OpenSpec.ofChange runKindsSpec)

/-- ITS FALSE NEIGHBOUR: 'it returns false'. Refute it at one input. -/
def runKindsWrong : ChangeSpec := { name := "runKinds", fn := fun _ => fun
  | [d] => { results := [.lit (.bool false)], args := [d] }
  | _ => none }
def RunKindsWrongFalsely : Prop := runKindsRow.holds Try.pinned (OpenSpec.ofChange runKindsWrong)

/-- 'quirkeep.StampSkips': WHATEVER THE INPUT: true; the input reads as it did. -/
def stampSkipsSpec : ChangeSpec := { name := "stampSkips", fn := fun _ => fun
  | [d] => { results := [.lit (.bool true)], args := [d] }
  | _ => none }
def stampSkipsRow : OpenClaim := { program := "ytlmibgjflgkalaa", sum := "eff9fda6dd00df6b4b63f37af49498fb6f77472f64e79edcee3e5e4be8ad3e96", func := "quirestock/quirkeep.StampSkips", spec := "stampSkips", unfollowed := true, recurses := true, apart := false }
def StampSkipsSaid : Prop := stampSkipsRow.holds Try.pinned (OpenSpec.ofChange stampSkipsSpec)

/-- ITS FALSE NEIGHBOUR: 'it returns false'. Refute it at one input. -/
def stampSkipsWrong : ChangeSpec := { name := "stampSkips", fn := fun _ => fun
  | [d] => { results := [.lit (.bool false)], args := [d] }
  | _ => none }
def StampSkipsWrongFalsely : Prop := stampSkipsRow.holds Try.pinned (OpenSpec.ofChange stampSkipsWrong)

/-- 'quirkeep.SnapFirst': WHATEVER THE INPUT: true; the input reads as it did. -/
def snapFirstSpec : ChangeSpec := { name := "snapFirst", fn := fun _ => fun
  | [d] => { results := [.lit (.bool true)], args := [d] }
  | _ => none }
def snapFirstRow : OpenClaim := { program := "ytlmibgjflgkalaa", sum := "eff9fda6dd00df6b4b63f37af49498fb6f77472f64e79edcee3e5e4be8ad3e96", func := "quirestock/quirkeep.SnapFirst", spec := "snapFirst", apart := false }
def SnapFirstSaid : Prop := snapFirstRow.holds Try.pinned (OpenSpec.ofChange snapFirstSpec)

/-- ITS FALSE NEIGHBOUR: 'it returns false'. Refute it at one input. -/
def snapFirstWrong : ChangeSpec := { name := "snapFirst", fn := fun _ => fun
  | [d] => { results := [.lit (.bool false)], args := [d] }
  | _ => none }
def SnapFirstWrongFalsely : Prop := snapFirstRow.holds Try.pinned (OpenSpec.ofChange snapFirstWrong)

/-- 'quirkeep.SnapSees': WHATEVER THE INPUT: true; the input reads as it did. -/
def snapSeesSpec : ChangeSpec := { name := "snapSees", fn := fun _ => fun
  | [d] => { results := [.lit (.bool true)], args := [d] }
  | _ => none }
def snapSeesRow : OpenClaim := { program := "ytlmibgjflgkalaa", sum := "eff9fda6dd00df6b4b63f37af49498fb6f77472f64e79edcee3e5e4be8ad3e96", func := "quirestock/quirkeep.SnapSees", spec := "snapSees", apart := false }
def SnapSeesSaid : Prop := snapSeesRow.holds Try.pinned (OpenSpec.ofChange snapSeesSpec)

/-- ITS FALSE NEIGHBOUR: 'it returns false'. Refute it at one input. -/
def snapSeesWrong : ChangeSpec := { name := "snapSees", fn := fun _ => fun
  | [d] => { results := [.lit (.bool false)], args := [d] }
  | _ => none }
def SnapSeesWrongFalsely : Prop := snapSeesRow.holds Try.pinned (OpenSpec.ofChange snapSeesWrong)

/-- 'quirkeep.VacLeast': WHATEVER THE INPUT: true; the input reads as it did. -/
def vacLeastSpec : ChangeSpec := { name := "vacLeast", fn := fun _ => fun
  | [d1, d2, d3, d4] => { results := [.lit (.bool true)], args := [d1, d2, d3, d4] }
  | _ => none }
def vacLeastRow : OpenClaim := { program := "ytlmibgjflgkalaa", sum := "eff9fda6dd00df6b4b63f37af49498fb6f77472f64e79edcee3e5e4be8ad3e96", func := "quirestock/quirkeep.VacLeast", spec := "vacLeast", unfollowed := true, recurses := true, apart := false }
def VacLeastSaid : Prop := vacLeastRow.holds Try.pinned (OpenSpec.ofChange vacLeastSpec)

/-- ITS FALSE NEIGHBOUR: 'it returns false'. Refute it at one input. -/
def vacLeastWrong : ChangeSpec := { name := "vacLeast", fn := fun _ => fun
  | [d1, d2, d3, d4] => { results := [.lit (.bool false)], args := [d1, d2, d3, d4] }
  | _ => none }
def VacLeastWrongFalsely : Prop := vacLeastRow.holds Try.pinned (OpenSpec.ofChange vacLeastWrong)

/-- 'quirkeep.VacSame': WHATEVER THE INPUT: true; the input reads as it did. -/
def vacSameSpec : ChangeSpec := { name := "vacSame", fn := fun _ => fun
  | [d1, d2, d3, d4] => { results := [.lit (.bool true)], args := [d1, d2, d3, d4] }
  | _ => none }
def vacSameRow : OpenClaim := { program := "ytlmibgjflgkalaa", sum := "eff9fda6dd00df6b4b63f37af49498fb6f77472f64e79edcee3e5e4be8ad3e96", func := "quirestock/quirkeep.VacSame", spec := "vacSame", unfollowed := true, recurses := true, apart := false }
def VacSameSaid : Prop := vacSameRow.holds Try.pinned (OpenSpec.ofChange vacSameSpec)

/-- ITS FALSE NEIGHBOUR: 'it returns false'. Refute it at one input. -/
def vacSameWrong : ChangeSpec := { name := "vacSame", fn := fun _ => fun
  | [d1, d2, d3, d4] => { results := [.lit (.bool false)], args := [d1, d2, d3, d4] }
  | _ => none }
def VacSameWrongFalsely : Prop := vacSameRow.holds Try.pinned (OpenSpec.ofChange vacSameWrong)

/-- 'quirkeep.HopeSerial': WHATEVER THE INPUT: true; the input reads as it did. -/
def hopeSerialSpec : ChangeSpec := { name := "hopeSerial", fn := fun _ => fun
  | [d] => { results := [.lit (.bool true)], args := [d] }
  | _ => none }
def hopeSerialRow : OpenClaim := { program := "ytlmibgjflgkalaa", sum := "eff9fda6dd00df6b4b63f37af49498fb6f77472f64e79edcee3e5e4be8ad3e96", func := "quirestock/quirkeep.HopeSerial", spec := "hopeSerial", unfollowed := true, recurses := true, apart := false }
def HopeSerialSaid : Prop := hopeSerialRow.holds Try.pinned (OpenSpec.ofChange hopeSerialSpec)

/-- ITS FALSE NEIGHBOUR: 'it returns false'. Refute it at one input. -/
def hopeSerialWrong : ChangeSpec := { name := "hopeSerial", fn := fun _ => fun
  | [d] => { results := [.lit (.bool false)], args := [d] }
  | _ => none }
def HopeSerialWrongFalsely : Prop := hopeSerialRow.holds Try.pinned (OpenSpec.ofChange hopeSerialWrong)

/-- 'quirkeep.RedoSame': WHATEVER THE INPUT: true; the input reads as it did. -/
def redoSameSpec : ChangeSpec := { name := "redoSame", fn := fun _ => fun
  | [d1, d2, d3] => { results := [.lit (.bool true)], args := [d1, d2, d3] }
  | _ => none }
def redoSameRow : OpenClaim := { program := "ytlmibgjflgkalaa", sum := "eff9fda6dd00df6b4b63f37af49498fb6f77472f64e79edcee3e5e4be8ad3e96", func := "quirestock/quirkeep.RedoSame", spec := "redoSame", unfollowed := true, recurses := true, apart := false }
def RedoSameSaid : Prop := redoSameRow.holds Try.pinned (OpenSpec.ofChange redoSameSpec)

/-- ITS FALSE NEIGHBOUR: 'it returns false'. Refute it at one input. -/
def redoSameWrong : ChangeSpec := { name := "redoSame", fn := fun _ => fun
  | [d1, d2, d3] => { results := [.lit (.bool false)], args := [d1, d2, d3] }
  | _ => none }
def RedoSameWrongFalsely : Prop := redoSameRow.holds Try.pinned (OpenSpec.ofChange redoSameWrong)

/-- 'quirkeep.RedoKeeps': WHATEVER THE INPUT: true; the input reads as it did. -/
def redoKeepsSpec : ChangeSpec := { name := "redoKeeps", fn := fun _ => fun
  | [d1, d2] => { results := [.lit (.bool true)], args := [d1, d2] }
  | _ => none }
def redoKeepsRow : OpenClaim := { program := "ytlmibgjflgkalaa", sum := "eff9fda6dd00df6b4b63f37af49498fb6f77472f64e79edcee3e5e4be8ad3e96", func := "quirestock/quirkeep.RedoKeeps", spec := "redoKeeps", unfollowed := true, recurses := true, apart := false }
def RedoKeepsSaid : Prop := redoKeepsRow.holds Try.pinned (OpenSpec.ofChange redoKeepsSpec)

/-- ITS FALSE NEIGHBOUR: 'it returns false'. Refute it at one input. -/
def redoKeepsWrong : ChangeSpec := { name := "redoKeeps", fn := fun _ => fun
  | [d1, d2] => { results := [.lit (.bool false)], args := [d1, d2] }
  | _ => none }
def RedoKeepsWrongFalsely : Prop := redoKeepsRow.holds Try.pinned (OpenSpec.ofChange redoKeepsWrong)

/- THE SECOND FORM. 'bulk': how many values and letters a reading holds, each counted each time it is reached (what is shared counts as often as it is met; a slice's spare places count too). A statement '..UptoSaid' is the law's where the arguments, and the package variables that the reading takes, are together of bulk at most 1048576: NARROWER than '..Said'. Prove '..Said' where nothing that the law and all that it calls make is longer than what came in: it says more and counts as full. Else prove '..UptoSaid'. A law counts once. -/
mutual
def uptoBulk {H : Type} : DataW H → Nat
  | .lit (.string bytes) => bytes.length + 1
  | .lit _ => 1
  | .nil => 1
  | .ptr d => uptoBulk d + 1
  | .slice elems spare => uptoBulkAll elems + uptoBulkAll spare + 1
  | .agg parts => uptoBulkAll parts + 1
  | .iface _ d => uptoBulk d + 1
  | .map entries => uptoBulkEntries entries + 1
  | .held _ => 1
def uptoBulkAll {H : Type} : List (DataW H) → Nat
  | [] => 0
  | d :: r => uptoBulk d + uptoBulkAll r
def uptoBulkEntries {H : Type} : List (Lit × DataW H) → Nat
  | [] => 0
  | x :: r => uptoBulkEntry x + uptoBulkEntries r
def uptoBulkEntry {H : Type} : Lit × DataW H → Nat
  | (.string bytes, d) => bytes.length + uptoBulk d + 1
  | (_, d) => uptoBulk d + 1
 end
def uptoSmall : (H : Type) → List (DataW H) → Bool := fun _ ds => decide (uptoBulkAll ds ≤ 1048576)
def OpenSpec.upto (s : _root_.Go.ChangeSpec) : _root_.Go.OpenSpec := { _root_.Go.OpenSpec.ofChange s with cond := some uptoSmall }

/-- 'quirkeep.BuddyWhole', WHERE WHAT IT READS IS OF BULK AT MOST 1048576: true; the input reads as it did. -/
def buddyWholeUptoRow : OpenClaim := { program := "ytlmibgjflgkalaa", sum := "eff9fda6dd00df6b4b63f37af49498fb6f77472f64e79edcee3e5e4be8ad3e96", func := "quirestock/quirkeep.BuddyWhole", spec := "buddyWhole", unfollowed := true, recurses := true, apart := false, narrowed := true }
def BuddyWholeUptoSaid : Prop := buddyWholeUptoRow.holds Try.pinned (OpenSpec.upto buddyWholeSpec)

/-- 'quirkeep.RunKinds', WHERE WHAT IT READS IS OF BULK AT MOST 1048576: true; the input reads as it did. -/
def runKindsUptoRow : OpenClaim := { program := "ytlmibgjflgkalaa", sum := "eff9fda6dd00df6b4b63f37af49498fb6f77472f64e79edcee3e5e4be8ad3e96", func := "quirestock/quirkeep.RunKinds", spec := "runKinds", unfollowed := true, recurses := true, apart := false, narrowed := true }
def RunKindsUptoSaid : Prop := runKindsUptoRow.holds Try.pinned (OpenSpec.upto runKindsSpec)

/-- 'quirkeep.StampSkips', WHERE WHAT IT READS IS OF BULK AT MOST 1048576: true; the input reads as it did. -/
def stampSkipsUptoRow : OpenClaim := { program := "ytlmibgjflgkalaa", sum := "eff9fda6dd00df6b4b63f37af49498fb6f77472f64e79edcee3e5e4be8ad3e96", func := "quirestock/quirkeep.StampSkips", spec := "stampSkips", unfollowed := true, recurses := true, apart := false, narrowed := true }
def StampSkipsUptoSaid : Prop := stampSkipsUptoRow.holds Try.pinned (OpenSpec.upto stampSkipsSpec)

/-- 'quirkeep.SnapFirst', WHERE WHAT IT READS IS OF BULK AT MOST 1048576: true; the input reads as it did. -/
def snapFirstUptoRow : OpenClaim := { program := "ytlmibgjflgkalaa", sum := "eff9fda6dd00df6b4b63f37af49498fb6f77472f64e79edcee3e5e4be8ad3e96", func := "quirestock/quirkeep.SnapFirst", spec := "snapFirst", apart := false, narrowed := true }
def SnapFirstUptoSaid : Prop := snapFirstUptoRow.holds Try.pinned (OpenSpec.upto snapFirstSpec)

/-- 'quirkeep.SnapSees', WHERE WHAT IT READS IS OF BULK AT MOST 1048576: true; the input reads as it did. -/
def snapSeesUptoRow : OpenClaim := { program := "ytlmibgjflgkalaa", sum := "eff9fda6dd00df6b4b63f37af49498fb6f77472f64e79edcee3e5e4be8ad3e96", func := "quirestock/quirkeep.SnapSees", spec := "snapSees", apart := false, narrowed := true }
def SnapSeesUptoSaid : Prop := snapSeesUptoRow.holds Try.pinned (OpenSpec.upto snapSeesSpec)

/-- 'quirkeep.VacLeast', WHERE WHAT IT READS IS OF BULK AT MOST 1048576: true; the input reads as it did. -/
def vacLeastUptoRow : OpenClaim := { program := "ytlmibgjflgkalaa", sum := "eff9fda6dd00df6b4b63f37af49498fb6f77472f64e79edcee3e5e4be8ad3e96", func := "quirestock/quirkeep.VacLeast", spec := "vacLeast", unfollowed := true, recurses := true, apart := false, narrowed := true }
def VacLeastUptoSaid : Prop := vacLeastUptoRow.holds Try.pinned (OpenSpec.upto vacLeastSpec)

/-- 'quirkeep.VacSame', WHERE WHAT IT READS IS OF BULK AT MOST 1048576: true; the input reads as it did. -/
def vacSameUptoRow : OpenClaim := { program := "ytlmibgjflgkalaa", sum := "eff9fda6dd00df6b4b63f37af49498fb6f77472f64e79edcee3e5e4be8ad3e96", func := "quirestock/quirkeep.VacSame", spec := "vacSame", unfollowed := true, recurses := true, apart := false, narrowed := true }
def VacSameUptoSaid : Prop := vacSameUptoRow.holds Try.pinned (OpenSpec.upto vacSameSpec)

/-- 'quirkeep.HopeSerial', WHERE WHAT IT READS IS OF BULK AT MOST 1048576: true; the input reads as it did. -/
def hopeSerialUptoRow : OpenClaim := { program := "ytlmibgjflgkalaa", sum := "eff9fda6dd00df6b4b63f37af49498fb6f77472f64e79edcee3e5e4be8ad3e96", func := "quirestock/quirkeep.HopeSerial", spec := "hopeSerial", unfollowed := true, recurses := true, apart := false, narrowed := true }
def HopeSerialUptoSaid : Prop := hopeSerialUptoRow.holds Try.pinned (OpenSpec.upto hopeSerialSpec)

/-- 'quirkeep.RedoSame', WHERE WHAT IT READS IS OF BULK AT MOST 1048576: true; the input reads as it did. -/
def redoSameUptoRow : OpenClaim := { program := "ytlmibgjflgkalaa", sum := "eff9fda6dd00df6b4b63f37af49498fb6f77472f64e79edcee3e5e4be8ad3e96", func := "quirestock/quirkeep.RedoSame", spec := "redoSame", unfollowed := true, recurses := true, apart := false, narrowed := true }
def RedoSameUptoSaid : Prop := redoSameUptoRow.holds Try.pinned (OpenSpec.upto redoSameSpec)

/-- 'quirkeep.RedoKeeps', WHERE WHAT IT READS IS OF BULK AT MOST 1048576: true; the input reads as it did. -/
def redoKeepsUptoRow : OpenClaim := { program := "ytlmibgjflgkalaa", sum := "eff9fda6dd00df6b4b63f37af49498fb6f77472f64e79edcee3e5e4be8ad3e96", func := "quirestock/quirkeep.RedoKeeps", spec := "redoKeeps", unfollowed := true, recurses := true, apart := false, narrowed := true }
def RedoKeepsUptoSaid : Prop := redoKeepsUptoRow.holds Try.pinned (OpenSpec.upto redoKeepsSpec)

end Rows
end Go.Proofs.Ytlmibgjflgkalaa
