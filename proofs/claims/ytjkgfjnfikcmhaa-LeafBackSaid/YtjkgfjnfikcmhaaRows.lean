/-
  No cell of these rows narrows 'for every input' (looked for: loops, veiled, ifaces, maps, wideKeys, modest, calm, conditions, laid).
  DERIVED. THE GIVEN ROWS OF THIS SEAT. 8 by the template 'for every input the law returns true; each argument reads behind the call as it read before'; 0 by the template 'total and deterministic' (their statements: YtjkgfjnfikcmhaaTotals.lean).
  GIVEN WITH THE SEED: the statements are not yours to turn. If you find one false, say at which input.
  Laid BY PROGRAM, IN A SANDBOX (cutbox-rows.mjs): the forced cells as the released guide's own fill.sh prints them over the translation 7b8e73865b19b07c… (all of the seat's roots in one cut). By AI agents, Wed Nov 11 2026. No macro, syntax, notation, axiom, sorry.
-/
import Derived.Test.YtjkgfjnfikcmhaaChecked
import GoSem.Claim
import GoSem.ClaimJoined
import GoSem.ClaimMapViews
import Derived.JoinedTies
import Derived.KernelRfl
namespace Go.Proofs.Ytjkgfjnfikcmhaa
/- THE CELL 'sum', in the pinned program and in every row, IS THE sha256 OF THE DUMP (.gsa) THAT YtjkgfjnfikcmhaaProg.lean LOADS. Nothing in Lean hashes anything: it is a label: what it is worth is what the hold of that sum in a sandbox is worth. -/
noncomputable def Try.pinned : Pinned := { name := "ytjkgfjnfikcmhaa", sum := "7b8e73865b19b07cac73d3a784c8d9d006f21a94eb77f310488ad0c5c5cbf6ed", checked := Try.checked }
namespace Rows
def none {H : Type} : Left H := { results := [], args := [] }

/-- 'quirkeep.FoldJoins': WHATEVER THE INPUT: true; the input reads as it did. -/
def foldJoinsSpec : ChangeSpec := { name := "foldJoins", fn := fun _ => fun
  | [d1, d2] => { results := [.lit (.bool true)], args := [d1, d2] }
  | _ => none }
def foldJoinsRow : OpenClaim := { program := "ytjkgfjnfikcmhaa", sum := "7b8e73865b19b07cac73d3a784c8d9d006f21a94eb77f310488ad0c5c5cbf6ed", func := "quirestock/quirkeep.FoldJoins", spec := "foldJoins", apart := false }
def FoldJoinsSaid : Prop := foldJoinsRow.holds Try.pinned (OpenSpec.ofChange foldJoinsSpec)

/-- ITS FALSE NEIGHBOUR: 'it returns false'. Refute it at one input. -/
def foldJoinsWrong : ChangeSpec := { name := "foldJoins", fn := fun _ => fun
  | [d1, d2] => { results := [.lit (.bool false)], args := [d1, d2] }
  | _ => none }
def FoldJoinsWrongFalsely : Prop := foldJoinsRow.holds Try.pinned (OpenSpec.ofChange foldJoinsWrong)

/-- 'quirkeep.FoldTells': WHATEVER THE INPUT: true; the input reads as it did. -/
def foldTellsSpec : ChangeSpec := { name := "foldTells", fn := fun _ => fun
  | [d1, d2, d3, d4, d5] => { results := [.lit (.bool true)], args := [d1, d2, d3, d4, d5] }
  | _ => none }
def foldTellsRow : OpenClaim := { program := "ytjkgfjnfikcmhaa", sum := "7b8e73865b19b07cac73d3a784c8d9d006f21a94eb77f310488ad0c5c5cbf6ed", func := "quirestock/quirkeep.FoldTells", spec := "foldTells", apart := false }
def FoldTellsSaid : Prop := foldTellsRow.holds Try.pinned (OpenSpec.ofChange foldTellsSpec)

/-- ITS FALSE NEIGHBOUR: 'it returns false'. Refute it at one input. -/
def foldTellsWrong : ChangeSpec := { name := "foldTells", fn := fun _ => fun
  | [d1, d2, d3, d4, d5] => { results := [.lit (.bool false)], args := [d1, d2, d3, d4, d5] }
  | _ => none }
def FoldTellsWrongFalsely : Prop := foldTellsRow.holds Try.pinned (OpenSpec.ofChange foldTellsWrong)

/-- 'quirkeep.LockJoins': WHATEVER THE INPUT: true; the input reads as it did. -/
def lockJoinsSpec : ChangeSpec := { name := "lockJoins", fn := fun _ => fun
  | [d1, d2, d3] => { results := [.lit (.bool true)], args := [d1, d2, d3] }
  | _ => none }
def lockJoinsRow : OpenClaim := { program := "ytjkgfjnfikcmhaa", sum := "7b8e73865b19b07cac73d3a784c8d9d006f21a94eb77f310488ad0c5c5cbf6ed", func := "quirestock/quirkeep.LockJoins", spec := "lockJoins", apart := false }
def LockJoinsSaid : Prop := lockJoinsRow.holds Try.pinned (OpenSpec.ofChange lockJoinsSpec)

/-- ITS FALSE NEIGHBOUR: 'it returns false'. Refute it at one input. -/
def lockJoinsWrong : ChangeSpec := { name := "lockJoins", fn := fun _ => fun
  | [d1, d2, d3] => { results := [.lit (.bool false)], args := [d1, d2, d3] }
  | _ => none }
def LockJoinsWrongFalsely : Prop := lockJoinsRow.holds Try.pinned (OpenSpec.ofChange lockJoinsWrong)

/-- 'quirkeep.CodeOnly': WHATEVER THE INPUT: true; the input reads as it did. -/
def codeOnlySpec : ChangeSpec := { name := "codeOnly", fn := fun _ => fun
  | [d1, d2, d3] => { results := [.lit (.bool true)], args := [d1, d2, d3] }
  | _ => none }
def codeOnlyRow : OpenClaim := { program := "ytjkgfjnfikcmhaa", sum := "7b8e73865b19b07cac73d3a784c8d9d006f21a94eb77f310488ad0c5c5cbf6ed", func := "quirestock/quirkeep.CodeOnly", spec := "codeOnly", apart := false }
def CodeOnlySaid : Prop := codeOnlyRow.holds Try.pinned (OpenSpec.ofChange codeOnlySpec)

/-- ITS FALSE NEIGHBOUR: 'it returns false'. Refute it at one input. -/
def codeOnlyWrong : ChangeSpec := { name := "codeOnly", fn := fun _ => fun
  | [d1, d2, d3] => { results := [.lit (.bool false)], args := [d1, d2, d3] }
  | _ => none }
def CodeOnlyWrongFalsely : Prop := codeOnlyRow.holds Try.pinned (OpenSpec.ofChange codeOnlyWrong)

/-- 'quirkeep.CodeBack': WHATEVER THE INPUT: true; the input reads as it did. -/
def codeBackSpec : ChangeSpec := { name := "codeBack", fn := fun _ => fun
  | [d1, d2, d3, d4] => { results := [.lit (.bool true)], args := [d1, d2, d3, d4] }
  | _ => none }
def codeBackRow : OpenClaim := { program := "ytjkgfjnfikcmhaa", sum := "7b8e73865b19b07cac73d3a784c8d9d006f21a94eb77f310488ad0c5c5cbf6ed", func := "quirestock/quirkeep.CodeBack", spec := "codeBack", apart := false }
def CodeBackSaid : Prop := codeBackRow.holds Try.pinned (OpenSpec.ofChange codeBackSpec)

/-- ITS FALSE NEIGHBOUR: 'it returns false'. Refute it at one input. -/
def codeBackWrong : ChangeSpec := { name := "codeBack", fn := fun _ => fun
  | [d1, d2, d3, d4] => { results := [.lit (.bool false)], args := [d1, d2, d3, d4] }
  | _ => none }
def CodeBackWrongFalsely : Prop := codeBackRow.holds Try.pinned (OpenSpec.ofChange codeBackWrong)

/-- 'quirkeep.LeafRoom': WHATEVER THE INPUT: true; the input reads as it did. -/
def leafRoomSpec : ChangeSpec := { name := "leafRoom", fn := fun _ => fun
  | [d1, d2] => { results := [.lit (.bool true)], args := [d1, d2] }
  | _ => none }
def leafRoomRow : OpenClaim := { program := "ytjkgfjnfikcmhaa", sum := "7b8e73865b19b07cac73d3a784c8d9d006f21a94eb77f310488ad0c5c5cbf6ed", func := "quirestock/quirkeep.LeafRoom", spec := "leafRoom", apart := false }
def LeafRoomSaid : Prop := leafRoomRow.holds Try.pinned (OpenSpec.ofChange leafRoomSpec)

/-- ITS FALSE NEIGHBOUR: 'it returns false'. Refute it at one input. -/
def leafRoomWrong : ChangeSpec := { name := "leafRoom", fn := fun _ => fun
  | [d1, d2] => { results := [.lit (.bool false)], args := [d1, d2] }
  | _ => none }
def LeafRoomWrongFalsely : Prop := leafRoomRow.holds Try.pinned (OpenSpec.ofChange leafRoomWrong)

/-- 'quirkeep.LeafKeeps': WHATEVER THE INPUT: true; the input reads as it did. -/
def leafKeepsSpec : ChangeSpec := { name := "leafKeeps", fn := fun _ => fun
  | [d1, d2, d3] => { results := [.lit (.bool true)], args := [d1, d2, d3] }
  | _ => none }
def leafKeepsRow : OpenClaim := { program := "ytjkgfjnfikcmhaa", sum := "7b8e73865b19b07cac73d3a784c8d9d006f21a94eb77f310488ad0c5c5cbf6ed", func := "quirestock/quirkeep.LeafKeeps", spec := "leafKeeps", apart := false }
def LeafKeepsSaid : Prop := leafKeepsRow.holds Try.pinned (OpenSpec.ofChange leafKeepsSpec)

/-- ITS FALSE NEIGHBOUR: 'it returns false'. Refute it at one input. -/
def leafKeepsWrong : ChangeSpec := { name := "leafKeeps", fn := fun _ => fun
  | [d1, d2, d3] => { results := [.lit (.bool false)], args := [d1, d2, d3] }
  | _ => none }
def LeafKeepsWrongFalsely : Prop := leafKeepsRow.holds Try.pinned (OpenSpec.ofChange leafKeepsWrong)

/-- 'quirkeep.LeafBack': WHATEVER THE INPUT: true; the input reads as it did. -/
def leafBackSpec : ChangeSpec := { name := "leafBack", fn := fun _ => fun
  | [d1, d2] => { results := [.lit (.bool true)], args := [d1, d2] }
  | _ => none }
def leafBackRow : OpenClaim := { program := "ytjkgfjnfikcmhaa", sum := "7b8e73865b19b07cac73d3a784c8d9d006f21a94eb77f310488ad0c5c5cbf6ed", func := "quirestock/quirkeep.LeafBack", spec := "leafBack", apart := false }
def LeafBackSaid : Prop := leafBackRow.holds Try.pinned (OpenSpec.ofChange leafBackSpec)

/-- ITS FALSE NEIGHBOUR: 'it returns false'. Refute it at one input. -/
def leafBackWrong : ChangeSpec := { name := "leafBack", fn := fun _ => fun
  | [d1, d2] => { results := [.lit (.bool false)], args := [d1, d2] }
  | _ => none }
def LeafBackWrongFalsely : Prop := leafBackRow.holds Try.pinned (OpenSpec.ofChange leafBackWrong)

/- THE SECOND FORM. 'bulk': how many values and letters a reading holds, each counted each time it is reached (what is shared counts as often as it is met; a slice's spare places count too). A statement '..UptoSaid' is the law's where the arguments, and the package variables that the reading takes, are together of bulk at most 1048576: NARROWER than '..Said'. Prove '..Said' where nothing that the law and all that it calls make is longer than what came in: it says more and counts as full. Else prove '..UptoSaid'. A law counts once. -/
mutual
def uptoBulk {H : Type} : DataW H → Nat
  | .lit (.string bytes) => bytes.length + 1
  | .lit _ => 1
  | .nil => 1
  | .ptr d => uptoBulk d + 1
  | .slice elems spare => uptoBulkAll elems + uptoBulkAll spare + 1
  | .agg parts => uptoBulkAll parts + 1
  | .iface _ d => uptoBulk d + 1
  | .map entries => uptoBulkEntries entries + 1
  | .held _ => 1
def uptoBulkAll {H : Type} : List (DataW H) → Nat
  | [] => 0
  | d :: r => uptoBulk d + uptoBulkAll r
def uptoBulkEntries {H : Type} : List (Lit × DataW H) → Nat
  | [] => 0
  | x :: r => uptoBulkEntry x + uptoBulkEntries r
def uptoBulkEntry {H : Type} : Lit × DataW H → Nat
  | (.string bytes, d) => bytes.length + uptoBulk d + 1
  | (_, d) => uptoBulk d + 1
 end
def uptoSmall : (H : Type) → List (DataW H) → Bool := fun _ ds => decide (uptoBulkAll ds ≤ 1048576)
def OpenSpec.upto (s : _root_.Go.ChangeSpec) : _root_.Go.OpenSpec := { _root_.Go.OpenSpec.ofChange s with cond := some uptoSmall }

/-- 'quirkeep.FoldJoins', WHERE WHAT IT READS IS OF BULK AT MOST 1048576: true; the input reads as it did. -/
def foldJoinsUptoRow : OpenClaim := { program := "ytjkgfjnfikcmhaa", sum := "7b8e73865b19b07cac73d3a784c8d9d006f21a94eb77f310488ad0c5c5cbf6ed", func := "quirestock/quirkeep.FoldJoins", spec := "foldJoins", apart := false, narrowed := true }
def FoldJoinsUptoSaid : Prop := foldJoinsUptoRow.holds Try.pinned (OpenSpec.upto foldJoinsSpec)

/-- 'quirkeep.FoldTells', WHERE WHAT IT READS IS OF BULK AT MOST 1048576: true; the input reads as it did. -/
def foldTellsUptoRow : OpenClaim := { program := "ytjkgfjnfikcmhaa", sum := "7b8e73865b19b07cac73d3a784c8d9d006f21a94eb77f310488ad0c5c5cbf6ed", func := "quirestock/quirkeep.FoldTells", spec := "foldTells", apart := false, narrowed := true }
def FoldTellsUptoSaid : Prop := foldTellsUptoRow.holds Try.pinned (OpenSpec.upto foldTellsSpec)

/-- 'quirkeep.LockJoins', WHERE WHAT IT READS IS OF BULK AT MOST 1048576: true; the input reads as it did. -/
def lockJoinsUptoRow : OpenClaim := { program := "ytjkgfjnfikcmhaa", sum := "7b8e73865b19b07cac73d3a784c8d9d006f21a94eb77f310488ad0c5c5cbf6ed", func := "quirestock/quirkeep.LockJoins", spec := "lockJoins", apart := false, narrowed := true }
def LockJoinsUptoSaid : Prop := lockJoinsUptoRow.holds Try.pinned (OpenSpec.upto lockJoinsSpec)

/-- 'quirkeep.CodeOnly', WHERE WHAT IT READS IS OF BULK AT MOST 1048576: true; the input reads as it did. -/
def codeOnlyUptoRow : OpenClaim := { program := "ytjkgfjnfikcmhaa", sum := "7b8e73865b19b07cac73d3a784c8d9d006f21a94eb77f310488ad0c5c5cbf6ed", func := "quirestock/quirkeep.CodeOnly", spec := "codeOnly", apart := false, narrowed := true }
def CodeOnlyUptoSaid : Prop := codeOnlyUptoRow.holds Try.pinned (OpenSpec.upto codeOnlySpec)

/-- 'quirkeep.CodeBack', WHERE WHAT IT READS IS OF BULK AT MOST 1048576: true; the input reads as it did. -/
def codeBackUptoRow : OpenClaim := { program := "ytjkgfjnfikcmhaa", sum := "7b8e73865b19b07cac73d3a784c8d9d006f21a94eb77f310488ad0c5c5cbf6ed", func := "quirestock/quirkeep.CodeBack", spec := "codeBack", apart := false, narrowed := true }
def CodeBackUptoSaid : Prop := codeBackUptoRow.holds Try.pinned (OpenSpec.upto codeBackSpec)

/-- 'quirkeep.LeafRoom', WHERE WHAT IT READS IS OF BULK AT MOST 1048576: true; the input reads as it did. -/
def leafRoomUptoRow : OpenClaim := { program := "ytjkgfjnfikcmhaa", sum := "7b8e73865b19b07cac73d3a784c8d9d006f21a94eb77f310488ad0c5c5cbf6ed", func := "quirestock/quirkeep.LeafRoom", spec := "leafRoom", apart := false, narrowed := true }
def LeafRoomUptoSaid : Prop := leafRoomUptoRow.holds Try.pinned (OpenSpec.upto leafRoomSpec)

/-- 'quirkeep.LeafKeeps', WHERE WHAT IT READS IS OF BULK AT MOST 1048576: true; the input reads as it did. -/
def leafKeepsUptoRow : OpenClaim := { program := "ytjkgfjnfikcmhaa", sum := "7b8e73865b19b07cac73d3a784c8d9d006f21a94eb77f310488ad0c5c5cbf6ed", func := "quirestock/quirkeep.LeafKeeps", spec := "leafKeeps", apart := false, narrowed := true }
def LeafKeepsUptoSaid : Prop := leafKeepsUptoRow.holds Try.pinned (OpenSpec.upto leafKeepsSpec)

/-- 'quirkeep.LeafBack', WHERE WHAT IT READS IS OF BULK AT MOST 1048576: true; the input reads as it did. -/
def leafBackUptoRow : OpenClaim := { program := "ytjkgfjnfikcmhaa", sum := "7b8e73865b19b07cac73d3a784c8d9d006f21a94eb77f310488ad0c5c5cbf6ed", func := "quirestock/quirkeep.LeafBack", spec := "leafBack", apart := false, narrowed := true }
def LeafBackUptoSaid : Prop := leafBackUptoRow.holds Try.pinned (OpenSpec.upto leafBackSpec)

end Rows
end Go.Proofs.Ytjkgfjnfikcmhaa
