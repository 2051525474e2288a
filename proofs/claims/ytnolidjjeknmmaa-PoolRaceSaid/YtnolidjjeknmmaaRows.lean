/-
  No cell of these rows narrows 'for every input' (looked for: loops, veiled, ifaces, maps, wideKeys, modest, calm, conditions, laid).
  DERIVED. THE GIVEN ROWS OF THIS SEAT. 10 by the template 'for every input the law returns true; each argument reads behind the call as it read before'; 0 by the template 'total and deterministic' (their statements: YtnolidjjeknmmaaTotals.lean).
  GIVEN WITH THE SEED: the statements are not yours to turn. If you find one false, say at which input.
  Laid BY PROGRAM, IN A SANDBOX (cutbox-rows.mjs): the forced cells as the released guide's own fill.sh prints them over the translation 7bb5067f8fd02e72… (all of the seat's roots in one cut). By AI agents, Wed Nov 11 2026. No macro, syntax, notation, axiom, sorry.
-/
import Derived.Test.YtnolidjjeknmmaaChecked
import GoSem.Claim
import GoSem.ClaimJoined
import GoSem.ClaimMapViews
import Derived.JoinedTies
import Derived.KernelRfl
namespace Go.Proofs.Ytnolidjjeknmmaa
/- THE CELL 'sum', in the pinned program and in every row, IS THE sha256 OF THE DUMP (.gsa) THAT YtnolidjjeknmmaaProg.lean LOADS. Nothing in Lean hashes anything: it is a label: what it is worth is what the hold of that sum in a sandbox is worth. -/
noncomputable def Try.pinned : Pinned := { name := "ytnolidjjeknmmaa", sum := "7bb5067f8fd02e72af3e60351660a4490c4a6813366293acc1e97951f3bef2f5", checked := Try.checked }
namespace Rows
def none {H : Type} : Left H := { results := [], args := [] }

/-- 'quirkeep.PactStays': WHATEVER THE INPUT: true; the input reads as it did. -/
def pactStaysSpec : ChangeSpec := { name := "pactStays", fn := fun _ => fun
  | [d1, d2, d3] => { results := [.lit (.bool true)], args := [d1, d2, d3] }
  | _ => none }
def pactStaysRow : OpenClaim := { program := "ytnolidjjeknmmaa", sum := "7bb5067f8fd02e72af3e60351660a4490c4a6813366293acc1e97951f3bef2f5", func := "quirestock/quirkeep.PactStays", spec := "pactStays", apart := false }
def PactStaysSaid : Prop := pactStaysRow.holds Try.pinned (OpenSpec.ofChange pactStaysSpec)

/-- ITS FALSE NEIGHBOUR: 'it returns false'. Refute it at one input. -/
def pactStaysWrong : ChangeSpec := { name := "pactStays", fn := fun _ => fun
  | [d1, d2, d3] => { results := [.lit (.bool false)], args := [d1, d2, d3] }
  | _ => none }
def PactStaysWrongFalsely : Prop := pactStaysRow.holds Try.pinned (OpenSpec.ofChange pactStaysWrong)

/-- 'quirkeep.PactOne': WHATEVER THE INPUT: true; the input reads as it did. -/
def pactOneSpec : ChangeSpec := { name := "pactOne", fn := fun _ => fun
  | [d1, d2] => { results := [.lit (.bool true)], args := [d1, d2] }
  | _ => none }
def pactOneRow : OpenClaim := { program := "ytnolidjjeknmmaa", sum := "7bb5067f8fd02e72af3e60351660a4490c4a6813366293acc1e97951f3bef2f5", func := "quirestock/quirkeep.PactOne", spec := "pactOne", unfollowed := true, recurses := true, apart := false }
def PactOneSaid : Prop := pactOneRow.holds Try.pinned (OpenSpec.ofChange pactOneSpec)

/-- ITS FALSE NEIGHBOUR: 'it returns false'. Refute it at one input. -/
def pactOneWrong : ChangeSpec := { name := "pactOne", fn := fun _ => fun
  | [d1, d2] => { results := [.lit (.bool false)], args := [d1, d2] }
  | _ => none }
def PactOneWrongFalsely : Prop := pactOneRow.holds Try.pinned (OpenSpec.ofChange pactOneWrong)

/-- 'quirkeep.PactOwn': WHATEVER THE INPUT: true; the input reads as it did. -/
def pactOwnSpec : ChangeSpec := { name := "pactOwn", fn := fun _ => fun
  | [d1, d2] => { results := [.lit (.bool true)], args := [d1, d2] }
  | _ => none }
def pactOwnRow : OpenClaim := { program := "ytnolidjjeknmmaa", sum := "7bb5067f8fd02e72af3e60351660a4490c4a6813366293acc1e97951f3bef2f5", func := "quirestock/quirkeep.PactOwn", spec := "pactOwn", apart := false }
def PactOwnSaid : Prop := pactOwnRow.holds Try.pinned (OpenSpec.ofChange pactOwnSpec)

/-- ITS FALSE NEIGHBOUR: 'it returns false'. Refute it at one input. -/
def pactOwnWrong : ChangeSpec := { name := "pactOwn", fn := fun _ => fun
  | [d1, d2] => { results := [.lit (.bool false)], args := [d1, d2] }
  | _ => none }
def PactOwnWrongFalsely : Prop := pactOwnRow.holds Try.pinned (OpenSpec.ofChange pactOwnWrong)

/-- 'quirkeep.PactEnds': WHATEVER THE INPUT: true; the input reads as it did. -/
def pactEndsSpec : ChangeSpec := { name := "pactEnds", fn := fun _ => fun
  | [d1, d2] => { results := [.lit (.bool true)], args := [d1, d2] }
  | _ => none }
def pactEndsRow : OpenClaim := { program := "ytnolidjjeknmmaa", sum := "7bb5067f8fd02e72af3e60351660a4490c4a6813366293acc1e97951f3bef2f5", func := "quirestock/quirkeep.PactEnds", spec := "pactEnds", unfollowed := true, recurses := true, apart := false }
def PactEndsSaid : Prop := pactEndsRow.holds Try.pinned (OpenSpec.ofChange pactEndsSpec)

/-- ITS FALSE NEIGHBOUR: 'it returns false'. Refute it at one input. -/
def pactEndsWrong : ChangeSpec := { name := "pactEnds", fn := fun _ => fun
  | [d1, d2] => { results := [.lit (.bool false)], args := [d1, d2] }
  | _ => none }
def PactEndsWrongFalsely : Prop := pactEndsRow.holds Try.pinned (OpenSpec.ofChange pactEndsWrong)

/-- 'quirkeep.LeafOwn': WHATEVER THE INPUT: true; the input reads as it did. -/
def leafOwnSpec : ChangeSpec := { name := "leafOwn", fn := fun _ => fun
  | [d1, d2, d3] => { results := [.lit (.bool true)], args := [d1, d2, d3] }
  | _ => none }
def leafOwnRow : OpenClaim := { program := "ytnolidjjeknmmaa", sum := "7bb5067f8fd02e72af3e60351660a4490c4a6813366293acc1e97951f3bef2f5", func := "quirestock/quirkeep.LeafOwn", spec := "leafOwn", apart := false }
def LeafOwnSaid : Prop := leafOwnRow.holds Try.pinned (OpenSpec.ofChange leafOwnSpec)

/-- ITS FALSE NEIGHBOUR: 'it returns false'. Refute it at one input. -/
def leafOwnWrong : ChangeSpec := { name := "leafOwn", fn := fun _ => fun
  | [d1, d2, d3] => { results := [.lit (.bool false)], args := [d1, d2, d3] }
  | _ => none }
def LeafOwnWrongFalsely : Prop := leafOwnRow.holds Try.pinned (OpenSpec.ofChange leafOwnWrong)

/-- 'quirkeep.SectSafe': WHATEVER THE INPUT: true; the input reads as it did. -/
def sectSafeSpec : ChangeSpec := { name := "sectSafe", fn := fun _ => fun
  | [d1, d2] => { results := [.lit (.bool true)], args := [d1, d2] }
  | _ => none }
def sectSafeRow : OpenClaim := { program := "ytnolidjjeknmmaa", sum := "7bb5067f8fd02e72af3e60351660a4490c4a6813366293acc1e97951f3bef2f5", func := "quirestock/quirkeep.SectSafe", spec := "sectSafe", inPlace := ["internal/abi.NoEscape", "internal/bytealg.MakeNoZero"], apart := false }
def SectSafeSaid : Prop := sectSafeRow.holds Try.pinned (OpenSpec.ofChange sectSafeSpec)

/-- ITS FALSE NEIGHBOUR: 'it returns false'. Refute it at one input. -/
def sectSafeWrong : ChangeSpec := { name := "sectSafe", fn := fun _ => fun
  | [d1, d2] => { results := [.lit (.bool false)], args := [d1, d2] }
  | _ => none }
def SectSafeWrongFalsely : Prop := sectSafeRow.holds Try.pinned (OpenSpec.ofChange sectSafeWrong)

/-- 'quirkeep.PoolStack': WHATEVER THE INPUT: true; the input reads as it did. -/
def poolStackSpec : ChangeSpec := { name := "poolStack", fn := fun _ => fun
  | [d1, d2, d3] => { results := [.lit (.bool true)], args := [d1, d2, d3] }
  | _ => none }
def poolStackRow : OpenClaim := { program := "ytnolidjjeknmmaa", sum := "7bb5067f8fd02e72af3e60351660a4490c4a6813366293acc1e97951f3bef2f5", func := "quirestock/quirkeep.PoolStack", spec := "poolStack", unfollowed := true, recurses := true, apart := false }
def PoolStackSaid : Prop := poolStackRow.holds Try.pinned (OpenSpec.ofChange poolStackSpec)

/-- ITS FALSE NEIGHBOUR: 'it returns false'. Refute it at one input. -/
def poolStackWrong : ChangeSpec := { name := "poolStack", fn := fun _ => fun
  | [d1, d2, d3] => { results := [.lit (.bool false)], args := [d1, d2, d3] }
  | _ => none }
def PoolStackWrongFalsely : Prop := poolStackRow.holds Try.pinned (OpenSpec.ofChange poolStackWrong)

/-- 'quirkeep.PoolRace': WHATEVER THE INPUT: true; the input reads as it did. -/
def poolRaceSpec : ChangeSpec := { name := "poolRace", fn := fun _ => fun
  | [d1, d2, d3] => { results := [.lit (.bool true)], args := [d1, d2, d3] }
  | _ => none }
def poolRaceRow : OpenClaim := { program := "ytnolidjjeknmmaa", sum := "7bb5067f8fd02e72af3e60351660a4490c4a6813366293acc1e97951f3bef2f5", func := "quirestock/quirkeep.PoolRace", spec := "poolRace", unfollowed := true, recurses := true, apart := false }
def PoolRaceSaid : Prop := poolRaceRow.holds Try.pinned (OpenSpec.ofChange poolRaceSpec)

/-- ITS FALSE NEIGHBOUR: 'it returns false'. Refute it at one input. -/
def poolRaceWrong : ChangeSpec := { name := "poolRace", fn := fun _ => fun
  | [d1, d2, d3] => { results := [.lit (.bool false)], args := [d1, d2, d3] }
  | _ => none }
def PoolRaceWrongFalsely : Prop := poolRaceRow.holds Try.pinned (OpenSpec.ofChange poolRaceWrong)

/-- 'quirkeep.PoolBest': WHATEVER THE INPUT: true; the input reads as it did. -/
def poolBestSpec : ChangeSpec := { name := "poolBest", fn := fun _ => fun
  | [d1, d2] => { results := [.lit (.bool true)], args := [d1, d2] }
  | _ => none }
def poolBestRow : OpenClaim := { program := "ytnolidjjeknmmaa", sum := "7bb5067f8fd02e72af3e60351660a4490c4a6813366293acc1e97951f3bef2f5", func := "quirestock/quirkeep.PoolBest", spec := "poolBest", unfollowed := true, recurses := true, apart := false }
def PoolBestSaid : Prop := poolBestRow.holds Try.pinned (OpenSpec.ofChange poolBestSpec)

/-- ITS FALSE NEIGHBOUR: 'it returns false'. Refute it at one input. -/
def poolBestWrong : ChangeSpec := { name := "poolBest", fn := fun _ => fun
  | [d1, d2] => { results := [.lit (.bool false)], args := [d1, d2] }
  | _ => none }
def PoolBestWrongFalsely : Prop := poolBestRow.holds Try.pinned (OpenSpec.ofChange poolBestWrong)

/-- 'quirkeep.PoolRoom': WHATEVER THE INPUT: true; the input reads as it did. -/
def poolRoomSpec : ChangeSpec := { name := "poolRoom", fn := fun _ => fun
  | [d1, d2] => { results := [.lit (.bool true)], args := [d1, d2] }
  | _ => none }
def poolRoomRow : OpenClaim := { program := "ytnolidjjeknmmaa", sum := "7bb5067f8fd02e72af3e60351660a4490c4a6813366293acc1e97951f3bef2f5", func := "quirestock/quirkeep.PoolRoom", spec := "poolRoom", unfollowed := true, recurses := true, apart := false }
def PoolRoomSaid : Prop := poolRoomRow.holds Try.pinned (OpenSpec.ofChange poolRoomSpec)

/-- ITS FALSE NEIGHBOUR: 'it returns false'. Refute it at one input. -/
def poolRoomWrong : ChangeSpec := { name := "poolRoom", fn := fun _ => fun
  | [d1, d2] => { results := [.lit (.bool false)], args := [d1, d2] }
  | _ => none }
def PoolRoomWrongFalsely : Prop := poolRoomRow.holds Try.pinned (OpenSpec.ofChange poolRoomWrong)

/- THE SECOND FORM. 'bulk': how many values and letters a reading holds, each counted each time it is reached (what is shared counts as often as it is met; a slice's spare places count too). A statement '..UptoSaid' is the law's where the arguments, and the package variables that the reading takes, are together of bulk at most 1048576: NARROWER than '..Said'. Prove '..Said' where nothing that the law and all that it calls make is longer than what came in: it says more and counts as full. Else prove '..UptoSaid'. A law counts once. -/
mutual
def uptoBulk {H : Type} : DataW H → Nat
  | .lit (.string bytes) => bytes.length + 1
  | .lit _ => 1
  | .nil => 1
  | .ptr d => uptoBulk d + 1
  | .slice elems spare => uptoBulkAll elems + uptoBulkAll spare + 1
  | .agg parts => uptoBulkAll parts + 1
  | .iface _ d => uptoBulk d + 1
  | .map entries => uptoBulkEntries entries + 1
  | .held _ => 1
def uptoBulkAll {H : Type} : List (DataW H) → Nat
  | [] => 0
  | d :: r => uptoBulk d + uptoBulkAll r
def uptoBulkEntries {H : Type} : List (Lit × DataW H) → Nat
  | [] => 0
  | x :: r => uptoBulkEntry x + uptoBulkEntries r
def uptoBulkEntry {H : Type} : Lit × DataW H → Nat
  | (.string bytes, d) => bytes.length + uptoBulk d + 1
  | (_, d) => uptoBulk d + 1
 end
def uptoSmall : (H : Type) → List (DataW H) → Bool := fun _ ds => decide (uptoBulkAll ds ≤ 1048576)
def OpenSpec.upto (s : _root_.Go.ChangeSpec) : _root_.Go.OpenSpec := { _root_.Go.OpenSpec.ofChange s with cond := some uptoSmall }

/-- 'quirkeep.PactStays', WHERE WHAT IT READS IS OF BULK AT MOST 1048576: true; the input reads as it did. -/
def pactStaysUptoRow : OpenClaim := { program := "ytnolidjjeknmmaa", sum := "7bb5067f8fd02e72af3e60351660a4490c4a6813366293acc1e97951f3bef2f5", func := "quirestock/quirkeep.PactStays", spec := "pactStays", apart := false, narrowed := true }
def PactStaysUptoSaid : Prop := pactStaysUptoRow.holds Try.pinned (OpenSpec.upto pactStaysSpec)

/-- 'quirkeep.PactOne', WHERE WHAT IT READS IS OF BULK AT MOST 1048576: true; the input reads as it did. -/
def pactOneUptoRow : OpenClaim := { program := "ytnolidjjeknmmaa", sum := "7bb5067f8fd02e72af3e60351660a4490c4a6813366293acc1e97951f3bef2f5", func := "quirestock/quirkeep.PactOne", spec := "pactOne", unfollowed := true, recurses := true, apart := false, narrowed := true }
def PactOneUptoSaid : Prop := pactOneUptoRow.holds Try.pinned (OpenSpec.upto pactOneSpec)

/-- 'quirkeep.PactOwn', WHERE WHAT IT READS IS OF BULK AT MOST 1048576: true; the input reads as it did. -/
def pactOwnUptoRow : OpenClaim := { program := "ytnolidjjeknmmaa", sum := "7bb5067f8fd02e72af3e60351660a4490c4a6813366293acc1e97951f3bef2f5", func := "quirestock/quirkeep.PactOwn", spec := "pactOwn", apart := false, narrowed := true }
def PactOwnUptoSaid : Prop := pactOwnUptoRow.holds Try.pinned (OpenSpec.upto pactOwnSpec)

/-- 'quirkeep.PactEnds', WHERE WHAT IT READS IS OF BULK AT MOST 1048576: true; the input reads as it did. -/
def pactEndsUptoRow : OpenClaim := { program := "ytnolidjjeknmmaa", sum := "7bb5067f8fd02e72af3e60351660a4490c4a6813366293acc1e97951f3bef2f5", func := "quirestock/quirkeep.PactEnds", spec := "pactEnds", unfollowed := true, recurses := true, apart := false, narrowed := true }
def PactEndsUptoSaid : Prop := pactEndsUptoRow.holds Try.pinned (OpenSpec.upto pactEndsSpec)

/-- 'quirkeep.LeafOwn', WHERE WHAT IT READS IS OF BULK AT MOST 1048576: true; the input reads as it did. -/
def leafOwnUptoRow : OpenClaim := { program := "ytnolidjjeknmmaa", sum := "7bb5067f8fd02e72af3e60351660a4490c4a6813366293acc1e97951f3bef2f5", func := "quirestock/quirkeep.LeafOwn", spec := "leafOwn", apart := false, narrowed := true }
def LeafOwnUptoSaid : Prop := leafOwnUptoRow.holds Try.pinned (OpenSpec.upto leafOwnSpec)

/-- 'quirkeep.SectSafe', WHERE WHAT IT READS IS OF BULK AT MOST 1048576: true; the input reads as it did. -/
def sectSafeUptoRow : OpenClaim := { program := "ytnolidjjeknmmaa", sum := "7bb5067f8fd02e72af3e60351660a4490c4a6813366293acc1e97951f3bef2f5", func := "quirestock/quirkeep.SectSafe", spec := "sectSafe", inPlace := ["internal/abi.NoEscape", "internal/bytealg.MakeNoZero"], apart := false, narrowed := true }
def SectSafeUptoSaid : Prop := sectSafeUptoRow.holds Try.pinned (OpenSpec.upto sectSafeSpec)

/-- 'quirkeep.PoolStack', WHERE WHAT IT READS IS OF BULK AT MOST 1048576: true; the input reads as it did. -/
def poolStackUptoRow : OpenClaim := { program := "ytnolidjjeknmmaa", sum := "7bb5067f8fd02e72af3e60351660a4490c4a6813366293acc1e97951f3bef2f5", func := "quirestock/quirkeep.PoolStack", spec := "poolStack", unfollowed := true, recurses := true, apart := false, narrowed := true }
def PoolStackUptoSaid : Prop := poolStackUptoRow.holds Try.pinned (OpenSpec.upto poolStackSpec)

/-- 'quirkeep.PoolRace', WHERE WHAT IT READS IS OF BULK AT MOST 1048576: true; the input reads as it did. -/
def poolRaceUptoRow : OpenClaim := { program := "ytnolidjjeknmmaa", sum := "7bb5067f8fd02e72af3e60351660a4490c4a6813366293acc1e97951f3bef2f5", func := "quirestock/quirkeep.PoolRace", spec := "poolRace", unfollowed := true, recurses := true, apart := false, narrowed := true }
def PoolRaceUptoSaid : Prop := poolRaceUptoRow.holds Try.pinned (OpenSpec.upto poolRaceSpec)

/-- 'quirkeep.PoolBest', WHERE WHAT IT READS IS OF BULK AT MOST 1048576: true; the input reads as it did. -/
def poolBestUptoRow : OpenClaim := { program := "ytnolidjjeknmmaa", sum := "7bb5067f8fd02e72af3e60351660a4490c4a6813366293acc1e97951f3bef2f5", func := "quirestock/quirkeep.PoolBest", spec := "poolBest", unfollowed := true, recurses := true, apart := false, narrowed := true }
def PoolBestUptoSaid : Prop := poolBestUptoRow.holds Try.pinned (OpenSpec.upto poolBestSpec)

/-- 'quirkeep.PoolRoom', WHERE WHAT IT READS IS OF BULK AT MOST 1048576: true; the input reads as it did. -/
def poolRoomUptoRow : OpenClaim := { program := "ytnolidjjeknmmaa", sum := "7bb5067f8fd02e72af3e60351660a4490c4a6813366293acc1e97951f3bef2f5", func := "quirestock/quirkeep.PoolRoom", spec := "poolRoom", unfollowed := true, recurses := true, apart := false, narrowed := true }
def PoolRoomUptoSaid : Prop := poolRoomUptoRow.holds Try.pinned (OpenSpec.upto poolRoomSpec)

end Rows
end Go.Proofs.Ytnolidjjeknmmaa
