/-
  DERIVED. GIVEN WITH THE SEED: THE CARDS: each row of YtpeaefeoogcepaaDoorRows.lean that lists a variable, with what it lists TIED to the program's text (the seventh form; the later family's looks); each row that meets fmt, with fmt's text TOLD by the authors' own Lean function (tested against real Go, not proved from fmt's source: count such statements apart). THE CARD IS WHAT COUNTS. Prove the row's statement (the work); the ties are given (YtpeaefeoogcepaaDoorTie.lean); close each card by the builder's one call (the guide's Derived/Test/ToyasCard.lean, 'card_holds'). Laid BY PROGRAM, IN A SANDBOX (cutbox-door.mjs). By AI agents, Wed Nov 11 2026. No macro, syntax, notation, axiom, sorry.
-/
import Derived.Test.YtpeaefeoogcepaaDoorRows
import GoSem.ClaimSeven
namespace Go.Proofs.YtpeaefeoogcepaaDoor
namespace Rows

/-- THE TIED CARD OF 'quirkeep.WalBack'. -/
def walBackCard : Claim7 := { stood := { row := walBackRow, standIns := [], harness := (true, "c50f21b65185a8b73f6d9476a9d998c9b69ee6a88bb9984f678e5ef2ea2681db"), looks := false }, kinds := [], alts := [], laidByText := true, laidKinds := [.data, .pinned], laidTests := true, laidLooks := .later }
def WalBackCardSaid : Prop := Claim7.holds Tryd.pinned (.plain (OpenSpec.ofChange walBackSpec)) walBackCard

/-- THE TIED CARD OF 'quirkeep.WalFalls'. -/
def walFallsCard : Claim7 := { stood := { row := walFallsRow, standIns := [], harness := (true, "c50f21b65185a8b73f6d9476a9d998c9b69ee6a88bb9984f678e5ef2ea2681db"), looks := false }, kinds := [], alts := [], laidByText := true, laidKinds := [.data, .pinned], laidTests := true, laidLooks := .later }
def WalFallsCardSaid : Prop := Claim7.holds Tryd.pinned (.plain (OpenSpec.ofChange walFallsSpec)) walFallsCard

/-- THE SECOND FORM's CARD OF 'quirkeep.WalBack'. -/
def walBackUptoCard : Claim7 := { stood := { row := walBackUptoRow, standIns := [], harness := (true, "c50f21b65185a8b73f6d9476a9d998c9b69ee6a88bb9984f678e5ef2ea2681db"), looks := false }, kinds := [], alts := [], laidByText := true, laidKinds := [.data, .pinned], laidTests := true, laidLooks := .later }
def WalBackUptoCardSaid : Prop := Claim7.holds Tryd.pinned (.plain (OpenSpec.upto walBackSpec)) walBackUptoCard

/-- THE SECOND FORM's CARD OF 'quirkeep.WalFalls'. -/
def walFallsUptoCard : Claim7 := { stood := { row := walFallsUptoRow, standIns := [], harness := (true, "c50f21b65185a8b73f6d9476a9d998c9b69ee6a88bb9984f678e5ef2ea2681db"), looks := false }, kinds := [], alts := [], laidByText := true, laidKinds := [.data, .pinned], laidTests := true, laidLooks := .later }
def WalFallsUptoCardSaid : Prop := Claim7.holds Tryd.pinned (.plain (OpenSpec.upto walFallsSpec)) walFallsUptoCard
end Rows
end Go.Proofs.YtpeaefeoogcepaaDoor
