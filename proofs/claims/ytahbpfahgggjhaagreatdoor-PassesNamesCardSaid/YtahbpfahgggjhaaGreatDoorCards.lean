/-
  DERIVED. GIVEN WITH THE SEED: THE CARDS: each row of YtahbpfahgggjhaaGreatDoorRows.lean that lists a variable, with what it lists TIED to the program's text (the seventh form; the later family's looks); each row that meets fmt, with fmt's text TOLD by the authors' own Lean function (tested against real Go, not proved from fmt's source: count such statements apart). THE CARD IS WHAT COUNTS. Prove the row's statement (the work); the ties are given (YtahbpfahgggjhaaGreatDoorTie.lean); close each card by the builder's one call (the guide's Derived/Test/ToyasCard.lean, 'card_holds'). Laid BY PROGRAM, IN A SANDBOX (cutbox-door.mjs). By AI agents, Wed Nov 11 2026. No macro, syntax, notation, axiom, sorry.
-/
import Derived.Test.YtahbpfahgggjhaaGreatDoorRows
import GoSem.ClaimSeven
namespace Go.Proofs.YtahbpfahgggjhaaGreatDoor
namespace Rows

/-- THE TIED CARD OF 'spiritlevellaw34.PassesNames'. -/
def passesNamesCard : Claim7 := { stood := { row := passesNamesRow, standIns := [], harness := (true, "3b89567c02c9724b009deb4c0664f2119a46711f278670fc8a922962e139fc01"), looks := true }, kinds := [], alts := [], laidByText := true, laidKinds := [.data, .data, .data, .sentinel, .sentinel], laidTests := true, laidLooks := .later }
def PassesNamesCardSaid : Prop := Claim7.holds Tryz.pinned (.plain (OpenSpec.ofChange passesNamesSpec)) passesNamesCard

/-- THE TIED CARD OF 'spiritlevellaw34.PassesOwn'. -/
def passesOwnCard : Claim7 := { stood := { row := passesOwnRow, standIns := [], harness := (true, "3b89567c02c9724b009deb4c0664f2119a46711f278670fc8a922962e139fc01"), looks := true }, kinds := [], alts := [], laidByText := true, laidKinds := [.data, .data, .data, .sentinel, .sentinel], laidTests := true, laidLooks := .later }
def PassesOwnCardSaid : Prop := Claim7.holds Tryz.pinned (.plain (OpenSpec.ofChange passesOwnSpec)) passesOwnCard

/-- THE SECOND FORM's CARD OF 'spiritlevellaw34.PassesNames'. -/
def passesNamesUptoCard : Claim7 := { stood := { row := passesNamesUptoRow, standIns := [], harness := (true, "3b89567c02c9724b009deb4c0664f2119a46711f278670fc8a922962e139fc01"), looks := true }, kinds := [], alts := [], laidByText := true, laidKinds := [.data, .data, .data, .sentinel, .sentinel], laidTests := true, laidLooks := .later }
def PassesNamesUptoCardSaid : Prop := Claim7.holds Tryz.pinned (.plain (OpenSpec.upto passesNamesSpec)) passesNamesUptoCard

/-- THE SECOND FORM's CARD OF 'spiritlevellaw34.PassesOwn'. -/
def passesOwnUptoCard : Claim7 := { stood := { row := passesOwnUptoRow, standIns := [], harness := (true, "3b89567c02c9724b009deb4c0664f2119a46711f278670fc8a922962e139fc01"), looks := true }, kinds := [], alts := [], laidByText := true, laidKinds := [.data, .data, .data, .sentinel, .sentinel], laidTests := true, laidLooks := .later }
def PassesOwnUptoCardSaid : Prop := Claim7.holds Tryz.pinned (.plain (OpenSpec.upto passesOwnSpec)) passesOwnUptoCard
end Rows
end Go.Proofs.YtahbpfahgggjhaaGreatDoor
