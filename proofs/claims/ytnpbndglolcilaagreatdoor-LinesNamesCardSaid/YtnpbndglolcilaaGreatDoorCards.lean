/-
  DERIVED. GIVEN WITH THE SEED: THE CARDS: each row of YtnpbndglolcilaaGreatDoorRows.lean that lists a variable, with what it lists TIED to the program's text (the seventh form; the later family's looks); each row that meets fmt, with fmt's text TOLD by the authors' own Lean function (tested against real Go, not proved from fmt's source: count such statements apart). THE CARD IS WHAT COUNTS. Prove the row's statement (the work); the ties are given (YtnpbndglolcilaaGreatDoorTie.lean); close each card by the builder's one call (the guide's Derived/Test/ToyasCard.lean, 'card_holds'). Laid BY PROGRAM, IN A SANDBOX (cutbox-door.mjs). By AI agents, Wed Nov 11 2026. No macro, syntax, notation, axiom, sorry.
-/
import Derived.Test.YtnpbndglolcilaaGreatDoorRows
import GoSem.ClaimSeven
namespace Go.Proofs.YtnpbndglolcilaaGreatDoor
namespace Rows

/-- THE TIED CARD OF 'spiritlevellaw45.LinesNames'. -/
def linesNamesCard : Claim7 := { stood := { row := linesNamesRow, standIns := [], harness := (true, "6269a095f8534f626ab007dba629e886746e9f91429a3a947a48e680c0d8a022"), looks := true }, kinds := [], alts := [], laidByText := true, laidKinds := [.data, .data, .data, .data, .sentinel, .sentinel, .pinned], laidTests := true, laidLooks := .later }
def LinesNamesCardSaid : Prop := Claim7.holds Tryz.pinned (.plain (OpenSpec.ofChange linesNamesSpec)) linesNamesCard

/-- THE TIED CARD OF 'spiritlevellaw45.LinesBack'. -/
def linesBackCard : Claim7 := { stood := { row := linesBackRow, standIns := [], harness := (true, "6269a095f8534f626ab007dba629e886746e9f91429a3a947a48e680c0d8a022"), looks := true }, kinds := [], alts := [], laidByText := true, laidKinds := [.data, .data, .data, .data, .sentinel, .sentinel, .pinned], laidTests := true, laidLooks := .later }
def LinesBackCardSaid : Prop := Claim7.holds Tryz.pinned (.plain (OpenSpec.ofChange linesBackSpec)) linesBackCard

/-- THE SECOND FORM's CARD OF 'spiritlevellaw45.LinesNames'. -/
def linesNamesUptoCard : Claim7 := { stood := { row := linesNamesUptoRow, standIns := [], harness := (true, "6269a095f8534f626ab007dba629e886746e9f91429a3a947a48e680c0d8a022"), looks := true }, kinds := [], alts := [], laidByText := true, laidKinds := [.data, .data, .data, .data, .sentinel, .sentinel, .pinned], laidTests := true, laidLooks := .later }
def LinesNamesUptoCardSaid : Prop := Claim7.holds Tryz.pinned (.plain (OpenSpec.upto linesNamesSpec)) linesNamesUptoCard

/-- THE SECOND FORM's CARD OF 'spiritlevellaw45.LinesBack'. -/
def linesBackUptoCard : Claim7 := { stood := { row := linesBackUptoRow, standIns := [], harness := (true, "6269a095f8534f626ab007dba629e886746e9f91429a3a947a48e680c0d8a022"), looks := true }, kinds := [], alts := [], laidByText := true, laidKinds := [.data, .data, .data, .data, .sentinel, .sentinel, .pinned], laidTests := true, laidLooks := .later }
def LinesBackUptoCardSaid : Prop := Claim7.holds Tryz.pinned (.plain (OpenSpec.upto linesBackSpec)) linesBackUptoCard
end Rows
end Go.Proofs.YtnpbndglolcilaaGreatDoor
