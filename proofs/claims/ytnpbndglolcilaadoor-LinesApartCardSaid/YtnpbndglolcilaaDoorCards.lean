/-
  DERIVED. GIVEN WITH THE SEED: THE CARDS: each row of YtnpbndglolcilaaDoorRows.lean that lists a variable, with what it lists TIED to the program's text (the seventh form; the later family's looks); each row that meets fmt, with fmt's text TOLD by the authors' own Lean function (tested against real Go, not proved from fmt's source: count such statements apart). THE CARD IS WHAT COUNTS. Prove the row's statement (the work); the ties are given (YtnpbndglolcilaaDoorTie.lean); close each card by the builder's one call (the guide's Derived/Test/ToyasCard.lean, 'card_holds'). Laid BY PROGRAM, IN A SANDBOX (cutbox-door.mjs). By AI agents, Wed Nov 11 2026. No macro, syntax, notation, axiom, sorry.
-/
import Derived.Test.YtnpbndglolcilaaDoorRows
import GoSem.ClaimSeven
namespace Go.Proofs.YtnpbndglolcilaaDoor
namespace Rows

/-- THE TIED CARD OF 'spiritlevellaw34.PassesTexts'. -/
def passesTextsCard : Claim7 := { stood := { row := passesTextsRow, standIns := [], harness := (true, "dd1efda440efcb27dc780956b2dc9b51440647af804661ee8d4ff0b9de78e6b0"), looks := true }, kinds := [], alts := [], laidByText := true, laidKinds := [.data, .data, .data, .sentinel, .sentinel], laidTests := true, laidLooks := .later }
def PassesTextsCardSaid : Prop := Claim7.holds Tryd.pinned (.plain (OpenSpec.ofChange passesTextsSpec)) passesTextsCard

/-- THE TIED CARD OF 'spiritlevellaw34.PassesOnce'. -/
def passesOnceCard : Claim7 := { stood := { row := passesOnceRow, standIns := [], harness := (true, "dd1efda440efcb27dc780956b2dc9b51440647af804661ee8d4ff0b9de78e6b0"), looks := true }, kinds := [], alts := [], laidByText := true, laidKinds := [.data, .data, .data, .sentinel, .sentinel], laidTests := true, laidLooks := .later }
def PassesOnceCardSaid : Prop := Claim7.holds Tryd.pinned (.plain (OpenSpec.ofChange passesOnceSpec)) passesOnceCard

/-- THE TIED CARD OF 'spiritlevellaw45.LinesVerdicts'. -/
def linesVerdictsCard : Claim7 := { stood := { row := linesVerdictsRow, standIns := [], harness := (true, "dd1efda440efcb27dc780956b2dc9b51440647af804661ee8d4ff0b9de78e6b0"), looks := true }, kinds := [], alts := [], laidByText := true, laidKinds := [.data, .data, .data, .data, .sentinel, .sentinel, .pinned], laidTests := true, laidLooks := .later }
def LinesVerdictsCardSaid : Prop := Claim7.holds Tryd.pinned (.plain (OpenSpec.ofChange linesVerdictsSpec)) linesVerdictsCard

/-- THE TIED CARD OF 'spiritlevellaw45.LinesLists'. -/
def linesListsCard : Claim7 := { stood := { row := linesListsRow, standIns := [], harness := (true, "dd1efda440efcb27dc780956b2dc9b51440647af804661ee8d4ff0b9de78e6b0"), looks := true }, kinds := [], alts := [], laidByText := true, laidKinds := [.data, .data, .data, .data, .sentinel, .sentinel, .pinned], laidTests := true, laidLooks := .later }
def LinesListsCardSaid : Prop := Claim7.holds Tryd.pinned (.plain (OpenSpec.ofChange linesListsSpec)) linesListsCard

/-- THE TIED CARD OF 'spiritlevellaw45.LinesApart'. -/
def linesApartCard : Claim7 := { stood := { row := linesApartRow, standIns := [], harness := (true, "dd1efda440efcb27dc780956b2dc9b51440647af804661ee8d4ff0b9de78e6b0"), looks := true }, kinds := [], alts := [], laidByText := true, laidKinds := [.data, .data, .data, .data, .sentinel, .sentinel, .pinned], laidTests := true, laidLooks := .later }
def LinesApartCardSaid : Prop := Claim7.holds Tryd.pinned (.plain (OpenSpec.ofChange linesApartSpec)) linesApartCard

/-- THE SECOND FORM's CARD OF 'spiritlevellaw34.PassesTexts'. -/
def passesTextsUptoCard : Claim7 := { stood := { row := passesTextsUptoRow, standIns := [], harness := (true, "dd1efda440efcb27dc780956b2dc9b51440647af804661ee8d4ff0b9de78e6b0"), looks := true }, kinds := [], alts := [], laidByText := true, laidKinds := [.data, .data, .data, .sentinel, .sentinel], laidTests := true, laidLooks := .later }
def PassesTextsUptoCardSaid : Prop := Claim7.holds Tryd.pinned (.plain (OpenSpec.upto passesTextsSpec)) passesTextsUptoCard

/-- THE SECOND FORM's CARD OF 'spiritlevellaw34.PassesOnce'. -/
def passesOnceUptoCard : Claim7 := { stood := { row := passesOnceUptoRow, standIns := [], harness := (true, "dd1efda440efcb27dc780956b2dc9b51440647af804661ee8d4ff0b9de78e6b0"), looks := true }, kinds := [], alts := [], laidByText := true, laidKinds := [.data, .data, .data, .sentinel, .sentinel], laidTests := true, laidLooks := .later }
def PassesOnceUptoCardSaid : Prop := Claim7.holds Tryd.pinned (.plain (OpenSpec.upto passesOnceSpec)) passesOnceUptoCard

/-- THE SECOND FORM's CARD OF 'spiritlevellaw45.LinesVerdicts'. -/
def linesVerdictsUptoCard : Claim7 := { stood := { row := linesVerdictsUptoRow, standIns := [], harness := (true, "dd1efda440efcb27dc780956b2dc9b51440647af804661ee8d4ff0b9de78e6b0"), looks := true }, kinds := [], alts := [], laidByText := true, laidKinds := [.data, .data, .data, .data, .sentinel, .sentinel, .pinned], laidTests := true, laidLooks := .later }
def LinesVerdictsUptoCardSaid : Prop := Claim7.holds Tryd.pinned (.plain (OpenSpec.upto linesVerdictsSpec)) linesVerdictsUptoCard

/-- THE SECOND FORM's CARD OF 'spiritlevellaw45.LinesLists'. -/
def linesListsUptoCard : Claim7 := { stood := { row := linesListsUptoRow, standIns := [], harness := (true, "dd1efda440efcb27dc780956b2dc9b51440647af804661ee8d4ff0b9de78e6b0"), looks := true }, kinds := [], alts := [], laidByText := true, laidKinds := [.data, .data, .data, .data, .sentinel, .sentinel, .pinned], laidTests := true, laidLooks := .later }
def LinesListsUptoCardSaid : Prop := Claim7.holds Tryd.pinned (.plain (OpenSpec.upto linesListsSpec)) linesListsUptoCard

/-- THE SECOND FORM's CARD OF 'spiritlevellaw45.LinesApart'. -/
def linesApartUptoCard : Claim7 := { stood := { row := linesApartUptoRow, standIns := [], harness := (true, "dd1efda440efcb27dc780956b2dc9b51440647af804661ee8d4ff0b9de78e6b0"), looks := true }, kinds := [], alts := [], laidByText := true, laidKinds := [.data, .data, .data, .data, .sentinel, .sentinel, .pinned], laidTests := true, laidLooks := .later }
def LinesApartUptoCardSaid : Prop := Claim7.holds Tryd.pinned (.plain (OpenSpec.upto linesApartSpec)) linesApartUptoCard
end Rows
end Go.Proofs.YtnpbndglolcilaaDoor
