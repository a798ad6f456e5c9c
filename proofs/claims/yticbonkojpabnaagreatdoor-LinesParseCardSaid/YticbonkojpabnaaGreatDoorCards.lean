/-
  DERIVED. GIVEN WITH THE SEED: THE CARDS: each row of YticbonkojpabnaaGreatDoorRows.lean that lists a variable, with what it lists TIED to the program's text (the seventh form; the later family's looks); each row that meets fmt, with fmt's text TOLD by the authors' own Lean function (tested against real Go, not proved from fmt's source: count such statements apart). THE CARD IS WHAT COUNTS. Prove the row's statement (the work); the ties are given (YticbonkojpabnaaGreatDoorTie.lean); close each card by the builder's one call (the guide's Derived/Test/ToyasCard.lean, 'card_holds'). Laid BY PROGRAM, IN A SANDBOX (cutbox-door.mjs). By AI agents, Wed Nov 11 2026. No macro, syntax, notation, axiom, sorry.
-/
import Derived.Test.YticbonkojpabnaaGreatDoorRows
import GoSem.ClaimSeven
namespace Go.Proofs.YticbonkojpabnaaGreatDoor
namespace Rows

/-- THE TIED CARD OF 'doorsteplaw47.LinesCode'. -/
def linesCodeCard : Claim7 := { stood := { row := linesCodeRow, standIns := [], harness := (true, "75b8e5a3e8f8b99b0400e8fe5a27cfe664539181e1d6dda0b48e5eab66b092d2"), looks := true }, kinds := [], alts := [], laidByText := true, laidKinds := [.data, .data, .data, .data, .sentinel, .sentinel, .pinned], laidTests := true, laidLooks := .later }
def LinesCodeCardSaid : Prop := Claim7.holds Tryz.pinned (.plain (OpenSpec.ofChange linesCodeSpec)) linesCodeCard

/-- THE TIED CARD OF 'doorsteplaw47.LinesPrint'. -/
def linesPrintCard : Claim7 := { stood := { row := linesPrintRow, standIns := [], harness := (true, "75b8e5a3e8f8b99b0400e8fe5a27cfe664539181e1d6dda0b48e5eab66b092d2"), looks := true }, kinds := [], alts := [], laidByText := true, laidKinds := [.data, .data, .data, .data, .sentinel, .sentinel, .pinned], laidTests := true, laidLooks := .later }
def LinesPrintCardSaid : Prop := Claim7.holds Tryz.pinned (.plain (OpenSpec.ofChange linesPrintSpec)) linesPrintCard

/-- THE TIED CARD OF 'doorsteplaw47.LinesParse'. -/
def linesParseCard : Claim7 := { stood := { row := linesParseRow, standIns := [], harness := (true, "75b8e5a3e8f8b99b0400e8fe5a27cfe664539181e1d6dda0b48e5eab66b092d2"), looks := true }, kinds := [], alts := [], laidByText := true, laidKinds := [.data, .data, .data, .data, .sentinel, .sentinel, .pinned], laidTests := true, laidLooks := .later }
def LinesParseCardSaid : Prop := Claim7.holds Tryz.pinned (.plain (OpenSpec.ofChange linesParseSpec)) linesParseCard

/-- THE SECOND FORM's CARD OF 'doorsteplaw47.LinesCode'. -/
def linesCodeUptoCard : Claim7 := { stood := { row := linesCodeUptoRow, standIns := [], harness := (true, "75b8e5a3e8f8b99b0400e8fe5a27cfe664539181e1d6dda0b48e5eab66b092d2"), looks := true }, kinds := [], alts := [], laidByText := true, laidKinds := [.data, .data, .data, .data, .sentinel, .sentinel, .pinned], laidTests := true, laidLooks := .later }
def LinesCodeUptoCardSaid : Prop := Claim7.holds Tryz.pinned (.plain (OpenSpec.upto linesCodeSpec)) linesCodeUptoCard

/-- THE SECOND FORM's CARD OF 'doorsteplaw47.LinesPrint'. -/
def linesPrintUptoCard : Claim7 := { stood := { row := linesPrintUptoRow, standIns := [], harness := (true, "75b8e5a3e8f8b99b0400e8fe5a27cfe664539181e1d6dda0b48e5eab66b092d2"), looks := true }, kinds := [], alts := [], laidByText := true, laidKinds := [.data, .data, .data, .data, .sentinel, .sentinel, .pinned], laidTests := true, laidLooks := .later }
def LinesPrintUptoCardSaid : Prop := Claim7.holds Tryz.pinned (.plain (OpenSpec.upto linesPrintSpec)) linesPrintUptoCard

/-- THE SECOND FORM's CARD OF 'doorsteplaw47.LinesParse'. -/
def linesParseUptoCard : Claim7 := { stood := { row := linesParseUptoRow, standIns := [], harness := (true, "75b8e5a3e8f8b99b0400e8fe5a27cfe664539181e1d6dda0b48e5eab66b092d2"), looks := true }, kinds := [], alts := [], laidByText := true, laidKinds := [.data, .data, .data, .data, .sentinel, .sentinel, .pinned], laidTests := true, laidLooks := .later }
def LinesParseUptoCardSaid : Prop := Claim7.holds Tryz.pinned (.plain (OpenSpec.upto linesParseSpec)) linesParseUptoCard
end Rows
end Go.Proofs.YticbonkojpabnaaGreatDoor
