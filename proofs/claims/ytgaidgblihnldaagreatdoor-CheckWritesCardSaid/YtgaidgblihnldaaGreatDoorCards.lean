/-
  DERIVED. GIVEN WITH THE SEED: THE CARDS: each row of YtgaidgblihnldaaGreatDoorRows.lean that lists a variable, with what it lists TIED to the program's text (the seventh form; the later family's looks); each row that meets fmt, with fmt's text TOLD by the authors' own Lean function (tested against real Go, not proved from fmt's source: count such statements apart). THE CARD IS WHAT COUNTS. Prove the row's statement (the work); the ties are given (YtgaidgblihnldaaGreatDoorTie.lean); close each card by the builder's one call (the guide's Derived/Test/ToyasCard.lean, 'card_holds'). Laid BY PROGRAM, IN A SANDBOX (cutbox-door.mjs). By AI agents, Wed Nov 11 2026. No macro, syntax, notation, axiom, sorry.
-/
import Derived.Test.YtgaidgblihnldaaGreatDoorRows
import GoSem.ClaimSeven
namespace Go.Proofs.YtgaidgblihnldaaGreatDoor
namespace Rows

/-- THE TIED CARD OF 'doorsteplaw34.RuleprintWrites'. -/
def ruleprintWritesCard : Claim7 := { stood := { row := ruleprintWritesRow, standIns := [], harness := (true, "f1cb8f1293be78c92dbd6c410cd83b1a265466123bfb6af7d5a4f40c6ba33435"), looks := true }, kinds := [], alts := [], laidByText := true, laidKinds := [.data, .pinned], laidTests := true, laidLooks := .later }
def RuleprintWritesCardSaid : Prop := Claim7.holds Tryz.pinned (.plain (OpenSpec.ofChange ruleprintWritesSpec)) ruleprintWritesCard

/-- THE TIED CARD OF 'doorsteplaw33.RuletextReads'. -/
def ruletextReadsCard : Claim7 := { stood := { row := ruletextReadsRow, standIns := [], harness := (true, "f1cb8f1293be78c92dbd6c410cd83b1a265466123bfb6af7d5a4f40c6ba33435"), looks := true }, kinds := [], alts := [], laidByText := true, laidKinds := [.data, .pinned], laidTests := true, laidLooks := .later }
def RuletextReadsCardSaid : Prop := Claim7.holds Tryz.pinned (.plain (OpenSpec.ofChange ruletextReadsSpec)) ruletextReadsCard

/-- THE TIED CARD OF 'doorsteplaw33.RuletextBlanks'. -/
def ruletextBlanksCard : Claim7 := { stood := { row := ruletextBlanksRow, standIns := [], harness := (true, "f1cb8f1293be78c92dbd6c410cd83b1a265466123bfb6af7d5a4f40c6ba33435"), looks := true }, kinds := [], alts := [], laidByText := true, laidKinds := [.data, .pinned], laidTests := true, laidLooks := .later }
def RuletextBlanksCardSaid : Prop := Claim7.holds Tryz.pinned (.plain (OpenSpec.ofChange ruletextBlanksSpec)) ruletextBlanksCard

/-- THE TIED CARD OF 'doorsteplaw33.RuletextSkips'. -/
def ruletextSkipsCard : Claim7 := { stood := { row := ruletextSkipsRow, standIns := [], harness := (true, "f1cb8f1293be78c92dbd6c410cd83b1a265466123bfb6af7d5a4f40c6ba33435"), looks := true }, kinds := [], alts := [], laidByText := true, laidKinds := [.data, .pinned], laidTests := true, laidLooks := .later }
def RuletextSkipsCardSaid : Prop := Claim7.holds Tryz.pinned (.plain (OpenSpec.ofChange ruletextSkipsSpec)) ruletextSkipsCard

/-- THE TIED CARD OF 'doorsteplaw34.RuleprintBack'. -/
def ruleprintBackCard : Claim7 := { stood := { row := ruleprintBackRow, standIns := [], harness := (true, "f1cb8f1293be78c92dbd6c410cd83b1a265466123bfb6af7d5a4f40c6ba33435"), looks := true }, kinds := [], alts := [], laidByText := true, laidKinds := [.data, .pinned], laidTests := true, laidLooks := .later }
def RuleprintBackCardSaid : Prop := Claim7.holds Tryz.pinned (.plain (OpenSpec.ofChange ruleprintBackSpec)) ruleprintBackCard

/-- THE TIED CARD OF 'doorsteplaw34.RuleprintOnce'. -/
def ruleprintOnceCard : Claim7 := { stood := { row := ruleprintOnceRow, standIns := [], harness := (true, "f1cb8f1293be78c92dbd6c410cd83b1a265466123bfb6af7d5a4f40c6ba33435"), looks := true }, kinds := [], alts := [], laidByText := true, laidKinds := [.data, .pinned], laidTests := true, laidLooks := .later }
def RuleprintOnceCardSaid : Prop := Claim7.holds Tryz.pinned (.plain (OpenSpec.ofChange ruleprintOnceSpec)) ruleprintOnceCard

/-- THE TIED CARD OF 'doorsteplaw35.CheckReads'. -/
def checkReadsCard : Claim7 := { stood := { row := checkReadsRow, standIns := [], harness := (true, "f1cb8f1293be78c92dbd6c410cd83b1a265466123bfb6af7d5a4f40c6ba33435"), looks := true }, kinds := [], alts := [], laidByText := true, laidKinds := [.data, .pinned], laidTests := true, laidLooks := .later }
def CheckReadsCardSaid : Prop := Claim7.holds Tryz.pinned (.plain (OpenSpec.ofChange checkReadsSpec)) checkReadsCard

/-- THE TIED CARD OF 'doorsteplaw35.CheckSame'. -/
def checkSameCard : Claim7 := { stood := { row := checkSameRow, standIns := [], harness := (true, "f1cb8f1293be78c92dbd6c410cd83b1a265466123bfb6af7d5a4f40c6ba33435"), looks := true }, kinds := [], alts := [], laidByText := true, laidKinds := [.data, .pinned], laidTests := true, laidLooks := .later }
def CheckSameCardSaid : Prop := Claim7.holds Tryz.pinned (.plain (OpenSpec.ofChange checkSameSpec)) checkSameCard

/-- THE TIED CARD OF 'doorsteplaw35.CheckWrites'. -/
def checkWritesCard : Claim7 := { stood := { row := checkWritesRow, standIns := [], harness := (true, "f1cb8f1293be78c92dbd6c410cd83b1a265466123bfb6af7d5a4f40c6ba33435"), looks := true }, kinds := [], alts := [], laidByText := true, laidKinds := [.data, .pinned], laidTests := true, laidLooks := .later }
def CheckWritesCardSaid : Prop := Claim7.holds Tryz.pinned (.plain (OpenSpec.ofChange checkWritesSpec)) checkWritesCard

/-- THE SECOND FORM's CARD OF 'doorsteplaw34.RuleprintWrites'. -/
def ruleprintWritesUptoCard : Claim7 := { stood := { row := ruleprintWritesUptoRow, standIns := [], harness := (true, "f1cb8f1293be78c92dbd6c410cd83b1a265466123bfb6af7d5a4f40c6ba33435"), looks := true }, kinds := [], alts := [], laidByText := true, laidKinds := [.data, .pinned], laidTests := true, laidLooks := .later }
def RuleprintWritesUptoCardSaid : Prop := Claim7.holds Tryz.pinned (.plain (OpenSpec.upto ruleprintWritesSpec)) ruleprintWritesUptoCard

/-- THE SECOND FORM's CARD OF 'doorsteplaw33.RuletextReads'. -/
def ruletextReadsUptoCard : Claim7 := { stood := { row := ruletextReadsUptoRow, standIns := [], harness := (true, "f1cb8f1293be78c92dbd6c410cd83b1a265466123bfb6af7d5a4f40c6ba33435"), looks := true }, kinds := [], alts := [], laidByText := true, laidKinds := [.data, .pinned], laidTests := true, laidLooks := .later }
def RuletextReadsUptoCardSaid : Prop := Claim7.holds Tryz.pinned (.plain (OpenSpec.upto ruletextReadsSpec)) ruletextReadsUptoCard

/-- THE SECOND FORM's CARD OF 'doorsteplaw33.RuletextBlanks'. -/
def ruletextBlanksUptoCard : Claim7 := { stood := { row := ruletextBlanksUptoRow, standIns := [], harness := (true, "f1cb8f1293be78c92dbd6c410cd83b1a265466123bfb6af7d5a4f40c6ba33435"), looks := true }, kinds := [], alts := [], laidByText := true, laidKinds := [.data, .pinned], laidTests := true, laidLooks := .later }
def RuletextBlanksUptoCardSaid : Prop := Claim7.holds Tryz.pinned (.plain (OpenSpec.upto ruletextBlanksSpec)) ruletextBlanksUptoCard

/-- THE SECOND FORM's CARD OF 'doorsteplaw33.RuletextSkips'. -/
def ruletextSkipsUptoCard : Claim7 := { stood := { row := ruletextSkipsUptoRow, standIns := [], harness := (true, "f1cb8f1293be78c92dbd6c410cd83b1a265466123bfb6af7d5a4f40c6ba33435"), looks := true }, kinds := [], alts := [], laidByText := true, laidKinds := [.data, .pinned], laidTests := true, laidLooks := .later }
def RuletextSkipsUptoCardSaid : Prop := Claim7.holds Tryz.pinned (.plain (OpenSpec.upto ruletextSkipsSpec)) ruletextSkipsUptoCard

/-- THE SECOND FORM's CARD OF 'doorsteplaw34.RuleprintBack'. -/
def ruleprintBackUptoCard : Claim7 := { stood := { row := ruleprintBackUptoRow, standIns := [], harness := (true, "f1cb8f1293be78c92dbd6c410cd83b1a265466123bfb6af7d5a4f40c6ba33435"), looks := true }, kinds := [], alts := [], laidByText := true, laidKinds := [.data, .pinned], laidTests := true, laidLooks := .later }
def RuleprintBackUptoCardSaid : Prop := Claim7.holds Tryz.pinned (.plain (OpenSpec.upto ruleprintBackSpec)) ruleprintBackUptoCard

/-- THE SECOND FORM's CARD OF 'doorsteplaw34.RuleprintOnce'. -/
def ruleprintOnceUptoCard : Claim7 := { stood := { row := ruleprintOnceUptoRow, standIns := [], harness := (true, "f1cb8f1293be78c92dbd6c410cd83b1a265466123bfb6af7d5a4f40c6ba33435"), looks := true }, kinds := [], alts := [], laidByText := true, laidKinds := [.data, .pinned], laidTests := true, laidLooks := .later }
def RuleprintOnceUptoCardSaid : Prop := Claim7.holds Tryz.pinned (.plain (OpenSpec.upto ruleprintOnceSpec)) ruleprintOnceUptoCard

/-- THE SECOND FORM's CARD OF 'doorsteplaw35.CheckReads'. -/
def checkReadsUptoCard : Claim7 := { stood := { row := checkReadsUptoRow, standIns := [], harness := (true, "f1cb8f1293be78c92dbd6c410cd83b1a265466123bfb6af7d5a4f40c6ba33435"), looks := true }, kinds := [], alts := [], laidByText := true, laidKinds := [.data, .pinned], laidTests := true, laidLooks := .later }
def CheckReadsUptoCardSaid : Prop := Claim7.holds Tryz.pinned (.plain (OpenSpec.upto checkReadsSpec)) checkReadsUptoCard

/-- THE SECOND FORM's CARD OF 'doorsteplaw35.CheckSame'. -/
def checkSameUptoCard : Claim7 := { stood := { row := checkSameUptoRow, standIns := [], harness := (true, "f1cb8f1293be78c92dbd6c410cd83b1a265466123bfb6af7d5a4f40c6ba33435"), looks := true }, kinds := [], alts := [], laidByText := true, laidKinds := [.data, .pinned], laidTests := true, laidLooks := .later }
def CheckSameUptoCardSaid : Prop := Claim7.holds Tryz.pinned (.plain (OpenSpec.upto checkSameSpec)) checkSameUptoCard

/-- THE SECOND FORM's CARD OF 'doorsteplaw35.CheckWrites'. -/
def checkWritesUptoCard : Claim7 := { stood := { row := checkWritesUptoRow, standIns := [], harness := (true, "f1cb8f1293be78c92dbd6c410cd83b1a265466123bfb6af7d5a4f40c6ba33435"), looks := true }, kinds := [], alts := [], laidByText := true, laidKinds := [.data, .pinned], laidTests := true, laidLooks := .later }
def CheckWritesUptoCardSaid : Prop := Claim7.holds Tryz.pinned (.plain (OpenSpec.upto checkWritesSpec)) checkWritesUptoCard
end Rows
end Go.Proofs.YtgaidgblihnldaaGreatDoor
