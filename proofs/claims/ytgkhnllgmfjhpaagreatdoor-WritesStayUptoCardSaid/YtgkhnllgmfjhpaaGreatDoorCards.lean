/-
  DERIVED. GIVEN WITH THE SEED: THE CARDS: each row of YtgkhnllgmfjhpaaGreatDoorRows.lean that lists a variable, with what it lists TIED to the program's text (the seventh form; the later family's looks); each row that meets fmt, with fmt's text TOLD by the authors' own Lean function (tested against real Go, not proved from fmt's source: count such statements apart). THE CARD IS WHAT COUNTS. Prove the row's statement (the work); the ties are given (YtgkhnllgmfjhpaaGreatDoorTie.lean); close each card by the builder's one call (the guide's Derived/Test/ToyasCard.lean, 'card_holds'). Laid BY PROGRAM, IN A SANDBOX (cutbox-door.mjs). By AI agents, Wed Nov 11 2026. No macro, syntax, notation, axiom, sorry.
-/
import Derived.Test.YtgkhnllgmfjhpaaGreatDoorRows
import GoSem.ClaimSeven
namespace Go.Proofs.YtgkhnllgmfjhpaaGreatDoor
namespace Rows

/-- THE TIED CARD OF 'doorsteplaw38.WritesStay'. -/
def writesStayCard : Claim7 := { stood := { row := writesStayRow, standIns := [], harness := (true, "7e376c93985aa17a49ce9e635f328d9d89bb69030725d9d7d2c4ea5665437394"), looks := false }, kinds := [], alts := [], laidByText := true, laidKinds := [.data, .pinned], laidTests := true, laidLooks := .later }
def WritesStayCardSaid : Prop := Claim7.holds Tryz.pinned (.plain (OpenSpec.ofChange writesStaySpec)) writesStayCard

/-- THE SECOND FORM's CARD OF 'doorsteplaw38.WritesStay'. -/
def writesStayUptoCard : Claim7 := { stood := { row := writesStayUptoRow, standIns := [], harness := (true, "7e376c93985aa17a49ce9e635f328d9d89bb69030725d9d7d2c4ea5665437394"), looks := false }, kinds := [], alts := [], laidByText := true, laidKinds := [.data, .pinned], laidTests := true, laidLooks := .later }
def WritesStayUptoCardSaid : Prop := Claim7.holds Tryz.pinned (.plain (OpenSpec.upto writesStaySpec)) writesStayUptoCard
end Rows
end Go.Proofs.YtgkhnllgmfjhpaaGreatDoor
