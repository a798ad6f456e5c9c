/-
  DERIVED. GIVEN WITH THE SEED: THE CARDS: each row of YtfhodppaelfcfaaGreatDoorRows.lean that lists a variable, with what it lists TIED to the program's text (the seventh form; the later family's looks); each row that meets fmt, with fmt's text TOLD by the authors' own Lean function (tested against real Go, not proved from fmt's source: count such statements apart). THE CARD IS WHAT COUNTS. Prove the row's statement (the work); the ties are given (YtfhodppaelfcfaaGreatDoorTie.lean); close each card by the builder's one call (the guide's Derived/Test/ToyasCard.lean, 'card_holds'). Laid BY PROGRAM, IN A SANDBOX (cutbox-door.mjs). By AI agents, Wed Nov 11 2026. No macro, syntax, notation, axiom, sorry.
-/
import Derived.Test.YtfhodppaelfcfaaGreatDoorRows
import GoSem.ClaimSeven
namespace Go.Proofs.YtfhodppaelfcfaaGreatDoor
namespace Rows

/-- THE TIED CARD OF 'doorsteplaw32.RuleChecks'. -/
def ruleChecksCard : Claim7 := { stood := { row := ruleChecksRow, standIns := [], harness := (true, "f21fc46ebc8a717cc29e4c458e6282ab9717e9ebc040bb73dfc7ebd1dbed0441"), looks := false }, kinds := [], alts := [], laidByText := true, laidKinds := [.data, .pinned], laidTests := true, laidLooks := .later }
def RuleChecksCardSaid : Prop := Claim7.holds Tryz.pinned (.plain (OpenSpec.ofChange ruleChecksSpec)) ruleChecksCard

/-- THE SECOND FORM's CARD OF 'doorsteplaw32.RuleChecks'. -/
def ruleChecksUptoCard : Claim7 := { stood := { row := ruleChecksUptoRow, standIns := [], harness := (true, "f21fc46ebc8a717cc29e4c458e6282ab9717e9ebc040bb73dfc7ebd1dbed0441"), looks := false }, kinds := [], alts := [], laidByText := true, laidKinds := [.data, .pinned], laidTests := true, laidLooks := .later }
def RuleChecksUptoCardSaid : Prop := Claim7.holds Tryz.pinned (.plain (OpenSpec.upto ruleChecksSpec)) ruleChecksUptoCard
end Rows
end Go.Proofs.YtfhodppaelfcfaaGreatDoor
