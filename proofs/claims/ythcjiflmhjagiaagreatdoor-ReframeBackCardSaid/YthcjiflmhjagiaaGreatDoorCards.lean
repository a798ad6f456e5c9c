/-
  DERIVED. GIVEN WITH THE SEED: THE CARDS: each row of YthcjiflmhjagiaaGreatDoorRows.lean that lists a variable, with what it lists TIED to the program's text (the seventh form; the later family's looks); each row that meets fmt, with fmt's text TOLD by the authors' own Lean function (tested against real Go, not proved from fmt's source: count such statements apart). THE CARD IS WHAT COUNTS. Prove the row's statement (the work); the ties are given (YthcjiflmhjagiaaGreatDoorTie.lean); close each card by the builder's one call (the guide's Derived/Test/ToyasCard.lean, 'card_holds'). Laid BY PROGRAM, IN A SANDBOX (cutbox-door.mjs). By AI agents, Wed Nov 11 2026. No macro, syntax, notation, axiom, sorry.
-/
import Derived.Test.YthcjiflmhjagiaaGreatDoorRows
import GoSem.ClaimSeven
namespace Go.Proofs.YthcjiflmhjagiaaGreatDoor
namespace Rows

/-- THE TIED CARD OF 'doorsteplaw20.EnchunkAll'. -/
def enchunkAllCard : Claim7 := { stood := { row := enchunkAllRow, standIns := [], harness := (true, "4bea2fadaaccae5d34c73eb5b5a5066661ff948a06bf9a73e1b34ba5b0fa0d74"), looks := false }, kinds := [], alts := [], laidByText := true, laidKinds := [.data, .data, .data, .data, .pinned], laidTests := true, laidLooks := .later }
def EnchunkAllCardSaid : Prop := Claim7.holds Tryz.pinned (.plain (OpenSpec.ofChange enchunkAllSpec)) enchunkAllCard

/-- THE TIED CARD OF 'doorsteplaw42.ReframeBack'. -/
def reframeBackCard : Claim7 := { stood := { row := reframeBackRow, standIns := [], harness := (true, "4bea2fadaaccae5d34c73eb5b5a5066661ff948a06bf9a73e1b34ba5b0fa0d74"), looks := false }, kinds := [], alts := [], laidByText := true, laidKinds := [.data, .data, .data, .data, .pinned], laidTests := true, laidLooks := .later }
def ReframeBackCardSaid : Prop := Claim7.holds Tryz.pinned (.plain (OpenSpec.ofChange reframeBackSpec)) reframeBackCard

/-- THE SECOND FORM's CARD OF 'doorsteplaw20.EnchunkAll'. -/
def enchunkAllUptoCard : Claim7 := { stood := { row := enchunkAllUptoRow, standIns := [], harness := (true, "4bea2fadaaccae5d34c73eb5b5a5066661ff948a06bf9a73e1b34ba5b0fa0d74"), looks := false }, kinds := [], alts := [], laidByText := true, laidKinds := [.data, .data, .data, .data, .pinned], laidTests := true, laidLooks := .later }
def EnchunkAllUptoCardSaid : Prop := Claim7.holds Tryz.pinned (.plain (OpenSpec.upto enchunkAllSpec)) enchunkAllUptoCard

/-- THE SECOND FORM's CARD OF 'doorsteplaw42.ReframeBack'. -/
def reframeBackUptoCard : Claim7 := { stood := { row := reframeBackUptoRow, standIns := [], harness := (true, "4bea2fadaaccae5d34c73eb5b5a5066661ff948a06bf9a73e1b34ba5b0fa0d74"), looks := false }, kinds := [], alts := [], laidByText := true, laidKinds := [.data, .data, .data, .data, .pinned], laidTests := true, laidLooks := .later }
def ReframeBackUptoCardSaid : Prop := Claim7.holds Tryz.pinned (.plain (OpenSpec.upto reframeBackSpec)) reframeBackUptoCard
end Rows
end Go.Proofs.YthcjiflmhjagiaaGreatDoor
