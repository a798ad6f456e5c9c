/-
  DERIVED. GIVEN WITH THE SEED: THE CARDS: each row of YthneihlplijklaaGreatDoorRows.lean that lists a variable, with what it lists TIED to the program's text (the seventh form; the later family's looks); each row that meets fmt, with fmt's text TOLD by the authors' own Lean function (tested against real Go, not proved from fmt's source: count such statements apart). THE CARD IS WHAT COUNTS. Prove the row's statement (the work); the ties are given (YthneihlplijklaaGreatDoorTie.lean); close each card by the builder's one call (the guide's Derived/Test/ToyasCard.lean, 'card_holds'). Laid BY PROGRAM, IN A SANDBOX (cutbox-door.mjs). By AI agents, Wed Nov 11 2026. No macro, syntax, notation, axiom, sorry.
-/
import Derived.Test.YthneihlplijklaaGreatDoorRows
import GoSem.ClaimSeven
namespace Go.Proofs.YthneihlplijklaaGreatDoor
namespace Rows

/-- THE TIED CARD OF 'doorsteplaw36.CompileMakes'. -/
def compileMakesCard : Claim7 := { stood := { row := compileMakesRow, standIns := [], harness := (true, "7f5e0b2aa82c396c5cb5badc56f733b4f1d2678b80431d4e6eb7a2a514de4d11"), looks := false }, kinds := [], alts := [], laidByText := true, laidKinds := [.data, .pinned], laidTests := true, laidLooks := .later }
def CompileMakesCardSaid : Prop := Claim7.holds Tryz.pinned (.plain (OpenSpec.ofChange compileMakesSpec)) compileMakesCard

/-- THE TIED CARD OF 'doorsteplaw38.WritesFree'. -/
def writesFreeCard : Claim7 := { stood := { row := writesFreeRow, standIns := [], harness := (true, "7f5e0b2aa82c396c5cb5badc56f733b4f1d2678b80431d4e6eb7a2a514de4d11"), looks := false }, kinds := [], alts := [], laidByText := true, laidKinds := [.data, .pinned], laidTests := true, laidLooks := .later }
def WritesFreeCardSaid : Prop := Claim7.holds Tryz.pinned (.plain (OpenSpec.ofChange writesFreeSpec)) writesFreeCard

/-- THE TIED CARD OF 'doorsteplaw34.RuleprintWrites'. -/
def ruleprintWritesCard : Claim7 := { stood := { row := ruleprintWritesRow, standIns := [], harness := (true, "7f5e0b2aa82c396c5cb5badc56f733b4f1d2678b80431d4e6eb7a2a514de4d11"), looks := false }, kinds := [], alts := [], laidByText := true, laidKinds := [.data, .pinned], laidTests := true, laidLooks := .later }
def RuleprintWritesCardSaid : Prop := Claim7.holds Tryz.pinned (.plain (OpenSpec.ofChange ruleprintWritesSpec)) ruleprintWritesCard

/-- THE TIED CARD OF 'doorsteplaw37.MachineRules'. -/
def machineRulesCard : Claim7 := { stood := { row := machineRulesRow, standIns := [], harness := (true, "7f5e0b2aa82c396c5cb5badc56f733b4f1d2678b80431d4e6eb7a2a514de4d11"), looks := false }, kinds := [], alts := [], laidByText := true, laidKinds := [.data, .pinned], laidTests := true, laidLooks := .later }
def MachineRulesCardSaid : Prop := Claim7.holds Tryz.pinned (.plain (OpenSpec.ofChange machineRulesSpec)) machineRulesCard

/-- THE TIED CARD OF 'doorsteplaw37.MachineRuns'. -/
def machineRunsCard : Claim7 := { stood := { row := machineRunsRow, standIns := [], harness := (true, "7f5e0b2aa82c396c5cb5badc56f733b4f1d2678b80431d4e6eb7a2a514de4d11"), looks := false }, kinds := [], alts := [], laidByText := true, laidKinds := [.data, .pinned], laidTests := true, laidLooks := .later }
def MachineRunsCardSaid : Prop := Claim7.holds Tryz.pinned (.plain (OpenSpec.ofChange machineRunsSpec)) machineRunsCard

/-- THE TIED CARD OF 'doorsteplaw37.MachineNone'. -/
def machineNoneCard : Claim7 := { stood := { row := machineNoneRow, standIns := [], harness := (true, "7f5e0b2aa82c396c5cb5badc56f733b4f1d2678b80431d4e6eb7a2a514de4d11"), looks := false }, kinds := [], alts := [], laidByText := true, laidKinds := [.data, .pinned], laidTests := true, laidLooks := .later }
def MachineNoneCardSaid : Prop := Claim7.holds Tryz.pinned (.plain (OpenSpec.ofChange machineNoneSpec)) machineNoneCard

/-- THE SECOND FORM's CARD OF 'doorsteplaw36.CompileMakes'. -/
def compileMakesUptoCard : Claim7 := { stood := { row := compileMakesUptoRow, standIns := [], harness := (true, "7f5e0b2aa82c396c5cb5badc56f733b4f1d2678b80431d4e6eb7a2a514de4d11"), looks := false }, kinds := [], alts := [], laidByText := true, laidKinds := [.data, .pinned], laidTests := true, laidLooks := .later }
def CompileMakesUptoCardSaid : Prop := Claim7.holds Tryz.pinned (.plain (OpenSpec.upto compileMakesSpec)) compileMakesUptoCard

/-- THE SECOND FORM's CARD OF 'doorsteplaw38.WritesFree'. -/
def writesFreeUptoCard : Claim7 := { stood := { row := writesFreeUptoRow, standIns := [], harness := (true, "7f5e0b2aa82c396c5cb5badc56f733b4f1d2678b80431d4e6eb7a2a514de4d11"), looks := false }, kinds := [], alts := [], laidByText := true, laidKinds := [.data, .pinned], laidTests := true, laidLooks := .later }
def WritesFreeUptoCardSaid : Prop := Claim7.holds Tryz.pinned (.plain (OpenSpec.upto writesFreeSpec)) writesFreeUptoCard

/-- THE SECOND FORM's CARD OF 'doorsteplaw34.RuleprintWrites'. -/
def ruleprintWritesUptoCard : Claim7 := { stood := { row := ruleprintWritesUptoRow, standIns := [], harness := (true, "7f5e0b2aa82c396c5cb5badc56f733b4f1d2678b80431d4e6eb7a2a514de4d11"), looks := false }, kinds := [], alts := [], laidByText := true, laidKinds := [.data, .pinned], laidTests := true, laidLooks := .later }
def RuleprintWritesUptoCardSaid : Prop := Claim7.holds Tryz.pinned (.plain (OpenSpec.upto ruleprintWritesSpec)) ruleprintWritesUptoCard

/-- THE SECOND FORM's CARD OF 'doorsteplaw37.MachineRules'. -/
def machineRulesUptoCard : Claim7 := { stood := { row := machineRulesUptoRow, standIns := [], harness := (true, "7f5e0b2aa82c396c5cb5badc56f733b4f1d2678b80431d4e6eb7a2a514de4d11"), looks := false }, kinds := [], alts := [], laidByText := true, laidKinds := [.data, .pinned], laidTests := true, laidLooks := .later }
def MachineRulesUptoCardSaid : Prop := Claim7.holds Tryz.pinned (.plain (OpenSpec.upto machineRulesSpec)) machineRulesUptoCard

/-- THE SECOND FORM's CARD OF 'doorsteplaw37.MachineRuns'. -/
def machineRunsUptoCard : Claim7 := { stood := { row := machineRunsUptoRow, standIns := [], harness := (true, "7f5e0b2aa82c396c5cb5badc56f733b4f1d2678b80431d4e6eb7a2a514de4d11"), looks := false }, kinds := [], alts := [], laidByText := true, laidKinds := [.data, .pinned], laidTests := true, laidLooks := .later }
def MachineRunsUptoCardSaid : Prop := Claim7.holds Tryz.pinned (.plain (OpenSpec.upto machineRunsSpec)) machineRunsUptoCard

/-- THE SECOND FORM's CARD OF 'doorsteplaw37.MachineNone'. -/
def machineNoneUptoCard : Claim7 := { stood := { row := machineNoneUptoRow, standIns := [], harness := (true, "7f5e0b2aa82c396c5cb5badc56f733b4f1d2678b80431d4e6eb7a2a514de4d11"), looks := false }, kinds := [], alts := [], laidByText := true, laidKinds := [.data, .pinned], laidTests := true, laidLooks := .later }
def MachineNoneUptoCardSaid : Prop := Claim7.holds Tryz.pinned (.plain (OpenSpec.upto machineNoneSpec)) machineNoneUptoCard
end Rows
end Go.Proofs.YthneihlplijklaaGreatDoor
