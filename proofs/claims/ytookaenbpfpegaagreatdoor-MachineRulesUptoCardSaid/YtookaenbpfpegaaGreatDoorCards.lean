/-
  DERIVED. GIVEN WITH THE SEED: THE CARDS: each row of YtookaenbpfpegaaGreatDoorRows.lean that lists a variable, with what it lists TIED to the program's text (the seventh form; the later family's looks); each row that meets fmt, with fmt's text TOLD by the authors' own Lean function (tested against real Go, not proved from fmt's source: count such statements apart). THE CARD IS WHAT COUNTS. Prove the row's statement (the work); the ties are given (YtookaenbpfpegaaGreatDoorTie.lean); close each card by the builder's one call (the guide's Derived/Test/ToyasCard.lean, 'card_holds'). Laid BY PROGRAM, IN A SANDBOX (cutbox-door.mjs). By AI agents, Wed Nov 11 2026. No macro, syntax, notation, axiom, sorry.
-/
import Derived.Test.YtookaenbpfpegaaGreatDoorRows
import GoSem.ClaimSeven
namespace Go.Proofs.YtookaenbpfpegaaGreatDoor
namespace Rows

/-- THE TIED CARD OF 'doorsteplaw34.RuleprintWrites'. -/
def ruleprintWritesCard : Claim7 := { stood := { row := ruleprintWritesRow, standIns := [], harness := (true, "aeaffc1ef2274b6458240163141f9bc9235b09700bd615deaba4e6c81d704173"), looks := true }, kinds := [], alts := [], laidByText := true, laidKinds := [.data, .pinned], laidTests := true, laidLooks := .later }
def RuleprintWritesCardSaid : Prop := Claim7.holds Tryz.pinned (.plain (OpenSpec.ofChange ruleprintWritesSpec)) ruleprintWritesCard

/-- THE TIED CARD OF 'doorsteplaw37.MachineRules'. -/
def machineRulesCard : Claim7 := { stood := { row := machineRulesRow, standIns := [], harness := (true, "aeaffc1ef2274b6458240163141f9bc9235b09700bd615deaba4e6c81d704173"), looks := true }, kinds := [], alts := [], laidByText := true, laidKinds := [.data, .pinned], laidTests := true, laidLooks := .later }
def MachineRulesCardSaid : Prop := Claim7.holds Tryz.pinned (.plain (OpenSpec.ofChange machineRulesSpec)) machineRulesCard

/-- THE TIED CARD OF 'doorsteplaw37.MachineRuns'. -/
def machineRunsCard : Claim7 := { stood := { row := machineRunsRow, standIns := [], harness := (true, "aeaffc1ef2274b6458240163141f9bc9235b09700bd615deaba4e6c81d704173"), looks := true }, kinds := [], alts := [], laidByText := true, laidKinds := [.data, .pinned], laidTests := true, laidLooks := .later }
def MachineRunsCardSaid : Prop := Claim7.holds Tryz.pinned (.plain (OpenSpec.ofChange machineRunsSpec)) machineRunsCard

/-- THE TIED CARD OF 'doorsteplaw37.MachineNone'. -/
def machineNoneCard : Claim7 := { stood := { row := machineNoneRow, standIns := [], harness := (true, "aeaffc1ef2274b6458240163141f9bc9235b09700bd615deaba4e6c81d704173"), looks := true }, kinds := [], alts := [], laidByText := true, laidKinds := [.data, .pinned], laidTests := true, laidLooks := .later }
def MachineNoneCardSaid : Prop := Claim7.holds Tryz.pinned (.plain (OpenSpec.ofChange machineNoneSpec)) machineNoneCard

/-- THE TIED CARD OF 'doorsteplaw33.RuletextReads'. -/
def ruletextReadsCard : Claim7 := { stood := { row := ruletextReadsRow, standIns := [], harness := (true, "aeaffc1ef2274b6458240163141f9bc9235b09700bd615deaba4e6c81d704173"), looks := true }, kinds := [], alts := [], laidByText := true, laidKinds := [.data, .pinned], laidTests := true, laidLooks := .later }
def RuletextReadsCardSaid : Prop := Claim7.holds Tryz.pinned (.plain (OpenSpec.ofChange ruletextReadsSpec)) ruletextReadsCard

/-- THE TIED CARD OF 'doorsteplaw33.RuletextBlanks'. -/
def ruletextBlanksCard : Claim7 := { stood := { row := ruletextBlanksRow, standIns := [], harness := (true, "aeaffc1ef2274b6458240163141f9bc9235b09700bd615deaba4e6c81d704173"), looks := true }, kinds := [], alts := [], laidByText := true, laidKinds := [.data, .pinned], laidTests := true, laidLooks := .later }
def RuletextBlanksCardSaid : Prop := Claim7.holds Tryz.pinned (.plain (OpenSpec.ofChange ruletextBlanksSpec)) ruletextBlanksCard

/-- THE TIED CARD OF 'doorsteplaw33.RuletextSkips'. -/
def ruletextSkipsCard : Claim7 := { stood := { row := ruletextSkipsRow, standIns := [], harness := (true, "aeaffc1ef2274b6458240163141f9bc9235b09700bd615deaba4e6c81d704173"), looks := true }, kinds := [], alts := [], laidByText := true, laidKinds := [.data, .pinned], laidTests := true, laidLooks := .later }
def RuletextSkipsCardSaid : Prop := Claim7.holds Tryz.pinned (.plain (OpenSpec.ofChange ruletextSkipsSpec)) ruletextSkipsCard

/-- THE TIED CARD OF 'doorsteplaw34.RuleprintBack'. -/
def ruleprintBackCard : Claim7 := { stood := { row := ruleprintBackRow, standIns := [], harness := (true, "aeaffc1ef2274b6458240163141f9bc9235b09700bd615deaba4e6c81d704173"), looks := true }, kinds := [], alts := [], laidByText := true, laidKinds := [.data, .pinned], laidTests := true, laidLooks := .later }
def RuleprintBackCardSaid : Prop := Claim7.holds Tryz.pinned (.plain (OpenSpec.ofChange ruleprintBackSpec)) ruleprintBackCard

/-- THE SECOND FORM's CARD OF 'doorsteplaw34.RuleprintWrites'. -/
def ruleprintWritesUptoCard : Claim7 := { stood := { row := ruleprintWritesUptoRow, standIns := [], harness := (true, "aeaffc1ef2274b6458240163141f9bc9235b09700bd615deaba4e6c81d704173"), looks := true }, kinds := [], alts := [], laidByText := true, laidKinds := [.data, .pinned], laidTests := true, laidLooks := .later }
def RuleprintWritesUptoCardSaid : Prop := Claim7.holds Tryz.pinned (.plain (OpenSpec.upto ruleprintWritesSpec)) ruleprintWritesUptoCard

/-- THE SECOND FORM's CARD OF 'doorsteplaw37.MachineRules'. -/
def machineRulesUptoCard : Claim7 := { stood := { row := machineRulesUptoRow, standIns := [], harness := (true, "aeaffc1ef2274b6458240163141f9bc9235b09700bd615deaba4e6c81d704173"), looks := true }, kinds := [], alts := [], laidByText := true, laidKinds := [.data, .pinned], laidTests := true, laidLooks := .later }
def MachineRulesUptoCardSaid : Prop := Claim7.holds Tryz.pinned (.plain (OpenSpec.upto machineRulesSpec)) machineRulesUptoCard

/-- THE SECOND FORM's CARD OF 'doorsteplaw37.MachineRuns'. -/
def machineRunsUptoCard : Claim7 := { stood := { row := machineRunsUptoRow, standIns := [], harness := (true, "aeaffc1ef2274b6458240163141f9bc9235b09700bd615deaba4e6c81d704173"), looks := true }, kinds := [], alts := [], laidByText := true, laidKinds := [.data, .pinned], laidTests := true, laidLooks := .later }
def MachineRunsUptoCardSaid : Prop := Claim7.holds Tryz.pinned (.plain (OpenSpec.upto machineRunsSpec)) machineRunsUptoCard

/-- THE SECOND FORM's CARD OF 'doorsteplaw37.MachineNone'. -/
def machineNoneUptoCard : Claim7 := { stood := { row := machineNoneUptoRow, standIns := [], harness := (true, "aeaffc1ef2274b6458240163141f9bc9235b09700bd615deaba4e6c81d704173"), looks := true }, kinds := [], alts := [], laidByText := true, laidKinds := [.data, .pinned], laidTests := true, laidLooks := .later }
def MachineNoneUptoCardSaid : Prop := Claim7.holds Tryz.pinned (.plain (OpenSpec.upto machineNoneSpec)) machineNoneUptoCard

/-- THE SECOND FORM's CARD OF 'doorsteplaw33.RuletextReads'. -/
def ruletextReadsUptoCard : Claim7 := { stood := { row := ruletextReadsUptoRow, standIns := [], harness := (true, "aeaffc1ef2274b6458240163141f9bc9235b09700bd615deaba4e6c81d704173"), looks := true }, kinds := [], alts := [], laidByText := true, laidKinds := [.data, .pinned], laidTests := true, laidLooks := .later }
def RuletextReadsUptoCardSaid : Prop := Claim7.holds Tryz.pinned (.plain (OpenSpec.upto ruletextReadsSpec)) ruletextReadsUptoCard

/-- THE SECOND FORM's CARD OF 'doorsteplaw33.RuletextBlanks'. -/
def ruletextBlanksUptoCard : Claim7 := { stood := { row := ruletextBlanksUptoRow, standIns := [], harness := (true, "aeaffc1ef2274b6458240163141f9bc9235b09700bd615deaba4e6c81d704173"), looks := true }, kinds := [], alts := [], laidByText := true, laidKinds := [.data, .pinned], laidTests := true, laidLooks := .later }
def RuletextBlanksUptoCardSaid : Prop := Claim7.holds Tryz.pinned (.plain (OpenSpec.upto ruletextBlanksSpec)) ruletextBlanksUptoCard

/-- THE SECOND FORM's CARD OF 'doorsteplaw33.RuletextSkips'. -/
def ruletextSkipsUptoCard : Claim7 := { stood := { row := ruletextSkipsUptoRow, standIns := [], harness := (true, "aeaffc1ef2274b6458240163141f9bc9235b09700bd615deaba4e6c81d704173"), looks := true }, kinds := [], alts := [], laidByText := true, laidKinds := [.data, .pinned], laidTests := true, laidLooks := .later }
def RuletextSkipsUptoCardSaid : Prop := Claim7.holds Tryz.pinned (.plain (OpenSpec.upto ruletextSkipsSpec)) ruletextSkipsUptoCard

/-- THE SECOND FORM's CARD OF 'doorsteplaw34.RuleprintBack'. -/
def ruleprintBackUptoCard : Claim7 := { stood := { row := ruleprintBackUptoRow, standIns := [], harness := (true, "aeaffc1ef2274b6458240163141f9bc9235b09700bd615deaba4e6c81d704173"), looks := true }, kinds := [], alts := [], laidByText := true, laidKinds := [.data, .pinned], laidTests := true, laidLooks := .later }
def RuleprintBackUptoCardSaid : Prop := Claim7.holds Tryz.pinned (.plain (OpenSpec.upto ruleprintBackSpec)) ruleprintBackUptoCard
end Rows
end Go.Proofs.YtookaenbpfpegaaGreatDoor
