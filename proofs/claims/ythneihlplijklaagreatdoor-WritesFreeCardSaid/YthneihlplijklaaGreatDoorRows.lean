/-
  NARROWER THAN 'FOR EVERY INPUT', by the rows' own cells (each row's printed sentence says how): CompileMakes: laid · WritesFree: laid · RuleprintWrites: laid · MachineRules: laid · MachineRuns: laid · MachineNone: laid.
  DERIVED. THE GIVEN ROWS OF THIS SEAT. 6 by the template 'for every input the law returns true; each argument reads behind the call as it read before'; 0 by the template 'total and deterministic' (their statements: YthneihlplijklaaGreatDoorTotals.lean).
  GIVEN WITH THE SEED: the statements are not yours to turn. If you find one false, say at which input.
  Laid BY PROGRAM, IN A SANDBOX (cutbox-rows.mjs): the forced cells as the released guide's own fill.sh prints them over the translation 5dac4fea918f58ef… (all of the seat's roots in one cut). By AI agents, Wed Nov 11 2026. No macro, syntax, notation, axiom, sorry.
-/
import Derived.Test.YthneihlplijklaaGreatDoorChecked
import GoSem.PinnedTables
import GoSem.Claim
import GoSem.ClaimJoined
import GoSem.ClaimMapViews
import Derived.JoinedTies
import Derived.KernelRfl
namespace Go.Proofs.YthneihlplijklaaGreatDoor
/- THE CELL 'sum', in the pinned program and in every row, IS THE sha256 OF THE DUMP (.gsa) THAT YthneihlplijklaaGreatDoorProg.lean LOADS. Nothing in Lean hashes anything: it is a label: what it is worth is what the hold of that sum in a sandbox is worth. -/
noncomputable def Tryz.pinned : Pinned := { name := "ythneihlplijklaagreatdoor", sum := "5dac4fea918f58efcc997f21b0aed2ac3ed0b2a9e25dd4d053403d75e17d031b", checked := Tryz.checked }
namespace Rows
def none {H : Type} : Left H := { results := [], args := [] }

/- WHAT THE LISTED PACKAGE-LEVEL VARIABLES READ AS WHEN THE CALL BEGINS. Each datum BY PROGRAM (the guide's laid-datum.mjs) off the statement by which the dump's own 'gosem.cut.vars' lays the variable. In a bare row this is a premise. The card (YthneihlplijklaaGreatDoorCards.lean) ties it to the program's text. -/
def laid_unicode_utf8_acceptRanges {H : Type} : DataW H := .agg [.agg [.lit (.int .u8 128), .lit (.int .u8 191)], .agg [.lit (.int .u8 160), .lit (.int .u8 191)], .agg [.lit (.int .u8 128), .lit (.int .u8 159)], .agg [.lit (.int .u8 144), .lit (.int .u8 191)], .agg [.lit (.int .u8 128), .lit (.int .u8 143)], .agg [.lit (.int .u8 0), .lit (.int .u8 0)], .agg [.lit (.int .u8 0), .lit (.int .u8 0)], .agg [.lit (.int .u8 0), .lit (.int .u8 0)], .agg [.lit (.int .u8 0), .lit (.int .u8 0)], .agg [.lit (.int .u8 0), .lit (.int .u8 0)], .agg [.lit (.int .u8 0), .lit (.int .u8 0)], .agg [.lit (.int .u8 0), .lit (.int .u8 0)], .agg [.lit (.int .u8 0), .lit (.int .u8 0)], .agg [.lit (.int .u8 0), .lit (.int .u8 0)], .agg [.lit (.int .u8 0), .lit (.int .u8 0)], .agg [.lit (.int .u8 0), .lit (.int .u8 0)]]
/-- One of Go's own tables, pinned by name: the form's constant. -/
def laid_unicode_utf8_first : DataW Unit := Go.Pinned.utf8First

/-- 'doorsteplaw36.CompileMakes': WHATEVER THE INPUT: true; the input reads as it did. -/
def compileMakesSpec : ChangeSpec := { name := "compileMakes", fn := fun _ => fun
  | [d1, d2] => { results := [.lit (.bool true)], args := [d1, d2] }
  | _ => none }
def compileMakesRow : OpenClaim := { program := "ythneihlplijklaagreatdoor", sum := "5dac4fea918f58efcc997f21b0aed2ac3ed0b2a9e25dd4d053403d75e17d031b", func := "doorstep/doorsteplaw36.CompileMakes", spec := "compileMakes", inPlace := ["internal/bytealg.IndexByteString", "internal/bytealg.IndexString", "internal/bytealg.CountString", "internal/abi.NoEscape", "internal/bytealg.MakeNoZero"], unfollowed := true, recurses := true, named := ["unicode/utf8.first", "unicode/utf8.acceptRanges", "internal/bytealg.MaxLen"], apart := false, laid := [("unicode/utf8.acceptRanges", laid_unicode_utf8_acceptRanges), ("unicode/utf8.first", laid_unicode_utf8_first)] }
def CompileMakesSaid : Prop := compileMakesRow.holds Tryz.pinned (OpenSpec.ofChange compileMakesSpec)

/-- ITS FALSE NEIGHBOUR: 'it returns false'. Refute it at one input. -/
def compileMakesWrong : ChangeSpec := { name := "compileMakes", fn := fun _ => fun
  | [d1, d2] => { results := [.lit (.bool false)], args := [d1, d2] }
  | _ => none }
def CompileMakesWrongFalsely : Prop := compileMakesRow.holds Tryz.pinned (OpenSpec.ofChange compileMakesWrong)

/-- 'doorsteplaw38.WritesFree': WHATEVER THE INPUT: true; the input reads as it did. -/
def writesFreeSpec : ChangeSpec := { name := "writesFree", fn := fun _ => fun
  | [d1, d2, d3] => { results := [.lit (.bool true)], args := [d1, d2, d3] }
  | _ => none }
def writesFreeRow : OpenClaim := { program := "ythneihlplijklaagreatdoor", sum := "5dac4fea918f58efcc997f21b0aed2ac3ed0b2a9e25dd4d053403d75e17d031b", func := "doorstep/doorsteplaw38.WritesFree", spec := "writesFree", inPlace := ["internal/bytealg.IndexByteString", "internal/bytealg.IndexString"], unfollowed := true, recurses := true, named := ["unicode/utf8.first", "unicode/utf8.acceptRanges", "internal/bytealg.MaxLen"], apart := false, laid := [("unicode/utf8.acceptRanges", laid_unicode_utf8_acceptRanges), ("unicode/utf8.first", laid_unicode_utf8_first)] }
def WritesFreeSaid : Prop := writesFreeRow.holds Tryz.pinned (OpenSpec.ofChange writesFreeSpec)

/-- ITS FALSE NEIGHBOUR: 'it returns false'. Refute it at one input. -/
def writesFreeWrong : ChangeSpec := { name := "writesFree", fn := fun _ => fun
  | [d1, d2, d3] => { results := [.lit (.bool false)], args := [d1, d2, d3] }
  | _ => none }
def WritesFreeWrongFalsely : Prop := writesFreeRow.holds Tryz.pinned (OpenSpec.ofChange writesFreeWrong)

/-- 'doorsteplaw34.RuleprintWrites': WHATEVER THE INPUT: true; the input reads as it did. -/
def ruleprintWritesSpec : ChangeSpec := { name := "ruleprintWrites", fn := fun _ => fun
  | [d1, d2] => { results := [.lit (.bool true)], args := [d1, d2] }
  | _ => none }
def ruleprintWritesRow : OpenClaim := { program := "ythneihlplijklaagreatdoor", sum := "5dac4fea918f58efcc997f21b0aed2ac3ed0b2a9e25dd4d053403d75e17d031b", func := "doorstep/doorsteplaw34.RuleprintWrites", spec := "ruleprintWrites", inPlace := ["internal/bytealg.IndexByteString", "internal/bytealg.IndexString", "internal/bytealg.CountString", "internal/abi.NoEscape", "internal/bytealg.MakeNoZero"], unfollowed := true, recurses := true, named := ["unicode/utf8.first", "unicode/utf8.acceptRanges", "internal/bytealg.MaxLen"], apart := false, laid := [("unicode/utf8.acceptRanges", laid_unicode_utf8_acceptRanges), ("unicode/utf8.first", laid_unicode_utf8_first)] }
def RuleprintWritesSaid : Prop := ruleprintWritesRow.holds Tryz.pinned (OpenSpec.ofChange ruleprintWritesSpec)

/-- ITS FALSE NEIGHBOUR: 'it returns false'. Refute it at one input. -/
def ruleprintWritesWrong : ChangeSpec := { name := "ruleprintWrites", fn := fun _ => fun
  | [d1, d2] => { results := [.lit (.bool false)], args := [d1, d2] }
  | _ => none }
def RuleprintWritesWrongFalsely : Prop := ruleprintWritesRow.holds Tryz.pinned (OpenSpec.ofChange ruleprintWritesWrong)

/-- 'doorsteplaw37.MachineRules': WHATEVER THE INPUT: true; the input reads as it did. -/
def machineRulesSpec : ChangeSpec := { name := "machineRules", fn := fun _ => fun
  | [d1, d2] => { results := [.lit (.bool true)], args := [d1, d2] }
  | _ => none }
def machineRulesRow : OpenClaim := { program := "ythneihlplijklaagreatdoor", sum := "5dac4fea918f58efcc997f21b0aed2ac3ed0b2a9e25dd4d053403d75e17d031b", func := "doorstep/doorsteplaw37.MachineRules", spec := "machineRules", inPlace := ["internal/bytealg.IndexByteString", "internal/bytealg.IndexString", "internal/bytealg.CountString", "internal/abi.NoEscape", "internal/bytealg.MakeNoZero", "slices.overlaps[doorstep/api.Field]"], unfollowed := true, recurses := true, named := ["unicode/utf8.first", "unicode/utf8.acceptRanges", "internal/bytealg.MaxLen"], apart := false, laid := [("unicode/utf8.acceptRanges", laid_unicode_utf8_acceptRanges), ("unicode/utf8.first", laid_unicode_utf8_first)] }
def MachineRulesSaid : Prop := machineRulesRow.holds Tryz.pinned (OpenSpec.ofChange machineRulesSpec)

/-- ITS FALSE NEIGHBOUR: 'it returns false'. Refute it at one input. -/
def machineRulesWrong : ChangeSpec := { name := "machineRules", fn := fun _ => fun
  | [d1, d2] => { results := [.lit (.bool false)], args := [d1, d2] }
  | _ => none }
def MachineRulesWrongFalsely : Prop := machineRulesRow.holds Tryz.pinned (OpenSpec.ofChange machineRulesWrong)

/-- 'doorsteplaw37.MachineRuns': WHATEVER THE INPUT: true; the input reads as it did. -/
def machineRunsSpec : ChangeSpec := { name := "machineRuns", fn := fun _ => fun
  | [d1, d2] => { results := [.lit (.bool true)], args := [d1, d2] }
  | _ => none }
def machineRunsRow : OpenClaim := { program := "ythneihlplijklaagreatdoor", sum := "5dac4fea918f58efcc997f21b0aed2ac3ed0b2a9e25dd4d053403d75e17d031b", func := "doorstep/doorsteplaw37.MachineRuns", spec := "machineRuns", inPlace := ["internal/bytealg.IndexByteString", "internal/bytealg.IndexString", "internal/bytealg.CountString", "internal/abi.NoEscape", "internal/bytealg.MakeNoZero", "slices.overlaps[doorstep/api.Field]"], unfollowed := true, recurses := true, named := ["unicode/utf8.first", "unicode/utf8.acceptRanges", "internal/bytealg.MaxLen"], apart := false, laid := [("unicode/utf8.acceptRanges", laid_unicode_utf8_acceptRanges), ("unicode/utf8.first", laid_unicode_utf8_first)] }
def MachineRunsSaid : Prop := machineRunsRow.holds Tryz.pinned (OpenSpec.ofChange machineRunsSpec)

/-- ITS FALSE NEIGHBOUR: 'it returns false'. Refute it at one input. -/
def machineRunsWrong : ChangeSpec := { name := "machineRuns", fn := fun _ => fun
  | [d1, d2] => { results := [.lit (.bool false)], args := [d1, d2] }
  | _ => none }
def MachineRunsWrongFalsely : Prop := machineRunsRow.holds Tryz.pinned (OpenSpec.ofChange machineRunsWrong)

/-- 'doorsteplaw37.MachineNone': WHATEVER THE INPUT: true; the input reads as it did. -/
def machineNoneSpec : ChangeSpec := { name := "machineNone", fn := fun _ => fun
  | [d1, d2] => { results := [.lit (.bool true)], args := [d1, d2] }
  | _ => none }
def machineNoneRow : OpenClaim := { program := "ythneihlplijklaagreatdoor", sum := "5dac4fea918f58efcc997f21b0aed2ac3ed0b2a9e25dd4d053403d75e17d031b", func := "doorstep/doorsteplaw37.MachineNone", spec := "machineNone", inPlace := ["internal/bytealg.IndexByteString", "internal/bytealg.IndexString", "internal/bytealg.CountString", "internal/abi.NoEscape", "internal/bytealg.MakeNoZero", "slices.overlaps[doorstep/api.Field]"], unfollowed := true, recurses := true, named := ["unicode/utf8.first", "unicode/utf8.acceptRanges", "internal/bytealg.MaxLen"], apart := false, laid := [("unicode/utf8.acceptRanges", laid_unicode_utf8_acceptRanges), ("unicode/utf8.first", laid_unicode_utf8_first)] }
def MachineNoneSaid : Prop := machineNoneRow.holds Tryz.pinned (OpenSpec.ofChange machineNoneSpec)

/-- ITS FALSE NEIGHBOUR: 'it returns false'. Refute it at one input. -/
def machineNoneWrong : ChangeSpec := { name := "machineNone", fn := fun _ => fun
  | [d1, d2] => { results := [.lit (.bool false)], args := [d1, d2] }
  | _ => none }
def MachineNoneWrongFalsely : Prop := machineNoneRow.holds Tryz.pinned (OpenSpec.ofChange machineNoneWrong)

/- THE SECOND FORM. 'bulk': how many values and letters a reading holds, each counted each time it is reached (what is shared counts as often as it is met; a slice's spare places count too). A statement '..UptoSaid' is the law's where the arguments, and the package variables that the reading takes, are together of bulk at most 1048576: NARROWER than '..Said'. Prove '..Said' where nothing that the law and all that it calls make is longer than what came in: it says more and counts as full. Else prove '..UptoSaid'. A law counts once. -/
mutual
def uptoBulk {H : Type} : DataW H → Nat
  | .lit (.string bytes) => bytes.length + 1
  | .lit _ => 1
  | .nil => 1
  | .ptr d => uptoBulk d + 1
  | .slice elems spare => uptoBulkAll elems + uptoBulkAll spare + 1
  | .agg parts => uptoBulkAll parts + 1
  | .iface _ d => uptoBulk d + 1
  | .map entries => uptoBulkEntries entries + 1
  | .held _ => 1
def uptoBulkAll {H : Type} : List (DataW H) → Nat
  | [] => 0
  | d :: r => uptoBulk d + uptoBulkAll r
def uptoBulkEntries {H : Type} : List (Lit × DataW H) → Nat
  | [] => 0
  | x :: r => uptoBulkEntry x + uptoBulkEntries r
def uptoBulkEntry {H : Type} : Lit × DataW H → Nat
  | (.string bytes, d) => bytes.length + uptoBulk d + 1
  | (_, d) => uptoBulk d + 1
 end
def uptoSmall : (H : Type) → List (DataW H) → Bool := fun _ ds => decide (uptoBulkAll ds ≤ 1048576)
def OpenSpec.upto (s : _root_.Go.ChangeSpec) : _root_.Go.OpenSpec := { _root_.Go.OpenSpec.ofChange s with cond := some uptoSmall }

/-- 'doorsteplaw36.CompileMakes', WHERE WHAT IT READS IS OF BULK AT MOST 1048576: true; the input reads as it did. -/
def compileMakesUptoRow : OpenClaim := { program := "ythneihlplijklaagreatdoor", sum := "5dac4fea918f58efcc997f21b0aed2ac3ed0b2a9e25dd4d053403d75e17d031b", func := "doorstep/doorsteplaw36.CompileMakes", spec := "compileMakes", inPlace := ["internal/bytealg.IndexByteString", "internal/bytealg.IndexString", "internal/bytealg.CountString", "internal/abi.NoEscape", "internal/bytealg.MakeNoZero"], unfollowed := true, recurses := true, named := ["unicode/utf8.first", "unicode/utf8.acceptRanges", "internal/bytealg.MaxLen"], apart := false, laid := [("unicode/utf8.acceptRanges", laid_unicode_utf8_acceptRanges), ("unicode/utf8.first", laid_unicode_utf8_first)], narrowed := true }
def CompileMakesUptoSaid : Prop := compileMakesUptoRow.holds Tryz.pinned (OpenSpec.upto compileMakesSpec)

/-- 'doorsteplaw38.WritesFree', WHERE WHAT IT READS IS OF BULK AT MOST 1048576: true; the input reads as it did. -/
def writesFreeUptoRow : OpenClaim := { program := "ythneihlplijklaagreatdoor", sum := "5dac4fea918f58efcc997f21b0aed2ac3ed0b2a9e25dd4d053403d75e17d031b", func := "doorstep/doorsteplaw38.WritesFree", spec := "writesFree", inPlace := ["internal/bytealg.IndexByteString", "internal/bytealg.IndexString"], unfollowed := true, recurses := true, named := ["unicode/utf8.first", "unicode/utf8.acceptRanges", "internal/bytealg.MaxLen"], apart := false, laid := [("unicode/utf8.acceptRanges", laid_unicode_utf8_acceptRanges), ("unicode/utf8.first", laid_unicode_utf8_first)], narrowed := true }
def WritesFreeUptoSaid : Prop := writesFreeUptoRow.holds Tryz.pinned (OpenSpec.upto writesFreeSpec)

/-- 'doorsteplaw34.RuleprintWrites', WHERE WHAT IT READS IS OF BULK AT MOST 1048576: true; the input reads as it did. -/
def ruleprintWritesUptoRow : OpenClaim := { program := "ythneihlplijklaagreatdoor", sum := "5dac4fea918f58efcc997f21b0aed2ac3ed0b2a9e25dd4d053403d75e17d031b", func := "doorstep/doorsteplaw34.RuleprintWrites", spec := "ruleprintWrites", inPlace := ["internal/bytealg.IndexByteString", "internal/bytealg.IndexString", "internal/bytealg.CountString", "internal/abi.NoEscape", "internal/bytealg.MakeNoZero"], unfollowed := true, recurses := true, named := ["unicode/utf8.first", "unicode/utf8.acceptRanges", "internal/bytealg.MaxLen"], apart := false, laid := [("unicode/utf8.acceptRanges", laid_unicode_utf8_acceptRanges), ("unicode/utf8.first", laid_unicode_utf8_first)], narrowed := true }
def RuleprintWritesUptoSaid : Prop := ruleprintWritesUptoRow.holds Tryz.pinned (OpenSpec.upto ruleprintWritesSpec)

/-- 'doorsteplaw37.MachineRules', WHERE WHAT IT READS IS OF BULK AT MOST 1048576: true; the input reads as it did. -/
def machineRulesUptoRow : OpenClaim := { program := "ythneihlplijklaagreatdoor", sum := "5dac4fea918f58efcc997f21b0aed2ac3ed0b2a9e25dd4d053403d75e17d031b", func := "doorstep/doorsteplaw37.MachineRules", spec := "machineRules", inPlace := ["internal/bytealg.IndexByteString", "internal/bytealg.IndexString", "internal/bytealg.CountString", "internal/abi.NoEscape", "internal/bytealg.MakeNoZero", "slices.overlaps[doorstep/api.Field]"], unfollowed := true, recurses := true, named := ["unicode/utf8.first", "unicode/utf8.acceptRanges", "internal/bytealg.MaxLen"], apart := false, laid := [("unicode/utf8.acceptRanges", laid_unicode_utf8_acceptRanges), ("unicode/utf8.first", laid_unicode_utf8_first)], narrowed := true }
def MachineRulesUptoSaid : Prop := machineRulesUptoRow.holds Tryz.pinned (OpenSpec.upto machineRulesSpec)

/-- 'doorsteplaw37.MachineRuns', WHERE WHAT IT READS IS OF BULK AT MOST 1048576: true; the input reads as it did. -/
def machineRunsUptoRow : OpenClaim := { program := "ythneihlplijklaagreatdoor", sum := "5dac4fea918f58efcc997f21b0aed2ac3ed0b2a9e25dd4d053403d75e17d031b", func := "doorstep/doorsteplaw37.MachineRuns", spec := "machineRuns", inPlace := ["internal/bytealg.IndexByteString", "internal/bytealg.IndexString", "internal/bytealg.CountString", "internal/abi.NoEscape", "internal/bytealg.MakeNoZero", "slices.overlaps[doorstep/api.Field]"], unfollowed := true, recurses := true, named := ["unicode/utf8.first", "unicode/utf8.acceptRanges", "internal/bytealg.MaxLen"], apart := false, laid := [("unicode/utf8.acceptRanges", laid_unicode_utf8_acceptRanges), ("unicode/utf8.first", laid_unicode_utf8_first)], narrowed := true }
def MachineRunsUptoSaid : Prop := machineRunsUptoRow.holds Tryz.pinned (OpenSpec.upto machineRunsSpec)

/-- 'doorsteplaw37.MachineNone', WHERE WHAT IT READS IS OF BULK AT MOST 1048576: true; the input reads as it did. -/
def machineNoneUptoRow : OpenClaim := { program := "ythneihlplijklaagreatdoor", sum := "5dac4fea918f58efcc997f21b0aed2ac3ed0b2a9e25dd4d053403d75e17d031b", func := "doorstep/doorsteplaw37.MachineNone", spec := "machineNone", inPlace := ["internal/bytealg.IndexByteString", "internal/bytealg.IndexString", "internal/bytealg.CountString", "internal/abi.NoEscape", "internal/bytealg.MakeNoZero", "slices.overlaps[doorstep/api.Field]"], unfollowed := true, recurses := true, named := ["unicode/utf8.first", "unicode/utf8.acceptRanges", "internal/bytealg.MaxLen"], apart := false, laid := [("unicode/utf8.acceptRanges", laid_unicode_utf8_acceptRanges), ("unicode/utf8.first", laid_unicode_utf8_first)], narrowed := true }
def MachineNoneUptoSaid : Prop := machineNoneUptoRow.holds Tryz.pinned (OpenSpec.upto machineNoneSpec)

end Rows
end Go.Proofs.YthneihlplijklaaGreatDoor
