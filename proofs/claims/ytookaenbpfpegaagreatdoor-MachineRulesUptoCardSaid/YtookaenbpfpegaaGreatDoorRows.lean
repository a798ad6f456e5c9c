/-
  NARROWER THAN 'FOR EVERY INPUT', by the rows' own cells (each row's printed sentence says how): RuleprintWrites: laid · MachineRules: laid · MachineRuns: laid · MachineNone: laid · RuletextReads: laid · RuletextBlanks: laid · RuletextSkips: laid · RuleprintBack: laid.
  DERIVED. THE GIVEN ROWS OF THIS SEAT. 8 by the template 'for every input the law returns true; each argument reads behind the call as it read before'; 0 by the template 'total and deterministic' (their statements: YtookaenbpfpegaaGreatDoorTotals.lean).
  GIVEN WITH THE SEED: the statements are not yours to turn. If you find one false, say at which input.
  Laid BY PROGRAM, IN A SANDBOX (cutbox-rows.mjs): the forced cells as the released guide's own fill.sh prints them over the translation 8a008b32471ac8ad… (all of the seat's roots in one cut). By AI agents, Wed Nov 11 2026. No macro, syntax, notation, axiom, sorry.
-/
import Derived.Test.YtookaenbpfpegaaGreatDoorChecked
import GoSem.PinnedTables
import GoSem.Claim
import GoSem.ClaimJoined
import GoSem.ClaimMapViews
import Derived.JoinedTies
import Derived.KernelRfl
namespace Go.Proofs.YtookaenbpfpegaaGreatDoor
/- THE CELL 'sum', in the pinned program and in every row, IS THE sha256 OF THE DUMP (.gsa) THAT YtookaenbpfpegaaGreatDoorProg.lean LOADS. Nothing in Lean hashes anything: it is a label: what it is worth is what the hold of that sum in a sandbox is worth. -/
noncomputable def Tryz.pinned : Pinned := { name := "ytookaenbpfpegaagreatdoor", sum := "8a008b32471ac8ad4cd917dae7321755963472e83aa30b53ad3e8933fe69fe85", checked := Tryz.checked }
namespace Rows
def none {H : Type} : Left H := { results := [], args := [] }

/- WHAT THE LISTED PACKAGE-LEVEL VARIABLES READ AS WHEN THE CALL BEGINS. Each datum BY PROGRAM (the guide's laid-datum.mjs) off the statement by which the dump's own 'gosem.cut.vars' lays the variable. In a bare row this is a premise. The card (YtookaenbpfpegaaGreatDoorCards.lean) ties it to the program's text. -/
def laid_unicode_utf8_acceptRanges {H : Type} : DataW H := .agg [.agg [.lit (.int .u8 128), .lit (.int .u8 191)], .agg [.lit (.int .u8 160), .lit (.int .u8 191)], .agg [.lit (.int .u8 128), .lit (.int .u8 159)], .agg [.lit (.int .u8 144), .lit (.int .u8 191)], .agg [.lit (.int .u8 128), .lit (.int .u8 143)], .agg [.lit (.int .u8 0), .lit (.int .u8 0)], .agg [.lit (.int .u8 0), .lit (.int .u8 0)], .agg [.lit (.int .u8 0), .lit (.int .u8 0)], .agg [.lit (.int .u8 0), .lit (.int .u8 0)], .agg [.lit (.int .u8 0), .lit (.int .u8 0)], .agg [.lit (.int .u8 0), .lit (.int .u8 0)], .agg [.lit (.int .u8 0), .lit (.int .u8 0)], .agg [.lit (.int .u8 0), .lit (.int .u8 0)], .agg [.lit (.int .u8 0), .lit (.int .u8 0)], .agg [.lit (.int .u8 0), .lit (.int .u8 0)], .agg [.lit (.int .u8 0), .lit (.int .u8 0)]]
/-- One of Go's own tables, pinned by name: the form's constant. -/
def laid_unicode_utf8_first : DataW Unit := Go.Pinned.utf8First

/-- 'doorsteplaw34.RuleprintWrites': WHATEVER THE INPUT: true; the input reads as it did. -/
def ruleprintWritesSpec : ChangeSpec := { name := "ruleprintWrites", fn := fun _ => fun
  | [d1, d2] => { results := [.lit (.bool true)], args := [d1, d2] }
  | _ => none }
def ruleprintWritesRow : OpenClaim := { program := "ytookaenbpfpegaagreatdoor", sum := "8a008b32471ac8ad4cd917dae7321755963472e83aa30b53ad3e8933fe69fe85", func := "doorstep/doorsteplaw34.RuleprintWrites", spec := "ruleprintWrites", inPlace := ["internal/bytealg.IndexByteString", "internal/bytealg.IndexString", "internal/bytealg.CountString", "internal/abi.NoEscape", "internal/bytealg.MakeNoZero"], unfollowed := true, recurses := true, named := ["unicode/utf8.first", "unicode/utf8.acceptRanges", "internal/bytealg.MaxLen"], apart := false, laid := [("unicode/utf8.acceptRanges", laid_unicode_utf8_acceptRanges), ("unicode/utf8.first", laid_unicode_utf8_first)] }
def RuleprintWritesSaid : Prop := ruleprintWritesRow.holds Tryz.pinned (OpenSpec.ofChange ruleprintWritesSpec)

/-- ITS FALSE NEIGHBOUR: 'it returns false'. Refute it at one input. -/
def ruleprintWritesWrong : ChangeSpec := { name := "ruleprintWrites", fn := fun _ => fun
  | [d1, d2] => { results := [.lit (.bool false)], args := [d1, d2] }
  | _ => none }
def RuleprintWritesWrongFalsely : Prop := ruleprintWritesRow.holds Tryz.pinned (OpenSpec.ofChange ruleprintWritesWrong)

/-- 'doorsteplaw37.MachineRules': WHATEVER THE INPUT: true; the input reads as it did. -/
def machineRulesSpec : ChangeSpec := { name := "machineRules", fn := fun _ => fun
  | [d1, d2] => { results := [.lit (.bool true)], args := [d1, d2] }
  | _ => none }
def machineRulesRow : OpenClaim := { program := "ytookaenbpfpegaagreatdoor", sum := "8a008b32471ac8ad4cd917dae7321755963472e83aa30b53ad3e8933fe69fe85", func := "doorstep/doorsteplaw37.MachineRules", spec := "machineRules", inPlace := ["internal/bytealg.IndexByteString", "internal/bytealg.IndexString", "internal/bytealg.CountString", "internal/abi.NoEscape", "internal/bytealg.MakeNoZero", "slices.overlaps[doorstep/api.Field]"], unfollowed := true, recurses := true, named := ["unicode/utf8.first", "unicode/utf8.acceptRanges", "internal/bytealg.MaxLen"], apart := false, laid := [("unicode/utf8.acceptRanges", laid_unicode_utf8_acceptRanges), ("unicode/utf8.first", laid_unicode_utf8_first)] }
def MachineRulesSaid : Prop := machineRulesRow.holds Tryz.pinned (OpenSpec.ofChange machineRulesSpec)

/-- ITS FALSE NEIGHBOUR: 'it returns false'. Refute it at one input. -/
def machineRulesWrong : ChangeSpec := { name := "machineRules", fn := fun _ => fun
  | [d1, d2] => { results := [.lit (.bool false)], args := [d1, d2] }
  | _ => none }
def MachineRulesWrongFalsely : Prop := machineRulesRow.holds Tryz.pinned (OpenSpec.ofChange machineRulesWrong)

/-- 'doorsteplaw37.MachineRuns': WHATEVER THE INPUT: true; the input reads as it did. -/
def machineRunsSpec : ChangeSpec := { name := "machineRuns", fn := fun _ => fun
  | [d1, d2] => { results := [.lit (.bool true)], args := [d1, d2] }
  | _ => none }
def machineRunsRow : OpenClaim := { program := "ytookaenbpfpegaagreatdoor", sum := "8a008b32471ac8ad4cd917dae7321755963472e83aa30b53ad3e8933fe69fe85", func := "doorstep/doorsteplaw37.MachineRuns", spec := "machineRuns", inPlace := ["internal/bytealg.IndexByteString", "internal/bytealg.IndexString", "internal/bytealg.CountString", "internal/abi.NoEscape", "internal/bytealg.MakeNoZero", "slices.overlaps[doorstep/api.Field]"], unfollowed := true, recurses := true, named := ["unicode/utf8.first", "unicode/utf8.acceptRanges", "internal/bytealg.MaxLen"], apart := false, laid := [("unicode/utf8.acceptRanges", laid_unicode_utf8_acceptRanges), ("unicode/utf8.first", laid_unicode_utf8_first)] }
def MachineRunsSaid : Prop := machineRunsRow.holds Tryz.pinned (OpenSpec.ofChange machineRunsSpec)

/-- ITS FALSE NEIGHBOUR: 'it returns false'. Refute it at one input. -/
def machineRunsWrong : ChangeSpec := { name := "machineRuns", fn := fun _ => fun
  | [d1, d2] => { results := [.lit (.bool false)], args := [d1, d2] }
  | _ => none }
def MachineRunsWrongFalsely : Prop := machineRunsRow.holds Tryz.pinned (OpenSpec.ofChange machineRunsWrong)

/-- 'doorsteplaw37.MachineNone': WHATEVER THE INPUT: true; the input reads as it did. -/
def machineNoneSpec : ChangeSpec := { name := "machineNone", fn := fun _ => fun
  | [d1, d2] => { results := [.lit (.bool true)], args := [d1, d2] }
  | _ => none }
def machineNoneRow : OpenClaim := { program := "ytookaenbpfpegaagreatdoor", sum := "8a008b32471ac8ad4cd917dae7321755963472e83aa30b53ad3e8933fe69fe85", func := "doorstep/doorsteplaw37.MachineNone", spec := "machineNone", inPlace := ["internal/bytealg.IndexByteString", "internal/bytealg.IndexString", "internal/bytealg.CountString", "internal/abi.NoEscape", "internal/bytealg.MakeNoZero", "slices.overlaps[doorstep/api.Field]"], unfollowed := true, recurses := true, named := ["unicode/utf8.first", "unicode/utf8.acceptRanges", "internal/bytealg.MaxLen"], apart := false, laid := [("unicode/utf8.acceptRanges", laid_unicode_utf8_acceptRanges), ("unicode/utf8.first", laid_unicode_utf8_first)] }
def MachineNoneSaid : Prop := machineNoneRow.holds Tryz.pinned (OpenSpec.ofChange machineNoneSpec)

/-- ITS FALSE NEIGHBOUR: 'it returns false'. Refute it at one input. -/
def machineNoneWrong : ChangeSpec := { name := "machineNone", fn := fun _ => fun
  | [d1, d2] => { results := [.lit (.bool false)], args := [d1, d2] }
  | _ => none }
def MachineNoneWrongFalsely : Prop := machineNoneRow.holds Tryz.pinned (OpenSpec.ofChange machineNoneWrong)

/-- 'doorsteplaw33.RuletextReads': WHATEVER THE INPUT: true; the input reads as it did. -/
def ruletextReadsSpec : ChangeSpec := { name := "ruletextReads", fn := fun _ => fun
  | [d] => { results := [.lit (.bool true)], args := [d] }
  | _ => none }
def ruletextReadsRow : OpenClaim := { program := "ytookaenbpfpegaagreatdoor", sum := "8a008b32471ac8ad4cd917dae7321755963472e83aa30b53ad3e8933fe69fe85", func := "doorstep/doorsteplaw33.RuletextReads", spec := "ruletextReads", inPlace := ["internal/bytealg.IndexByteString", "internal/bytealg.IndexString", "internal/bytealg.CountString", "internal/abi.NoEscape", "internal/bytealg.MakeNoZero"], unfollowed := true, recurses := true, named := ["unicode/utf8.first", "unicode/utf8.acceptRanges", "internal/bytealg.MaxLen"], apart := false, laid := [("unicode/utf8.acceptRanges", laid_unicode_utf8_acceptRanges), ("unicode/utf8.first", laid_unicode_utf8_first)] }
def RuletextReadsSaid : Prop := ruletextReadsRow.holds Tryz.pinned (OpenSpec.ofChange ruletextReadsSpec)

/-- ITS FALSE NEIGHBOUR: 'it returns false'. Refute it at one input. -/
def ruletextReadsWrong : ChangeSpec := { name := "ruletextReads", fn := fun _ => fun
  | [d] => { results := [.lit (.bool false)], args := [d] }
  | _ => none }
def RuletextReadsWrongFalsely : Prop := ruletextReadsRow.holds Tryz.pinned (OpenSpec.ofChange ruletextReadsWrong)

/-- 'doorsteplaw33.RuletextBlanks': WHATEVER THE INPUT: true; the input reads as it did. -/
def ruletextBlanksSpec : ChangeSpec := { name := "ruletextBlanks", fn := fun _ => fun
  | [d1, d2] => { results := [.lit (.bool true)], args := [d1, d2] }
  | _ => none }
def ruletextBlanksRow : OpenClaim := { program := "ytookaenbpfpegaagreatdoor", sum := "8a008b32471ac8ad4cd917dae7321755963472e83aa30b53ad3e8933fe69fe85", func := "doorstep/doorsteplaw33.RuletextBlanks", spec := "ruletextBlanks", inPlace := ["internal/bytealg.IndexByteString", "internal/bytealg.IndexString", "internal/bytealg.CountString", "internal/abi.NoEscape", "internal/bytealg.MakeNoZero"], unfollowed := true, recurses := true, named := ["unicode/utf8.first", "unicode/utf8.acceptRanges", "internal/bytealg.MaxLen"], apart := false, laid := [("unicode/utf8.acceptRanges", laid_unicode_utf8_acceptRanges), ("unicode/utf8.first", laid_unicode_utf8_first)] }
def RuletextBlanksSaid : Prop := ruletextBlanksRow.holds Tryz.pinned (OpenSpec.ofChange ruletextBlanksSpec)

/-- ITS FALSE NEIGHBOUR: 'it returns false'. Refute it at one input. -/
def ruletextBlanksWrong : ChangeSpec := { name := "ruletextBlanks", fn := fun _ => fun
  | [d1, d2] => { results := [.lit (.bool false)], args := [d1, d2] }
  | _ => none }
def RuletextBlanksWrongFalsely : Prop := ruletextBlanksRow.holds Tryz.pinned (OpenSpec.ofChange ruletextBlanksWrong)

/-- 'doorsteplaw33.RuletextSkips': WHATEVER THE INPUT: true; the input reads as it did. -/
def ruletextSkipsSpec : ChangeSpec := { name := "ruletextSkips", fn := fun _ => fun
  | [d] => { results := [.lit (.bool true)], args := [d] }
  | _ => none }
def ruletextSkipsRow : OpenClaim := { program := "ytookaenbpfpegaagreatdoor", sum := "8a008b32471ac8ad4cd917dae7321755963472e83aa30b53ad3e8933fe69fe85", func := "doorstep/doorsteplaw33.RuletextSkips", spec := "ruletextSkips", inPlace := ["internal/bytealg.IndexByteString", "internal/bytealg.IndexString", "internal/bytealg.CountString", "internal/abi.NoEscape", "internal/bytealg.MakeNoZero"], unfollowed := true, recurses := true, named := ["unicode/utf8.first", "unicode/utf8.acceptRanges", "internal/bytealg.MaxLen"], apart := false, laid := [("unicode/utf8.acceptRanges", laid_unicode_utf8_acceptRanges), ("unicode/utf8.first", laid_unicode_utf8_first)] }
def RuletextSkipsSaid : Prop := ruletextSkipsRow.holds Tryz.pinned (OpenSpec.ofChange ruletextSkipsSpec)

/-- ITS FALSE NEIGHBOUR: 'it returns false'. Refute it at one input. -/
def ruletextSkipsWrong : ChangeSpec := { name := "ruletextSkips", fn := fun _ => fun
  | [d] => { results := [.lit (.bool false)], args := [d] }
  | _ => none }
def RuletextSkipsWrongFalsely : Prop := ruletextSkipsRow.holds Tryz.pinned (OpenSpec.ofChange ruletextSkipsWrong)

/-- 'doorsteplaw34.RuleprintBack': WHATEVER THE INPUT: true; the input reads as it did. -/
def ruleprintBackSpec : ChangeSpec := { name := "ruleprintBack", fn := fun _ => fun
  | [d] => { results := [.lit (.bool true)], args := [d] }
  | _ => none }
def ruleprintBackRow : OpenClaim := { program := "ytookaenbpfpegaagreatdoor", sum := "8a008b32471ac8ad4cd917dae7321755963472e83aa30b53ad3e8933fe69fe85", func := "doorstep/doorsteplaw34.RuleprintBack", spec := "ruleprintBack", inPlace := ["internal/bytealg.IndexByteString", "internal/bytealg.IndexString", "internal/bytealg.CountString", "internal/abi.NoEscape", "internal/bytealg.MakeNoZero"], unfollowed := true, recurses := true, named := ["unicode/utf8.first", "unicode/utf8.acceptRanges", "internal/bytealg.MaxLen"], apart := false, laid := [("unicode/utf8.acceptRanges", laid_unicode_utf8_acceptRanges), ("unicode/utf8.first", laid_unicode_utf8_first)] }
def RuleprintBackSaid : Prop := ruleprintBackRow.holds Tryz.pinned (OpenSpec.ofChange ruleprintBackSpec)

/-- ITS FALSE NEIGHBOUR: 'it returns false'. Refute it at one input. -/
def ruleprintBackWrong : ChangeSpec := { name := "ruleprintBack", fn := fun _ => fun
  | [d] => { results := [.lit (.bool false)], args := [d] }
  | _ => none }
def RuleprintBackWrongFalsely : Prop := ruleprintBackRow.holds Tryz.pinned (OpenSpec.ofChange ruleprintBackWrong)

/- THE SECOND FORM. 'bulk': how many values and letters a reading holds, each counted each time it is reached (what is shared counts as often as it is met; a slice's spare places count too). A statement '..UptoSaid' is the law's where the arguments, and the package variables that the reading takes, are together of bulk at most 1048576: NARROWER than '..Said'. Prove '..Said' where nothing that the law and all that it calls make is longer than what came in: it says more and counts as full. Else prove '..UptoSaid'. A law counts once. -/
mutual
def uptoBulk {H : Type} : DataW H → Nat
  | .lit (.string bytes) => bytes.length + 1
  | .lit _ => 1
  | .nil => 1
  | .ptr d => uptoBulk d + 1
  | .slice elems spare => uptoBulkAll elems + uptoBulkAll spare + 1
  | .agg parts => uptoBulkAll parts + 1
  | .iface _ d => uptoBulk d + 1
  | .map entries => uptoBulkEntries entries + 1
  | .held _ => 1
def uptoBulkAll {H : Type} : List (DataW H) → Nat
  | [] => 0
  | d :: r => uptoBulk d + uptoBulkAll r
def uptoBulkEntries {H : Type} : List (Lit × DataW H) → Nat
  | [] => 0
  | x :: r => uptoBulkEntry x + uptoBulkEntries r
def uptoBulkEntry {H : Type} : Lit × DataW H → Nat
  | (.string bytes, d) => bytes.length + uptoBulk d + 1
  | (_, d) => uptoBulk d + 1
 end
def uptoSmall : (H : Type) → List (DataW H) → Bool := fun _ ds => decide (uptoBulkAll ds ≤ 1048576)
def OpenSpec.upto (s : _root_.Go.ChangeSpec) : _root_.Go.OpenSpec := { _root_.Go.OpenSpec.ofChange s with cond := some uptoSmall }

/-- 'doorsteplaw34.RuleprintWrites', WHERE WHAT IT READS IS OF BULK AT MOST 1048576: true; the input reads as it did. -/
def ruleprintWritesUptoRow : OpenClaim := { program := "ytookaenbpfpegaagreatdoor", sum := "8a008b32471ac8ad4cd917dae7321755963472e83aa30b53ad3e8933fe69fe85", func := "doorstep/doorsteplaw34.RuleprintWrites", spec := "ruleprintWrites", inPlace := ["internal/bytealg.IndexByteString", "internal/bytealg.IndexString", "internal/bytealg.CountString", "internal/abi.NoEscape", "internal/bytealg.MakeNoZero"], unfollowed := true, recurses := true, named := ["unicode/utf8.first", "unicode/utf8.acceptRanges", "internal/bytealg.MaxLen"], apart := false, laid := [("unicode/utf8.acceptRanges", laid_unicode_utf8_acceptRanges), ("unicode/utf8.first", laid_unicode_utf8_first)], narrowed := true }
def RuleprintWritesUptoSaid : Prop := ruleprintWritesUptoRow.holds Tryz.pinned (OpenSpec.upto ruleprintWritesSpec)

/-- 'doorsteplaw37.MachineRules', WHERE WHAT IT READS IS OF BULK AT MOST 1048576: true; the input reads as it did. -/
def machineRulesUptoRow : OpenClaim := { program := "ytookaenbpfpegaagreatdoor", sum := "8a008b32471ac8ad4cd917dae7321755963472e83aa30b53ad3e8933fe69fe85", func := "doorstep/doorsteplaw37.MachineRules", spec := "machineRules", inPlace := ["internal/bytealg.IndexByteString", "internal/bytealg.IndexString", "internal/bytealg.CountString", "internal/abi.NoEscape", "internal/bytealg.MakeNoZero", "slices.overlaps[doorstep/api.Field]"], unfollowed := true, recurses := true, named := ["unicode/utf8.first", "unicode/utf8.acceptRanges", "internal/bytealg.MaxLen"], apart := false, laid := [("unicode/utf8.acceptRanges", laid_unicode_utf8_acceptRanges), ("unicode/utf8.first", laid_unicode_utf8_first)], narrowed := true }
def MachineRulesUptoSaid : Prop := machineRulesUptoRow.holds Tryz.pinned (OpenSpec.upto machineRulesSpec)

/-- 'doorsteplaw37.MachineRuns', WHERE WHAT IT READS IS OF BULK AT MOST 1048576: true; the input reads as it did. -/
def machineRunsUptoRow : OpenClaim := { program := "ytookaenbpfpegaagreatdoor", sum := "8a008b32471ac8ad4cd917dae7321755963472e83aa30b53ad3e8933fe69fe85", func := "doorstep/doorsteplaw37.MachineRuns", spec := "machineRuns", inPlace := ["internal/bytealg.IndexByteString", "internal/bytealg.IndexString", "internal/bytealg.CountString", "internal/abi.NoEscape", "internal/bytealg.MakeNoZero", "slices.overlaps[doorstep/api.Field]"], unfollowed := true, recurses := true, named := ["unicode/utf8.first", "unicode/utf8.acceptRanges", "internal/bytealg.MaxLen"], apart := false, laid := [("unicode/utf8.acceptRanges", laid_unicode_utf8_acceptRanges), ("unicode/utf8.first", laid_unicode_utf8_first)], narrowed := true }
def MachineRunsUptoSaid : Prop := machineRunsUptoRow.holds Tryz.pinned (OpenSpec.upto machineRunsSpec)

/-- 'doorsteplaw37.MachineNone', WHERE WHAT IT READS IS OF BULK AT MOST 1048576: true; the input reads as it did. -/
def machineNoneUptoRow : OpenClaim := { program := "ytookaenbpfpegaagreatdoor", sum := "8a008b32471ac8ad4cd917dae7321755963472e83aa30b53ad3e8933fe69fe85", func := "doorstep/doorsteplaw37.MachineNone", spec := "machineNone", inPlace := ["internal/bytealg.IndexByteString", "internal/bytealg.IndexString", "internal/bytealg.CountString", "internal/abi.NoEscape", "internal/bytealg.MakeNoZero", "slices.overlaps[doorstep/api.Field]"], unfollowed := true, recurses := true, named := ["unicode/utf8.first", "unicode/utf8.acceptRanges", "internal/bytealg.MaxLen"], apart := false, laid := [("unicode/utf8.acceptRanges", laid_unicode_utf8_acceptRanges), ("unicode/utf8.first", laid_unicode_utf8_first)], narrowed := true }
def MachineNoneUptoSaid : Prop := machineNoneUptoRow.holds Tryz.pinned (OpenSpec.upto machineNoneSpec)

/-- 'doorsteplaw33.RuletextReads', WHERE WHAT IT READS IS OF BULK AT MOST 1048576: true; the input reads as it did. -/
def ruletextReadsUptoRow : OpenClaim := { program := "ytookaenbpfpegaagreatdoor", sum := "8a008b32471ac8ad4cd917dae7321755963472e83aa30b53ad3e8933fe69fe85", func := "doorstep/doorsteplaw33.RuletextReads", spec := "ruletextReads", inPlace := ["internal/bytealg.IndexByteString", "internal/bytealg.IndexString", "internal/bytealg.CountString", "internal/abi.NoEscape", "internal/bytealg.MakeNoZero"], unfollowed := true, recurses := true, named := ["unicode/utf8.first", "unicode/utf8.acceptRanges", "internal/bytealg.MaxLen"], apart := false, laid := [("unicode/utf8.acceptRanges", laid_unicode_utf8_acceptRanges), ("unicode/utf8.first", laid_unicode_utf8_first)], narrowed := true }
def RuletextReadsUptoSaid : Prop := ruletextReadsUptoRow.holds Tryz.pinned (OpenSpec.upto ruletextReadsSpec)

/-- 'doorsteplaw33.RuletextBlanks', WHERE WHAT IT READS IS OF BULK AT MOST 1048576: true; the input reads as it did. -/
def ruletextBlanksUptoRow : OpenClaim := { program := "ytookaenbpfpegaagreatdoor", sum := "8a008b32471ac8ad4cd917dae7321755963472e83aa30b53ad3e8933fe69fe85", func := "doorstep/doorsteplaw33.RuletextBlanks", spec := "ruletextBlanks", inPlace := ["internal/bytealg.IndexByteString", "internal/bytealg.IndexString", "internal/bytealg.CountString", "internal/abi.NoEscape", "internal/bytealg.MakeNoZero"], unfollowed := true, recurses := true, named := ["unicode/utf8.first", "unicode/utf8.acceptRanges", "internal/bytealg.MaxLen"], apart := false, laid := [("unicode/utf8.acceptRanges", laid_unicode_utf8_acceptRanges), ("unicode/utf8.first", laid_unicode_utf8_first)], narrowed := true }
def RuletextBlanksUptoSaid : Prop := ruletextBlanksUptoRow.holds Tryz.pinned (OpenSpec.upto ruletextBlanksSpec)

/-- 'doorsteplaw33.RuletextSkips', WHERE WHAT IT READS IS OF BULK AT MOST 1048576: true; the input reads as it did. -/
def ruletextSkipsUptoRow : OpenClaim := { program := "ytookaenbpfpegaagreatdoor", sum := "8a008b32471ac8ad4cd917dae7321755963472e83aa30b53ad3e8933fe69fe85", func := "doorstep/doorsteplaw33.RuletextSkips", spec := "ruletextSkips", inPlace := ["internal/bytealg.IndexByteString", "internal/bytealg.IndexString", "internal/bytealg.CountString", "internal/abi.NoEscape", "internal/bytealg.MakeNoZero"], unfollowed := true, recurses := true, named := ["unicode/utf8.first", "unicode/utf8.acceptRanges", "internal/bytealg.MaxLen"], apart := false, laid := [("unicode/utf8.acceptRanges", laid_unicode_utf8_acceptRanges), ("unicode/utf8.first", laid_unicode_utf8_first)], narrowed := true }
def RuletextSkipsUptoSaid : Prop := ruletextSkipsUptoRow.holds Tryz.pinned (OpenSpec.upto ruletextSkipsSpec)

/-- 'doorsteplaw34.RuleprintBack', WHERE WHAT IT READS IS OF BULK AT MOST 1048576: true; the input reads as it did. -/
def ruleprintBackUptoRow : OpenClaim := { program := "ytookaenbpfpegaagreatdoor", sum := "8a008b32471ac8ad4cd917dae7321755963472e83aa30b53ad3e8933fe69fe85", func := "doorstep/doorsteplaw34.RuleprintBack", spec := "ruleprintBack", inPlace := ["internal/bytealg.IndexByteString", "internal/bytealg.IndexString", "internal/bytealg.CountString", "internal/abi.NoEscape", "internal/bytealg.MakeNoZero"], unfollowed := true, recurses := true, named := ["unicode/utf8.first", "unicode/utf8.acceptRanges", "internal/bytealg.MaxLen"], apart := false, laid := [("unicode/utf8.acceptRanges", laid_unicode_utf8_acceptRanges), ("unicode/utf8.first", laid_unicode_utf8_first)], narrowed := true }
def RuleprintBackUptoSaid : Prop := ruleprintBackUptoRow.holds Tryz.pinned (OpenSpec.upto ruleprintBackSpec)

end Rows
end Go.Proofs.YtookaenbpfpegaaGreatDoor
