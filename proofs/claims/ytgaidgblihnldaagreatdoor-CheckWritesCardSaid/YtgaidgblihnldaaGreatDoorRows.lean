/-
  NARROWER THAN 'FOR EVERY INPUT', by the rows' own cells (each row's printed sentence says how): RuleprintWrites: laid · RuletextReads: laid · RuletextBlanks: laid · RuletextSkips: laid · RuleprintBack: laid · RuleprintOnce: laid · CheckReads: laid · CheckSame: laid · CheckWrites: laid.
  DERIVED. THE GIVEN ROWS OF THIS SEAT. 9 by the template 'for every input the law returns true; each argument reads behind the call as it read before'; 0 by the template 'total and deterministic' (their statements: YtgaidgblihnldaaGreatDoorTotals.lean).
  GIVEN WITH THE SEED: the statements are not yours to turn. If you find one false, say at which input.
  Laid BY PROGRAM, IN A SANDBOX (cutbox-rows.mjs): the forced cells as the released guide's own fill.sh prints them over the translation 5ddc52d94465090d… (all of the seat's roots in one cut). By AI agents, Wed Nov 11 2026. No macro, syntax, notation, axiom, sorry.
-/
import Derived.Test.YtgaidgblihnldaaGreatDoorChecked
import GoSem.PinnedTables
import GoSem.Claim
import GoSem.ClaimJoined
import GoSem.ClaimMapViews
import Derived.JoinedTies
import Derived.KernelRfl
namespace Go.Proofs.YtgaidgblihnldaaGreatDoor
/- THE CELL 'sum', in the pinned program and in every row, IS THE sha256 OF THE DUMP (.gsa) THAT YtgaidgblihnldaaGreatDoorProg.lean LOADS. Nothing in Lean hashes anything: it is a label: what it is worth is what the hold of that sum in a sandbox is worth. -/
noncomputable def Tryz.pinned : Pinned := { name := "ytgaidgblihnldaagreatdoor", sum := "5ddc52d94465090db5b251ec39f845eaed4a7e620fa33bceccf3474ba0f7e0b8", checked := Tryz.checked }
namespace Rows
def none {H : Type} : Left H := { results := [], args := [] }

/- WHAT THE LISTED PACKAGE-LEVEL VARIABLES READ AS WHEN THE CALL BEGINS. Each datum BY PROGRAM (the guide's laid-datum.mjs) off the statement by which the dump's own 'gosem.cut.vars' lays the variable. In a bare row this is a premise. The card (YtgaidgblihnldaaGreatDoorCards.lean) ties it to the program's text. -/
def laid_unicode_utf8_acceptRanges {H : Type} : DataW H := .agg [.agg [.lit (.int .u8 128), .lit (.int .u8 191)], .agg [.lit (.int .u8 160), .lit (.int .u8 191)], .agg [.lit (.int .u8 128), .lit (.int .u8 159)], .agg [.lit (.int .u8 144), .lit (.int .u8 191)], .agg [.lit (.int .u8 128), .lit (.int .u8 143)], .agg [.lit (.int .u8 0), .lit (.int .u8 0)], .agg [.lit (.int .u8 0), .lit (.int .u8 0)], .agg [.lit (.int .u8 0), .lit (.int .u8 0)], .agg [.lit (.int .u8 0), .lit (.int .u8 0)], .agg [.lit (.int .u8 0), .lit (.int .u8 0)], .agg [.lit (.int .u8 0), .lit (.int .u8 0)], .agg [.lit (.int .u8 0), .lit (.int .u8 0)], .agg [.lit (.int .u8 0), .lit (.int .u8 0)], .agg [.lit (.int .u8 0), .lit (.int .u8 0)], .agg [.lit (.int .u8 0), .lit (.int .u8 0)], .agg [.lit (.int .u8 0), .lit (.int .u8 0)]]
/-- One of Go's own tables, pinned by name: the form's constant. -/
def laid_unicode_utf8_first : DataW Unit := Go.Pinned.utf8First

/-- 'doorsteplaw34.RuleprintWrites': WHATEVER THE INPUT: true; the input reads as it did. -/
def ruleprintWritesSpec : ChangeSpec := { name := "ruleprintWrites", fn := fun _ => fun
  | [d1, d2] => { results := [.lit (.bool true)], args := [d1, d2] }
  | _ => none }
def ruleprintWritesRow : OpenClaim := { program := "ytgaidgblihnldaagreatdoor", sum := "5ddc52d94465090db5b251ec39f845eaed4a7e620fa33bceccf3474ba0f7e0b8", func := "doorstep/doorsteplaw34.RuleprintWrites", spec := "ruleprintWrites", inPlace := ["internal/bytealg.IndexByteString", "internal/bytealg.IndexString", "internal/bytealg.CountString", "internal/abi.NoEscape", "internal/bytealg.MakeNoZero"], unfollowed := true, recurses := true, named := ["unicode/utf8.first", "unicode/utf8.acceptRanges", "internal/bytealg.MaxLen"], apart := false, laid := [("unicode/utf8.acceptRanges", laid_unicode_utf8_acceptRanges), ("unicode/utf8.first", laid_unicode_utf8_first)] }
def RuleprintWritesSaid : Prop := ruleprintWritesRow.holds Tryz.pinned (OpenSpec.ofChange ruleprintWritesSpec)

/-- ITS FALSE NEIGHBOUR: 'it returns false'. Refute it at one input. -/
def ruleprintWritesWrong : ChangeSpec := { name := "ruleprintWrites", fn := fun _ => fun
  | [d1, d2] => { results := [.lit (.bool false)], args := [d1, d2] }
  | _ => none }
def RuleprintWritesWrongFalsely : Prop := ruleprintWritesRow.holds Tryz.pinned (OpenSpec.ofChange ruleprintWritesWrong)

/-- 'doorsteplaw33.RuletextReads': WHATEVER THE INPUT: true; the input reads as it did. -/
def ruletextReadsSpec : ChangeSpec := { name := "ruletextReads", fn := fun _ => fun
  | [d] => { results := [.lit (.bool true)], args := [d] }
  | _ => none }
def ruletextReadsRow : OpenClaim := { program := "ytgaidgblihnldaagreatdoor", sum := "5ddc52d94465090db5b251ec39f845eaed4a7e620fa33bceccf3474ba0f7e0b8", func := "doorstep/doorsteplaw33.RuletextReads", spec := "ruletextReads", inPlace := ["internal/bytealg.IndexByteString", "internal/bytealg.IndexString", "internal/bytealg.CountString", "internal/abi.NoEscape", "internal/bytealg.MakeNoZero"], unfollowed := true, recurses := true, named := ["unicode/utf8.first", "unicode/utf8.acceptRanges", "internal/bytealg.MaxLen"], apart := false, laid := [("unicode/utf8.acceptRanges", laid_unicode_utf8_acceptRanges), ("unicode/utf8.first", laid_unicode_utf8_first)] }
def RuletextReadsSaid : Prop := ruletextReadsRow.holds Tryz.pinned (OpenSpec.ofChange ruletextReadsSpec)

/-- ITS FALSE NEIGHBOUR: 'it returns false'. Refute it at one input. -/
def ruletextReadsWrong : ChangeSpec := { name := "ruletextReads", fn := fun _ => fun
  | [d] => { results := [.lit (.bool false)], args := [d] }
  | _ => none }
def RuletextReadsWrongFalsely : Prop := ruletextReadsRow.holds Tryz.pinned (OpenSpec.ofChange ruletextReadsWrong)

/-- 'doorsteplaw33.RuletextBlanks': WHATEVER THE INPUT: true; the input reads as it did. -/
def ruletextBlanksSpec : ChangeSpec := { name := "ruletextBlanks", fn := fun _ => fun
  | [d1, d2] => { results := [.lit (.bool true)], args := [d1, d2] }
  | _ => none }
def ruletextBlanksRow : OpenClaim := { program := "ytgaidgblihnldaagreatdoor", sum := "5ddc52d94465090db5b251ec39f845eaed4a7e620fa33bceccf3474ba0f7e0b8", func := "doorstep/doorsteplaw33.RuletextBlanks", spec := "ruletextBlanks", inPlace := ["internal/bytealg.IndexByteString", "internal/bytealg.IndexString", "internal/bytealg.CountString", "internal/abi.NoEscape", "internal/bytealg.MakeNoZero"], unfollowed := true, recurses := true, named := ["unicode/utf8.first", "unicode/utf8.acceptRanges", "internal/bytealg.MaxLen"], apart := false, laid := [("unicode/utf8.acceptRanges", laid_unicode_utf8_acceptRanges), ("unicode/utf8.first", laid_unicode_utf8_first)] }
def RuletextBlanksSaid : Prop := ruletextBlanksRow.holds Tryz.pinned (OpenSpec.ofChange ruletextBlanksSpec)

/-- ITS FALSE NEIGHBOUR: 'it returns false'. Refute it at one input. -/
def ruletextBlanksWrong : ChangeSpec := { name := "ruletextBlanks", fn := fun _ => fun
  | [d1, d2] => { results := [.lit (.bool false)], args := [d1, d2] }
  | _ => none }
def RuletextBlanksWrongFalsely : Prop := ruletextBlanksRow.holds Tryz.pinned (OpenSpec.ofChange ruletextBlanksWrong)

/-- 'doorsteplaw33.RuletextSkips': WHATEVER THE INPUT: true; the input reads as it did. -/
def ruletextSkipsSpec : ChangeSpec := { name := "ruletextSkips", fn := fun _ => fun
  | [d] => { results := [.lit (.bool true)], args := [d] }
  | _ => none }
def ruletextSkipsRow : OpenClaim := { program := "ytgaidgblihnldaagreatdoor", sum := "5ddc52d94465090db5b251ec39f845eaed4a7e620fa33bceccf3474ba0f7e0b8", func := "doorstep/doorsteplaw33.RuletextSkips", spec := "ruletextSkips", inPlace := ["internal/bytealg.IndexByteString", "internal/bytealg.IndexString", "internal/bytealg.CountString", "internal/abi.NoEscape", "internal/bytealg.MakeNoZero"], unfollowed := true, recurses := true, named := ["unicode/utf8.first", "unicode/utf8.acceptRanges", "internal/bytealg.MaxLen"], apart := false, laid := [("unicode/utf8.acceptRanges", laid_unicode_utf8_acceptRanges), ("unicode/utf8.first", laid_unicode_utf8_first)] }
def RuletextSkipsSaid : Prop := ruletextSkipsRow.holds Tryz.pinned (OpenSpec.ofChange ruletextSkipsSpec)

/-- ITS FALSE NEIGHBOUR: 'it returns false'. Refute it at one input. -/
def ruletextSkipsWrong : ChangeSpec := { name := "ruletextSkips", fn := fun _ => fun
  | [d] => { results := [.lit (.bool false)], args := [d] }
  | _ => none }
def RuletextSkipsWrongFalsely : Prop := ruletextSkipsRow.holds Tryz.pinned (OpenSpec.ofChange ruletextSkipsWrong)

/-- 'doorsteplaw34.RuleprintBack': WHATEVER THE INPUT: true; the input reads as it did. -/
def ruleprintBackSpec : ChangeSpec := { name := "ruleprintBack", fn := fun _ => fun
  | [d] => { results := [.lit (.bool true)], args := [d] }
  | _ => none }
def ruleprintBackRow : OpenClaim := { program := "ytgaidgblihnldaagreatdoor", sum := "5ddc52d94465090db5b251ec39f845eaed4a7e620fa33bceccf3474ba0f7e0b8", func := "doorstep/doorsteplaw34.RuleprintBack", spec := "ruleprintBack", inPlace := ["internal/bytealg.IndexByteString", "internal/bytealg.IndexString", "internal/bytealg.CountString", "internal/abi.NoEscape", "internal/bytealg.MakeNoZero"], unfollowed := true, recurses := true, named := ["unicode/utf8.first", "unicode/utf8.acceptRanges", "internal/bytealg.MaxLen"], apart := false, laid := [("unicode/utf8.acceptRanges", laid_unicode_utf8_acceptRanges), ("unicode/utf8.first", laid_unicode_utf8_first)] }
def RuleprintBackSaid : Prop := ruleprintBackRow.holds Tryz.pinned (OpenSpec.ofChange ruleprintBackSpec)

/-- ITS FALSE NEIGHBOUR: 'it returns false'. Refute it at one input. -/
def ruleprintBackWrong : ChangeSpec := { name := "ruleprintBack", fn := fun _ => fun
  | [d] => { results := [.lit (.bool false)], args := [d] }
  | _ => none }
def RuleprintBackWrongFalsely : Prop := ruleprintBackRow.holds Tryz.pinned (OpenSpec.ofChange ruleprintBackWrong)

/-- 'doorsteplaw34.RuleprintOnce': WHATEVER THE INPUT: true; the input reads as it did. -/
def ruleprintOnceSpec : ChangeSpec := { name := "ruleprintOnce", fn := fun _ => fun
  | [d] => { results := [.lit (.bool true)], args := [d] }
  | _ => none }
def ruleprintOnceRow : OpenClaim := { program := "ytgaidgblihnldaagreatdoor", sum := "5ddc52d94465090db5b251ec39f845eaed4a7e620fa33bceccf3474ba0f7e0b8", func := "doorstep/doorsteplaw34.RuleprintOnce", spec := "ruleprintOnce", inPlace := ["internal/bytealg.IndexByteString", "internal/bytealg.IndexString", "internal/bytealg.CountString", "internal/abi.NoEscape", "internal/bytealg.MakeNoZero"], unfollowed := true, recurses := true, named := ["unicode/utf8.first", "unicode/utf8.acceptRanges", "internal/bytealg.MaxLen"], apart := false, laid := [("unicode/utf8.acceptRanges", laid_unicode_utf8_acceptRanges), ("unicode/utf8.first", laid_unicode_utf8_first)] }
def RuleprintOnceSaid : Prop := ruleprintOnceRow.holds Tryz.pinned (OpenSpec.ofChange ruleprintOnceSpec)

/-- ITS FALSE NEIGHBOUR: 'it returns false'. Refute it at one input. -/
def ruleprintOnceWrong : ChangeSpec := { name := "ruleprintOnce", fn := fun _ => fun
  | [d] => { results := [.lit (.bool false)], args := [d] }
  | _ => none }
def RuleprintOnceWrongFalsely : Prop := ruleprintOnceRow.holds Tryz.pinned (OpenSpec.ofChange ruleprintOnceWrong)

/-- 'doorsteplaw35.CheckReads': WHATEVER THE INPUT: true; the input reads as it did. -/
def checkReadsSpec : ChangeSpec := { name := "checkReads", fn := fun _ => fun
  | [d] => { results := [.lit (.bool true)], args := [d] }
  | _ => none }
def checkReadsRow : OpenClaim := { program := "ytgaidgblihnldaagreatdoor", sum := "5ddc52d94465090db5b251ec39f845eaed4a7e620fa33bceccf3474ba0f7e0b8", func := "doorstep/doorsteplaw35.CheckReads", spec := "checkReads", inPlace := ["internal/bytealg.CountString", "internal/bytealg.IndexByteString", "internal/bytealg.IndexString", "internal/abi.NoEscape", "internal/bytealg.MakeNoZero"], unfollowed := true, recurses := true, named := ["unicode/utf8.first", "unicode/utf8.acceptRanges", "internal/bytealg.MaxLen"], apart := false, laid := [("unicode/utf8.acceptRanges", laid_unicode_utf8_acceptRanges), ("unicode/utf8.first", laid_unicode_utf8_first)] }
def CheckReadsSaid : Prop := checkReadsRow.holds Tryz.pinned (OpenSpec.ofChange checkReadsSpec)

/-- ITS FALSE NEIGHBOUR: 'it returns false'. Refute it at one input. -/
def checkReadsWrong : ChangeSpec := { name := "checkReads", fn := fun _ => fun
  | [d] => { results := [.lit (.bool false)], args := [d] }
  | _ => none }
def CheckReadsWrongFalsely : Prop := checkReadsRow.holds Tryz.pinned (OpenSpec.ofChange checkReadsWrong)

/-- 'doorsteplaw35.CheckSame': WHATEVER THE INPUT: true; the input reads as it did. -/
def checkSameSpec : ChangeSpec := { name := "checkSame", fn := fun _ => fun
  | [d1, d2] => { results := [.lit (.bool true)], args := [d1, d2] }
  | _ => none }
def checkSameRow : OpenClaim := { program := "ytgaidgblihnldaagreatdoor", sum := "5ddc52d94465090db5b251ec39f845eaed4a7e620fa33bceccf3474ba0f7e0b8", func := "doorstep/doorsteplaw35.CheckSame", spec := "checkSame", inPlace := ["internal/bytealg.CountString", "internal/bytealg.IndexByteString", "internal/bytealg.IndexString", "internal/abi.NoEscape", "internal/bytealg.MakeNoZero"], unfollowed := true, recurses := true, named := ["unicode/utf8.first", "unicode/utf8.acceptRanges", "internal/bytealg.MaxLen"], apart := false, laid := [("unicode/utf8.acceptRanges", laid_unicode_utf8_acceptRanges), ("unicode/utf8.first", laid_unicode_utf8_first)] }
def CheckSameSaid : Prop := checkSameRow.holds Tryz.pinned (OpenSpec.ofChange checkSameSpec)

/-- ITS FALSE NEIGHBOUR: 'it returns false'. Refute it at one input. -/
def checkSameWrong : ChangeSpec := { name := "checkSame", fn := fun _ => fun
  | [d1, d2] => { results := [.lit (.bool false)], args := [d1, d2] }
  | _ => none }
def CheckSameWrongFalsely : Prop := checkSameRow.holds Tryz.pinned (OpenSpec.ofChange checkSameWrong)

/-- 'doorsteplaw35.CheckWrites': WHATEVER THE INPUT: true; the input reads as it did. -/
def checkWritesSpec : ChangeSpec := { name := "checkWrites", fn := fun _ => fun
  | [d] => { results := [.lit (.bool true)], args := [d] }
  | _ => none }
def checkWritesRow : OpenClaim := { program := "ytgaidgblihnldaagreatdoor", sum := "5ddc52d94465090db5b251ec39f845eaed4a7e620fa33bceccf3474ba0f7e0b8", func := "doorstep/doorsteplaw35.CheckWrites", spec := "checkWrites", inPlace := ["internal/bytealg.CountString", "internal/bytealg.IndexByteString", "internal/bytealg.IndexString", "internal/abi.NoEscape", "internal/bytealg.MakeNoZero"], unfollowed := true, recurses := true, named := ["unicode/utf8.first", "unicode/utf8.acceptRanges", "internal/bytealg.MaxLen"], apart := false, laid := [("unicode/utf8.acceptRanges", laid_unicode_utf8_acceptRanges), ("unicode/utf8.first", laid_unicode_utf8_first)] }
def CheckWritesSaid : Prop := checkWritesRow.holds Tryz.pinned (OpenSpec.ofChange checkWritesSpec)

/-- ITS FALSE NEIGHBOUR: 'it returns false'. Refute it at one input. -/
def checkWritesWrong : ChangeSpec := { name := "checkWrites", fn := fun _ => fun
  | [d] => { results := [.lit (.bool false)], args := [d] }
  | _ => none }
def CheckWritesWrongFalsely : Prop := checkWritesRow.holds Tryz.pinned (OpenSpec.ofChange checkWritesWrong)

/- THE SECOND FORM. 'bulk': how many values and letters a reading holds, each counted each time it is reached (what is shared counts as often as it is met; a slice's spare places count too). A statement '..UptoSaid' is the law's where the arguments, and the package variables that the reading takes, are together of bulk at most 1048576: NARROWER than '..Said'. Prove '..Said' where nothing that the law and all that it calls make is longer than what came in: it says more and counts as full. Else prove '..UptoSaid'. A law counts once. -/
mutual
def uptoBulk {H : Type} : DataW H → Nat
  | .lit (.string bytes) => bytes.length + 1
  | .lit _ => 1
  | .nil => 1
  | .ptr d => uptoBulk d + 1
  | .slice elems spare => uptoBulkAll elems + uptoBulkAll spare + 1
  | .agg parts => uptoBulkAll parts + 1
  | .iface _ d => uptoBulk d + 1
  | .map entries => uptoBulkEntries entries + 1
  | .held _ => 1
def uptoBulkAll {H : Type} : List (DataW H) → Nat
  | [] => 0
  | d :: r => uptoBulk d + uptoBulkAll r
def uptoBulkEntries {H : Type} : List (Lit × DataW H) → Nat
  | [] => 0
  | x :: r => uptoBulkEntry x + uptoBulkEntries r
def uptoBulkEntry {H : Type} : Lit × DataW H → Nat
  | (.string bytes, d) => bytes.length + uptoBulk d + 1
  | (_, d) => uptoBulk d + 1
 end
def uptoSmall : (H : Type) → List (DataW H) → Bool := fun _ ds => decide (uptoBulkAll ds ≤ 1048576)
def OpenSpec.upto (s : _root_.Go.ChangeSpec) : _root_.Go.OpenSpec := { _root_.Go.OpenSpec.ofChange s with cond := some uptoSmall }

/-- 'doorsteplaw34.RuleprintWrites', WHERE WHAT IT READS IS OF BULK AT MOST 1048576: true; the input reads as it did. -/
def ruleprintWritesUptoRow : OpenClaim := { program := "ytgaidgblihnldaagreatdoor", sum := "5ddc52d94465090db5b251ec39f845eaed4a7e620fa33bceccf3474ba0f7e0b8", func := "doorstep/doorsteplaw34.RuleprintWrites", spec := "ruleprintWrites", inPlace := ["internal/bytealg.IndexByteString", "internal/bytealg.IndexString", "internal/bytealg.CountString", "internal/abi.NoEscape", "internal/bytealg.MakeNoZero"], unfollowed := true, recurses := true, named := ["unicode/utf8.first", "unicode/utf8.acceptRanges", "internal/bytealg.MaxLen"], apart := false, laid := [("unicode/utf8.acceptRanges", laid_unicode_utf8_acceptRanges), ("unicode/utf8.first", laid_unicode_utf8_first)], narrowed := true }
def RuleprintWritesUptoSaid : Prop := ruleprintWritesUptoRow.holds Tryz.pinned (OpenSpec.upto ruleprintWritesSpec)

/-- 'doorsteplaw33.RuletextReads', WHERE WHAT IT READS IS OF BULK AT MOST 1048576: true; the input reads as it did. -/
def ruletextReadsUptoRow : OpenClaim := { program := "ytgaidgblihnldaagreatdoor", sum := "5ddc52d94465090db5b251ec39f845eaed4a7e620fa33bceccf3474ba0f7e0b8", func := "doorstep/doorsteplaw33.RuletextReads", spec := "ruletextReads", inPlace := ["internal/bytealg.IndexByteString", "internal/bytealg.IndexString", "internal/bytealg.CountString", "internal/abi.NoEscape", "internal/bytealg.MakeNoZero"], unfollowed := true, recurses := true, named := ["unicode/utf8.first", "unicode/utf8.acceptRanges", "internal/bytealg.MaxLen"], apart := false, laid := [("unicode/utf8.acceptRanges", laid_unicode_utf8_acceptRanges), ("unicode/utf8.first", laid_unicode_utf8_first)], narrowed := true }
def RuletextReadsUptoSaid : Prop := ruletextReadsUptoRow.holds Tryz.pinned (OpenSpec.upto ruletextReadsSpec)

/-- 'doorsteplaw33.RuletextBlanks', WHERE WHAT IT READS IS OF BULK AT MOST 1048576: true; the input reads as it did. -/
def ruletextBlanksUptoRow : OpenClaim := { program := "ytgaidgblihnldaagreatdoor", sum := "5ddc52d94465090db5b251ec39f845eaed4a7e620fa33bceccf3474ba0f7e0b8", func := "doorstep/doorsteplaw33.RuletextBlanks", spec := "ruletextBlanks", inPlace := ["internal/bytealg.IndexByteString", "internal/bytealg.IndexString", "internal/bytealg.CountString", "internal/abi.NoEscape", "internal/bytealg.MakeNoZero"], unfollowed := true, recurses := true, named := ["unicode/utf8.first", "unicode/utf8.acceptRanges", "internal/bytealg.MaxLen"], apart := false, laid := [("unicode/utf8.acceptRanges", laid_unicode_utf8_acceptRanges), ("unicode/utf8.first", laid_unicode_utf8_first)], narrowed := true }
def RuletextBlanksUptoSaid : Prop := ruletextBlanksUptoRow.holds Tryz.pinned (OpenSpec.upto ruletextBlanksSpec)

/-- 'doorsteplaw33.RuletextSkips', WHERE WHAT IT READS IS OF BULK AT MOST 1048576: true; the input reads as it did. -/
def ruletextSkipsUptoRow : OpenClaim := { program := "ytgaidgblihnldaagreatdoor", sum := "5ddc52d94465090db5b251ec39f845eaed4a7e620fa33bceccf3474ba0f7e0b8", func := "doorstep/doorsteplaw33.RuletextSkips", spec := "ruletextSkips", inPlace := ["internal/bytealg.IndexByteString", "internal/bytealg.IndexString", "internal/bytealg.CountString", "internal/abi.NoEscape", "internal/bytealg.MakeNoZero"], unfollowed := true, recurses := true, named := ["unicode/utf8.first", "unicode/utf8.acceptRanges", "internal/bytealg.MaxLen"], apart := false, laid := [("unicode/utf8.acceptRanges", laid_unicode_utf8_acceptRanges), ("unicode/utf8.first", laid_unicode_utf8_first)], narrowed := true }
def RuletextSkipsUptoSaid : Prop := ruletextSkipsUptoRow.holds Tryz.pinned (OpenSpec.upto ruletextSkipsSpec)

/-- 'doorsteplaw34.RuleprintBack', WHERE WHAT IT READS IS OF BULK AT MOST 1048576: true; the input reads as it did. -/
def ruleprintBackUptoRow : OpenClaim := { program := "ytgaidgblihnldaagreatdoor", sum := "5ddc52d94465090db5b251ec39f845eaed4a7e620fa33bceccf3474ba0f7e0b8", func := "doorstep/doorsteplaw34.RuleprintBack", spec := "ruleprintBack", inPlace := ["internal/bytealg.IndexByteString", "internal/bytealg.IndexString", "internal/bytealg.CountString", "internal/abi.NoEscape", "internal/bytealg.MakeNoZero"], unfollowed := true, recurses := true, named := ["unicode/utf8.first", "unicode/utf8.acceptRanges", "internal/bytealg.MaxLen"], apart := false, laid := [("unicode/utf8.acceptRanges", laid_unicode_utf8_acceptRanges), ("unicode/utf8.first", laid_unicode_utf8_first)], narrowed := true }
def RuleprintBackUptoSaid : Prop := ruleprintBackUptoRow.holds Tryz.pinned (OpenSpec.upto ruleprintBackSpec)

/-- 'doorsteplaw34.RuleprintOnce', WHERE WHAT IT READS IS OF BULK AT MOST 1048576: true; the input reads as it did. -/
def ruleprintOnceUptoRow : OpenClaim := { program := "ytgaidgblihnldaagreatdoor", sum := "5ddc52d94465090db5b251ec39f845eaed4a7e620fa33bceccf3474ba0f7e0b8", func := "doorstep/doorsteplaw34.RuleprintOnce", spec := "ruleprintOnce", inPlace := ["internal/bytealg.IndexByteString", "internal/bytealg.IndexString", "internal/bytealg.CountString", "internal/abi.NoEscape", "internal/bytealg.MakeNoZero"], unfollowed := true, recurses := true, named := ["unicode/utf8.first", "unicode/utf8.acceptRanges", "internal/bytealg.MaxLen"], apart := false, laid := [("unicode/utf8.acceptRanges", laid_unicode_utf8_acceptRanges), ("unicode/utf8.first", laid_unicode_utf8_first)], narrowed := true }
def RuleprintOnceUptoSaid : Prop := ruleprintOnceUptoRow.holds Tryz.pinned (OpenSpec.upto ruleprintOnceSpec)

/-- 'doorsteplaw35.CheckReads', WHERE WHAT IT READS IS OF BULK AT MOST 1048576: true; the input reads as it did. -/
def checkReadsUptoRow : OpenClaim := { program := "ytgaidgblihnldaagreatdoor", sum := "5ddc52d94465090db5b251ec39f845eaed4a7e620fa33bceccf3474ba0f7e0b8", func := "doorstep/doorsteplaw35.CheckReads", spec := "checkReads", inPlace := ["internal/bytealg.CountString", "internal/bytealg.IndexByteString", "internal/bytealg.IndexString", "internal/abi.NoEscape", "internal/bytealg.MakeNoZero"], unfollowed := true, recurses := true, named := ["unicode/utf8.first", "unicode/utf8.acceptRanges", "internal/bytealg.MaxLen"], apart := false, laid := [("unicode/utf8.acceptRanges", laid_unicode_utf8_acceptRanges), ("unicode/utf8.first", laid_unicode_utf8_first)], narrowed := true }
def CheckReadsUptoSaid : Prop := checkReadsUptoRow.holds Tryz.pinned (OpenSpec.upto checkReadsSpec)

/-- 'doorsteplaw35.CheckSame', WHERE WHAT IT READS IS OF BULK AT MOST 1048576: true; the input reads as it did. -/
def checkSameUptoRow : OpenClaim := { program := "ytgaidgblihnldaagreatdoor", sum := "5ddc52d94465090db5b251ec39f845eaed4a7e620fa33bceccf3474ba0f7e0b8", func := "doorstep/doorsteplaw35.CheckSame", spec := "checkSame", inPlace := ["internal/bytealg.CountString", "internal/bytealg.IndexByteString", "internal/bytealg.IndexString", "internal/abi.NoEscape", "internal/bytealg.MakeNoZero"], unfollowed := true, recurses := true, named := ["unicode/utf8.first", "unicode/utf8.acceptRanges", "internal/bytealg.MaxLen"], apart := false, laid := [("unicode/utf8.acceptRanges", laid_unicode_utf8_acceptRanges), ("unicode/utf8.first", laid_unicode_utf8_first)], narrowed := true }
def CheckSameUptoSaid : Prop := checkSameUptoRow.holds Tryz.pinned (OpenSpec.upto checkSameSpec)

/-- 'doorsteplaw35.CheckWrites', WHERE WHAT IT READS IS OF BULK AT MOST 1048576: true; the input reads as it did. -/
def checkWritesUptoRow : OpenClaim := { program := "ytgaidgblihnldaagreatdoor", sum := "5ddc52d94465090db5b251ec39f845eaed4a7e620fa33bceccf3474ba0f7e0b8", func := "doorstep/doorsteplaw35.CheckWrites", spec := "checkWrites", inPlace := ["internal/bytealg.CountString", "internal/bytealg.IndexByteString", "internal/bytealg.IndexString", "internal/abi.NoEscape", "internal/bytealg.MakeNoZero"], unfollowed := true, recurses := true, named := ["unicode/utf8.first", "unicode/utf8.acceptRanges", "internal/bytealg.MaxLen"], apart := false, laid := [("unicode/utf8.acceptRanges", laid_unicode_utf8_acceptRanges), ("unicode/utf8.first", laid_unicode_utf8_first)], narrowed := true }
def CheckWritesUptoSaid : Prop := checkWritesUptoRow.holds Tryz.pinned (OpenSpec.upto checkWritesSpec)

end Rows
end Go.Proofs.YtgaidgblihnldaaGreatDoor
