/-
  DERIVED. GIVEN WITH THE SEED: THE CARDS: each row of YtfhodppaelfcfaaDoorRows.lean that lists a variable, with what it lists TIED to the program's text (the seventh form; the later family's looks); each row that meets fmt, with fmt's text TOLD by the authors' own Lean function (tested against real Go, not proved from fmt's source: count such statements apart). THE CARD IS WHAT COUNTS. Prove the row's statement (the work); the ties are given (YtfhodppaelfcfaaDoorTie.lean); close each card by the builder's one call (the guide's Derived/Test/ToyasCard.lean, 'card_holds'). Laid BY PROGRAM, IN A SANDBOX (cutbox-door.mjs). By AI agents, Wed Nov 11 2026. No macro, syntax, notation, axiom, sorry.
-/
import Derived.Test.YtfhodppaelfcfaaDoorRows
import GoSem.ClaimSeven
namespace Go.Proofs.YtfhodppaelfcfaaDoor
namespace Rows

/-- THE TIED CARD OF 'doorsteplaw18.ChunkReads'. -/
def chunkReadsCard : Claim7 := { stood := { row := chunkReadsRow, standIns := [], harness := (true, "0bba41b6d0b61ea7cc0af57fe9ff3b22bc4f095d67c3984fca0bd636fab9c26d"), looks := false }, kinds := [], alts := [], laidByText := true, laidKinds := [.data, .data, .data], laidTests := true, laidLooks := .later }
def ChunkReadsCardSaid : Prop := Claim7.holds Tryd.pinned (.plain (OpenSpec.ofChange chunkReadsSpec)) chunkReadsCard

/-- THE TIED CARD OF 'doorsteplaw18.ChunkWrites'. -/
def chunkWritesCard : Claim7 := { stood := { row := chunkWritesRow, standIns := [], harness := (true, "0bba41b6d0b61ea7cc0af57fe9ff3b22bc4f095d67c3984fca0bd636fab9c26d"), looks := false }, kinds := [], alts := [], laidByText := true, laidKinds := [.data, .data, .data], laidTests := true, laidLooks := .later }
def ChunkWritesCardSaid : Prop := Claim7.holds Tryd.pinned (.plain (OpenSpec.ofChange chunkWritesSpec)) chunkWritesCard

/-- THE TIED CARD OF 'doorsteplaw18.ChunkLasts'. -/
def chunkLastsCard : Claim7 := { stood := { row := chunkLastsRow, standIns := [], harness := (true, "0bba41b6d0b61ea7cc0af57fe9ff3b22bc4f095d67c3984fca0bd636fab9c26d"), looks := false }, kinds := [], alts := [], laidByText := true, laidKinds := [.data, .data, .data, .data, .pinned], laidTests := true, laidLooks := .later }
def ChunkLastsCardSaid : Prop := Claim7.holds Tryd.pinned (.plain (OpenSpec.ofChange chunkLastsSpec)) chunkLastsCard

/-- THE TIED CARD OF 'doorsteplaw31.TmplReads'. -/
def tmplReadsCard : Claim7 := { stood := { row := tmplReadsRow, standIns := [], harness := (true, "0bba41b6d0b61ea7cc0af57fe9ff3b22bc4f095d67c3984fca0bd636fab9c26d"), looks := false }, kinds := [], alts := [], laidByText := true, laidKinds := [.data, .pinned], laidTests := true, laidLooks := .later }
def TmplReadsCardSaid : Prop := Claim7.holds Tryd.pinned (.plain (OpenSpec.ofChange tmplReadsSpec)) tmplReadsCard

/-- THE TIED CARD OF 'doorsteplaw31.TmplWrites'. -/
def tmplWritesCard : Claim7 := { stood := { row := tmplWritesRow, standIns := [], harness := (true, "0bba41b6d0b61ea7cc0af57fe9ff3b22bc4f095d67c3984fca0bd636fab9c26d"), looks := false }, kinds := [], alts := [], laidByText := true, laidKinds := [.data, .pinned], laidTests := true, laidLooks := .later }
def TmplWritesCardSaid : Prop := Claim7.holds Tryd.pinned (.plain (OpenSpec.ofChange tmplWritesSpec)) tmplWritesCard

/-- THE TIED CARD OF 'doorsteplaw31.TmplEvals'. -/
def tmplEvalsCard : Claim7 := { stood := { row := tmplEvalsRow, standIns := [], harness := (true, "0bba41b6d0b61ea7cc0af57fe9ff3b22bc4f095d67c3984fca0bd636fab9c26d"), looks := false }, kinds := [], alts := [], laidByText := true, laidKinds := [.data, .pinned], laidTests := true, laidLooks := .later }
def TmplEvalsCardSaid : Prop := Claim7.holds Tryd.pinned (.plain (OpenSpec.ofChange tmplEvalsSpec)) tmplEvalsCard

/-- THE TIED CARD OF 'doorsteplaw13.BagOthers'. -/
def bagOthersCard : Claim7 := { stood := { row := bagOthersRow, standIns := [], harness := (true, "0bba41b6d0b61ea7cc0af57fe9ff3b22bc4f095d67c3984fca0bd636fab9c26d"), looks := false }, kinds := [], alts := [], laidByText := true, laidKinds := [.data, .pinned], laidTests := true, laidLooks := .later }
def BagOthersCardSaid : Prop := Claim7.holds Tryd.pinned (.plain (OpenSpec.ofChange bagOthersSpec)) bagOthersCard

/-- THE TIED CARD OF 'doorsteplaw13.BagPlays'. -/
def bagPlaysCard : Claim7 := { stood := { row := bagPlaysRow, standIns := [], harness := (true, "0bba41b6d0b61ea7cc0af57fe9ff3b22bc4f095d67c3984fca0bd636fab9c26d"), looks := false }, kinds := [], alts := [], laidByText := true, laidKinds := [.data, .pinned], laidTests := true, laidLooks := .later }
def BagPlaysCardSaid : Prop := Claim7.holds Tryd.pinned (.plain (OpenSpec.ofChange bagPlaysSpec)) bagPlaysCard

/-- THE TIED CARD OF 'doorsteplaw13.BagNone'. -/
def bagNoneCard : Claim7 := { stood := { row := bagNoneRow, standIns := [], harness := (true, "0bba41b6d0b61ea7cc0af57fe9ff3b22bc4f095d67c3984fca0bd636fab9c26d"), looks := false }, kinds := [], alts := [], laidByText := true, laidKinds := [.data, .pinned], laidTests := true, laidLooks := .later }
def BagNoneCardSaid : Prop := Claim7.holds Tryd.pinned (.plain (OpenSpec.ofChange bagNoneSpec)) bagNoneCard

/-- THE TIED CARD OF 'doorsteplaw32.RuleKnows'. -/
def ruleKnowsCard : Claim7 := { stood := { row := ruleKnowsRow, standIns := [], harness := (true, "0bba41b6d0b61ea7cc0af57fe9ff3b22bc4f095d67c3984fca0bd636fab9c26d"), looks := false }, kinds := [], alts := [], laidByText := true, laidKinds := [.data, .pinned], laidTests := true, laidLooks := .later }
def RuleKnowsCardSaid : Prop := Claim7.holds Tryd.pinned (.plain (OpenSpec.ofChange ruleKnowsSpec)) ruleKnowsCard

/-- THE TIED CARD OF 'doorsteplaw32.RuleSame'. -/
def ruleSameCard : Claim7 := { stood := { row := ruleSameRow, standIns := [], harness := (true, "0bba41b6d0b61ea7cc0af57fe9ff3b22bc4f095d67c3984fca0bd636fab9c26d"), looks := false }, kinds := [], alts := [], laidByText := true, laidKinds := [.data, .pinned], laidTests := true, laidLooks := .later }
def RuleSameCardSaid : Prop := Claim7.holds Tryd.pinned (.plain (OpenSpec.ofChange ruleSameSpec)) ruleSameCard

/-- THE SECOND FORM's CARD OF 'doorsteplaw18.ChunkReads'. -/
def chunkReadsUptoCard : Claim7 := { stood := { row := chunkReadsUptoRow, standIns := [], harness := (true, "0bba41b6d0b61ea7cc0af57fe9ff3b22bc4f095d67c3984fca0bd636fab9c26d"), looks := false }, kinds := [], alts := [], laidByText := true, laidKinds := [.data, .data, .data], laidTests := true, laidLooks := .later }
def ChunkReadsUptoCardSaid : Prop := Claim7.holds Tryd.pinned (.plain (OpenSpec.upto chunkReadsSpec)) chunkReadsUptoCard

/-- THE SECOND FORM's CARD OF 'doorsteplaw18.ChunkWrites'. -/
def chunkWritesUptoCard : Claim7 := { stood := { row := chunkWritesUptoRow, standIns := [], harness := (true, "0bba41b6d0b61ea7cc0af57fe9ff3b22bc4f095d67c3984fca0bd636fab9c26d"), looks := false }, kinds := [], alts := [], laidByText := true, laidKinds := [.data, .data, .data], laidTests := true, laidLooks := .later }
def ChunkWritesUptoCardSaid : Prop := Claim7.holds Tryd.pinned (.plain (OpenSpec.upto chunkWritesSpec)) chunkWritesUptoCard

/-- THE SECOND FORM's CARD OF 'doorsteplaw18.ChunkLasts'. -/
def chunkLastsUptoCard : Claim7 := { stood := { row := chunkLastsUptoRow, standIns := [], harness := (true, "0bba41b6d0b61ea7cc0af57fe9ff3b22bc4f095d67c3984fca0bd636fab9c26d"), looks := false }, kinds := [], alts := [], laidByText := true, laidKinds := [.data, .data, .data, .data, .pinned], laidTests := true, laidLooks := .later }
def ChunkLastsUptoCardSaid : Prop := Claim7.holds Tryd.pinned (.plain (OpenSpec.upto chunkLastsSpec)) chunkLastsUptoCard

/-- THE SECOND FORM's CARD OF 'doorsteplaw31.TmplReads'. -/
def tmplReadsUptoCard : Claim7 := { stood := { row := tmplReadsUptoRow, standIns := [], harness := (true, "0bba41b6d0b61ea7cc0af57fe9ff3b22bc4f095d67c3984fca0bd636fab9c26d"), looks := false }, kinds := [], alts := [], laidByText := true, laidKinds := [.data, .pinned], laidTests := true, laidLooks := .later }
def TmplReadsUptoCardSaid : Prop := Claim7.holds Tryd.pinned (.plain (OpenSpec.upto tmplReadsSpec)) tmplReadsUptoCard

/-- THE SECOND FORM's CARD OF 'doorsteplaw31.TmplWrites'. -/
def tmplWritesUptoCard : Claim7 := { stood := { row := tmplWritesUptoRow, standIns := [], harness := (true, "0bba41b6d0b61ea7cc0af57fe9ff3b22bc4f095d67c3984fca0bd636fab9c26d"), looks := false }, kinds := [], alts := [], laidByText := true, laidKinds := [.data, .pinned], laidTests := true, laidLooks := .later }
def TmplWritesUptoCardSaid : Prop := Claim7.holds Tryd.pinned (.plain (OpenSpec.upto tmplWritesSpec)) tmplWritesUptoCard

/-- THE SECOND FORM's CARD OF 'doorsteplaw31.TmplEvals'. -/
def tmplEvalsUptoCard : Claim7 := { stood := { row := tmplEvalsUptoRow, standIns := [], harness := (true, "0bba41b6d0b61ea7cc0af57fe9ff3b22bc4f095d67c3984fca0bd636fab9c26d"), looks := false }, kinds := [], alts := [], laidByText := true, laidKinds := [.data, .pinned], laidTests := true, laidLooks := .later }
def TmplEvalsUptoCardSaid : Prop := Claim7.holds Tryd.pinned (.plain (OpenSpec.upto tmplEvalsSpec)) tmplEvalsUptoCard

/-- THE SECOND FORM's CARD OF 'doorsteplaw13.BagOthers'. -/
def bagOthersUptoCard : Claim7 := { stood := { row := bagOthersUptoRow, standIns := [], harness := (true, "0bba41b6d0b61ea7cc0af57fe9ff3b22bc4f095d67c3984fca0bd636fab9c26d"), looks := false }, kinds := [], alts := [], laidByText := true, laidKinds := [.data, .pinned], laidTests := true, laidLooks := .later }
def BagOthersUptoCardSaid : Prop := Claim7.holds Tryd.pinned (.plain (OpenSpec.upto bagOthersSpec)) bagOthersUptoCard

/-- THE SECOND FORM's CARD OF 'doorsteplaw13.BagPlays'. -/
def bagPlaysUptoCard : Claim7 := { stood := { row := bagPlaysUptoRow, standIns := [], harness := (true, "0bba41b6d0b61ea7cc0af57fe9ff3b22bc4f095d67c3984fca0bd636fab9c26d"), looks := false }, kinds := [], alts := [], laidByText := true, laidKinds := [.data, .pinned], laidTests := true, laidLooks := .later }
def BagPlaysUptoCardSaid : Prop := Claim7.holds Tryd.pinned (.plain (OpenSpec.upto bagPlaysSpec)) bagPlaysUptoCard

/-- THE SECOND FORM's CARD OF 'doorsteplaw13.BagNone'. -/
def bagNoneUptoCard : Claim7 := { stood := { row := bagNoneUptoRow, standIns := [], harness := (true, "0bba41b6d0b61ea7cc0af57fe9ff3b22bc4f095d67c3984fca0bd636fab9c26d"), looks := false }, kinds := [], alts := [], laidByText := true, laidKinds := [.data, .pinned], laidTests := true, laidLooks := .later }
def BagNoneUptoCardSaid : Prop := Claim7.holds Tryd.pinned (.plain (OpenSpec.upto bagNoneSpec)) bagNoneUptoCard

/-- THE SECOND FORM's CARD OF 'doorsteplaw32.RuleKnows'. -/
def ruleKnowsUptoCard : Claim7 := { stood := { row := ruleKnowsUptoRow, standIns := [], harness := (true, "0bba41b6d0b61ea7cc0af57fe9ff3b22bc4f095d67c3984fca0bd636fab9c26d"), looks := false }, kinds := [], alts := [], laidByText := true, laidKinds := [.data, .pinned], laidTests := true, laidLooks := .later }
def RuleKnowsUptoCardSaid : Prop := Claim7.holds Tryd.pinned (.plain (OpenSpec.upto ruleKnowsSpec)) ruleKnowsUptoCard

/-- THE SECOND FORM's CARD OF 'doorsteplaw32.RuleSame'. -/
def ruleSameUptoCard : Claim7 := { stood := { row := ruleSameUptoRow, standIns := [], harness := (true, "0bba41b6d0b61ea7cc0af57fe9ff3b22bc4f095d67c3984fca0bd636fab9c26d"), looks := false }, kinds := [], alts := [], laidByText := true, laidKinds := [.data, .pinned], laidTests := true, laidLooks := .later }
def RuleSameUptoCardSaid : Prop := Claim7.holds Tryd.pinned (.plain (OpenSpec.upto ruleSameSpec)) ruleSameUptoCard
end Rows
end Go.Proofs.YtfhodppaelfcfaaDoor
