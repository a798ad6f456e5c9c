/-
  DERIVED. GIVEN WITH THE SEED: THE CARDS: each row of YtajgpiplndfoeaaDoorRows.lean that lists a variable, with what it lists TIED to the program's text (the seventh form; the later family's looks); each row that meets fmt, with fmt's text TOLD by the authors' own Lean function (tested against real Go, not proved from fmt's source: count such statements apart). THE CARD IS WHAT COUNTS. Prove the row's statement (the work); the ties are given (YtajgpiplndfoeaaDoorTie.lean); close each card by the builder's one call (the guide's Derived/Test/ToyasCard.lean, 'card_holds'). Laid BY PROGRAM, IN A SANDBOX (cutbox-door.mjs). By AI agents, Wed Nov 11 2026. No macro, syntax, notation, axiom, sorry.
-/
import Derived.Test.YtajgpiplndfoeaaDoorRows
import GoSem.ClaimSeven
namespace Go.Proofs.YtajgpiplndfoeaaDoor
namespace Rows

/-- THE TIED CARD OF 'doorsteplaw18.ChunkReads'. -/
def chunkReadsCard : Claim7 := { stood := { row := chunkReadsRow, standIns := [], harness := (true, "c28c48fbb04b8d1592c067735d9a728debde115f1838cc944d73fa8ec4281391"), looks := false }, kinds := [], alts := [], laidByText := true, laidKinds := [.data, .data, .data], laidTests := true, laidLooks := .later }
def ChunkReadsCardSaid : Prop := Claim7.holds Tryd.pinned (.plain (OpenSpec.ofChange chunkReadsSpec)) chunkReadsCard

/-- THE TIED CARD OF 'doorsteplaw18.ChunkWrites'. -/
def chunkWritesCard : Claim7 := { stood := { row := chunkWritesRow, standIns := [], harness := (true, "c28c48fbb04b8d1592c067735d9a728debde115f1838cc944d73fa8ec4281391"), looks := false }, kinds := [], alts := [], laidByText := true, laidKinds := [.data, .data, .data], laidTests := true, laidLooks := .later }
def ChunkWritesCardSaid : Prop := Claim7.holds Tryd.pinned (.plain (OpenSpec.ofChange chunkWritesSpec)) chunkWritesCard

/-- THE TIED CARD OF 'doorsteplaw31.TmplReads'. -/
def tmplReadsCard : Claim7 := { stood := { row := tmplReadsRow, standIns := [], harness := (true, "c28c48fbb04b8d1592c067735d9a728debde115f1838cc944d73fa8ec4281391"), looks := false }, kinds := [], alts := [], laidByText := true, laidKinds := [.data, .pinned], laidTests := true, laidLooks := .later }
def TmplReadsCardSaid : Prop := Claim7.holds Tryd.pinned (.plain (OpenSpec.ofChange tmplReadsSpec)) tmplReadsCard

/-- THE TIED CARD OF 'doorsteplaw31.TmplWrites'. -/
def tmplWritesCard : Claim7 := { stood := { row := tmplWritesRow, standIns := [], harness := (true, "c28c48fbb04b8d1592c067735d9a728debde115f1838cc944d73fa8ec4281391"), looks := false }, kinds := [], alts := [], laidByText := true, laidKinds := [.data, .pinned], laidTests := true, laidLooks := .later }
def TmplWritesCardSaid : Prop := Claim7.holds Tryd.pinned (.plain (OpenSpec.ofChange tmplWritesSpec)) tmplWritesCard

/-- THE TIED CARD OF 'doorsteplaw06.CommasJoins'. -/
def commasJoinsCard : Claim7 := { stood := { row := commasJoinsRow, standIns := [], harness := (true, "c28c48fbb04b8d1592c067735d9a728debde115f1838cc944d73fa8ec4281391"), looks := false }, kinds := [], alts := [], laidByText := true, laidKinds := [.data, .pinned], laidTests := true, laidLooks := .later }
def CommasJoinsCardSaid : Prop := Claim7.holds Tryd.pinned (.plain (OpenSpec.ofChange commasJoinsSpec)) commasJoinsCard

/-- THE TIED CARD OF 'doorsteplaw06.CommasBack'. -/
def commasBackCard : Claim7 := { stood := { row := commasBackRow, standIns := [], harness := (true, "c28c48fbb04b8d1592c067735d9a728debde115f1838cc944d73fa8ec4281391"), looks := false }, kinds := [], alts := [], laidByText := true, laidKinds := [.data, .pinned], laidTests := true, laidLooks := .later }
def CommasBackCardSaid : Prop := Claim7.holds Tryd.pinned (.plain (OpenSpec.ofChange commasBackSpec)) commasBackCard

/-- THE TIED CARD OF 'doorsteplaw06.CommasSplits'. -/
def commasSplitsCard : Claim7 := { stood := { row := commasSplitsRow, standIns := [], harness := (true, "c28c48fbb04b8d1592c067735d9a728debde115f1838cc944d73fa8ec4281391"), looks := false }, kinds := [], alts := [], laidByText := true, laidKinds := [.data, .pinned], laidTests := true, laidLooks := .later }
def CommasSplitsCardSaid : Prop := Claim7.holds Tryd.pinned (.plain (OpenSpec.ofChange commasSplitsSpec)) commasSplitsCard

/-- THE TIED CARD OF 'doorsteplaw17.LengthFrames'. -/
def lengthFramesCard : Claim7 := { stood := { row := lengthFramesRow, standIns := [], harness := (true, "c28c48fbb04b8d1592c067735d9a728debde115f1838cc944d73fa8ec4281391"), looks := false }, kinds := [], alts := [], laidByText := true, laidKinds := [.data, .pinned], laidTests := true, laidLooks := .later }
def LengthFramesCardSaid : Prop := Claim7.holds Tryd.pinned (.plain (OpenSpec.ofChange lengthFramesSpec)) lengthFramesCard

/-- THE TIED CARD OF 'doorsteplaw43.PairingOf'. -/
def pairingOfCard : Claim7 := { stood := { row := pairingOfRow, standIns := [], harness := (true, "c28c48fbb04b8d1592c067735d9a728debde115f1838cc944d73fa8ec4281391"), looks := false }, kinds := [], alts := [], laidByText := true, laidKinds := [.data, .pinned], laidTests := true, laidLooks := .later }
def PairingOfCardSaid : Prop := Claim7.holds Tryd.pinned (.plain (OpenSpec.ofChange pairingOfSpec)) pairingOfCard

/-- THE TIED CARD OF 'doorsteplaw24.HopCloses'. -/
def hopClosesCard : Claim7 := { stood := { row := hopClosesRow, standIns := [], harness := (true, "c28c48fbb04b8d1592c067735d9a728debde115f1838cc944d73fa8ec4281391"), looks := false }, kinds := [], alts := [], laidByText := true, laidKinds := [.data, .pinned], laidTests := true, laidLooks := .later }
def HopClosesCardSaid : Prop := Claim7.holds Tryd.pinned (.plain (OpenSpec.ofChange hopClosesSpec)) hopClosesCard

/-- THE TIED CARD OF 'doorsteplaw13.BagNone'. -/
def bagNoneCard : Claim7 := { stood := { row := bagNoneRow, standIns := [], harness := (true, "c28c48fbb04b8d1592c067735d9a728debde115f1838cc944d73fa8ec4281391"), looks := false }, kinds := [], alts := [], laidByText := true, laidKinds := [.data, .pinned], laidTests := true, laidLooks := .later }
def BagNoneCardSaid : Prop := Claim7.holds Tryd.pinned (.plain (OpenSpec.ofChange bagNoneSpec)) bagNoneCard

/-- THE SECOND FORM's CARD OF 'doorsteplaw18.ChunkReads'. -/
def chunkReadsUptoCard : Claim7 := { stood := { row := chunkReadsUptoRow, standIns := [], harness := (true, "c28c48fbb04b8d1592c067735d9a728debde115f1838cc944d73fa8ec4281391"), looks := false }, kinds := [], alts := [], laidByText := true, laidKinds := [.data, .data, .data], laidTests := true, laidLooks := .later }
def ChunkReadsUptoCardSaid : Prop := Claim7.holds Tryd.pinned (.plain (OpenSpec.upto chunkReadsSpec)) chunkReadsUptoCard

/-- THE SECOND FORM's CARD OF 'doorsteplaw18.ChunkWrites'. -/
def chunkWritesUptoCard : Claim7 := { stood := { row := chunkWritesUptoRow, standIns := [], harness := (true, "c28c48fbb04b8d1592c067735d9a728debde115f1838cc944d73fa8ec4281391"), looks := false }, kinds := [], alts := [], laidByText := true, laidKinds := [.data, .data, .data], laidTests := true, laidLooks := .later }
def ChunkWritesUptoCardSaid : Prop := Claim7.holds Tryd.pinned (.plain (OpenSpec.upto chunkWritesSpec)) chunkWritesUptoCard

/-- THE SECOND FORM's CARD OF 'doorsteplaw31.TmplReads'. -/
def tmplReadsUptoCard : Claim7 := { stood := { row := tmplReadsUptoRow, standIns := [], harness := (true, "c28c48fbb04b8d1592c067735d9a728debde115f1838cc944d73fa8ec4281391"), looks := false }, kinds := [], alts := [], laidByText := true, laidKinds := [.data, .pinned], laidTests := true, laidLooks := .later }
def TmplReadsUptoCardSaid : Prop := Claim7.holds Tryd.pinned (.plain (OpenSpec.upto tmplReadsSpec)) tmplReadsUptoCard

/-- THE SECOND FORM's CARD OF 'doorsteplaw31.TmplWrites'. -/
def tmplWritesUptoCard : Claim7 := { stood := { row := tmplWritesUptoRow, standIns := [], harness := (true, "c28c48fbb04b8d1592c067735d9a728debde115f1838cc944d73fa8ec4281391"), looks := false }, kinds := [], alts := [], laidByText := true, laidKinds := [.data, .pinned], laidTests := true, laidLooks := .later }
def TmplWritesUptoCardSaid : Prop := Claim7.holds Tryd.pinned (.plain (OpenSpec.upto tmplWritesSpec)) tmplWritesUptoCard

/-- THE SECOND FORM's CARD OF 'doorsteplaw06.CommasJoins'. -/
def commasJoinsUptoCard : Claim7 := { stood := { row := commasJoinsUptoRow, standIns := [], harness := (true, "c28c48fbb04b8d1592c067735d9a728debde115f1838cc944d73fa8ec4281391"), looks := false }, kinds := [], alts := [], laidByText := true, laidKinds := [.data, .pinned], laidTests := true, laidLooks := .later }
def CommasJoinsUptoCardSaid : Prop := Claim7.holds Tryd.pinned (.plain (OpenSpec.upto commasJoinsSpec)) commasJoinsUptoCard

/-- THE SECOND FORM's CARD OF 'doorsteplaw06.CommasBack'. -/
def commasBackUptoCard : Claim7 := { stood := { row := commasBackUptoRow, standIns := [], harness := (true, "c28c48fbb04b8d1592c067735d9a728debde115f1838cc944d73fa8ec4281391"), looks := false }, kinds := [], alts := [], laidByText := true, laidKinds := [.data, .pinned], laidTests := true, laidLooks := .later }
def CommasBackUptoCardSaid : Prop := Claim7.holds Tryd.pinned (.plain (OpenSpec.upto commasBackSpec)) commasBackUptoCard

/-- THE SECOND FORM's CARD OF 'doorsteplaw06.CommasSplits'. -/
def commasSplitsUptoCard : Claim7 := { stood := { row := commasSplitsUptoRow, standIns := [], harness := (true, "c28c48fbb04b8d1592c067735d9a728debde115f1838cc944d73fa8ec4281391"), looks := false }, kinds := [], alts := [], laidByText := true, laidKinds := [.data, .pinned], laidTests := true, laidLooks := .later }
def CommasSplitsUptoCardSaid : Prop := Claim7.holds Tryd.pinned (.plain (OpenSpec.upto commasSplitsSpec)) commasSplitsUptoCard

/-- THE SECOND FORM's CARD OF 'doorsteplaw17.LengthFrames'. -/
def lengthFramesUptoCard : Claim7 := { stood := { row := lengthFramesUptoRow, standIns := [], harness := (true, "c28c48fbb04b8d1592c067735d9a728debde115f1838cc944d73fa8ec4281391"), looks := false }, kinds := [], alts := [], laidByText := true, laidKinds := [.data, .pinned], laidTests := true, laidLooks := .later }
def LengthFramesUptoCardSaid : Prop := Claim7.holds Tryd.pinned (.plain (OpenSpec.upto lengthFramesSpec)) lengthFramesUptoCard

/-- THE SECOND FORM's CARD OF 'doorsteplaw43.PairingOf'. -/
def pairingOfUptoCard : Claim7 := { stood := { row := pairingOfUptoRow, standIns := [], harness := (true, "c28c48fbb04b8d1592c067735d9a728debde115f1838cc944d73fa8ec4281391"), looks := false }, kinds := [], alts := [], laidByText := true, laidKinds := [.data, .pinned], laidTests := true, laidLooks := .later }
def PairingOfUptoCardSaid : Prop := Claim7.holds Tryd.pinned (.plain (OpenSpec.upto pairingOfSpec)) pairingOfUptoCard

/-- THE SECOND FORM's CARD OF 'doorsteplaw24.HopCloses'. -/
def hopClosesUptoCard : Claim7 := { stood := { row := hopClosesUptoRow, standIns := [], harness := (true, "c28c48fbb04b8d1592c067735d9a728debde115f1838cc944d73fa8ec4281391"), looks := false }, kinds := [], alts := [], laidByText := true, laidKinds := [.data, .pinned], laidTests := true, laidLooks := .later }
def HopClosesUptoCardSaid : Prop := Claim7.holds Tryd.pinned (.plain (OpenSpec.upto hopClosesSpec)) hopClosesUptoCard

/-- THE SECOND FORM's CARD OF 'doorsteplaw13.BagNone'. -/
def bagNoneUptoCard : Claim7 := { stood := { row := bagNoneUptoRow, standIns := [], harness := (true, "c28c48fbb04b8d1592c067735d9a728debde115f1838cc944d73fa8ec4281391"), looks := false }, kinds := [], alts := [], laidByText := true, laidKinds := [.data, .pinned], laidTests := true, laidLooks := .later }
def BagNoneUptoCardSaid : Prop := Claim7.holds Tryd.pinned (.plain (OpenSpec.upto bagNoneSpec)) bagNoneUptoCard
end Rows
end Go.Proofs.YtajgpiplndfoeaaDoor
