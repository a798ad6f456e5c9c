/-
  DERIVED. GIVEN WITH THE SEED: THE CARDS: each row of YtopmflkeohicjaaDoorRows.lean that lists a variable, with what it lists TIED to the program's text (the seventh form; the later family's looks); each row that meets fmt, with fmt's text TOLD by the authors' own Lean function (tested against real Go, not proved from fmt's source: count such statements apart). THE CARD IS WHAT COUNTS. Prove the row's statement (the work); the ties are given (YtopmflkeohicjaaDoorTie.lean); close each card by the builder's one call (the guide's Derived/Test/ToyasCard.lean, 'card_holds'). Laid BY PROGRAM, IN A SANDBOX (cutbox-door.mjs). By AI agents, Wed Nov 11 2026. No macro, syntax, notation, axiom, sorry.
-/
import Derived.Test.YtopmflkeohicjaaDoorRows
import GoSem.ClaimSeven
namespace Go.Proofs.YtopmflkeohicjaaDoor
namespace Rows

/-- THE TIED CARD OF 'doorsteplaw18.ChunkReads'. -/
def chunkReadsCard : Claim7 := { stood := { row := chunkReadsRow, standIns := [], harness := (true, "ea54b0a31cb093c2a5a8a2895eae0ece28ec351dd8c98b2918ef29f9ba539723"), looks := false }, kinds := [], alts := [], laidByText := true, laidKinds := [.data, .data, .data], laidTests := true, laidLooks := .later }
def ChunkReadsCardSaid : Prop := Claim7.holds Tryd.pinned (.plain (OpenSpec.ofChange chunkReadsSpec)) chunkReadsCard

/-- THE TIED CARD OF 'doorsteplaw18.ChunkWrites'. -/
def chunkWritesCard : Claim7 := { stood := { row := chunkWritesRow, standIns := [], harness := (true, "ea54b0a31cb093c2a5a8a2895eae0ece28ec351dd8c98b2918ef29f9ba539723"), looks := false }, kinds := [], alts := [], laidByText := true, laidKinds := [.data, .data, .data], laidTests := true, laidLooks := .later }
def ChunkWritesCardSaid : Prop := Claim7.holds Tryd.pinned (.plain (OpenSpec.ofChange chunkWritesSpec)) chunkWritesCard

/-- THE TIED CARD OF 'doorsteplaw18.ChunkLasts'. -/
def chunkLastsCard : Claim7 := { stood := { row := chunkLastsRow, standIns := [], harness := (true, "ea54b0a31cb093c2a5a8a2895eae0ece28ec351dd8c98b2918ef29f9ba539723"), looks := false }, kinds := [], alts := [], laidByText := true, laidKinds := [.data, .data, .data, .data, .pinned], laidTests := true, laidLooks := .later }
def ChunkLastsCardSaid : Prop := Claim7.holds Tryd.pinned (.plain (OpenSpec.ofChange chunkLastsSpec)) chunkLastsCard

/-- THE TIED CARD OF 'doorsteplaw17.LengthFrames'. -/
def lengthFramesCard : Claim7 := { stood := { row := lengthFramesRow, standIns := [], harness := (true, "ea54b0a31cb093c2a5a8a2895eae0ece28ec351dd8c98b2918ef29f9ba539723"), looks := false }, kinds := [], alts := [], laidByText := true, laidKinds := [.data, .pinned], laidTests := true, laidLooks := .later }
def LengthFramesCardSaid : Prop := Claim7.holds Tryd.pinned (.plain (OpenSpec.ofChange lengthFramesSpec)) lengthFramesCard

/-- THE TIED CARD OF 'doorsteplaw17.LengthTwice'. -/
def lengthTwiceCard : Claim7 := { stood := { row := lengthTwiceRow, standIns := [], harness := (true, "ea54b0a31cb093c2a5a8a2895eae0ece28ec351dd8c98b2918ef29f9ba539723"), looks := false }, kinds := [], alts := [], laidByText := true, laidKinds := [.data, .data, .data, .data, .pinned], laidTests := true, laidLooks := .later }
def LengthTwiceCardSaid : Prop := Claim7.holds Tryd.pinned (.plain (OpenSpec.ofChange lengthTwiceSpec)) lengthTwiceCard

/-- THE TIED CARD OF 'doorsteplaw43.PairingOf'. -/
def pairingOfCard : Claim7 := { stood := { row := pairingOfRow, standIns := [], harness := (true, "ea54b0a31cb093c2a5a8a2895eae0ece28ec351dd8c98b2918ef29f9ba539723"), looks := false }, kinds := [], alts := [], laidByText := true, laidKinds := [.data, .pinned], laidTests := true, laidLooks := .later }
def PairingOfCardSaid : Prop := Claim7.holds Tryd.pinned (.plain (OpenSpec.ofChange pairingOfSpec)) pairingOfCard

/-- THE TIED CARD OF 'doorsteplaw24.HopCloses'. -/
def hopClosesCard : Claim7 := { stood := { row := hopClosesRow, standIns := [], harness := (true, "ea54b0a31cb093c2a5a8a2895eae0ece28ec351dd8c98b2918ef29f9ba539723"), looks := false }, kinds := [], alts := [], laidByText := true, laidKinds := [.data, .pinned], laidTests := true, laidLooks := .later }
def HopClosesCardSaid : Prop := Claim7.holds Tryd.pinned (.plain (OpenSpec.ofChange hopClosesSpec)) hopClosesCard

/-- THE TIED CARD OF 'doorsteplaw24.HopStrips'. -/
def hopStripsCard : Claim7 := { stood := { row := hopStripsRow, standIns := [], harness := (true, "ea54b0a31cb093c2a5a8a2895eae0ece28ec351dd8c98b2918ef29f9ba539723"), looks := false }, kinds := [], alts := [], laidByText := true, laidKinds := [.data, .pinned], laidTests := true, laidLooks := .later }
def HopStripsCardSaid : Prop := Claim7.holds Tryd.pinned (.plain (OpenSpec.ofChange hopStripsSpec)) hopStripsCard

/-- THE TIED CARD OF 'doorsteplaw24.HopClean'. -/
def hopCleanCard : Claim7 := { stood := { row := hopCleanRow, standIns := [], harness := (true, "ea54b0a31cb093c2a5a8a2895eae0ece28ec351dd8c98b2918ef29f9ba539723"), looks := false }, kinds := [], alts := [], laidByText := true, laidKinds := [.data, .pinned], laidTests := true, laidLooks := .later }
def HopCleanCardSaid : Prop := Claim7.holds Tryd.pinned (.plain (OpenSpec.ofChange hopCleanSpec)) hopCleanCard

/-- THE TIED CARD OF 'doorsteplaw13.BagOthers'. -/
def bagOthersCard : Claim7 := { stood := { row := bagOthersRow, standIns := [], harness := (true, "ea54b0a31cb093c2a5a8a2895eae0ece28ec351dd8c98b2918ef29f9ba539723"), looks := false }, kinds := [], alts := [], laidByText := true, laidKinds := [.data, .pinned], laidTests := true, laidLooks := .later }
def BagOthersCardSaid : Prop := Claim7.holds Tryd.pinned (.plain (OpenSpec.ofChange bagOthersSpec)) bagOthersCard

/-- THE TIED CARD OF 'doorsteplaw13.BagPlays'. -/
def bagPlaysCard : Claim7 := { stood := { row := bagPlaysRow, standIns := [], harness := (true, "ea54b0a31cb093c2a5a8a2895eae0ece28ec351dd8c98b2918ef29f9ba539723"), looks := false }, kinds := [], alts := [], laidByText := true, laidKinds := [.data, .pinned], laidTests := true, laidLooks := .later }
def BagPlaysCardSaid : Prop := Claim7.holds Tryd.pinned (.plain (OpenSpec.ofChange bagPlaysSpec)) bagPlaysCard

/-- THE TIED CARD OF 'doorsteplaw13.BagNone'. -/
def bagNoneCard : Claim7 := { stood := { row := bagNoneRow, standIns := [], harness := (true, "ea54b0a31cb093c2a5a8a2895eae0ece28ec351dd8c98b2918ef29f9ba539723"), looks := false }, kinds := [], alts := [], laidByText := true, laidKinds := [.data, .pinned], laidTests := true, laidLooks := .later }
def BagNoneCardSaid : Prop := Claim7.holds Tryd.pinned (.plain (OpenSpec.ofChange bagNoneSpec)) bagNoneCard

/-- THE SECOND FORM's CARD OF 'doorsteplaw18.ChunkReads'. -/
def chunkReadsUptoCard : Claim7 := { stood := { row := chunkReadsUptoRow, standIns := [], harness := (true, "ea54b0a31cb093c2a5a8a2895eae0ece28ec351dd8c98b2918ef29f9ba539723"), looks := false }, kinds := [], alts := [], laidByText := true, laidKinds := [.data, .data, .data], laidTests := true, laidLooks := .later }
def ChunkReadsUptoCardSaid : Prop := Claim7.holds Tryd.pinned (.plain (OpenSpec.upto chunkReadsSpec)) chunkReadsUptoCard

/-- THE SECOND FORM's CARD OF 'doorsteplaw18.ChunkWrites'. -/
def chunkWritesUptoCard : Claim7 := { stood := { row := chunkWritesUptoRow, standIns := [], harness := (true, "ea54b0a31cb093c2a5a8a2895eae0ece28ec351dd8c98b2918ef29f9ba539723"), looks := false }, kinds := [], alts := [], laidByText := true, laidKinds := [.data, .data, .data], laidTests := true, laidLooks := .later }
def ChunkWritesUptoCardSaid : Prop := Claim7.holds Tryd.pinned (.plain (OpenSpec.upto chunkWritesSpec)) chunkWritesUptoCard

/-- THE SECOND FORM's CARD OF 'doorsteplaw18.ChunkLasts'. -/
def chunkLastsUptoCard : Claim7 := { stood := { row := chunkLastsUptoRow, standIns := [], harness := (true, "ea54b0a31cb093c2a5a8a2895eae0ece28ec351dd8c98b2918ef29f9ba539723"), looks := false }, kinds := [], alts := [], laidByText := true, laidKinds := [.data, .data, .data, .data, .pinned], laidTests := true, laidLooks := .later }
def ChunkLastsUptoCardSaid : Prop := Claim7.holds Tryd.pinned (.plain (OpenSpec.upto chunkLastsSpec)) chunkLastsUptoCard

/-- THE SECOND FORM's CARD OF 'doorsteplaw17.LengthFrames'. -/
def lengthFramesUptoCard : Claim7 := { stood := { row := lengthFramesUptoRow, standIns := [], harness := (true, "ea54b0a31cb093c2a5a8a2895eae0ece28ec351dd8c98b2918ef29f9ba539723"), looks := false }, kinds := [], alts := [], laidByText := true, laidKinds := [.data, .pinned], laidTests := true, laidLooks := .later }
def LengthFramesUptoCardSaid : Prop := Claim7.holds Tryd.pinned (.plain (OpenSpec.upto lengthFramesSpec)) lengthFramesUptoCard

/-- THE SECOND FORM's CARD OF 'doorsteplaw17.LengthTwice'. -/
def lengthTwiceUptoCard : Claim7 := { stood := { row := lengthTwiceUptoRow, standIns := [], harness := (true, "ea54b0a31cb093c2a5a8a2895eae0ece28ec351dd8c98b2918ef29f9ba539723"), looks := false }, kinds := [], alts := [], laidByText := true, laidKinds := [.data, .data, .data, .data, .pinned], laidTests := true, laidLooks := .later }
def LengthTwiceUptoCardSaid : Prop := Claim7.holds Tryd.pinned (.plain (OpenSpec.upto lengthTwiceSpec)) lengthTwiceUptoCard

/-- THE SECOND FORM's CARD OF 'doorsteplaw43.PairingOf'. -/
def pairingOfUptoCard : Claim7 := { stood := { row := pairingOfUptoRow, standIns := [], harness := (true, "ea54b0a31cb093c2a5a8a2895eae0ece28ec351dd8c98b2918ef29f9ba539723"), looks := false }, kinds := [], alts := [], laidByText := true, laidKinds := [.data, .pinned], laidTests := true, laidLooks := .later }
def PairingOfUptoCardSaid : Prop := Claim7.holds Tryd.pinned (.plain (OpenSpec.upto pairingOfSpec)) pairingOfUptoCard

/-- THE SECOND FORM's CARD OF 'doorsteplaw24.HopCloses'. -/
def hopClosesUptoCard : Claim7 := { stood := { row := hopClosesUptoRow, standIns := [], harness := (true, "ea54b0a31cb093c2a5a8a2895eae0ece28ec351dd8c98b2918ef29f9ba539723"), looks := false }, kinds := [], alts := [], laidByText := true, laidKinds := [.data, .pinned], laidTests := true, laidLooks := .later }
def HopClosesUptoCardSaid : Prop := Claim7.holds Tryd.pinned (.plain (OpenSpec.upto hopClosesSpec)) hopClosesUptoCard

/-- THE SECOND FORM's CARD OF 'doorsteplaw24.HopStrips'. -/
def hopStripsUptoCard : Claim7 := { stood := { row := hopStripsUptoRow, standIns := [], harness := (true, "ea54b0a31cb093c2a5a8a2895eae0ece28ec351dd8c98b2918ef29f9ba539723"), looks := false }, kinds := [], alts := [], laidByText := true, laidKinds := [.data, .pinned], laidTests := true, laidLooks := .later }
def HopStripsUptoCardSaid : Prop := Claim7.holds Tryd.pinned (.plain (OpenSpec.upto hopStripsSpec)) hopStripsUptoCard

/-- THE SECOND FORM's CARD OF 'doorsteplaw24.HopClean'. -/
def hopCleanUptoCard : Claim7 := { stood := { row := hopCleanUptoRow, standIns := [], harness := (true, "ea54b0a31cb093c2a5a8a2895eae0ece28ec351dd8c98b2918ef29f9ba539723"), looks := false }, kinds := [], alts := [], laidByText := true, laidKinds := [.data, .pinned], laidTests := true, laidLooks := .later }
def HopCleanUptoCardSaid : Prop := Claim7.holds Tryd.pinned (.plain (OpenSpec.upto hopCleanSpec)) hopCleanUptoCard

/-- THE SECOND FORM's CARD OF 'doorsteplaw13.BagOthers'. -/
def bagOthersUptoCard : Claim7 := { stood := { row := bagOthersUptoRow, standIns := [], harness := (true, "ea54b0a31cb093c2a5a8a2895eae0ece28ec351dd8c98b2918ef29f9ba539723"), looks := false }, kinds := [], alts := [], laidByText := true, laidKinds := [.data, .pinned], laidTests := true, laidLooks := .later }
def BagOthersUptoCardSaid : Prop := Claim7.holds Tryd.pinned (.plain (OpenSpec.upto bagOthersSpec)) bagOthersUptoCard

/-- THE SECOND FORM's CARD OF 'doorsteplaw13.BagPlays'. -/
def bagPlaysUptoCard : Claim7 := { stood := { row := bagPlaysUptoRow, standIns := [], harness := (true, "ea54b0a31cb093c2a5a8a2895eae0ece28ec351dd8c98b2918ef29f9ba539723"), looks := false }, kinds := [], alts := [], laidByText := true, laidKinds := [.data, .pinned], laidTests := true, laidLooks := .later }
def BagPlaysUptoCardSaid : Prop := Claim7.holds Tryd.pinned (.plain (OpenSpec.upto bagPlaysSpec)) bagPlaysUptoCard

/-- THE SECOND FORM's CARD OF 'doorsteplaw13.BagNone'. -/
def bagNoneUptoCard : Claim7 := { stood := { row := bagNoneUptoRow, standIns := [], harness := (true, "ea54b0a31cb093c2a5a8a2895eae0ece28ec351dd8c98b2918ef29f9ba539723"), looks := false }, kinds := [], alts := [], laidByText := true, laidKinds := [.data, .pinned], laidTests := true, laidLooks := .later }
def BagNoneUptoCardSaid : Prop := Claim7.holds Tryd.pinned (.plain (OpenSpec.upto bagNoneSpec)) bagNoneUptoCard
end Rows
end Go.Proofs.YtopmflkeohicjaaDoor
