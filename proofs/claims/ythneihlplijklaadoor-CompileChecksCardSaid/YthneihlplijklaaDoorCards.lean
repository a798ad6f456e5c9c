/-
  DERIVED. GIVEN WITH THE SEED: THE CARDS: each row of YthneihlplijklaaDoorRows.lean that lists a variable, with what it lists TIED to the program's text (the seventh form; the later family's looks); each row that meets fmt, with fmt's text TOLD by the authors' own Lean function (tested against real Go, not proved from fmt's source: count such statements apart). THE CARD IS WHAT COUNTS. Prove the row's statement (the work); the ties are given (YthneihlplijklaaDoorTie.lean); close each card by the builder's one call (the guide's Derived/Test/ToyasCard.lean, 'card_holds'). Laid BY PROGRAM, IN A SANDBOX (cutbox-door.mjs). By AI agents, Wed Nov 11 2026. No macro, syntax, notation, axiom, sorry.
-/
import Derived.Test.YthneihlplijklaaDoorRows
import GoSem.ClaimSeven
namespace Go.Proofs.YthneihlplijklaaDoor
namespace Rows

/-- THE TIED CARD OF 'doorsteplaw36.CompileSides'. -/
def compileSidesCard : Claim7 := { stood := { row := compileSidesRow, standIns := [], harness := (true, "5dac4b347cbcdf88634a95baa5c42b76fcd359d4858e4f00c8210b5174b7fbc5"), looks := false }, kinds := [], alts := [], laidByText := true, laidKinds := [.data, .pinned], laidTests := true, laidLooks := .later }
def CompileSidesCardSaid : Prop := Claim7.holds Tryd.pinned (.plain (OpenSpec.ofChange compileSidesSpec)) compileSidesCard

/-- THE TIED CARD OF 'doorsteplaw36.CompileChecks'. -/
def compileChecksCard : Claim7 := { stood := { row := compileChecksRow, standIns := [], harness := (true, "5dac4b347cbcdf88634a95baa5c42b76fcd359d4858e4f00c8210b5174b7fbc5"), looks := false }, kinds := [], alts := [], laidByText := true, laidKinds := [.data, .pinned], laidTests := true, laidLooks := .later }
def CompileChecksCardSaid : Prop := Claim7.holds Tryd.pinned (.plain (OpenSpec.ofChange compileChecksSpec)) compileChecksCard

/-- THE TIED CARD OF 'doorsteplaw18.ChunkLasts'. -/
def chunkLastsCard : Claim7 := { stood := { row := chunkLastsRow, standIns := [], harness := (true, "5dac4b347cbcdf88634a95baa5c42b76fcd359d4858e4f00c8210b5174b7fbc5"), looks := false }, kinds := [], alts := [], laidByText := true, laidKinds := [.data, .data, .data, .data, .pinned], laidTests := true, laidLooks := .later }
def ChunkLastsCardSaid : Prop := Claim7.holds Tryd.pinned (.plain (OpenSpec.ofChange chunkLastsSpec)) chunkLastsCard

/-- THE TIED CARD OF 'doorsteplaw13.BagOthers'. -/
def bagOthersCard : Claim7 := { stood := { row := bagOthersRow, standIns := [], harness := (true, "5dac4b347cbcdf88634a95baa5c42b76fcd359d4858e4f00c8210b5174b7fbc5"), looks := false }, kinds := [], alts := [], laidByText := true, laidKinds := [.data, .pinned], laidTests := true, laidLooks := .later }
def BagOthersCardSaid : Prop := Claim7.holds Tryd.pinned (.plain (OpenSpec.ofChange bagOthersSpec)) bagOthersCard

/-- THE TIED CARD OF 'doorsteplaw13.BagPlays'. -/
def bagPlaysCard : Claim7 := { stood := { row := bagPlaysRow, standIns := [], harness := (true, "5dac4b347cbcdf88634a95baa5c42b76fcd359d4858e4f00c8210b5174b7fbc5"), looks := false }, kinds := [], alts := [], laidByText := true, laidKinds := [.data, .pinned], laidTests := true, laidLooks := .later }
def BagPlaysCardSaid : Prop := Claim7.holds Tryd.pinned (.plain (OpenSpec.ofChange bagPlaysSpec)) bagPlaysCard

/-- THE TIED CARD OF 'doorsteplaw13.BagNone'. -/
def bagNoneCard : Claim7 := { stood := { row := bagNoneRow, standIns := [], harness := (true, "5dac4b347cbcdf88634a95baa5c42b76fcd359d4858e4f00c8210b5174b7fbc5"), looks := false }, kinds := [], alts := [], laidByText := true, laidKinds := [.data, .pinned], laidTests := true, laidLooks := .later }
def BagNoneCardSaid : Prop := Claim7.holds Tryd.pinned (.plain (OpenSpec.ofChange bagNoneSpec)) bagNoneCard

/-- THE SECOND FORM's CARD OF 'doorsteplaw36.CompileSides'. -/
def compileSidesUptoCard : Claim7 := { stood := { row := compileSidesUptoRow, standIns := [], harness := (true, "5dac4b347cbcdf88634a95baa5c42b76fcd359d4858e4f00c8210b5174b7fbc5"), looks := false }, kinds := [], alts := [], laidByText := true, laidKinds := [.data, .pinned], laidTests := true, laidLooks := .later }
def CompileSidesUptoCardSaid : Prop := Claim7.holds Tryd.pinned (.plain (OpenSpec.upto compileSidesSpec)) compileSidesUptoCard

/-- THE SECOND FORM's CARD OF 'doorsteplaw36.CompileChecks'. -/
def compileChecksUptoCard : Claim7 := { stood := { row := compileChecksUptoRow, standIns := [], harness := (true, "5dac4b347cbcdf88634a95baa5c42b76fcd359d4858e4f00c8210b5174b7fbc5"), looks := false }, kinds := [], alts := [], laidByText := true, laidKinds := [.data, .pinned], laidTests := true, laidLooks := .later }
def CompileChecksUptoCardSaid : Prop := Claim7.holds Tryd.pinned (.plain (OpenSpec.upto compileChecksSpec)) compileChecksUptoCard

/-- THE SECOND FORM's CARD OF 'doorsteplaw18.ChunkLasts'. -/
def chunkLastsUptoCard : Claim7 := { stood := { row := chunkLastsUptoRow, standIns := [], harness := (true, "5dac4b347cbcdf88634a95baa5c42b76fcd359d4858e4f00c8210b5174b7fbc5"), looks := false }, kinds := [], alts := [], laidByText := true, laidKinds := [.data, .data, .data, .data, .pinned], laidTests := true, laidLooks := .later }
def ChunkLastsUptoCardSaid : Prop := Claim7.holds Tryd.pinned (.plain (OpenSpec.upto chunkLastsSpec)) chunkLastsUptoCard

/-- THE SECOND FORM's CARD OF 'doorsteplaw13.BagOthers'. -/
def bagOthersUptoCard : Claim7 := { stood := { row := bagOthersUptoRow, standIns := [], harness := (true, "5dac4b347cbcdf88634a95baa5c42b76fcd359d4858e4f00c8210b5174b7fbc5"), looks := false }, kinds := [], alts := [], laidByText := true, laidKinds := [.data, .pinned], laidTests := true, laidLooks := .later }
def BagOthersUptoCardSaid : Prop := Claim7.holds Tryd.pinned (.plain (OpenSpec.upto bagOthersSpec)) bagOthersUptoCard

/-- THE SECOND FORM's CARD OF 'doorsteplaw13.BagPlays'. -/
def bagPlaysUptoCard : Claim7 := { stood := { row := bagPlaysUptoRow, standIns := [], harness := (true, "5dac4b347cbcdf88634a95baa5c42b76fcd359d4858e4f00c8210b5174b7fbc5"), looks := false }, kinds := [], alts := [], laidByText := true, laidKinds := [.data, .pinned], laidTests := true, laidLooks := .later }
def BagPlaysUptoCardSaid : Prop := Claim7.holds Tryd.pinned (.plain (OpenSpec.upto bagPlaysSpec)) bagPlaysUptoCard

/-- THE SECOND FORM's CARD OF 'doorsteplaw13.BagNone'. -/
def bagNoneUptoCard : Claim7 := { stood := { row := bagNoneUptoRow, standIns := [], harness := (true, "5dac4b347cbcdf88634a95baa5c42b76fcd359d4858e4f00c8210b5174b7fbc5"), looks := false }, kinds := [], alts := [], laidByText := true, laidKinds := [.data, .pinned], laidTests := true, laidLooks := .later }
def BagNoneUptoCardSaid : Prop := Claim7.holds Tryd.pinned (.plain (OpenSpec.upto bagNoneSpec)) bagNoneUptoCard
end Rows
end Go.Proofs.YthneihlplijklaaDoor
