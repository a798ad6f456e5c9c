/-
  DERIVED. GIVEN WITH THE SEED: THE CARDS: each row of YthcjiflmhjagiaaDoorRows.lean that lists a variable, with what it lists TIED to the program's text (the seventh form; the later family's looks); each row that meets fmt, with fmt's text TOLD by the authors' own Lean function (tested against real Go, not proved from fmt's source: count such statements apart). THE CARD IS WHAT COUNTS. Prove the row's statement (the work); the ties are given (YthcjiflmhjagiaaDoorTie.lean); close each card by the builder's one call (the guide's Derived/Test/ToyasCard.lean, 'card_holds'). Laid BY PROGRAM, IN A SANDBOX (cutbox-door.mjs). By AI agents, Wed Nov 11 2026. No macro, syntax, notation, axiom, sorry.
-/
import Derived.Test.YthcjiflmhjagiaaDoorRows
import GoSem.ClaimSeven
namespace Go.Proofs.YthcjiflmhjagiaaDoor
namespace Rows

/-- THE TIED CARD OF 'doorsteplaw18.ChunkLasts'. -/
def chunkLastsCard : Claim7 := { stood := { row := chunkLastsRow, standIns := [], harness := (true, "96ac44dbd6cb36ea206ee63f9d769cf4842d8aed76a67eab99e15d3d186a47e3"), looks := false }, kinds := [], alts := [], laidByText := true, laidKinds := [.data, .data, .data, .data, .pinned], laidTests := true, laidLooks := .later }
def ChunkLastsCardSaid : Prop := Claim7.holds Tryd.pinned (.plain (OpenSpec.ofChange chunkLastsSpec)) chunkLastsCard

/-- THE TIED CARD OF 'doorsteplaw20.EnchunkPlays'. -/
def enchunkPlaysCard : Claim7 := { stood := { row := enchunkPlaysRow, standIns := [], harness := (true, "96ac44dbd6cb36ea206ee63f9d769cf4842d8aed76a67eab99e15d3d186a47e3"), looks := false }, kinds := [], alts := [], laidByText := true, laidKinds := [.data, .data, .data, .data, .pinned], laidTests := true, laidLooks := .later }
def EnchunkPlaysCardSaid : Prop := Claim7.holds Tryd.pinned (.plain (OpenSpec.ofChange enchunkPlaysSpec)) enchunkPlaysCard

/-- THE TIED CARD OF 'doorsteplaw20.EnchunkNone'. -/
def enchunkNoneCard : Claim7 := { stood := { row := enchunkNoneRow, standIns := [], harness := (true, "96ac44dbd6cb36ea206ee63f9d769cf4842d8aed76a67eab99e15d3d186a47e3"), looks := false }, kinds := [], alts := [], laidByText := true, laidKinds := [.data, .data, .data, .data, .pinned], laidTests := true, laidLooks := .later }
def EnchunkNoneCardSaid : Prop := Claim7.holds Tryd.pinned (.plain (OpenSpec.ofChange enchunkNoneSpec)) enchunkNoneCard

/-- THE TIED CARD OF 'doorsteplaw42.ReframePlays'. -/
def reframePlaysCard : Claim7 := { stood := { row := reframePlaysRow, standIns := [], harness := (true, "96ac44dbd6cb36ea206ee63f9d769cf4842d8aed76a67eab99e15d3d186a47e3"), looks := false }, kinds := [], alts := [], laidByText := true, laidKinds := [.data, .data, .data, .data, .pinned], laidTests := true, laidLooks := .later }
def ReframePlaysCardSaid : Prop := Claim7.holds Tryd.pinned (.plain (OpenSpec.ofChange reframePlaysSpec)) reframePlaysCard

/-- THE TIED CARD OF 'doorsteplaw42.ReframeOut'. -/
def reframeOutCard : Claim7 := { stood := { row := reframeOutRow, standIns := [], harness := (true, "96ac44dbd6cb36ea206ee63f9d769cf4842d8aed76a67eab99e15d3d186a47e3"), looks := false }, kinds := [], alts := [], laidByText := true, laidKinds := [.data, .data, .data, .data, .pinned], laidTests := true, laidLooks := .later }
def ReframeOutCardSaid : Prop := Claim7.holds Tryd.pinned (.plain (OpenSpec.ofChange reframeOutSpec)) reframeOutCard

/-- THE TIED CARD OF 'doorsteplaw19.DechunkBack'. -/
def dechunkBackCard : Claim7 := { stood := { row := dechunkBackRow, standIns := [], harness := (true, "96ac44dbd6cb36ea206ee63f9d769cf4842d8aed76a67eab99e15d3d186a47e3"), looks := false }, kinds := [], alts := [], laidByText := true, laidKinds := [.data, .pinned], laidTests := true, laidLooks := .later }
def DechunkBackCardSaid : Prop := Claim7.holds Tryd.pinned (.plain (OpenSpec.ofChange dechunkBackSpec)) dechunkBackCard

/-- THE TIED CARD OF 'doorsteplaw19.DechunkNone'. -/
def dechunkNoneCard : Claim7 := { stood := { row := dechunkNoneRow, standIns := [], harness := (true, "96ac44dbd6cb36ea206ee63f9d769cf4842d8aed76a67eab99e15d3d186a47e3"), looks := false }, kinds := [], alts := [], laidByText := true, laidKinds := [.data, .pinned], laidTests := true, laidLooks := .later }
def DechunkNoneCardSaid : Prop := Claim7.holds Tryd.pinned (.plain (OpenSpec.ofChange dechunkNoneSpec)) dechunkNoneCard

/-- THE TIED CARD OF 'doorsteplaw21.BodyLengths'. -/
def bodyLengthsCard : Claim7 := { stood := { row := bodyLengthsRow, standIns := [], harness := (true, "96ac44dbd6cb36ea206ee63f9d769cf4842d8aed76a67eab99e15d3d186a47e3"), looks := false }, kinds := [], alts := [], laidByText := true, laidKinds := [.data, .pinned], laidTests := true, laidLooks := .later }
def BodyLengthsCardSaid : Prop := Claim7.holds Tryd.pinned (.plain (OpenSpec.ofChange bodyLengthsSpec)) bodyLengthsCard

/-- THE TIED CARD OF 'doorsteplaw21.BodyPlays'. -/
def bodyPlaysCard : Claim7 := { stood := { row := bodyPlaysRow, standIns := [], harness := (true, "96ac44dbd6cb36ea206ee63f9d769cf4842d8aed76a67eab99e15d3d186a47e3"), looks := false }, kinds := [], alts := [], laidByText := true, laidKinds := [.data, .pinned], laidTests := true, laidLooks := .later }
def BodyPlaysCardSaid : Prop := Claim7.holds Tryd.pinned (.plain (OpenSpec.ofChange bodyPlaysSpec)) bodyPlaysCard

/-- THE TIED CARD OF 'doorsteplaw21.BodyNone'. -/
def bodyNoneCard : Claim7 := { stood := { row := bodyNoneRow, standIns := [], harness := (true, "96ac44dbd6cb36ea206ee63f9d769cf4842d8aed76a67eab99e15d3d186a47e3"), looks := false }, kinds := [], alts := [], laidByText := true, laidKinds := [.data, .pinned], laidTests := true, laidLooks := .later }
def BodyNoneCardSaid : Prop := Claim7.holds Tryd.pinned (.plain (OpenSpec.ofChange bodyNoneSpec)) bodyNoneCard

/-- THE SECOND FORM's CARD OF 'doorsteplaw18.ChunkLasts'. -/
def chunkLastsUptoCard : Claim7 := { stood := { row := chunkLastsUptoRow, standIns := [], harness := (true, "96ac44dbd6cb36ea206ee63f9d769cf4842d8aed76a67eab99e15d3d186a47e3"), looks := false }, kinds := [], alts := [], laidByText := true, laidKinds := [.data, .data, .data, .data, .pinned], laidTests := true, laidLooks := .later }
def ChunkLastsUptoCardSaid : Prop := Claim7.holds Tryd.pinned (.plain (OpenSpec.upto chunkLastsSpec)) chunkLastsUptoCard

/-- THE SECOND FORM's CARD OF 'doorsteplaw20.EnchunkPlays'. -/
def enchunkPlaysUptoCard : Claim7 := { stood := { row := enchunkPlaysUptoRow, standIns := [], harness := (true, "96ac44dbd6cb36ea206ee63f9d769cf4842d8aed76a67eab99e15d3d186a47e3"), looks := false }, kinds := [], alts := [], laidByText := true, laidKinds := [.data, .data, .data, .data, .pinned], laidTests := true, laidLooks := .later }
def EnchunkPlaysUptoCardSaid : Prop := Claim7.holds Tryd.pinned (.plain (OpenSpec.upto enchunkPlaysSpec)) enchunkPlaysUptoCard

/-- THE SECOND FORM's CARD OF 'doorsteplaw20.EnchunkNone'. -/
def enchunkNoneUptoCard : Claim7 := { stood := { row := enchunkNoneUptoRow, standIns := [], harness := (true, "96ac44dbd6cb36ea206ee63f9d769cf4842d8aed76a67eab99e15d3d186a47e3"), looks := false }, kinds := [], alts := [], laidByText := true, laidKinds := [.data, .data, .data, .data, .pinned], laidTests := true, laidLooks := .later }
def EnchunkNoneUptoCardSaid : Prop := Claim7.holds Tryd.pinned (.plain (OpenSpec.upto enchunkNoneSpec)) enchunkNoneUptoCard

/-- THE SECOND FORM's CARD OF 'doorsteplaw42.ReframePlays'. -/
def reframePlaysUptoCard : Claim7 := { stood := { row := reframePlaysUptoRow, standIns := [], harness := (true, "96ac44dbd6cb36ea206ee63f9d769cf4842d8aed76a67eab99e15d3d186a47e3"), looks := false }, kinds := [], alts := [], laidByText := true, laidKinds := [.data, .data, .data, .data, .pinned], laidTests := true, laidLooks := .later }
def ReframePlaysUptoCardSaid : Prop := Claim7.holds Tryd.pinned (.plain (OpenSpec.upto reframePlaysSpec)) reframePlaysUptoCard

/-- THE SECOND FORM's CARD OF 'doorsteplaw42.ReframeOut'. -/
def reframeOutUptoCard : Claim7 := { stood := { row := reframeOutUptoRow, standIns := [], harness := (true, "96ac44dbd6cb36ea206ee63f9d769cf4842d8aed76a67eab99e15d3d186a47e3"), looks := false }, kinds := [], alts := [], laidByText := true, laidKinds := [.data, .data, .data, .data, .pinned], laidTests := true, laidLooks := .later }
def ReframeOutUptoCardSaid : Prop := Claim7.holds Tryd.pinned (.plain (OpenSpec.upto reframeOutSpec)) reframeOutUptoCard

/-- THE SECOND FORM's CARD OF 'doorsteplaw19.DechunkBack'. -/
def dechunkBackUptoCard : Claim7 := { stood := { row := dechunkBackUptoRow, standIns := [], harness := (true, "96ac44dbd6cb36ea206ee63f9d769cf4842d8aed76a67eab99e15d3d186a47e3"), looks := false }, kinds := [], alts := [], laidByText := true, laidKinds := [.data, .pinned], laidTests := true, laidLooks := .later }
def DechunkBackUptoCardSaid : Prop := Claim7.holds Tryd.pinned (.plain (OpenSpec.upto dechunkBackSpec)) dechunkBackUptoCard

/-- THE SECOND FORM's CARD OF 'doorsteplaw19.DechunkNone'. -/
def dechunkNoneUptoCard : Claim7 := { stood := { row := dechunkNoneUptoRow, standIns := [], harness := (true, "96ac44dbd6cb36ea206ee63f9d769cf4842d8aed76a67eab99e15d3d186a47e3"), looks := false }, kinds := [], alts := [], laidByText := true, laidKinds := [.data, .pinned], laidTests := true, laidLooks := .later }
def DechunkNoneUptoCardSaid : Prop := Claim7.holds Tryd.pinned (.plain (OpenSpec.upto dechunkNoneSpec)) dechunkNoneUptoCard

/-- THE SECOND FORM's CARD OF 'doorsteplaw21.BodyLengths'. -/
def bodyLengthsUptoCard : Claim7 := { stood := { row := bodyLengthsUptoRow, standIns := [], harness := (true, "96ac44dbd6cb36ea206ee63f9d769cf4842d8aed76a67eab99e15d3d186a47e3"), looks := false }, kinds := [], alts := [], laidByText := true, laidKinds := [.data, .pinned], laidTests := true, laidLooks := .later }
def BodyLengthsUptoCardSaid : Prop := Claim7.holds Tryd.pinned (.plain (OpenSpec.upto bodyLengthsSpec)) bodyLengthsUptoCard

/-- THE SECOND FORM's CARD OF 'doorsteplaw21.BodyPlays'. -/
def bodyPlaysUptoCard : Claim7 := { stood := { row := bodyPlaysUptoRow, standIns := [], harness := (true, "96ac44dbd6cb36ea206ee63f9d769cf4842d8aed76a67eab99e15d3d186a47e3"), looks := false }, kinds := [], alts := [], laidByText := true, laidKinds := [.data, .pinned], laidTests := true, laidLooks := .later }
def BodyPlaysUptoCardSaid : Prop := Claim7.holds Tryd.pinned (.plain (OpenSpec.upto bodyPlaysSpec)) bodyPlaysUptoCard

/-- THE SECOND FORM's CARD OF 'doorsteplaw21.BodyNone'. -/
def bodyNoneUptoCard : Claim7 := { stood := { row := bodyNoneUptoRow, standIns := [], harness := (true, "96ac44dbd6cb36ea206ee63f9d769cf4842d8aed76a67eab99e15d3d186a47e3"), looks := false }, kinds := [], alts := [], laidByText := true, laidKinds := [.data, .pinned], laidTests := true, laidLooks := .later }
def BodyNoneUptoCardSaid : Prop := Claim7.holds Tryd.pinned (.plain (OpenSpec.upto bodyNoneSpec)) bodyNoneUptoCard
end Rows
end Go.Proofs.YthcjiflmhjagiaaDoor
