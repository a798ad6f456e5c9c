/-
  DERIVED. GIVEN WITH THE SEED: THE CARDS: each row of YtookaenbpfpegaaDoorRows.lean that lists a variable, with what it lists TIED to the program's text (the seventh form; the later family's looks); each row that meets fmt, with fmt's text TOLD by the authors' own Lean function (tested against real Go, not proved from fmt's source: count such statements apart). THE CARD IS WHAT COUNTS. Prove the row's statement (the work); the ties are given (YtookaenbpfpegaaDoorTie.lean); close each card by the builder's one call (the guide's Derived/Test/ToyasCard.lean, 'card_holds'). Laid BY PROGRAM, IN A SANDBOX (cutbox-door.mjs). By AI agents, Wed Nov 11 2026. No macro, syntax, notation, axiom, sorry.
-/
import Derived.Test.YtookaenbpfpegaaDoorRows
import GoSem.ClaimSeven
namespace Go.Proofs.YtookaenbpfpegaaDoor
namespace Rows

/-- THE TIED CARD OF 'doorsteplaw21.BodyPlays'. -/
def bodyPlaysCard : Claim7 := { stood := { row := bodyPlaysRow, standIns := [], harness := (true, "ce8d80f220d53cb6711f0b8e484aad42ef66b88c345e55daaab4932518efd0a5"), looks := false }, kinds := [], alts := [], laidByText := true, laidKinds := [.data, .pinned], laidTests := true, laidLooks := .later }
def BodyPlaysCardSaid : Prop := Claim7.holds Tryd.pinned (.plain (OpenSpec.ofChange bodyPlaysSpec)) bodyPlaysCard

/-- THE TIED CARD OF 'doorsteplaw13.BagOthers'. -/
def bagOthersCard : Claim7 := { stood := { row := bagOthersRow, standIns := [], harness := (true, "ce8d80f220d53cb6711f0b8e484aad42ef66b88c345e55daaab4932518efd0a5"), looks := false }, kinds := [], alts := [], laidByText := true, laidKinds := [.data, .pinned], laidTests := true, laidLooks := .later }
def BagOthersCardSaid : Prop := Claim7.holds Tryd.pinned (.plain (OpenSpec.ofChange bagOthersSpec)) bagOthersCard

/-- THE TIED CARD OF 'doorsteplaw13.BagPlays'. -/
def bagPlaysCard : Claim7 := { stood := { row := bagPlaysRow, standIns := [], harness := (true, "ce8d80f220d53cb6711f0b8e484aad42ef66b88c345e55daaab4932518efd0a5"), looks := false }, kinds := [], alts := [], laidByText := true, laidKinds := [.data, .pinned], laidTests := true, laidLooks := .later }
def BagPlaysCardSaid : Prop := Claim7.holds Tryd.pinned (.plain (OpenSpec.ofChange bagPlaysSpec)) bagPlaysCard

/-- THE TIED CARD OF 'doorsteplaw13.BagNone'. -/
def bagNoneCard : Claim7 := { stood := { row := bagNoneRow, standIns := [], harness := (true, "ce8d80f220d53cb6711f0b8e484aad42ef66b88c345e55daaab4932518efd0a5"), looks := false }, kinds := [], alts := [], laidByText := true, laidKinds := [.data, .pinned], laidTests := true, laidLooks := .later }
def BagNoneCardSaid : Prop := Claim7.holds Tryd.pinned (.plain (OpenSpec.ofChange bagNoneSpec)) bagNoneCard

/-- THE SECOND FORM's CARD OF 'doorsteplaw21.BodyPlays'. -/
def bodyPlaysUptoCard : Claim7 := { stood := { row := bodyPlaysUptoRow, standIns := [], harness := (true, "ce8d80f220d53cb6711f0b8e484aad42ef66b88c345e55daaab4932518efd0a5"), looks := false }, kinds := [], alts := [], laidByText := true, laidKinds := [.data, .pinned], laidTests := true, laidLooks := .later }
def BodyPlaysUptoCardSaid : Prop := Claim7.holds Tryd.pinned (.plain (OpenSpec.upto bodyPlaysSpec)) bodyPlaysUptoCard

/-- THE SECOND FORM's CARD OF 'doorsteplaw13.BagOthers'. -/
def bagOthersUptoCard : Claim7 := { stood := { row := bagOthersUptoRow, standIns := [], harness := (true, "ce8d80f220d53cb6711f0b8e484aad42ef66b88c345e55daaab4932518efd0a5"), looks := false }, kinds := [], alts := [], laidByText := true, laidKinds := [.data, .pinned], laidTests := true, laidLooks := .later }
def BagOthersUptoCardSaid : Prop := Claim7.holds Tryd.pinned (.plain (OpenSpec.upto bagOthersSpec)) bagOthersUptoCard

/-- THE SECOND FORM's CARD OF 'doorsteplaw13.BagPlays'. -/
def bagPlaysUptoCard : Claim7 := { stood := { row := bagPlaysUptoRow, standIns := [], harness := (true, "ce8d80f220d53cb6711f0b8e484aad42ef66b88c345e55daaab4932518efd0a5"), looks := false }, kinds := [], alts := [], laidByText := true, laidKinds := [.data, .pinned], laidTests := true, laidLooks := .later }
def BagPlaysUptoCardSaid : Prop := Claim7.holds Tryd.pinned (.plain (OpenSpec.upto bagPlaysSpec)) bagPlaysUptoCard

/-- THE SECOND FORM's CARD OF 'doorsteplaw13.BagNone'. -/
def bagNoneUptoCard : Claim7 := { stood := { row := bagNoneUptoRow, standIns := [], harness := (true, "ce8d80f220d53cb6711f0b8e484aad42ef66b88c345e55daaab4932518efd0a5"), looks := false }, kinds := [], alts := [], laidByText := true, laidKinds := [.data, .pinned], laidTests := true, laidLooks := .later }
def BagNoneUptoCardSaid : Prop := Claim7.holds Tryd.pinned (.plain (OpenSpec.upto bagNoneSpec)) bagNoneUptoCard
end Rows
end Go.Proofs.YtookaenbpfpegaaDoor
