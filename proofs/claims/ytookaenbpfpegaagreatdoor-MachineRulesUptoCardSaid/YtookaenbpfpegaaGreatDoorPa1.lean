/- Whether a connection ends: the program and the document. No statement of its own. -/
import Derived.Test.YtookaenbpfpegaaGreatDoorMs
set_option linter.unusedSimpArgs false
set_option linter.unusedVariables false
set_option maxRecDepth 100000
namespace Go.Proofs.YtookaenbpfpegaaGreatDoor
open Go.RowKit
def coS : ByteArray := ⟨#[99, 111, 110, 110, 101, 99, 116, 105, 111, 110]⟩
def cloS : ByteArray := ⟨#[99, 108, 111, 115, 101]⟩
def keepS : ByteArray := ⟨#[107, 101, 101, 112, 45, 97, 108, 105, 118, 101]⟩
def closeW (l : List Fld) (mi : Int) : Bool := if mi = 1 then hasW cloS (valsW coS l) else !hasW keepS (valsW coS l)
theorem argsW_sn (s : ByteArray) : ArgsW [.s s, .nilS] [.s s, .sl .no 1 (strL [])] := ⟨.inl (.inl ⟨rfl, rfl⟩), .inr ⟨rfl, 1, rfl⟩, trivial⟩
theorem CO_fold : foldB ⟨#[67, 111, 110, 110, 101, 99, 116, 105, 111, 110]⟩ = foldB coS := rfl
end Go.Proofs.YtookaenbpfpegaaGreatDoor
