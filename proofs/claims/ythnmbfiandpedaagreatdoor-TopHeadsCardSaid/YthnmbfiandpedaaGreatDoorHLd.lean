/- What is asked of the package's variables that the library reads. No statement of its own. -/
import Derived.WalkKit
import Derived.Lib.LaidTab
import Derived.Lib.ItoaNum
import Derived.Test.YthnmbfiandpedaaGreatDoorProg
set_option linter.unusedSimpArgs false
set_option linter.unusedVariables false
namespace Go.Proofs.YthnmbfiandpedaaGreatDoor

/-- the longest text that the library looks for by a short way is some number; the powers of ten, as they are laid -/
def LaidW (w : World) : Prop := (∃ m : Int, w.cell? ⟨0, 0, none⟩ = some (.int .i64 m)) ∧ Lib.TabIs Tryz.prog w "internal/strconv.uint64pow10" .u64 Lib.pow10Tab ∧ True
theorem LaidW.max {w : World} (h : LaidW w) : ∃ m : Int, w.cell? ⟨0, 0, none⟩ = some (.int .i64 m) := h.1
end Go.Proofs.YthnmbfiandpedaaGreatDoor
