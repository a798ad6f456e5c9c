/- What is asked of the package's variables that the library reads. No statement of its own. -/
import Derived.WalkKit
import Derived.Test.YtgaidgblihnldaaGreatDoorProg
set_option linter.unusedSimpArgs false
set_option linter.unusedVariables false
namespace Go.Proofs.YtgaidgblihnldaaGreatDoor

/-- the longest text that the library looks for by a short way is some number (by the laws whose code looks for texts) -/
def LaidW (w : World) : Prop := ∃ m : Int, w.cell? ⟨0, 0, none⟩ = some (.int .i64 m)
end Go.Proofs.YtgaidgblihnldaaGreatDoor
