/- What every card of this seat needs: a world whose listed variables hold what their initialisers lay. -/
import Derived.Test.YthnmbfiandpedaaGreatDoorCards
import Derived.Test.YthnmbfiandpedaaGreatDoorTie
import Derived.Test.YthnmbfiandpedaaGreatDoorHOpen
import Derived.WalkKit
import Derived.ProofKit
import Derived.OpenShut
import Derived.Deep.DeepHandedRow
import Derived.Deep.DeepLaidRun
import Derived.Lib.LaidTab
import Derived.Lib.LaidU8
set_option linter.unusedSimpArgs false
set_option linter.unusedVariables false
namespace Go.Proofs.YthnmbfiandpedaaGreatDoor
open Go.ChangeShapes Go.WideShapes Go.ChangeAt Go.RowKit
open Go.ChangeMaps (open_string shut_string)

theorem own12 : ownKnob Tryz.prog.godebug = none := by kernel_rfl
theorem laidOut12 : laidOutB Tryz.prog = true := by kernel_rfl
/-- THE WITNESS's WORLD. -/
noncomputable def laidWorld (os : Os) : World :=
  let w0 := World.holding Tryz.prog os ⟨#[], #[], []⟩
  let put (h : Array Obj) (g : Nat) (cs : Array Value) : Array Obj := h.modify g fun
    | .cells _ t frozen => .cells cs t frozen
    | o => o
  let h1 := put w0.heap ((Tryz.prog.globalNamed "unicode/utf8.first").getD 0) (Lib.firstTab.map fun z => Value.int .u8 z).toArray
  let h2 := put h1 ((Tryz.prog.globalNamed "unicode/utf8.acceptRanges").getD 0) ((List.range 16).flatMap fun i => [Value.int .u8 (Lib.accLo i), Value.int .u8 (Lib.accHi i)]).toArray
  { w0 with heap := h2 }
end Go.Proofs.YthnmbfiandpedaaGreatDoor
