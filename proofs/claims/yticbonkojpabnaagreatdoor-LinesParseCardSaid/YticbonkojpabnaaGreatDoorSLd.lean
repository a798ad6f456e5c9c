/- What is asked of the package's variables that the library reads. No statement of its own. -/
import Derived.WalkKit
import Derived.Lib.LaidTab
import Derived.Lib.ItoaNum
import Derived.Test.YticbonkojpabnaaGreatDoorProg
set_option linter.unusedSimpArgs false
set_option linter.unusedVariables false
namespace Go.Proofs.YticbonkojpabnaaGreatDoor

/-- an error, or none -/
def IsErr (ev:Value):Prop:=ev=.nilIface \/ ∃ te pe,ev=.iface te pe
/-- the longest text that the library looks for by a short way is some number; the powers of ten, as they are laid; two errors (by the laws whose code ZAq and reads numbers as texts, and looks for texts) -/
def ZHu (w:World):Prop:=(∃ m:Int,w.cell? ⟨1,0,none⟩=some (.int .i64 m))/\Lib.TabIs Tryz.prog w "internal/strconv.uint64pow10" .u64 Lib.pow10Tab /\
 (∃ ev,w.cell? ⟨6,0,none⟩=some ev/\IsErr ev)/\∃ ev,w.cell? ⟨7,0,none⟩=some ev/\IsErr ev
theorem ZHu.max {w:World} (h:ZHu w):∃ m:Int,w.cell? ⟨1,0,none⟩=some (.int .i64 m):=h.1
end Go.Proofs.YticbonkojpabnaaGreatDoor
