/- What is asked of the package's variables that the library reads. No statement of its own. -/
import Derived.WalkKit
import Derived.Lib.LaidTab
import Derived.Lib.ItoaNum
import Derived.Test.YtopmflkeohicjaaDoorProg
namespace Go.Proofs.YtopmflkeohicjaaDoor

/-- the powers of ten, as they are laid (by the laws whose code writes numbers as texts) -/
def LaidW (w : World) : Prop := Lib.TabIs Tryd.prog w "internal/strconv.uint64pow10" .u64 Lib.pow10Tab
end Go.Proofs.YtopmflkeohicjaaDoor
