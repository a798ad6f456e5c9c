/- What is asked of the package's variables that the library reads. No statement of its own. -/
import Derived.WalkKit
namespace Go.Proofs.YtopmflkeohicjaaDoor

/-- nothing, for the laws whose code reads none of them -/
def LaidW (_ : World) : Prop := True
end Go.Proofs.YtopmflkeohicjaaDoor
