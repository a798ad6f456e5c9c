/- What is asked of the package's variables that the library reads. No statement of its own. -/
import Derived.WalkKit
set_option linter.unusedSimpArgs false
set_option linter.unusedVariables false
namespace Go.Proofs.YtookaenbpfpegaaDoor

/-- nothing, for the laws whose code reads none of them -/
def LaidW (_ : World) : Prop := True
end Go.Proofs.YtookaenbpfpegaaDoor
