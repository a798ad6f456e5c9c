/- Templates: the document's reading. No statement of its own. -/
import Derived.Test.YticbonkojpabnaaGreatDoorQTmA
import Derived.Test.YticbonkojpabnaaGreatDoorQTmQ
set_option linter.unusedSimpArgs false
set_option linter.unusedVariables false
set_option maxRecDepth 100000
namespace Go.Proofs.YticbonkojpabnaaGreatDoor
open Go.RowKit
end Go.Proofs.YticbonkojpabnaaGreatDoor
