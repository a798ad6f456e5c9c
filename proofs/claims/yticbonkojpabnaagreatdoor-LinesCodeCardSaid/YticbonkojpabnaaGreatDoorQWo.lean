/- The document's word: a token or a quoted text. No statement of its own. -/
import Derived.Test.YticbonkojpabnaaGreatDoorQSm
import Derived.Test.YticbonkojpabnaaGreatDoorQSb
import Derived.Test.YticbonkojpabnaaGreatDoorQSp
set_option linter.unusedSimpArgs false
set_option linter.unusedVariables false
set_option maxRecDepth 100000
namespace Go.Proofs.YticbonkojpabnaaGreatDoor
open Go.RowKit
end Go.Proofs.YticbonkojpabnaaGreatDoor
