/- Rules: awake; the names that they write; RuleKnows. No statement of its own. -/
import Derived.Test.YticbonkojpabnaaGreatDoorQRu
set_option linter.unusedSimpArgs false
set_option linter.unusedVariables false
set_option maxRecDepth 100000
namespace Go.Proofs.YticbonkojpabnaaGreatDoor
open Go.RowKit
section
attribute [local irreducible] vcApp
end
end Go.Proofs.YticbonkojpabnaaGreatDoor
