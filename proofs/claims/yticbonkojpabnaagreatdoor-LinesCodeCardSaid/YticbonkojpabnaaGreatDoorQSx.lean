/- strings.ContainsAny of 13 and 10, any text. No statement of its own. -/
import Derived.Test.YticbonkojpabnaaGreatDoorQShelf
import Derived.Test.YticbonkojpabnaaGreatDoorQFoP
import Derived.Test.YticbonkojpabnaaGreatDoorQPf
import Derived.Shelf.Strings.SlTrimAscii
import Derived.Laws.RangeAny
import Derived.Lib.OthersKept
set_option linter.unusedSimpArgs false
set_option linter.unusedVariables false
set_option maxRecDepth 100000
namespace Go.Proofs.YticbonkojpabnaaGreatDoor
open Go.RowKit
end Go.Proofs.YticbonkojpabnaaGreatDoor
