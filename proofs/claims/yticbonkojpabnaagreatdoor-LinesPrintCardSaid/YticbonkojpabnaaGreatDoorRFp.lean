/- Field lines read, in the program and in the document. No statement of its own. -/
import Derived.Test.YticbonkojpabnaaGreatDoorRShelf
import Derived.Test.YticbonkojpabnaaGreatDoorRFoP
import Derived.Test.YticbonkojpabnaaGreatDoorRPf
import Derived.Shelf.Strings.SlTrimAscii
import Derived.Laws.RangeAny
import Derived.Lib.OthersKept
import Derived.Test.YticbonkojpabnaaGreatDoorRFd
import Derived.Test.YticbonkojpabnaaGreatDoorRSm
set_option linter.unusedSimpArgs false
set_option linter.unusedVariables false
set_option maxRecDepth 100000
namespace Go.Proofs.YticbonkojpabnaaGreatDoor
open Go.RowKit
theorem blk_f : ByteF 208 blkI := fun n _ _ => isBlank_p n
end Go.Proofs.YticbonkojpabnaaGreatDoor
