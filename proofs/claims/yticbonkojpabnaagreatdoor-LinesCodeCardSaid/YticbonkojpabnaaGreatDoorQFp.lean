/- Field lines read, in the program and in the document. No statement of its own. -/
import Derived.Test.YticbonkojpabnaaGreatDoorQSx
import Derived.Test.YticbonkojpabnaaGreatDoorQFd
import Derived.Test.YticbonkojpabnaaGreatDoorQSm
set_option linter.unusedSimpArgs false
set_option linter.unusedVariables false
set_option maxRecDepth 100000
namespace Go.Proofs.YticbonkojpabnaaGreatDoor
open Go.RowKit
theorem blk_f : ByteF 208 blkI := fun n _ _ => isBlank_p n
end Go.Proofs.YticbonkojpabnaaGreatDoor
