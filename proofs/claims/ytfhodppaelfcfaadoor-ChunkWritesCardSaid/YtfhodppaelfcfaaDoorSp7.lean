/- CommasSplits: the document's Tokens. No statement of its own. -/
import Derived.Test.YtfhodppaelfcfaaDoorSp6
set_option maxRecDepth 100000
namespace Go.Proofs.YtfhodppaelfcfaaDoor
open Go.RowKit
section
attribute [local irreducible] vcApp
end
end Go.Proofs.YtfhodppaelfcfaaDoor
