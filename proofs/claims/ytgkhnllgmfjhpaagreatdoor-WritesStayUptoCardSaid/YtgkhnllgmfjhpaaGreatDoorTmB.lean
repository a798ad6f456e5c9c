/- Templates: the document's reading. No statement of its own. -/
import Derived.Test.YtgkhnllgmfjhpaaGreatDoorTmA
import Derived.Test.YtgkhnllgmfjhpaaGreatDoorTmQ
set_option linter.unusedSimpArgs false
set_option linter.unusedVariables false
set_option maxRecDepth 100000
namespace Go.Proofs.YtgkhnllgmfjhpaaGreatDoor
open Go.RowKit
theorem lo_sml (n : Int) (h0 : 0 ≤ n) (h1 : n ≤ 255) : inI loS n = smlI n := by
  have : ∀ m : Nat, m < 256 → inI loS (m : Int) = smlI (m : Int) := by decide +kernel
  obtain ⟨m, rfl⟩ := Int.eq_ofNat_of_zero_le h0
  exact this m (by omega)
def oneR (t : ByteArray) : Prt × Nat := match oneT t 0 with
  | none => ((0, ⟨#[]⟩), 0)
  | some x => x
end Go.Proofs.YtgkhnllgmfjhpaaGreatDoor
