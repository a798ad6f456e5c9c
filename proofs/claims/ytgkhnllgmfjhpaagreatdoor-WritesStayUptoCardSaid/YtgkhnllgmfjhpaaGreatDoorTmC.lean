/- Templates: the document's reading of all parts; names, rows of parts. No statement of its own. -/
import Derived.Test.YtgkhnllgmfjhpaaGreatDoorTmB
set_option linter.unusedSimpArgs false
set_option linter.unusedVariables false
set_option maxRecDepth 100000
namespace Go.Proofs.YtgkhnllgmfjhpaaGreatDoor
open Go.RowKit
theorem oneT_size {s : ByteArray} {k j : Nat} {p : Prt} (ho : oneT s k = some (p, j)) : p.2.size ≤ j - k := by
  have ez : ∀ a b, (s.extract a b).size ≤ b - a := fun a b => by rw [ByteArray.size_extract]; omega
  unfold oneT at ho
  repeat' split at ho
  all_goals first
    | (cases ho; done)
    | (cases ho; first | (show 1 ≤ _; omega) | (refine Nat.le_trans (ez _ _) ?_; omega))
theorem putT_nil (q : Prt) : putT [] q = [q] := by
  obtain ⟨q1, q2⟩ := q
  unfold putT
  split
  · rename_i h
    have h : q1 = 1 := h
    subst h
    rfl
  · rfl
theorem sumT_put (acc : List Prt) (p : Prt) : sumT (putT acc p) = sumT acc + p.2.size := by
  unfold putT
  split
  · exact sumT_mrg _ _
  · simp [sumT]
section
attribute [local irreducible] vcApp
end
end Go.Proofs.YtgkhnllgmfjhpaaGreatDoor
