/- Rules: checked by the document. No statement of its own. -/
import Derived.Test.YtgkhnllgmfjhpaaGreatDoorRu
set_option linter.unusedSimpArgs false
set_option linter.unusedVariables false
set_option maxRecDepth 100000
namespace Go.Proofs.YtgkhnllgmfjhpaaGreatDoor
open Go.RowKit
theorem memB_snoc {l : List ByteArray} {t : ByteArray} {i : Nat} (h : i < l.length) : memB (l.take (i + 1)) t = (memB (l.take i) t || decide (l[i] = t)) := by
  unfold memB
  rw [List.take_succ_eq_append_getElem h, List.any_append]
  simp
def actD (ac : Int) (un : ByteArray) (ps : List Prt) : Bool :=
  if ac = 1 ∨ ac = 2 then decide (un.size = 0) && decide ((textT ps).2 = 0) else if ac = 3 then decide (un.size = 0) && decide (ps.length = 0) else if ac = 4 then freeB un && decide (ps.length = 0) else false
theorem actB_all (n ac : Int) (un : ByteArray) (ps : List Prt) : actB n ac un ps = ((namT ps).all (memB (knowL n)) && actD ac un ps) := by
  have h0 : ps.length = 0 → (namT ps).all (memB (knowL n)) = true := fun h => by
    have := List.eq_nil_of_length_eq_zero h
    subst this; rfl
  unfold actB actD partsB
  generalize (namT ps).all (memB (knowL n)) = q at *
  split
  · cases decide (un.size = 0) <;> cases q <;> rfl
  · split
    · by_cases h : ps.length = 0
      · rw [h0 h, Bool.true_and]
      · rw [decide_eq_false h, Bool.and_false, Bool.and_false]
    · split
      · by_cases h : ps.length = 0
        · rw [h0 h, Bool.true_and]
        · rw [decide_eq_false h, Bool.and_false, Bool.and_false]
      · rw [Bool.and_false]
end Go.Proofs.YtgkhnllgmfjhpaaGreatDoor
