/- CommasSplits: the document's Split. No statement of its own. -/
import Derived.Test.YtfhodppaelfcfaaDoorSp2
set_option maxRecDepth 100000
namespace Go.Proofs.YtfhodppaelfcfaaDoor
open Go.RowKit
def ne8 (x : ByteArray) : Bool := decide (¬ x.size = 0)
theorem endW_filter (s : ByteArray) (b e : Nat) (o : List ByteArray) : endW s b e (o.filter ne8) = (o ++ [trimC (s.extract b e) spcS]).filter ne8 := by
  rw [List.filter_append]
  unfold endW
  by_cases h : (trimC (s.extract b e) spcS).size = 0
  · rw [if_pos h, show [trimC (s.extract b e) spcS].filter ne8 = [] by simp [ne8, h], List.append_nil]
  · rw [if_neg h, show [trimC (s.extract b e) spcS].filter ne8 = [trimC (s.extract b e) spcS] by simp [ne8, h]]
section
attribute [local irreducible] vcApp
end
end Go.Proofs.YtfhodppaelfcfaaDoor
