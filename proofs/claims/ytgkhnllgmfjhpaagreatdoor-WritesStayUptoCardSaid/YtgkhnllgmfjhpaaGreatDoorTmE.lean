/- Templates: the document's texts and names; rows of parts cut short. No statement of its own. -/
import Derived.Test.YtgkhnllgmfjhpaaGreatDoorTmD
set_option linter.unusedSimpArgs false
set_option linter.unusedVariables false
set_option maxRecDepth 100000
namespace Go.Proofs.YtgkhnllgmfjhpaaGreatDoor
open Go.RowKit
theorem escL_take {l : List UInt8} {k : Nat} (h : k < l.length) : escL (l.take (k + 1)) = escL (l.take k) ++ (if l[k] = 36 then [36, 36] else [l[k]]) := by
  rw [List.take_succ_eq_append_getElem h, escL_app]
  congr 1
def escP (s : ByteArray) (k : Nat) : ByteArray := ⟨(escL (s.data.toList.take k)).toArray⟩
theorem escP_zero (s : ByteArray) : escP s 0 = ⟨#[]⟩ := rfl
theorem escP_all (s : ByteArray) : escP s s.size = escB s := by
  unfold escP escB
  rw [List.take_of_length_le (by rw [blen]; exact Nat.le_refl _)]
theorem escP_l (s : ByteArray) (k : Nat) : (escP s k).data.toList = escL (s.data.toList.take k) := by unfold escP; show (escL _).toArray.toList = _; rw [List.toList_toArray]
theorem escP_yes {s : ByteArray} {k : Nat} (h : k < s.size) (e : s[k] = 36) : escP s (k + 1) = escP s k ++ ⟨#[36]⟩ ++ s.extract k (k + 1) := by
  refine inL ?_
  rw [app_l, app_l, escP_l, escP_l, escL_take (by rw [blen]; exact h), ext_one s h, bget s k h, if_pos e, e]
  simp
theorem escP_no {s : ByteArray} {k : Nat} (h : k < s.size) (e : s[k] ≠ 36) : escP s (k + 1) = escP s k ++ s.extract k (k + 1) := by
  refine inL ?_
  rw [app_l, escP_l, escP_l, escL_take (by rw [blen]; exact h), ext_one s h, bget s k h, if_neg e]
theorem escP_size (s : ByteArray) (k : Nat) (hk : k ≤ s.size) : (escP s k).size ≤ 2 * k := by
  have := escL_len (s.data.toList.take k)
  rw [List.length_take, blen, Nat.min_eq_left hk] at this
  show (escL _).toArray.size ≤ _
  rw [List.size_toArray]
  exact this
theorem sumT_take (l : List Prt) (k : Nat) : sumT (l.take k) ≤ sumT l := by
  unfold sumT
  conv => rhs; rw [← List.take_append_drop k l]
  rw [List.map_append, List.sum_append]
  omega
theorem wrT_size (l : List Prt) (k : Nat) : (wrL (l.take k)).size ≤ 2 * sumT l + 4 * l.length := by
  have h1 := wrL_size (l.take k)
  have h2 := sumT_take l k
  rw [List.length_take] at h1
  omega
end Go.Proofs.YtgkhnllgmfjhpaaGreatDoor
