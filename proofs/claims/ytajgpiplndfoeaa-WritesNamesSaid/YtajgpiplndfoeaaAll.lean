/- octet.All at the classes, octet.Token. -/
import Derived.Test.YtajgpiplndfoeaaOct
import Derived.Deep.LoopGhost
set_option maxRecDepth 100000
namespace Go.Proofs.Ytajgpiplndfoeaa
open Go.RowKit

def allI (p : Int → Bool) (s : ByteArray) : Bool := s.data.toList.all fun b => p (b.toNat : Int)

theorem blen (s : ByteArray) : s.data.toList.length = s.size := by rw [Array.length_toList]; rfl
theorem bget (s : ByteArray) (k : Nat) (h : k < s.size) : s.data.toList[k]'(by rw [blen]; exact h) = s[k] := rfl
theorem allI_true {p : Int → Bool} {s : ByteArray} (h : ∀ k (hk : k < s.size), p (s[k].toNat : Int) = true) : allI p s = true := by
  unfold allI
  rw [List.all_eq_true]
  intro x hx
  obtain ⟨k, hk, rfl⟩ := List.getElem_of_mem hx
  exact h k (by rw [← blen]; exact hk)
theorem allI_false {p : Int → Bool} {s : ByteArray} {k : Nat} (hk : k < s.size) (h : p (s[k].toNat : Int) = false) : allI p s = false := by
  unfold allI
  rw [List.all_eq_false]
  exact ⟨s[k], List.mem_iff_getElem.2 ⟨k, by rw [blen]; exact hk, rfl⟩, by simp [h]⟩

def ARel (p : Int → Bool) (s : ByteArray) (k : Nat) : Prop := ∀ j (hj : j < s.size), j < k → p (s[j].toNat : Int) = true

theorem empB0 {s : ByteArray} (h : s.size = 0) : s.toList.isEmpty = true := by
  rw [Lib.toList_data]
  have := blen s
  cases hd : s.data.toList with
  | nil => rfl
  | cons x r => rw [hd] at this; simp at this; omega
theorem empB1 {s : ByteArray} (h : 0 < s.size) : s.toList.isEmpty = false := by
  rw [Lib.toList_data]
  have := blen s
  cases hd : s.data.toList with
  | nil => rw [hd] at this; simp at this; omega
  | cons x r => rfl

def tokB (s : ByteArray) : Bool := decide (0 < s.size) && allI tokI s

end Go.Proofs.Ytajgpiplndfoeaa
