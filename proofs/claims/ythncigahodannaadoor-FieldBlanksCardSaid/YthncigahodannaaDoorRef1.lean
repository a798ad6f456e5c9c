/- The reference's classes of bytes. -/
import Derived.Test.YthncigahodannaaDoorAll
namespace Go.Proofs.YthncigahodannaaDoor
open Go.RowKit

def inI (l : ByteArray) (n : Int) : Bool := l.data.toList.any fun b => (b.toNat : Int) == n
theorem inI_true {l : ByteArray} {n : Int} {k : Nat} (hk : k < l.size) (h : ((l[k].toNat : Int) == n) = true) : inI l n = true := by
  unfold inI
  rw [List.any_eq_true]
  exact ⟨l[k], List.mem_iff_getElem.2 ⟨k, by rw [blen]; exact hk, rfl⟩, h⟩
theorem inI_false {l : ByteArray} {n : Int} (h : ∀ k (hk : k < l.size), ((l[k].toNat : Int) == n) = false) : inI l n = false := by
  unfold inI
  rw [List.any_eq_false]
  intro x hx
  obtain ⟨k, hk, rfl⟩ := List.getElem_of_mem hx
  have := h k (by rw [← blen]; exact hk)
  intro e
  rw [beq_eq_false_iff_ne] at this
  exact this (beq_iff_eq.1 e)

set_option maxHeartbeats 400000 in
theorem in_any (n : Int) (l : ByteArray) (hl : l.size ≤ maxLen) (w : World) :
    Calls Tryd.prog 54 #[.int .u8 n, .string l] w fun e w' => e = .returned (.bool (inI l n)) ∧ w = w' := by
  unfold maxLen at hl
  go_enter Tryd.func54, Tryd.ntmps54
  go_wp2_with fail
  go_loopg [5] l.size (fun gk s5 wr => w = wr ∧ ∃ k : Nat, k + gk = l.size ∧ s5 = .int .i64 k ∧ ∀ j (hj : j < l.size), j < k → ((l[j].toNat : Int) == n) = false)
  case atStart => exact ⟨rfl, 0, by omega, rfl, fun j _ h => absurd h (by omega)⟩
  case round =>
    obtain ⟨rfl, k, hk, rfl, hr⟩ := hrel
    by_cases hlt : k < l.size
    · cases hp : ((l[k].toNat : Int) == n)
      · have HR := Lib.hid hr
        clear hr
        go_wp2_with fail
        go_roundg (gk - 1)
        case measure => omega
        case rel =>
          refine ⟨rfl, k + 1, by omega, by go_num, fun j hj hjk => ?_⟩
          by_cases e : j = k
          · subst e; exact hp
          · exact HR.out j hj (by omega)
      · have HF := Lib.hid (inI_true hlt hp)
        clear hr
        go_wp2_with fail
        go_ret
        exact ⟨by rw [HF.out]; rfl, rfl⟩
    · have HF := Lib.hid (inI_false (fun j hj => hr j hj (by omega)))
      clear hr
      go_wp2_with fail
      go_ret
      exact ⟨by rw [HF.out]; rfl, rfl⟩

def tokC : ByteArray := ⟨#[97, 98, 99, 100, 101, 102, 103, 104, 105, 106, 107, 108, 109, 110, 111, 112, 113, 114, 115, 116, 117, 118, 119, 120, 121, 122, 65, 66, 67, 68, 69, 70, 71, 72, 73, 74, 75, 76, 77, 78, 79, 80, 81, 82, 83, 84, 85, 86, 87, 88, 89, 90, 48, 49, 50, 51, 52, 53, 54, 55, 56, 57, 33, 35, 36, 37, 38, 39, 42, 43, 45, 46, 94, 95, 96, 124, 126]⟩
theorem tokC_eq : ∀ m : Nat, m < 256 → inI tokC (m : Int) = tokI (m : Int) := by decide +kernel
def r1valI (n : Int) : Bool := (decide (32 ≤ n) && !(n == 127)) || n == 9
theorem valI_eq : ∀ m : Nat, m < 256 → r1valI (m : Int) = valI (m : Int) := by decide +kernel

set_option maxHeartbeats 400000 in
theorem r1Tok_any (n : Int) (w : World) (h0 : 0 ≤ n) (h1 : n ≤ 255) :
    Calls Tryd.prog 41 #[.int .u8 n] w fun e w' => e = .returned (.bool (tokI n)) ∧ w = w' := by
  have hI := in_any n tokC (by decide +kernel) w
  have he : inI tokC n = tokI n := by
    obtain ⟨m, rfl⟩ := Int.eq_ofNat_of_zero_le h0
    exact tokC_eq m (by omega)
  rw [he] at hI
  go_enter Tryd.func41, Tryd.ntmps41
  go_wp2_with fail
  refine hI.mono ?_; rintro e w1 ⟨rfl, rfl⟩
  go_wp2_with fail
  go_ret
  exact ⟨rfl, rfl⟩

set_option maxHeartbeats 400000 in
theorem r1Value_any (n : Int) (w : World) (h0 : 0 ≤ n) (h1 : n ≤ 255) :
    Calls Tryd.prog 42 #[.int .u8 n] w fun e w' => e = .returned (.bool (valI n)) ∧ w = w' := by
  have he : r1valI n = valI n := by
    obtain ⟨m, rfl⟩ := Int.eq_ofNat_of_zero_le h0
    exact valI_eq m (by omega)
  rw [← he]
  clear he
  by_cases h : 32 ≤ n
  · cases h2 : (n == 127)
    all_goals
      have h3 : (n != 127) = !(n == 127) := rfl
      rw [h2] at h3
      go_enter Tryd.func42, Tryd.ntmps42
      go_wp2_with fail
      go_ret
      exact ⟨by simp [r1valI, h, h2], rfl⟩
  · go_enter Tryd.func42, Tryd.ntmps42
    go_wp2_with fail
    go_ret
    exact ⟨by simp [r1valI]; try omega, rfl⟩

set_option maxHeartbeats 400000 in
theorem r1Blank_any (n : Int) (w : World) :
    Calls Tryd.prog 23 #[.int .u8 n] w fun e w' => e = .returned (.bool (blkI n)) ∧ w = w' := by
  cases h : (n == 32)
  all_goals
    go_enter Tryd.func23, Tryd.ntmps23
    go_wp2
    go_ret
    exact ⟨by simp [blkI, h], rfl⟩

set_option maxHeartbeats 400000 in
theorem r1Token_any (s : ByteArray) (hs : s.size ≤ maxLen) (w : World) :
    Calls Tryd.prog 25 #[.string s] w fun e w' => e = .returned (.bool (tokB s)) ∧ w = w' := by
  unfold maxLen at hs
  go_enter Tryd.func25, Tryd.ntmps25
  go_wp2_with fail
  go_loopg [3] s.size (fun gk s3 wr => w = wr ∧ ∃ k : Nat, k + gk = s.size ∧ s3 = .int .i64 k ∧ ARel tokI s k)
  case atStart => exact ⟨rfl, 0, by omega, rfl, fun j _ h => absurd h (by omega)⟩
  case round =>
    obtain ⟨rfl, k, hk, rfl, hr⟩ := hrel
    by_cases hlt : k < s.size
    · have hP := r1Tok_any (s[k].toNat : Int) w (by omega) (by have := s[k].toNat_lt; omega)
      cases hp : tokI (s[k].toNat : Int)
      · rw [hp] at hP
        have HF := Lib.hid (allI_false hlt hp)
        clear hp
        go_wp2_with fail
        refine hP.mono ?_; rintro e w1 ⟨rfl, rfl⟩
        go_wp2_with fail
        go_ret
        exact ⟨by rw [tokB, HF.out]; simp, rfl⟩
      · rw [hp] at hP
        have HF := Lib.hid hp
        clear hp
        go_wp2_with fail
        refine hP.mono ?_; rintro e w1 ⟨rfl, rfl⟩
        go_wp2_with fail
        go_roundg (gk - 1)
        case measure => omega
        case rel =>
          refine ⟨rfl, k + 1, by omega, by go_num, fun j hj hjk => ?_⟩
          by_cases e : j = k
          · subst e; exact HF.out
          · exact hr j hj (by omega)
    · have HF := Lib.hid (allI_true (fun j hj => hr j hj (by omega)))
      clear hr
      go_wp2_with fail
      go_ret
      exact ⟨by rw [tokB, HF.out]; simp, rfl⟩

set_option maxHeartbeats 400000 in
theorem r12values_any (s : ByteArray) (hs : s.size ≤ maxLen) (w : World) :
    Calls Tryd.prog 26 #[.string s] w fun e w' => e = .returned (.bool (allI valI s)) ∧ w = w' := by
  unfold maxLen at hs
  go_enter Tryd.func26, Tryd.ntmps26
  go_wp2_with fail
  go_loopg [3] s.size (fun gk s3 wr => w = wr ∧ ∃ k : Nat, k + gk = s.size ∧ s3 = .int .i64 k ∧ ARel valI s k)
  case atStart => exact ⟨rfl, 0, by omega, rfl, fun j _ h => absurd h (by omega)⟩
  case round =>
    obtain ⟨rfl, k, hk, rfl, hr⟩ := hrel
    by_cases hlt : k < s.size
    · have hP := r1Value_any (s[k].toNat : Int) w (by omega) (by have := s[k].toNat_lt; omega)
      cases hp : valI (s[k].toNat : Int)
      · rw [hp] at hP
        have HF := Lib.hid (allI_false hlt hp)
        clear hp
        go_wp2_with fail
        refine hP.mono ?_; rintro e w1 ⟨rfl, rfl⟩
        go_wp2_with fail
        go_ret
        exact ⟨by rw [HF.out]; simp, rfl⟩
      · rw [hp] at hP
        have HF := Lib.hid hp
        clear hp
        go_wp2_with fail
        refine hP.mono ?_; rintro e w1 ⟨rfl, rfl⟩
        go_wp2_with fail
        go_roundg (gk - 1)
        case measure => omega
        case rel =>
          refine ⟨rfl, k + 1, by omega, by go_num, fun j hj hjk => ?_⟩
          by_cases e : j = k
          · subst e; exact HF.out
          · exact hr j hj (by omega)
    · have HF := Lib.hid (allI_true (fun j hj => hr j hj (by omega)))
      clear hr
      go_wp2_with fail
      go_ret
      exact ⟨by rw [HF.out]; simp, rfl⟩

end Go.Proofs.YthncigahodannaaDoor
