/- octet: classes of bytes. -/
import Derived.Test.YthncigahodannaaDoorProg
import Derived.Test.YthncigahodannaaDoorLib
import Derived.Outline
import Derived.Lib.Bytealg
namespace Go.Proofs.YthncigahodannaaDoor
open Go.RowKit

def lowI (n : Int) : Int := if 65 ≤ n ∧ n ≤ 90 then n + 32 else n
def digI (n : Int) : Bool := decide (48 ≤ n) && decide (n ≤ 57)
def alpI (n : Int) : Bool := decide (97 ≤ lowI n) && decide (lowI n ≤ 122)
def blkI (n : Int) : Bool := n == 32 || n == 9
def visI (n : Int) : Bool := decide (32 < n) && decide (n < 127)
def tokS : List UInt8 := [33, 35, 36, 37, 38, 39, 42, 43, 45, 46, 94, 95, 96, 124, 126]
def tokI (n : Int) : Bool := alpI n || digI n || decide (0 ≤ Lib.indexByte tokS n.toNat.toUInt8)
def valI (n : Int) : Bool := visI n || blkI n || decide (127 < n)
theorem lowI_b (n : Int) (h0 : 0 ≤ n) (h1 : n ≤ 255) : 0 ≤ lowI n ∧ lowI n ≤ 255 := by unfold lowI; split <;> omega

set_option maxHeartbeats 400000 in
theorem isDigit_any (n : Int) (w : World) :
    Calls Tryd.prog 48 #[.int .u8 n] w fun e w' => e = .returned (.bool (digI n)) ∧ w = w' := by
  by_cases h : 48 ≤ n
  all_goals
    go_enter Tryd.func48, Tryd.ntmps48
    go_wp2
    go_ret
    exact ⟨by simp [digI, h]; try omega, rfl⟩

set_option maxHeartbeats 400000 in
theorem lower_any (n : Int) (w : World) (h0 : 0 ≤ n) (h1 : n ≤ 255) :
    Calls Tryd.prog 59 #[.int .u8 n] w fun e w' => e = .returned (.int .u8 (lowI n)) ∧ w = w' := by
  by_cases h : 65 ≤ n
  · by_cases h2 : n ≤ 90
    · have hw : IntKind.u8.wrap (n + 32) = n + 32 := by simp [IntKind.wrap, IntKind.bits, IntKind.signed]; omega
      go_enter Tryd.func59, Tryd.ntmps59
      go_wp2
      go_ret
      exact ⟨by simp [lowI, h, h2], rfl⟩
    · go_enter Tryd.func59, Tryd.ntmps59
      go_wp2
      go_ret
      exact ⟨by simp [lowI]; try omega, rfl⟩
  · go_enter Tryd.func59, Tryd.ntmps59
    go_wp2
    go_ret
    exact ⟨by simp [lowI]; try omega, rfl⟩

set_option maxHeartbeats 400000 in
theorem isAlpha_any (n : Int) (w : World) (h0 : 0 ≤ n) (h1 : n ≤ 255) :
    Calls Tryd.prog 47 #[.int .u8 n] w fun e w' => e = .returned (.bool (alpI n)) ∧ w = w' := by
  have hL := lower_any n w h0 h1
  have hb := lowI_b n h0 h1
  unfold alpI
  generalize lowI n = m at *
  by_cases h : 97 ≤ m
  all_goals
    go_enter Tryd.func47, Tryd.ntmps47
    go_wp2_with (go_at_call 59; refine hL.mono ?_; rintro e w' ⟨rfl, rfl⟩)
    go_ret
    exact ⟨by simp [h]; try omega, rfl⟩

set_option maxHeartbeats 400000 in
theorem isBlank_any (n : Int) (w : World) :
    Calls Tryd.prog 30 #[.int .u8 n] w fun e w' => e = .returned (.bool (blkI n)) ∧ w = w' := by
  cases h : (n == 32)
  all_goals
    go_enter Tryd.func30, Tryd.ntmps30
    go_wp2
    go_ret
    exact ⟨by simp [blkI, h], rfl⟩

set_option maxHeartbeats 400000 in
theorem isVisible_any (n : Int) (w : World) :
    Calls Tryd.prog 33 #[.int .u8 n] w fun e w' => e = .returned (.bool (visI n)) ∧ w = w' := by
  by_cases h : 32 < n
  all_goals
    go_enter Tryd.func33, Tryd.ntmps33
    go_wp2
    go_ret
    exact ⟨by simp [visI, h]; try omega, rfl⟩

set_option maxHeartbeats 400000 in
theorem slIndexByte_any (s : ByteArray) (c : Int) (w : World) :
    Calls Tryd.prog 62 #[.string s, .int .u8 c] w fun e w' => e = .returned (.int .i64 (Lib.indexByte s.data.toList c.toNat.toUInt8)) ∧ w = w' := by
  go_enter Tryd.func62, Tryd.ntmps62
  go_wp2
  rw [run_callFunc_extern Tryd.func63 (by kernel_rfl) (by kernel_rfl) (by kernel_rfl) (e := Extern.BytealgIndexByte.indexByte) (by kernel_rfl), Lib.run_indexByteString]
  simp only [Result.andThen]
  rw [Oper.upon_value]
  go_wp2
  go_ret
  exact ⟨rfl, rfl⟩

set_option maxHeartbeats 400000 in
theorem sIndexByte_any (s : ByteArray) (c : Int) (w : World) :
    Calls Tryd.prog 55 #[.string s, .int .u8 c] w fun e w' => e = .returned (.int .i64 (Lib.indexByte s.data.toList c.toNat.toUInt8)) ∧ w = w' := by
  go_enter Tryd.func55, Tryd.ntmps55
  go_wp2_with (go_at_call 62; refine (slIndexByte_any _ _ _).mono ?_; rintro e w' ⟨rfl, rfl⟩)
  go_ret
  exact ⟨rfl, rfl⟩

set_option maxHeartbeats 400000 in
theorem one_any (l : ByteArray) (n : Int) (w : World) :
    Calls Tryd.prog 49 #[.int .u8 n, .string l] w fun e w' => e = .returned (.bool (decide (0 ≤ Lib.indexByte l.data.toList n.toNat.toUInt8))) ∧ w = w' := by
  go_enter Tryd.func49, Tryd.ntmps49
  go_wp2_with (go_at_call 55; refine (sIndexByte_any _ _ _).mono ?_; rintro e w' ⟨rfl, rfl⟩)
  go_ret
  exact ⟨rfl, rfl⟩

set_option maxHeartbeats 400000 in
theorem isToken_any (n : Int) (w : World) (h0 : 0 ≤ n) (h1 : n ≤ 255) :
    Calls Tryd.prog 31 #[.int .u8 n] w fun e w' => e = .returned (.bool (tokI n)) ∧ w = w' := by
  have hA := isAlpha_any n w h0 h1
  have hD := isDigit_any n w
  have hO : Calls Tryd.prog 49 #[.int .u8 n, .string ⟨tokS.toArray⟩] w fun e w' => e = .returned (.bool (decide (0 ≤ Lib.indexByte tokS n.toNat.toUInt8))) ∧ w = w' := one_any ⟨tokS.toArray⟩ n w
  unfold tokI
  generalize alpI n = a at *
  generalize digI n = d at *
  generalize decide (0 ≤ Lib.indexByte tokS n.toNat.toUInt8) = o at *
  cases a
  · cases d
    all_goals
      go_enter Tryd.func31, Tryd.ntmps31
      go_wp2_with (first | (go_at_call 47; refine hA.mono ?_; rintro e w' ⟨rfl, rfl⟩) | (go_at_call 48; refine hD.mono ?_; rintro e w' ⟨rfl, rfl⟩) | (go_at_call 49; refine hO.mono ?_; rintro e w' ⟨rfl, rfl⟩))
      go_ret
      exact ⟨by simp, rfl⟩
  · go_enter Tryd.func31, Tryd.ntmps31
    go_wp2_with (first | (go_at_call 47; refine hA.mono ?_; rintro e w' ⟨rfl, rfl⟩))
    go_ret
    exact ⟨by simp, rfl⟩

set_option maxHeartbeats 400000 in
theorem isValue_any (n : Int) (w : World) :
    Calls Tryd.prog 20 #[.int .u8 n] w fun e w' => e = .returned (.bool (valI n)) ∧ w = w' := by
  have hA := isVisible_any n w
  have hD := isBlank_any n w
  unfold valI
  generalize visI n = a at *
  generalize blkI n = d at *
  cases a
  · cases d
    all_goals
      go_enter Tryd.func20, Tryd.ntmps20
      go_wp2_with (first | (go_at_call 33; refine hA.mono ?_; rintro e w' ⟨rfl, rfl⟩) | (go_at_call 30; refine hD.mono ?_; rintro e w' ⟨rfl, rfl⟩))
      go_ret
      exact ⟨by simp, rfl⟩
  · go_enter Tryd.func20, Tryd.ntmps20
    go_wp2_with (first | (go_at_call 33; refine hA.mono ?_; rintro e w' ⟨rfl, rfl⟩))
    go_ret
    exact ⟨by simp, rfl⟩
end Go.Proofs.YthncigahodannaaDoor
