/- octet: classes of bytes. -/
import Derived.Test.YtajgpiplndfoeaaProg
import Derived.Test.YtajgpiplndfoeaaLib
import Derived.Outline
import Derived.Lib.Bytealg
set_option maxRecDepth 100000
namespace Go.Proofs.Ytajgpiplndfoeaa
open Go.RowKit

def lowI (n : Int) : Int := if 65 ≤ n ∧ n ≤ 90 then n + 32 else n
def digI (n : Int) : Bool := decide (48 ≤ n) && decide (n ≤ 57)
def alpI (n : Int) : Bool := decide (97 ≤ lowI n) && decide (lowI n ≤ 122)
def blkI (n : Int) : Bool := n == 32 || n == 9
def visI (n : Int) : Bool := decide (32 < n) && decide (n < 127)
def tokS : List UInt8 := [33, 35, 36, 37, 38, 39, 42, 43, 45, 46, 94, 95, 96, 124, 126]
def tokI (n : Int) : Bool := alpI n || digI n || decide (0 ≤ Lib.indexByte tokS n.toNat.toUInt8)
def valI (n : Int) : Bool := visI n || blkI n || decide (127 < n)
theorem lowI_b (n : Int) (h0 : 0 ≤ n) (h1 : n ≤ 255) : 0 ≤ lowI n ∧ lowI n ≤ 255 := by unfold lowI; split <;> omega

set_option maxHeartbeats 400000 in
theorem lower_any (n : Int) (w : World) (h0 : 0 ≤ n) (h1 : n ≤ 255) :
    Calls Try.prog 20 #[.int .u8 n] w fun e w' => e = .returned (.int .u8 (lowI n)) ∧ w = w' := by
  by_cases h : 65 ≤ n
  · by_cases h2 : n ≤ 90
    · have hw : IntKind.u8.wrap (n + 32) = n + 32 := by simp [IntKind.wrap, IntKind.bits, IntKind.signed]; omega
      go_enter Try.func20, Try.ntmps20
      go_wp2
      go_ret
      exact ⟨by simp [lowI, h, h2], rfl⟩
    · go_enter Try.func20, Try.ntmps20
      go_wp2
      go_ret
      exact ⟨by simp [lowI]; try omega, rfl⟩
  · go_enter Try.func20, Try.ntmps20
    go_wp2
    go_ret
    exact ⟨by simp [lowI]; try omega, rfl⟩

end Go.Proofs.Ytajgpiplndfoeaa
