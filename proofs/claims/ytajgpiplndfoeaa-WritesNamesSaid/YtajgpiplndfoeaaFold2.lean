/- the reference's Fold. -/
import Derived.Test.YtajgpiplndfoeaaFold
namespace Go.Proofs.Ytajgpiplndfoeaa
open Go.RowKit

def bigS : ByteArray := ⟨#[65, 66, 67, 68, 69, 70, 71, 72, 73, 74, 75, 76, 77, 78, 79, 80, 81, 82, 83, 84, 85, 86, 87, 88, 89, 90]⟩
def smallS : ByteArray := ⟨#[97, 98, 99, 100, 101, 102, 103, 104, 105, 106, 107, 108, 109, 110, 111, 112, 113, 114, 115, 116, 117, 118, 119, 120, 121, 122]⟩
def lowK (b : UInt8) (j : Nat) : UInt8 := if 65 ≤ b.toNat ∧ b.toNat < 65 + j then b + 32 else b
theorem lowK_all : ∀ m : Nat, m < 256 → lowK (UInt8.ofNat m) 26 = lowU (UInt8.ofNat m) := by decide +kernel
theorem lowK_26 (b : UInt8) : lowK b 26 = lowU b := by
  have := lowK_all b.toNat b.toNat_lt
  rwa [UInt8.ofNat_toNat] at this
theorem bigS_at : ∀ j : Nat, (hj : j < 26) → (bigS[j]'hj).toNat = 65 + j := by decide +kernel
theorem smallS_at : ∀ j : Nat, j < 26 → smallS.extract j (j + 1) = ⟨#[UInt8.ofNat (97 + j)]⟩ := by decide +kernel
theorem ext_one (s : ByteArray) (k : Nat) (hk : k < s.size) : s.extract k (k + 1) = ⟨#[s[k]]⟩ := by
  apply ByteArray.ext
  apply Array.ext
  · have : s.data.size = s.size := rfl
    simp; omega
  · intro i h1 h2
    have : i = 0 := by simp at h2; omega
    subst this
    simp
    rfl
theorem drw {w wr : World} (h : ∃ d, wr = w.drewN d) (n : Nat) : ∃ d, wr.drewN n = w.drewN d := by
  obtain ⟨d, rfl⟩ := h
  exact ⟨d + n, World.drewN_drewN ..⟩
theorem drt {w wr wx : World} (h : ∃ d, wr = w.drewN d) (h2 : ∃ d, wx = wr.drewN d) : ∃ d, wx = w.drewN d := by
  obtain ⟨d, rfl⟩ := h2
  exact drw h d
theorem drc {w wr : World} (h : ∃ d, wr = w.drewN d) : Chg w wr (fun _ => False) := by
  obtain ⟨d, rfl⟩ := h
  exact (Chg.refl w _).drewN d
theorem foldTake (s : ByteArray) (k : Nat) (hk : k < s.size) : (⟨((s.data.toList.take k).map lowU).toArray⟩ : ByteArray) ++ ⟨#[lowU s[k]]⟩ = ⟨((s.data.toList.take (k + 1)).map lowU).toArray⟩ := by
  apply ByteArray.ext
  rw [ByteArray.data_append, List.take_succ_eq_append_getElem (by rw [blen]; exact hk), List.map_append]
  simp
  rfl

set_option maxHeartbeats 400000 in
theorem r1Fold_any (s : ByteArray) (hs : s.size ≤ maxLen) (w : World) :
    Calls Try.prog 13 #[.string s] w fun e w' => e = .returned (.string (foldB s)) ∧ ∃ d, w' = w.drewN d := by
  have hs2 : s.size ≤ 2 ^ 63 - 1 := hs
  have hB : bigS.size = 26 := rfl
  have hS : smallS.size = 26 := rfl
  go_enter Try.func13, Try.ntmps13
  go_wp2_with fail
  rw [show (⟨#[65, 66, 67, 68, 69, 70, 71, 72, 73, 74, 75, 76, 77, 78, 79, 80, 81, 82, 83, 84, 85, 86, 87, 88, 89, 90]⟩ : ByteArray) = bigS from rfl, show (⟨#[97, 98, 99, 100, 101, 102, 103, 104, 105, 106, 107, 108, 109, 110, 111, 112, 113, 114, 115, 116, 117, 118, 119, 120, 121, 122]⟩ : ByteArray) = smallS from rfl]
  go_loopg [3, 4] s.size (fun gk s3 s4 wr => (∃ d, wr = w.drewN d) ∧ ∃ k : Nat, k + gk = s.size ∧ s4 = .int .i64 k ∧ s3 = .string ⟨((s.data.toList.take k).map lowU).toArray⟩)
  case atStart => exact ⟨⟨0, rfl⟩, 0, by omega, rfl, by simp⟩
  case round =>
    obtain ⟨hC, k, hk, rfl, rfl⟩ := hrel
    obtain ⟨G, rfl⟩ : ∃ G, G = gk := ⟨_, rfl⟩
    by_cases hlt : k < s.size
    · have HE := Lib.hid (ext_one s k hlt)
      have HF := Lib.hid (foldTake s k hlt)
      have ho : (⟨((s.data.toList.take k).map lowU).toArray⟩ : ByteArray).size = k := by
        show ((s.data.toList.take k).map lowU).toArray.size = k
        rw [List.size_toArray, List.length_map, List.length_take, blen]; omega
      generalize (⟨((s.data.toList.take k).map lowU).toArray⟩ : ByteArray) = o at *
      go_wp2_with fail
      go_loopg [5, 6] 26 (fun gj s5 s6 wr => (∃ d, wr = w.drewN d) ∧ ∃ j : Nat, j + gj = 26 ∧ s6 = .int .i64 j ∧ s5 = .string ⟨#[lowK s[k] j]⟩)
      case atStart => exact ⟨hC, 0, by omega, rfl, by rw [HE.out]; unfold lowK; rw [if_neg (by omega)]⟩
      case round =>
        obtain ⟨hC2, j, hj, rfl, rfl⟩ := hrel
        by_cases hlj : j < 26
        · have hb1 := bigS_at j hlj
          by_cases e1 : 65 + j = s[k].toNat
          · have hl1 : lowK s[k] (j + 1) = UInt8.ofNat (97 + j) := by
              unfold lowK; rw [if_pos (by omega)]
              apply UInt8.toNat_inj.1
              rw [UInt8.toNat_add, UInt8.toNat_ofNat', ← e1]
              show (65 + j + 32) % 256 = _
              omega
            have HL := Lib.hid hl1
            have HS := Lib.hid (smallS_at j hlj)
            have e2 : (((bigS[j]'hlj).toNat : Int) == (s[k].toNat : Int)) = true := by rw [beq_iff_eq]; omega
            clear hb1 e1 hl1
            go_wp2_with fail
            go_quiet (fail)
            go_wp2_with fail
            go_roundg (gk - 1)
            case measure => omega
            case rel => exact ⟨drw hC2 _, j + 1, by omega, by go_num, by rw [HL.out, HS.out]⟩
          · have hl1 : lowK s[k] (j + 1) = lowK s[k] j := by
              unfold lowK
              by_cases h : 65 ≤ s[k].toNat ∧ s[k].toNat < 65 + j
              · rw [if_pos h, if_pos (by omega)]
              · rw [if_neg h, if_neg (by omega)]
            have HL := Lib.hid hl1
            have e2 : (((bigS[j]'hlj).toNat : Int) == (s[k].toNat : Int)) = false := by rw [beq_eq_false_iff_ne]; omega
            clear hb1 e1 hl1
            go_wp2_with fail
            go_quiet (fail)
            go_wp2_with fail
            go_roundg (gk - 1)
            case measure => omega
            case rel => exact ⟨drw hC2 _, j + 1, by omega, by go_num, by rw [HL.out]⟩
        · have HJ := Lib.hid (show j = 26 by omega)
          have H26 := Lib.hid (lowK_26 s[k])
          go_wp2_with fail
          go_roundg (G - 1)
          case measure => omega
          case rel => exact ⟨hC2, k + 1, by omega, by go_num, by rw [HJ.out, H26.out, HF.out]⟩
    · have HF := Lib.hid (show (⟨((s.data.toList.take k).map lowU).toArray⟩ : ByteArray) = foldB s by rw [List.take_of_length_le (by rw [blen]; omega)]; rfl)
      go_wp2_with fail
      go_ret
      exact ⟨by rw [HF.out]; rfl, hC⟩
end Go.Proofs.Ytajgpiplndfoeaa
