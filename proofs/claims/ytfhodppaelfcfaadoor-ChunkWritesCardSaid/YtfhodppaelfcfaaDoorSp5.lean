/- CommasSplits: folds and tokens of lists. No statement of its own. -/
import Derived.Test.YtfhodppaelfcfaaDoorSp4
import Derived.Test.YtfhodppaelfcfaaDoorFoP
set_option maxRecDepth 100000
namespace Go.Proofs.YtfhodppaelfcfaaDoor
open Go.RowKit
def upS : ByteArray := ⟨#[65, 66, 67, 68, 69, 70, 71, 72, 73, 74, 75, 76, 77, 78, 79, 80, 81, 82, 83, 84, 85, 86, 87, 88, 89, 90]⟩
def loS : ByteArray := ⟨#[97, 98, 99, 100, 101, 102, 103, 104, 105, 106, 107, 108, 109, 110, 111, 112, 113, 114, 115, 116, 117, 118, 119, 120, 121, 122]⟩
theorem upS_at : ∀ j : Nat, (h : j < 26) → (upS[j]'h).toNat = 65 + j := by decide +kernel
theorem loS_at : ∀ j : Nat, j < 26 → loS.extract j (j + 1) = ⟨#[UInt8.ofNat (97 + j)]⟩ := by decide +kernel
def lwJ (b : UInt8) (j : Nat) : UInt8 := if 65 ≤ b.toNat ∧ b.toNat < 65 + j then lowU b else b
theorem lwJ_low : ∀ m : Nat, m < 256 → lwJ (UInt8.ofNat m) 26 = lowU (UInt8.ofNat m) := by decide +kernel
theorem lowU_up : ∀ j : Nat, j < 26 → lowU (UInt8.ofNat (65 + j)) = UInt8.ofNat (97 + j) := by decide +kernel
theorem lwJ_26 (b : UInt8) : lwJ b 26 = lowU b := by
  have := lwJ_low b.toNat b.toNat_lt
  rwa [UInt8.ofNat_toNat] at this
theorem foldR_p (s : ByteArray) (hs : s.size ≤ 1099511627776) : APure Tryd.prog 57 [.s s] (.s (foldB s)) [] := by
  have hmx : maxLen = 9223372036854775807 := rfl
  refine APure.of rfl (ACalls.of_vc T_ok mixed Tryd.func57 rfl Tryd.call57 ?_)
  refine vc_loop [3, 4] (fun g vals st' => ∃ (k : Nat) (y : ByteArray), k + g = s.size ∧ vals = [.s y, .i k] ∧ y = ⟨(foldL (s.data.toList.take k)).toArray⟩) s.size rfl ⟨0, ⟨#[]⟩, by omega, rfl, rfl⟩ ?_
  rintro g vals st' ⟨k, y, hk, rfl, hy⟩
  refine cnd_split (fun hd => ?_) (fun hd => ?_)
  · have hd := of_decide_eq_true hd
    have k1 : k < s.size := by omega
    have ysz : y.size = k := by
      rw [hy]
      show (Array.size _) = _
      rw [List.size_toArray]
      unfold foldL
      rw [List.length_map, List.length_take, blen]; omega
    intro c hc
    rw [IntWalk.i64_in _ (by omega)] at hc
    obtain rfl : c = ((k + 1 : Nat) : Int) := by omega
    refine ⟨k + 1, rfl, k, rfl, by omega, by omega, ?_⟩
    refine vc_loop [5, 6] (fun g2 vals st2 => ∃ (j : Nat) (x : ByteArray), j + g2 = 26 ∧ vals = [.s x, .i j] ∧ x = ⟨#[lwJ s[k] j]⟩) 26 rfl ⟨0, s.extract k (k + 1), by omega, rfl, by rw [ext1 s k k1]; unfold lwJ; rw [if_neg (by omega)]⟩ ?_
    rintro g2 vals st2 ⟨j, x, hj, rfl, hx⟩
    refine cnd_split (fun hd2 => ?_) (fun hd2 => ?_)
    · have hd2 := of_decide_eq_true hd2
      have j1 : j < 26 := by omega
      have hu := upS_at j j1
      refine .e (by kernel_rfl) ?_
      refine ⟨j, j1, rfl, ?_⟩
      refine ⟨k, k1, rfl, ?_⟩
      have next : (s[k].toNat = 65 + j → UInt8.ofNat (97 + j) = lwJ s[k] (j + 1)) ∧ (s[k].toNat ≠ 65 + j → lwJ s[k] j = lwJ s[k] (j + 1)) := by
        constructor
        · intro h
          unfold lwJ
          rw [if_pos ⟨by omega, by omega⟩, ← lowU_up j j1, ← h, UInt8.ofNat_toNat]
        · intro h
          unfold lwJ
          by_cases h2 : 65 ≤ s[k].toNat ∧ s[k].toNat < 65 + j
          · rw [if_pos h2, if_pos ⟨h2.1, by omega⟩]
          · rw [if_neg h2, if_neg (by omega)]
      refine cnd_split (fun h3 => ?_) (fun h3 => ?_)
      · have h3 : ((upS[j]'j1).toNat : Int) = (s[k].toNat : Int) := beq_iff_eq.1 h3
        intro c hc
        rw [IntWalk.i64_in _ (by omega)] at hc
        obtain rfl : c = ((j + 1 : Nat) : Int) := by omega
        refine ⟨j + 1, rfl, j, rfl, by omega, by show j + 1 ≤ 26; omega, ?_⟩
        intro c hc
        rw [IntWalk.i64_in _ (by omega)] at hc
        obtain rfl : c = ((j + 1 : Nat) : Int) := by omega
        refine ⟨g2 - 1, by omega, j + 1, _, by omega, rfl, ?_⟩
        rw [← next.1 (by omega)]
        exact loS_at j j1
      · have h3 : ¬ ((upS[j]'j1).toNat : Int) = (s[k].toNat : Int) := beq_eq_false_iff_ne.1 h3
        intro c hc
        rw [IntWalk.i64_in _ (by omega)] at hc
        obtain rfl : c = ((j + 1 : Nat) : Int) := by omega
        exact ⟨g2 - 1, by omega, j + 1, x, by omega, rfl, by rw [hx, next.2 (fun e => h3 (by omega))]⟩
    · have hd2 := of_decide_eq_false hd2
      obtain rfl : j = 26 := by omega
      rw [lwJ_26] at hx
      have xsz : x.size = 1 := by rw [hx]; rfl
      refine ⟨by omega, ?_⟩
      intro c hc
      rw [IntWalk.i64_in _ (by omega)] at hc
      obtain rfl : c = ((k + 1 : Nat) : Int) := by omega
      refine ⟨g - 1, by omega, k + 1, _, by omega, rfl, ?_⟩
      rw [hy, hx, List.take_add_one, at_lt k1]
      apply inL
      rw [app_l]
      simp [foldL]
  · have hd := of_decide_eq_false hd
    refine rets ?_
    rw [hy, List.take_of_length_le (by rw [blen]; omega)]
    rfl
theorem sameO_p (a b : ByteArray) (ha : a.size ≤ maxLen) (hb : b.size ≤ maxLen) : APure Tryd.prog 99 [.s a, .s b] (.b (decide (foldB a = foldB b))) [] := by
  refine APure.of rfl (ACalls.of_vc T_ok mixed Tryd.func99 rfl Tryd.call99 ?_)
  refine .p rfl (foldO_p a ha) ?_
  refine .p rfl (foldO_p b hb) ?_
  intro t ht
  exact retb (by rw [Bool.eq_iff_iff, ht, decide_eq_true_eq])
end Go.Proofs.YtfhodppaelfcfaaDoor
