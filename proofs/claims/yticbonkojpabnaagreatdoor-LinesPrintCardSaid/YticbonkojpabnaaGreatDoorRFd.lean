/- Fields: checked, and written as lines, by the program and by the document. No statement of its own. -/
import Derived.Test.YticbonkojpabnaaGreatDoorRPf
import Derived.Test.YticbonkojpabnaaGreatDoorRMs
set_option linter.unusedSimpArgs false
set_option linter.unusedVariables false
set_option maxRecDepth 100000
namespace Go.Proofs.YticbonkojpabnaaGreatDoor
open Go.RowKit
theorem isValue_f : ByteF 169 valI := fun n _ _ => isValue_p n
theorem trimCB (s : ByteArray) : trimC s spcS = trimB s := rfl
theorem checkF_1 {a b : ByteArray} (h : tokB a = false) : checkF (a, b) = 21 := by unfold checkF; rw [if_pos h]
theorem checkF_2 {a b : ByteArray} (h : tokB a = true) (h2 : allI valI b = false \/ trimB b ≠ b) : checkF (a, b) = 25 := by unfold checkF; rw [if_neg (by rw [h]; decide), if_pos h2]
theorem checkF_3 {a b : ByteArray} (h : tokB a = true) (h2 : allI valI b = true) (h3 : trimB b = b) : checkF (a, b) = 0 := by
 unfold checkF
 rw [if_neg (by rw [h]; decide), if_neg (fun h => h.elim (fun h => by have h : allI valI b = false := h; rw [h2] at h; cases h) (fun h => h h3))]
theorem check_p (a b : ByteArray) (ha : a.size <= 1099511627776) (hb : b.size <= 1099511627776) : APure Tryz.prog 133 [.agg [.s a, .s b]] (.i (checkF (a, b))) [] := by
 have hmx : maxLen = 9223372036854775807 := rfl
 have ht := trim_p b spcS (by omega) (by decide) (by decide)
 rw [trimCB] at ht
 refine APure.of rfl (ACalls.of_vc T_ok mixed Tryz.func133 rfl Tryz.call133 ?_)
 refine ⟨_, rfl, ?_⟩
 refine .p rfl (token_p a (by omega)) ?_
 refine cnd_split (fun h => ?_) (fun h => ?_)
 ·rw [Bool.not_eq_true'] at h
  exact reti (checkF_1 h).symm
 ·rw [Bool.not_eq_false'] at h
  refine .x (by kernel_rfl) ?_
  refine ⟨_, rfl, ?_⟩
  refine .p rfl (allF_p isValue_f b (by omega)) ?_
  refine cnd_split (fun h2 => ?_) (fun h2 => ?_)
  ·rw [Bool.not_eq_true'] at h2
   exact reti (checkF_2 h (.inl h2)).symm
  ·rw [Bool.not_eq_false'] at h2
   refine ⟨_, rfl, ?_⟩
   refine .p rfl ht ?_
   refine ⟨_, rfl, ?_⟩
   intro t htt
   cases t with
   | true =>
    have h3 : trimB b ≠ b := fun e => by have := htt.2 e; cases this
    exact reti (checkF_2 h (.inr h3)).symm
   | false => exact reti (checkF_3 h h2 (htt.1 rfl)).symm
theorem values12_p (s : ByteArray) (hs : s.size <= 1099511627776) : APure Tryz.prog 179 [.s s] (.b (allI valI s)) [] := by
 refine APure.of rfl (ACalls.of_vc T_ok mixed Tryz.func179 rfl Tryz.call179 ?_)
 refine vc_loop [3] (fun g vals st' => ∃ k : Nat, k + g = s.size /\ vals = [.i k] /\ ARel valI s k) s.size rfl ⟨0, by omega, rfl, fun j _ h => absurd h (by omega)⟩ ?_
 rintro g vals st' ⟨k, hk, rfl, hr⟩
 refine cnd_split (fun hd => ?_) (fun hd => ?_)
 ·have hd := of_decide_eq_true hd
  have k1 : k < s.size := by omega
  refine ⟨k, k1, rfl, ?_⟩
  refine .p rfl (value1_p _ (by omega) (by have := s[k].toNat_lt; omega)) ?_
  refine cnd_split (fun h2 => ?_) (fun h2 => ?_)
  ·rw [Bool.not_eq_true'] at h2
   exact retb (allI_false k1 h2).symm
  ·rw [Bool.not_eq_false'] at h2
   intro c hc
   rw [IntWalk.i64_in _ (by omega)] at hc
   obtain rfl : c = ((k + 1 : Nat) : Int) := by omega
   refine ⟨g - 1, by omega, k + 1, by omega, rfl, fun j hj hjk => ?_⟩
   by_cases e : j = k
   ·subst e; exact h2
   ·exact hr j hj (by omega)
 ·have hd := of_decide_eq_false hd
  exact retb (allI_true (fun j hj => hr j hj (by omega))).symm
theorem rcheck_p (a b : ByteArray) (ha : a.size <= 1099511627776) (hb : b.size <= 1099511627776) : APure Tryz.prog 140 [.agg [.s a, .s b]] (.i (checkF (a, b))) [] := by
 have hmx : maxLen = 9223372036854775807 := rfl
 have ht := trim6_p b hb
 rw [trimCB] at ht
 refine APure.of rfl (ACalls.of_vc T_ok mixed Tryz.func140 rfl Tryz.call140 ?_)
 refine ⟨_, rfl, ?_⟩
 refine .p rfl (token1_p a (by omega)) ?_
 refine cnd_split (fun h => ?_) (fun h => ?_)
 ·rw [Bool.not_eq_true'] at h
  exact reti (checkF_1 h).symm
 ·rw [Bool.not_eq_false'] at h
  refine .x (by kernel_rfl) ?_
  refine ⟨_, rfl, ?_⟩
  refine .p rfl (values12_p b hb) ?_
  refine cnd_split (fun h2 => ?_) (fun h2 => ?_)
  ·rw [Bool.not_eq_true'] at h2
   exact reti (checkF_2 h (.inl h2)).symm
  ·rw [Bool.not_eq_false'] at h2
   refine ⟨_, rfl, ?_⟩
   refine .p rfl ht ?_
   refine ⟨_, rfl, ?_⟩
   intro t htt
   cases t with
   | true =>
    have h3 : trimB b ≠ b := fun e => by have := htt.2 e; cases this
    exact reti (checkF_2 h (.inr h3)).symm
   | false => exact reti (checkF_3 h h2 (htt.1 rfl)).symm
end Go.Proofs.YticbonkojpabnaaGreatDoor
