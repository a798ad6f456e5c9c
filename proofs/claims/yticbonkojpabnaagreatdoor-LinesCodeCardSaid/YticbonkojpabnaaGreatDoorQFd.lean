/- Fields: checked, and written as lines, by the program and by the document. No statement of its own. -/
import Derived.Test.YticbonkojpabnaaGreatDoorQPf
import Derived.Test.YticbonkojpabnaaGreatDoorQMs
set_option linter.unusedSimpArgs false
set_option linter.unusedVariables false
set_option maxRecDepth 100000
namespace Go.Proofs.YticbonkojpabnaaGreatDoor
open Go.RowKit
theorem isValue_f : ByteF 169 valI := fun n _ _ => isValue_p n
theorem trimCB (s : ByteArray) : trimC s spcS = trimB s := rfl
theorem checkF_1 {a b : ByteArray} (h : tokB a = false) : checkF (a, b) = 21 := by unfold checkF; rw [if_pos h]
theorem checkF_2 {a b : ByteArray} (h : tokB a = true) (h2 : allI valI b = false ∨ trimB b ≠ b) : checkF (a, b) = 25 := by unfold checkF; rw [if_neg (by rw [h]; decide), if_pos h2]
theorem checkF_3 {a b : ByteArray} (h : tokB a = true) (h2 : allI valI b = true) (h3 : trimB b = b) : checkF (a, b) = 0 := by
  unfold checkF
  rw [if_neg (by rw [h]; decide), if_neg (fun h => h.elim (fun h => by have h : allI valI b = false := h; rw [h2] at h; cases h) (fun h => h h3))]
theorem check_p (a b : ByteArray) (ha : a.size ≤ 1099511627776) (hb : b.size ≤ 1099511627776) : APure Tryz.prog 133 [.agg [.s a, .s b]] (.i (checkF (a, b))) [] := by
  have hmx : maxLen = 9223372036854775807 := rfl
  have ht := trim_p b spcS (by omega) (by decide) (by decide)
  rw [trimCB] at ht
  refine APure.of rfl (ACalls.of_vc T_ok mixed Tryz.func133 rfl Tryz.call133 ?_)
  refine ⟨_, rfl, ?_⟩
  refine .p rfl (token_p a (by omega)) ?_
  refine cnd_split (fun h => ?_) (fun h => ?_)
  · rw [Bool.not_eq_true'] at h
    exact reti (checkF_1 h).symm
  · rw [Bool.not_eq_false'] at h
    refine .x (by kernel_rfl) ?_
    refine ⟨_, rfl, ?_⟩
    refine .p rfl (allF_p isValue_f b (by omega)) ?_
    refine cnd_split (fun h2 => ?_) (fun h2 => ?_)
    · rw [Bool.not_eq_true'] at h2
      exact reti (checkF_2 h (.inl h2)).symm
    · rw [Bool.not_eq_false'] at h2
      refine ⟨_, rfl, ?_⟩
      refine .p rfl ht ?_
      refine ⟨_, rfl, ?_⟩
      intro t htt
      cases t with
      | true =>
        have h3 : trimB b ≠ b := fun e => by have := htt.2 e; cases this
        exact reti (checkF_2 h (.inr h3)).symm
      | false => exact reti (checkF_3 h h2 (htt.1 rfl)).symm
end Go.Proofs.YticbonkojpabnaaGreatDoor
