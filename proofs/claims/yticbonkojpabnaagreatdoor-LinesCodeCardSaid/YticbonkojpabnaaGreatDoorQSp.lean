/- CommasSplits: the document's reading of quoted texts and comments, its trim. No statement of its own. -/
import Derived.Test.YticbonkojpabnaaGreatDoorQSb
import Derived.Test.YticbonkojpabnaaGreatDoorQFoP
set_option linter.unusedSimpArgs false
set_option linter.unusedVariables false
set_option maxRecDepth 100000
namespace Go.Proofs.YticbonkojpabnaaGreatDoor
open Go.RowKit
section
attribute [local irreducible] vcApp
end
theorem one_p (n : Int) (l : ByteArray) : APure Tryz.prog 206 [.int .u8 n, .s l] (.b (decide (0 ≤ Lib.indexByte l.data.toList n.toNat.toUInt8))) [] := by
  refine APure.of rfl (ACalls.of_vc T_ok mixed Tryz.func206 rfl Tryz.call206 ?_)
  refine .p rfl (indexByte_p l n) ?_
  exact retb rfl
def tokSB : ByteArray := ⟨#[33, 35, 36, 37, 38, 39, 42, 43, 45, 46, 94, 95, 96, 124, 126]⟩
theorem isToken_p (n : Int) (h0 : 0 ≤ n) (h1 : n ≤ 255) : APure Tryz.prog 168 [.int .u8 n] (.b (tokI n)) [] := by
  refine APure.of rfl (ACalls.of_vc T_ok mixed Tryz.func168 rfl Tryz.call168 ?_)
  unfold tokI
  refine .p rfl (isAlpha_p n h0 h1) ?_
  cases alpI n with
  | true =>
    exact retb rfl
  | false =>
    refine .p rfl (isDigit_p n) ?_
    cases digI n with
    | true => exact retb rfl
    | false =>
      refine .p rfl (one_p n tokSB) ?_
      exact retb rfl
theorem isToken_f : ByteF 168 tokI := fun n h0 h1 => isToken_p n h0 h1
theorem allF_p {f : FuncId} {q : Int → Bool} (hq : ByteF f q) (s : ByteArray) (hs : s.size ≤ maxLen) : APure Tryz.prog 167 [.lit (.func (.func f) #[] #[]), .sl .no 1 [[.s s]]] (.b (allI q s)) [] := by
  unfold maxLen at hs
  refine APure.of rfl (ACalls.of_vc T_ok mixed Tryz.func167 rfl Tryz.call167 ?_)
  refine vc_loop [10] (fun g vals st' => (g = 1 ∧ vals = [.i 0]) ∨ (g = 0 ∧ vals = [.i 1] ∧ allI q s = true)) 1 rfl (.inl ⟨rfl, rfl⟩) ?_
  rintro g vals st' (⟨rfl, rfl⟩ | ⟨rfl, rfl, ha⟩)
  · refine ⟨0, _, rfl, rfl, ?_⟩
    refine vc_loop [16] (fun g2 vals st2 => ∃ k : Nat, k + g2 = s.size ∧ vals = [.i k] ∧ ARel q s k) s.size rfl ⟨0, by omega, rfl, fun j _ h => absurd h (by omega)⟩ ?_
    rintro g2 vals st2 ⟨k, hk, rfl, hr⟩
    refine cnd_split (fun hd => ?_) (fun hd => ?_)
    · have hd := of_decide_eq_true hd
      have k1 : k < s.size := by omega
      refine ⟨k, k1, rfl, ?_⟩
      refine .p rfl (hq _ (by omega) (by have := s[k].toNat_lt; omega)) ?_
      refine cnd_split (fun h2 => ?_) (fun h2 => ?_)
      · rw [Bool.not_eq_true'] at h2
        exact retb (allI_false k1 h2).symm
      · rw [Bool.not_eq_false'] at h2
        intro c hc
        rw [IntWalk.i64_in _ (by omega)] at hc
        obtain rfl : c = ((k + 1 : Nat) : Int) := by omega
        refine ⟨g2 - 1, by omega, k + 1, by omega, rfl, fun j hj hjk => ?_⟩
        by_cases e : j = k
        · subst e; exact h2
        · exact hr j hj (by omega)
    · have hd := of_decide_eq_false hd
      intro c hc
      obtain rfl : c = 1 := by rw [IntWalk.i64_in _ (by omega)] at hc; omega
      exact ⟨0, by omega, .inr ⟨rfl, rfl, allI_true fun j hj => hr j hj (by omega)⟩⟩
  · exact retb ha.symm
theorem token_p (s : ByteArray) (hs : s.size ≤ maxLen) : APure Tryz.prog 132 [.s s] (.b (tokB s)) [] := by
  refine APure.of rfl (ACalls.of_vc T_ok mixed Tryz.func132 rfl Tryz.call132 ?_)
  unfold tokB
  intro t ht
  have h0 := ht.trans (emp_iff s)
  cases t with
  | true =>
    have : 0 < s.size := by
      apply Decidable.byContradiction
      intro hc
      have := h0.2 (by omega)
      cases this
    rw [decide_eq_true this]
    refine .p rfl (allF_p isToken_f s hs) ?_
    exact retb rfl
  | false =>
    have : s.size = 0 := h0.1 rfl
    rw [show decide (0 < s.size) = false by rw [decide_eq_false_iff_not]; omega]
    exact retb rfl
section
attribute [local irreducible] vcApp
end
section
attribute [local irreducible] vcApp
end
end Go.Proofs.YticbonkojpabnaaGreatDoor
