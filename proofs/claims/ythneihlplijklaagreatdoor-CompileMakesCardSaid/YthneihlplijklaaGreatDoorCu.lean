/- What the compiler makes: the law. No statement of its own. -/
import Derived.Test.YthneihlplijklaaGreatDoorCs
import Derived.Test.YthneihlplijklaaGreatDoorCt
set_option linter.unusedSimpArgs false
set_option linter.unusedVariables false
set_option maxRecDepth 100000
namespace Go.Proofs.YthneihlplijklaaGreatDoor
open Go.RowKit
theorem compW_cases (sd : Int) (l : List Rl) : ((compW sd l).1 = [] ∧ (compW sd l).2 ≠ 0) ∨ (compW sd l = (allW (sideL sd l), 0) ∧ ∀ r ∈ l, checkR r = 0) := by
  unfold compW
  split
  · exact .inl ⟨rfl, by decide⟩
  · split
    · rename_i h
      exact .inl ⟨rfl, h⟩
    · rename_i h
      exact .inr ⟨rfl, (checkL_ok (Decidable.not_not.1 h)).1⟩
theorem compW_check (sd : Int) (l : List Rl) : checkO (compW sd l).1 0 = (0, 0) := by
  rcases compW_cases sd l with ⟨h, _⟩ | ⟨h, hz⟩
  · rw [h]; rfl
  · rw [h]
    exact checkO_all _ _ (Nat.le_refl _) (fun r h => hz r (sideL_mem h)) 0
theorem compW_len (sd : Int) (l : List Rl) : (compW sd l).1.length ≤ 2 * l.length := by
  rcases compW_cases sd l with ⟨h, _⟩ | ⟨h, hz⟩
  · rw [h]; exact Nat.zero_le _
  · rw [h]
    have := allW_len _ _ (Nat.le_refl (sideL sd l).length)
    have := sideL_len sd l
    show (allW (sideL sd l)).length ≤ _
    omega
theorem compW_ps (sd : Int) (l : List Rl) (hok : ∀ r ∈ l, r.Ok) : ∀ o ∈ (compW sd l).1, o.ps.length ≤ 1000000 := by
  rcases compW_cases sd l with ⟨h, _⟩ | ⟨h, hz⟩
  · rw [h]; intro o ho; cases ho
  · rw [h]
    exact allW_ps _ _ (Nat.le_refl (sideL sd l).length) (fun r h => hok r (sideL_mem h))
section
attribute [local irreducible] vcApp
set_option maxHeartbeats 1000000 in
theorem compileMakes_p (sd : Int) (l0 : List Rl) : APure Tryz.prog 3 [.i sd, .sl .no 8 (rlL l0)] (.b true) [] := by
  have hmx : maxLen = 9223372036854775807 := rfl
  have q0 := few35_p l0
  have hok := fewR_all l0
  have hl : ((l0.take 70).map fewR).length ≤ 70 := by rw [List.length_map, List.length_take]; omega
  generalize (l0.take 70).map fewR = l at q0 hok hl
  have el := rlL_len l
  have q1 := compile_p sd l (by omega) hok
  have q2 := compileR_p sd l (by omega) hok
  have hcl := compW_len sd l
  have hck := compW_check sd l
  have hcp := compW_ps sd l hok
  generalize (compW sd l).2 = ce at q1 q2
  generalize (compW sd l).1 = os at q1 q2 hcl hck hcp
  have q3 := checkO_p os (by omega)
  rw [hck] at q3
  have q4 := same36_p os os (by omega) (by omega) hcp hcp
  rw [decide_eq_true rfl] at q4
  refine APure.of rfl (ACalls.of_vc T_ok mixed Tryz.func3 rfl Tryz.call3 ?_)
  refine .p rfl awake36_p ?_
  refine .p rfl q0 ?_
  refine .p rfl q1 ?_
  refine .p rfl q2 ?_
  refine .p rfl q3 ?_
  refine vc_loop [11] (fun g vals st' => ∃ k : Nat, k + g = l.length ∧ vals = [.i k]) l.length rfl ⟨0, by omega, rfl⟩ ?_
  rintro g vals st' ⟨k, hk, rfl⟩
  refine cnd_split (fun hd => ?_) (fun hd => ?_)
  · have hd := of_decide_eq_true hd
    have k1 : k < l.length := by omega
    have hrk := hok _ (List.getElem_mem k1)
    have p1 := own36_p l[k] hrk
    have p2 := ownR36_p l[k]
    have hps1 : ∀ o ∈ [ownO l[k]], o.ps.length ≤ 1000000 := fun o ho => by
      rw [List.mem_singleton.1 ho]; exact ownO_ps _ hrk
    have p3 := same36_p [ownO l[k]] [ownO l[k]] (by simp) (by simp) hps1 hps1
    rw [decide_eq_true rfl] at p3
    refine .x (by kernel_rfl) ?_
    refine ⟨k, _, rfl, rlL_at k1, ?_⟩
    refine .p rfl p1 ?_
    refine ⟨k, _, rfl, rlL_at k1, ?_⟩
    refine .p rfl p2 ?_
    refine .p rfl p3 ?_
    intro c hc
    rw [IntWalk.i64_in _ (by omega)] at hc
    obtain rfl : c = ((k + 1 : Nat) : Int) := by omega
    exact ⟨g - 1, by omega, k + 1, by omega, rfl⟩
  · refine .p rfl q4 ?_
    refine cnd_split (fun h => ?_) (fun h => absurd rfl (beq_eq_false_iff_ne.1 h))
    exact retb rfl
end
end Go.Proofs.YthneihlplijklaaGreatDoor
