/- The document's word: a token or a quoted text. No statement of its own. -/
import Derived.Test.YtgaidgblihnldaaGreatDoorSm
import Derived.Test.YtgaidgblihnldaaGreatDoorSb
import Derived.Test.YtgaidgblihnldaaGreatDoorSp
set_option linter.unusedSimpArgs false
set_option linter.unusedVariables false
set_option maxRecDepth 100000
namespace Go.Proofs.YtgaidgblihnldaaGreatDoor
open Go.RowKit
theorem word5M_p (s : ByteArray) (hs : s.size ≤ 1099511627776) : APure Tryz.prog 55 [.s s] (.tup [.s (wordR s).1, .i (wordR s).2]) [] := by
  have hmx : maxLen = 9223372036854775807 := rfl
  have hW : wordS s 0 = if 0 < tw tokI s 0 then some (s.extract 0 (0 + tw tokI s 0), 0 + tw tokI s 0) else (frontS s 0).map fun x => (⟨x.1.toArray⟩, x.2) := rfl
  have hF := front5_p s hs
  refine APure.of rfl (ACalls.of_vc T_ok mixed Tryz.func55 rfl Tryz.call55 ?_)
  refine vc_loop [4] (fun g vals st' => ∃ m : Nat, m + g = s.size ∧ vals = [.i m] ∧ ∀ j (hj : j < s.size), 0 ≤ j → j < m → tokI (s[j].toNat : Int) = true) s.size rfl ⟨0, by omega, rfl, fun j _ _ h => absurd h (by omega)⟩ ?_
  rintro g vals st' ⟨m, hm, rfl, hall⟩
  refine cnd_split (fun hd => ?_) (fun hd => ?_)
  · have hd := of_decide_eq_true hd
    have m1 : m < s.size := by omega
    refine ⟨m, m1, rfl, ?_⟩
    refine .p rfl (tok1_p _ (by omega) (by have := s[m].toNat_lt; omega)) ?_
    refine cnd_split (fun h1 => ?_) (fun h1 => ?_)
    · intro c hc
      rw [IntWalk.i64_in _ (by omega)] at hc
      obtain rfl : c = ((m + 1 : Nat) : Int) := by omega
      refine ⟨g - 1, by omega, m + 1, by omega, rfl, fun j hj h0 hjm => ?_⟩
      by_cases e : j = m
      · subst e; exact h1
      · exact hall j hj h0 (by omega)
    · have ht := tw_at hall (by omega) (by omega) (fun _ => h1)
      rw [Nat.zero_add] at ht
      refine cnd_split (fun h2 => ?_) (fun h2 => ?_)
      · have h2 := of_decide_eq_true h2
        have h3 : 0 < m := by omega
        refine ⟨m, rfl, Nat.zero_le _, by omega, ?_⟩
        rw [ht, Nat.zero_add, if_pos h3] at hW
        have : wordR s = (s.extract 0 m, (m : Int)) := by unfold wordR; rw [hW]
        rw [this]
        rfl
      · have h2 := of_decide_eq_false h2
        have h3 : ¬ 0 < m := by omega
        rw [ht, if_neg h3] at hW
        have : wordR s = frontR s := by unfold wordR frontR; rw [hW]; cases frontS s 0 <;> rfl
        rw [this]
        refine .p rfl hF ?_
        rfl
  · have hd := of_decide_eq_false hd
    have ht := tw_at hall (by omega) (by omega) (fun h => absurd h (by omega))
    rw [Nat.zero_add] at ht
    refine cnd_split (fun h2 => ?_) (fun h2 => ?_)
    · have h2 := of_decide_eq_true h2
      have h3 : 0 < m := by omega
      refine ⟨m, rfl, Nat.zero_le _, by omega, ?_⟩
      rw [ht, Nat.zero_add, if_pos h3] at hW
      have : wordR s = (s.extract 0 m, (m : Int)) := by unfold wordR; rw [hW]
      rw [this]
      rfl
    · have h2 := of_decide_eq_false h2
      have h3 : ¬ 0 < m := by omega
      rw [ht, if_neg h3] at hW
      have : wordR s = frontR s := by unfold wordR frontR; rw [hW]; cases frontS s 0 <;> rfl
      rw [this]
      refine .p rfl hF ?_
      rfl
end Go.Proofs.YtgaidgblihnldaaGreatDoor
