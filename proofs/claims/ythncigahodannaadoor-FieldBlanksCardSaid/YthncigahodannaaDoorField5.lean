/- The reference's Check and Text; the law's few. -/
import Derived.Test.YthncigahodannaaDoorField4
namespace Go.Proofs.YthncigahodannaaDoor
open Go.RowKit

set_option maxHeartbeats 1000000 in
theorem r12Check_any (a b : ByteArray) (ha : a.size ≤ 1000000) (hb : b.size ≤ 1000000) (w : World) :
    Calls Tryd.prog 11 #[.agg #[.string a, .string b]] w fun e w' => e = .returned (.int .i64 (checkF (a, b))) ∧ Chg w w' (fun _ => False) := by
  have hT := fun W => r1Token_any a (by unfold maxLen; omega) W
  go_enter Tryd.func11, Tryd.ntmps11
  go_wp2_with fail
  refine (hT _).mono ?_; rintro e w1 ⟨rfl, rfl⟩
  have hr := B2.new w (.string a) (.string b) 25
  have hw : Chg w (w.alloc (.cells #[.string a, .string b] 25)) (fun _ => False) := (Chg.refl w (fun _ => False)).alloc _
  have r0 := hr.c0
  have r1 := hr.c1
  have rl := hr.lt
  clear hT
  cases hta : tokB a
  · have hp : checkF (a, b) = 21 := by unfold checkF; rw [if_pos hta]
    go_wp2_with fail
    go_ret
    exact ⟨by rw [hp]; rfl, hw⟩
  · have HTA := Lib.hid hta
    have HT := fun W => r6Trim_any b (by unfold maxLen; omega) W
    have hA := fun (W : World) => r12values_any b (by unfold maxLen; omega) W
    cases hal : allI valI b
    · have hp : checkF (a, b) = 25 := by unfold checkF; rw [if_neg (by rw [hta]; decide), if_pos (.inl hal)]
      rw [hal] at hA
      clear hal hta
      go_wp2_with fail
      first | go_region_with (first | (go_at_call 26; refine (hA _).mono ?_; rintro e w' ⟨rfl, rfl⟩)) | fail
      all_goals
        go_wp2_with fail
        go_ret
        exact ⟨by rw [hp]; rfl, by repeat (first | with_reducible exact Chg.refl _ _ | assumption | refine Chg.drewN ?_ _ | refine Chg.drew ?_ | refine Chg.alloc ?_ _ | refine Chg.trans ?_ (by assumption))⟩
    · have HAL := Lib.hid hal
      rw [hal] at hA
      clear hal hta
      have hp : checkF (a, b) = if trimB b ≠ b then 25 else 0 := by
        unfold checkF
        rw [if_neg (by rw [HTA.out]; decide)]
        simp only [HAL.out, Bool.true_eq_false, false_or]
      generalize trimB b = t at *
      by_cases heq : t = b
      · rw [if_neg (fun h => h heq)] at hp
        subst heq
        go_wp2_with fail
        first | go_region_with (first | (go_at_call 26; refine (hA _).mono ?_; rintro e w' ⟨rfl, rfl⟩) | (go_at_call 24; refine (HT _).mono ?_; rintro e w' ⟨rfl, rfl⟩)) | fail
        all_goals
          go_wp2_with fail
          go_ret
          exact ⟨by rw [hp]; rfl, by repeat (first | with_reducible exact Chg.refl _ _ | assumption | refine Chg.drewN ?_ _ | refine Chg.drew ?_ | refine Chg.alloc ?_ _ | refine Chg.trans ?_ (by assumption))⟩
      · rw [if_pos heq] at hp
        have hz : (t.toList == b.toList) = false := by
          rw [beq_eq_false_iff_ne, Lib.toList_data, Lib.toList_data]
          intro h
          exact heq (ByteArray.ext (Array.toList_inj.1 h))
        clear heq
        go_wp2_with fail
        first | go_region_with (first | (go_at_call 26; refine (hA _).mono ?_; rintro e w' ⟨rfl, rfl⟩) | (go_at_call 24; refine (HT _).mono ?_; rintro e w' ⟨rfl, rfl⟩)) | fail
        all_goals
          go_wp2_with fail
          go_ret
          exact ⟨by rw [hp]; rfl, by repeat (first | with_reducible exact Chg.refl _ _ | assumption | refine Chg.drewN ?_ _ | refine Chg.drew ?_ | refine Chg.alloc ?_ _ | refine Chg.trans ?_ (by assumption))⟩

set_option maxHeartbeats 1000000 in
theorem r12Text_any (a b : ByteArray) (ha : a.size ≤ 1000000) (hb : b.size ≤ 1000000) (w : World) :
    Calls Tryd.prog 13 #[.agg #[.string a, .string b]] w fun e w' => e = .returned (.string (if b.size = 0 then a ++ ⟨#[58]⟩ else a ++ ⟨#[58, 32]⟩ ++ b)) ∧ Chg w w' (fun _ => False) := by
  have hw : Chg w (w.alloc (.cells #[.string a, .string b] 25)) (fun _ => False) := (Chg.refl w (fun _ => False)).alloc _
  have HW := Lib.hid hw
  clear hw
  by_cases hb0 : b.size = 0
  · have hz := empB0 hb0
    rw [if_pos hb0]
    clear hb0
    go_enter Tryd.func13, Tryd.ntmps13
    go_wp2_with fail
    go_ret
    exact ⟨rfl, HW.out⟩
  · have hz := empB1 (s := b) (by omega)
    rw [if_neg hb0]
    clear hb0
    go_enter Tryd.func13, Tryd.ntmps13
    go_wp2_with fail
    go_ret
    exact ⟨rfl, HW.out⟩

def fewB (s : ByteArray) : ByteArray := s.extract 0 (min s.size 300)
theorem fewB_size (s : ByteArray) : (fewB s).size ≤ 300 := by unfold fewB; rw [ext_size _ _ _ (Nat.min_le_left _ _)]; omega
theorem few_any (s : ByteArray) (hs : s.size ≤ maxLen) (w : World) :
    Calls Tryd.prog 7 #[.string s] w fun e w' => e = .returned (.string (fewB s)) ∧ w = w' := by
  unfold maxLen at hs
  go_enter Tryd.func7, Tryd.ntmps7
  have e : (min (s.size : Int) 300).toNat = min s.size 300 := by omega
  go_wp2_with fail
  go_ret
  exact ⟨by show _ = Ending.returned (.string (s.extract 0 (min s.size 300))); rw [← e]; rfl, rfl⟩
end Go.Proofs.YthncigahodannaaDoor
