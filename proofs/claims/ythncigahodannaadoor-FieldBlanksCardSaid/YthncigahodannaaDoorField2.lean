/- fieldline: Check, Text. -/
import Derived.Test.YthncigahodannaaDoorField
import Derived.Deep.RegionWith
namespace Go.Proofs.YthncigahodannaaDoor
open Go.RowKit

def checkF (f : Fld) : Int := if tokB f.1 = false then 21 else if allI valI f.2 = false ∨ trimB f.2 ≠ f.2 then 25 else 0

set_option maxHeartbeats 1000000 in
theorem fCheck_any (a b : ByteArray) (ha : a.size ≤ 1000000) (hb : b.size ≤ 1000000) (w : World) :
    Calls Tryd.prog 12 #[.agg #[.string a, .string b]] w fun e w' => e = .returned (.int .i64 (checkF (a, b))) ∧ Chg w w' (fun _ => False) := by
  have hT := fun W => token_any a (by unfold maxLen; omega) W
  go_enter Tryd.func12, Tryd.ntmps12
  go_wp2_with fail
  refine (hT _).mono ?_; rintro e w1 ⟨rfl, hc⟩
  have hr := (B2.new w (.string a) (.string b) 25).chg hc (fun h => h)
  have hw : Chg w w1 (fun _ => False) := ((Chg.refl w (fun _ => False)).alloc _).trans hc
  clear hc hT
  cases hta : tokB a
  · have hp : checkF (a, b) = 21 := by unfold checkF; rw [if_pos hta]
    go_wp2_with fail
    go_ret
    exact ⟨by rw [hp]; rfl, hw⟩
  · have r1 := hr.c1
    have rl := hr.lt
    have HT := trim_any b (by unfold maxLen; omega)
    cases hal : allI valI b
    · have hp : checkF (a, b) = 25 := by unfold checkF; rw [if_neg (by rw [hta]; decide), if_pos (.inl hal)]
      have hA := fun (g o c : Nat) (W : World) (h : W.cell? ⟨g, o, none⟩ = some (.string b)) => all_value b (by unfold maxLen; omega) g o c W h
      rw [hal] at hA
      clear hal
      go_wp2_with fail
      first | go_region_with (first | (go_at_call 19; refine (hA _ 0 1 _ ?_).mono ?_; (simp [*]); rintro e w' ⟨rfl, rfl⟩)) | fail
      all_goals
        go_wp2_with fail
        go_ret
        exact ⟨by rw [hp]; rfl, by repeat (first | with_reducible exact Chg.refl _ _ | assumption | refine Chg.drewN ?_ _ | refine Chg.drew ?_ | refine Chg.alloc ?_ _ | refine Chg.trans ?_ (by assumption))⟩
    · have hA := fun (g o c : Nat) (W : World) (h : W.cell? ⟨g, o, none⟩ = some (.string b)) => all_value b (by unfold maxLen; omega) g o c W h
      rw [hal] at hA
      have HAL := Lib.hid hal
      clear hal
      have hp : checkF (a, b) = if trimB b ≠ b then 25 else 0 := by
        unfold checkF
        rw [if_neg (by rw [hta]; decide)]
        simp only [HAL.out, Bool.true_eq_false, false_or]
      generalize trimB b = t at *
      by_cases heq : t = b
      · rw [if_neg (fun h => h heq)] at hp
        subst heq
        go_wp2_with fail
        first | go_region_with (first | (go_at_call 19; refine (hA _ 0 1 _ ?_).mono ?_; (simp [*]); rintro e w' ⟨rfl, rfl⟩) | (go_at_call 22; refine (HT _).mono ?_; rintro e w' ⟨rfl, hc2⟩; have hk := ((hr.chg (S := fun _ => False) (by repeat (first | exact Chg.refl _ _ | assumption | refine Chg.drewN ?_ _ | refine Chg.drew ?_ | refine Chg.alloc ?_ _)) (fun h => h)).chg hc2 (fun h => h)).c1; have hk2 := hc2.size; simp at hk2)) | fail

        all_goals
          go_wp2_with fail
          go_ret
          exact ⟨by rw [hp]; rfl, by repeat (first | with_reducible exact Chg.refl _ _ | assumption | refine Chg.drewN ?_ _ | refine Chg.drew ?_ | refine Chg.alloc ?_ _ | refine Chg.trans ?_ (by assumption))⟩
      · rw [if_pos heq] at hp
        have hz : (t.toList == b.toList) = false := by
          rw [beq_eq_false_iff_ne, Lib.toList_data, Lib.toList_data]
          intro h
          exact heq (ByteArray.ext (Array.toList_inj.1 h))
        clear heq
        go_wp2_with fail
        first | go_region_with (first | (go_at_call 19; refine (hA _ 0 1 _ ?_).mono ?_; (simp [*]); rintro e w' ⟨rfl, rfl⟩) | (go_at_call 22; refine (HT _).mono ?_; rintro e w' ⟨rfl, hc2⟩; have hk := ((hr.chg (S := fun _ => False) (by repeat (first | exact Chg.refl _ _ | assumption | refine Chg.drewN ?_ _ | refine Chg.drew ?_ | refine Chg.alloc ?_ _)) (fun h => h)).chg hc2 (fun h => h)).c1; have hk2 := hc2.size; simp at hk2)) | fail

        all_goals
          go_wp2_with fail
          go_ret
          exact ⟨by rw [hp]; rfl, by repeat (first | with_reducible exact Chg.refl _ _ | assumption | refine Chg.drewN ?_ _ | refine Chg.drew ?_ | refine Chg.alloc ?_ _ | refine Chg.trans ?_ (by assumption))⟩
end Go.Proofs.YthncigahodannaaDoor
