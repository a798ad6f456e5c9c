/- The walks of the field laws. -/
import Derived.Test.YthncigahodannaaDoorField6
namespace Go.Proofs.YthncigahodannaaDoor
open Go.RowKit

def l12a : ByteArray := "Host : a".toUTF8
def l12b : ByteArray := "Host:a".toUTF8
set_option maxHeartbeats 1000000 in
theorem awake12_any (w : World) : Calls Tryd.prog 6 #[] w fun e w' => e = .returned (.bool true) ∧ Chg w w' (fun _ => False) := by
  have hP1 := fun W => fParse_any ⟨#[72, 111, 115, 116, 32, 58, 32, 97]⟩ (by decide +kernel) W
  have hP2 := fun W => fParse_any ⟨#[72, 111, 115, 116, 58, 97]⟩ (by decide +kernel) W
  have hT := fun W => fText_any ⟨#[72, 111, 115, 116]⟩ ⟨#[97]⟩ (by decide +kernel) (by decide +kernel) W
  rw [show parseF ⟨#[72, 111, 115, 116, 32, 58, 32, 97]⟩ = ((.empty, .empty), 22) from by decide +kernel] at hP1
  rw [show parseF ⟨#[72, 111, 115, 116, 58, 97]⟩ = ((⟨#[72, 111, 115, 116]⟩, ⟨#[97]⟩), 0) from by decide +kernel] at hP2
  rw [show textF (⟨#[72, 111, 115, 116]⟩, ⟨#[97]⟩) = (⟨#[72, 111, 115, 116, 58, 32, 97]⟩, 0) from by decide +kernel] at hT
  go_enter Tryd.func6, Tryd.ntmps6
  go_wp2_with fail
  refine (hP1 _).mono ?_; rintro e w1 ⟨rfl, hc1⟩
  go_wp2_with fail
  refine (hP2 _).mono ?_; rintro e w2 ⟨rfl, hc2⟩
  go_wp2_with fail
  refine (hT _).mono ?_; rintro e w3 ⟨rfl, hc3⟩
  have hr := (B2.new w2 (.string ⟨#[72, 111, 115, 116]⟩) (.string ⟨#[97]⟩) 25).chg hc3 (fun h => h)
  have r0 := hr.c0
  have r1 := hr.c1
  have rl := hr.lt
  have hw : Chg w w3 (fun _ => False) := by repeat (first | with_reducible exact Chg.refl _ _ | assumption | refine Chg.drewN ?_ _ | refine Chg.drew ?_ | refine Chg.alloc ?_ _ | refine Chg.trans ?_ (by assumption))
  clear hc1 hc2 hc3 hP1 hP2 hT
  go_wp2_with fail
  go_ret
  exact ⟨rfl, hw⟩

theorem parse_cases (s : ByteArray) : (∃ e : Int, parseF s = ((.empty, .empty), e) ∧ e ≠ 0 ∧ 0 ≤ e ∧ e ≤ 25) ∨
    ∃ a b, parseF s = ((a, b), 0) ∧ a.size ≤ s.size ∧ b.size ≤ s.size := by
  have h5 := trimB_size
  unfold parseF
  dsimp only
  split
  · exact .inl ⟨_, rfl, by decide, by decide, by decide⟩
  · split
    · exact .inl ⟨_, rfl, by decide, by decide, by decide⟩
    · split
      · exact .inl ⟨_, rfl, by decide, by decide, by decide⟩
      · split
        · exact .inl ⟨_, rfl, by decide, by decide, by decide⟩
        · split
          · exact .inl ⟨_, rfl, by decide, by decide, by decide⟩
          · have hn := tw_le tokI s 0 (Nat.zero_le _)
            refine .inr ⟨_, _, rfl, ?_, ?_⟩
            · rw [ext_size _ _ _ (by omega)]; omega
            · refine Nat.le_trans (h5 _) ?_
              rw [ext_size _ _ _ (Nat.le_refl _)]; omega

set_option maxHeartbeats 1000000 in
theorem fieldReads_any (s0 : ByteArray) (hs : s0.size ≤ maxLen) (w : World) :
    Calls Tryd.prog 3 #[.string s0] w fun e w' => e = .returned (.bool true) ∧ Chg w w' (fun _ => False) := by
  have hA := fun W => awake12_any W
  have hF := fun W => few_any s0 hs W
  have hz := fewB_size s0
  generalize fewB s0 = s at *
  have hP := fun W => fParse_any s (by omega) W
  have hR := fun W => r12Parse_any s (by omega) W
  simp only [parse_eq] at hR
  rcases parse_cases s with ⟨e, he, hn, h0, h25⟩ | ⟨a, b, he, ha, hb⟩
  · rw [he] at hP hR
    have hne : (e != 0) = true := by rw [bne_iff_ne]; exact hn
    have hT := fun W => fText_any .empty .empty (by decide) (by decide) W
    rw [show textF (.empty, .empty) = (.empty, 21) from by decide +kernel] at hT
    have hP2 := fun W => fParse_any .empty (by decide) W
    rw [show parseF .empty = ((.empty, .empty), 21) from by decide +kernel] at hP2
    clear he
    go_enter Tryd.func3, Tryd.ntmps3
    go_wp2_with fail
    refine (hA _).mono ?_; rintro e w1 ⟨rfl, hc1⟩
    go_wp2_with fail
    refine (hF _).mono ?_; rintro e w1' ⟨rfl, rfl⟩
    go_wp2_with fail
    refine (hP _).mono ?_; rintro e w2 ⟨rfl, hc2⟩
    go_wp2_with fail
    refine (hR _).mono ?_; rintro e w3 ⟨rfl, hc3⟩
    have hr := (B2.new w2 (.string .empty) (.string .empty) 25).chg hc3 (fun h => h)
    have r0 := hr.c0
    have r1 := hr.c1
    have rl := hr.lt
    have hw : Chg w w3 (fun _ => False) := by repeat (first | with_reducible exact Chg.refl _ _ | assumption | refine Chg.drewN ?_ _ | refine Chg.drew ?_ | refine Chg.alloc ?_ _ | refine Chg.trans ?_ (by assumption))
    clear hc1 hc2 hc3 hP hR hA hF
    go_wp2_with fail
    refine (hT _).mono ?_; rintro e w4 ⟨rfl, hc4⟩
    have hr4 := (hr.chg ((Chg.refl w3 (fun _ => False)).alloc (.cells #[.string .empty, .string .empty] 25)) (fun h => h)).chg hc4 (fun h => h)
    go_wp2_with fail
    refine (hP2 _).mono ?_; rintro e w5 ⟨rfl, hc5⟩
    have hr5 := hr4.chg hc5 (fun h => h)
    have r0 := hr5.c0
    have r1 := hr5.c1
    have rl := hr5.lt
    have hw5 : Chg w w5 (fun _ => False) := by repeat (first | with_reducible exact Chg.refl _ _ | assumption | refine Chg.drewN ?_ _ | refine Chg.drew ?_ | refine Chg.alloc ?_ _ | refine Chg.trans ?_ (by assumption))
    clear hr hr4 hc4 hc5 hT hP2 hw
    go_wp2_with fail
    go_ret
    exact ⟨rfl, by repeat (first | with_reducible exact Chg.refl _ _ | assumption | refine Chg.drewN ?_ _ | refine Chg.drew ?_ | refine Chg.alloc ?_ _ | refine Chg.trans ?_ (by assumption))⟩
  · rw [he] at hP hR
    have hpo := parse_ok (s := s) (by rw [he])
    rw [he] at hpo
    obtain ⟨hck, hsz⟩ := hpo
    have hp2 := parse_text hck
    have hto := text_ok hck
    have hT := fun W => fText_any a b (by omega) (by omega) W
    rw [show textF (a, b) = ((textF (a, b)).1, 0) from by rw [hto]] at hT
    dsimp only at hsz
    generalize (textF (a, b)).1 = t at *
    have hP2 := fun W => fParse_any t (by omega) W
    rw [hp2] at hP2
    clear he hp2 hto hck
    go_enter Tryd.func3, Tryd.ntmps3
    go_wp2_with fail
    refine (hA _).mono ?_; rintro e w1 ⟨rfl, hc1⟩
    go_wp2_with fail
    refine (hF _).mono ?_; rintro e w1' ⟨rfl, rfl⟩
    go_wp2_with fail
    refine (hP _).mono ?_; rintro e w2 ⟨rfl, hc2⟩
    go_wp2_with fail
    refine (hR _).mono ?_; rintro e w3 ⟨rfl, hc3⟩
    have hr := (B2.new w2 (.string a) (.string b) 25).chg hc3 (fun h => h)
    have r0 := hr.c0
    have r1 := hr.c1
    have rl := hr.lt
    have hw : Chg w w3 (fun _ => False) := by repeat (first | with_reducible exact Chg.refl _ _ | assumption | refine Chg.drewN ?_ _ | refine Chg.drew ?_ | refine Chg.alloc ?_ _ | refine Chg.trans ?_ (by assumption))
    clear hc1 hc2 hc3 hP hR hA hF
    go_wp2_with fail
    refine (hT _).mono ?_; rintro e w4 ⟨rfl, hc4⟩
    have hr4 := (hr.chg ((Chg.refl w3 (fun _ => False)).alloc (.cells #[.string a, .string b] 25)) (fun h => h)).chg hc4 (fun h => h)
    go_wp2_with fail
    refine (hP2 _).mono ?_; rintro e w5 ⟨rfl, hc5⟩
    have hr5 := hr4.chg hc5 (fun h => h)
    have r0 := hr5.c0
    have r1 := hr5.c1
    have rl := hr5.lt
    have hw5 : Chg w w5 (fun _ => False) := by repeat (first | with_reducible exact Chg.refl _ _ | assumption | refine Chg.drewN ?_ _ | refine Chg.drew ?_ | refine Chg.alloc ?_ _ | refine Chg.trans ?_ (by assumption))
    clear hr hr4 hc4 hc5 hT hP2 hw
    go_wp2_with fail
    go_ret
    have hd : decide ((t.size : Int) ≤ (s.size : Int) + 1) = true := by rw [decide_eq_true_eq]; omega
    exact ⟨by show Ending.returned (.bool (decide ((t.size : Int) ≤ (s.size : Int) + 1))) = _; rw [hd], by repeat (first | with_reducible exact Chg.refl _ _ | assumption | refine Chg.drewN ?_ _ | refine Chg.drew ?_ | refine Chg.alloc ?_ _ | refine Chg.trans ?_ (by assumption))⟩
end Go.Proofs.YthncigahodannaaDoor
