/- The walk of FieldWrites. -/
import Derived.Test.YthncigahodannaaDoorField7
namespace Go.Proofs.YthncigahodannaaDoor
open Go.RowKit

set_option maxHeartbeats 1000000 in
theorem fieldWrites_any (a0 b0 : ByteArray) (ha0 : a0.size ≤ maxLen) (hb0 : b0.size ≤ maxLen) (w : World) :
    Calls Tryd.prog 4 #[.agg #[.string a0, .string b0]] w fun e w' => e = .returned (.bool true) ∧ Chg w w' (fun _ => False) := by
  have hA := fun W => awake12_any W
  have hFa := fun W => few_any a0 ha0 W
  have hFb := fun W => few_any b0 hb0 W
  have ha := fewB_size a0
  have hb := fewB_size b0
  generalize fewB a0 = a at *
  generalize fewB b0 = b at *
  have hC := fun W => fCheck_any a b (by omega) (by omega) W
  have hR := fun W => r12Check_any a b (by omega) (by omega) W
  have hT := fun W => fText_any a b (by omega) (by omega) W
  have hcb : 0 ≤ checkF (a, b) ∧ checkF (a, b) ≤ 25 := by unfold checkF; split <;> (try split) <;> decide
  have hT0 : checkF (a, b) ≠ 0 → textF (a, b) = (.empty, checkF (a, b)) := fun h => by unfold textF; rw [if_pos h]
  have hT1 : checkF (a, b) = 0 → textF (a, b) = (if b.size = 0 then a ++ ⟨#[58]⟩ else a ++ ⟨#[58, 32]⟩ ++ b, 0) := fun h => text_ok h
  have hT2 : checkF (a, b) = 0 → parseF (textF (a, b)).1 = ((a, b), 0) := fun h => parse_text h
  have hX := fun W => r12Text_any a b (by omega) (by omega) W
  have HT0 := Lib.hid hT0
  have HT1 := Lib.hid hT1
  have HT2 := Lib.hid hT2
  clear hT0 hT1 hT2
  generalize checkF (a, b) = c at *
  generalize hx : (if b.size = 0 then a ++ ⟨#[58]⟩ else a ++ ⟨#[58, 32]⟩ ++ b) = x at *
  have hxs : x.size ≤ 602 := by
    rw [← hx]
    split
    · rw [ByteArray.size_append]; show a.size + 1 ≤ _; omega
    · rw [ByteArray.size_append, ByteArray.size_append]; show a.size + 2 + b.size ≤ _; omega
  clear hx
  go_enter Tryd.func4, Tryd.ntmps4
  go_wp2_with fail
  refine (hA _).mono ?_; rintro e w1 ⟨rfl, hc1⟩
  have hr := (B2.new w (.string a0) (.string b0) 25).chg hc1 (fun h => h)
  have hw1 : Chg w w1 (fun _ => False) := by repeat (first | with_reducible exact Chg.refl _ _ | assumption | refine Chg.drewN ?_ _ | refine Chg.drew ?_ | refine Chg.alloc ?_ _ | refine Chg.trans ?_ (by assumption))
  have r0 := hr.c0
  have r1 := hr.c1
  have rf0 := hr.fr 0
  have rf1 := hr.fr 1
  have rl := hr.lt
  have ru : w.heap.size ≤ w.heap.size := Nat.le_refl _
  go_wp2_with fail
  refine (hFa _).mono ?_; rintro e w2 ⟨rfl, rfl⟩
  go_wp2_with fail
  refine (hFb _).mono ?_; rintro e w2 ⟨rfl, rfl⟩
  have hr2 : B2 ((w1.setCell ⟨w.heap.size, 0, none⟩ (.string a)).setCell ⟨w.heap.size, 1, none⟩ (.string b)) w.heap.size (.string a) (.string b) 25 := ⟨by rw [heap_set (heap_set hr.blk _)]; rfl⟩
  have hw2 : Chg w ((w1.setCell ⟨w.heap.size, 0, none⟩ (.string a)).setCell ⟨w.heap.size, 1, none⟩ (.string b)) (fun _ => False) := (hw1.setCell (.inl (Nat.le_refl _)) _).setCell (.inl (Nat.le_refl _)) _
  clear hFa hFb hA
  go_wp2_with fail
  generalize (w1.setCell ⟨w.heap.size, 0, none⟩ (.string a)).setCell ⟨w.heap.size, 1, none⟩ (.string b) = w2 at *
  clear hc1 hr hw1 r0 r1 rf0 rf1 rl ru
  refine (hR _).mono ?_; rintro e w3 ⟨rfl, hc3⟩
  have hr3 := hr2.chg hc3 (fun h => h)
  have r30 := hr3.c0
  have r31 := hr3.c1
  have r3l := hr3.lt
  go_wp2_with fail
  refine (hT _).mono ?_; rintro e w4 ⟨rfl, hc4⟩
  have hr4 := hr3.chg hc4 (fun h => h)
  clear hr2 hr3 r30 r31 r3l
  have r40 := hr4.c0
  have r41 := hr4.c1
  have r4l := hr4.lt
  have hw4 : Chg w w4 (fun _ => False) := (hw2.trans hc3).trans hc4
  clear hw2 hc3 hc4 hR hT
  have hcw : IntKind.i64.wrap c = c := IntWalk.i64_in _ (by omega)
  by_cases hc0 : c = 0
  · have ht := HT1.out hc0
    have hp := HT2.out hc0
    rw [ht] at hp ⊢
    clear HT0 HT1 HT2 ht hcw
    subst hc0
    have hP := fun W => fParse_any x (by omega) W
    rw [hp] at hP
    clear hp
    go_wp2_with fail
    refine (hC _).mono ?_; rintro e w5 ⟨rfl, hc5⟩
    have hr5 := hr4.chg hc5 (fun h => h)
    clear hr4 r40 r41 r4l
    have r50 := hr5.c0
    have r51 := hr5.c1
    have r5l := hr5.lt
    have hw5 : Chg w w5 (fun _ => False) := hw4.trans hc5
    clear hw4 hc5 hC
    go_wp2_with fail
    refine (hP _).mono ?_; rintro e w6 ⟨rfl, hc6⟩
    have hr6 := hr5.chg hc6 (fun h => h)
    clear hr5 r50 r51 r5l
    have r60 := hr6.c0
    have r61 := hr6.c1
    have r6l := hr6.lt
    have hw6 : Chg w w6 (fun _ => False) := hw5.trans hc6
    clear hw5 hc6 hP
    go_wp2_with fail
    refine (hX _).mono ?_; rintro e w7 ⟨rfl, hc7⟩
    have hr7 := hr6.chg (((Chg.refl w6 (fun _ => False)).alloc _).trans hc7) (fun h => h)
    have hq := (B2.new w6 (.string a) (.string b) 25).chg hc7 (fun h => h)
    clear hr6 r60 r61 r6l
    have r70 := hr7.c0
    have r71 := hr7.c1
    have r7l := hr7.lt
    have q70 := hq.c0
    have q71 := hq.c1
    have q7l := hq.lt
    have hw7 : Chg w w7 (fun _ => False) := by repeat (first | with_reducible exact Chg.refl _ _ | assumption | refine Chg.drewN ?_ _ | refine Chg.drew ?_ | refine Chg.alloc ?_ _ | refine Chg.trans ?_ (by assumption))
    clear hw6 hc7 hX
    go_wp2_with fail
    go_ret
    exact ⟨rfl, hw7⟩
  · have ht := HT0.out hc0
    rw [ht]
    have hne : (c != 0) = true := by rw [bne_iff_ne]; exact hc0
    clear HT0 HT1 HT2 ht hX
    go_wp2_with fail
    refine (hC _).mono ?_; rintro e w5 ⟨rfl, hc5⟩
    have hw5 : Chg w w5 (fun _ => False) := hw4.trans hc5
    clear hw4 hc5 hC
    go_wp2_with fail
    go_ret
    exact ⟨rfl, hw5⟩
end Go.Proofs.YthncigahodannaaDoor
