/- FieldBlanks: the plain law; the walk. -/
import Derived.Test.YthncigahodannaaDoorField8
namespace Go.Proofs.YthncigahodannaaDoor
open Go.RowKit

theorem size0 {x : ByteArray} (h : x.size = 0) : x = .empty := by
  apply toInj
  have := blen x
  rw [List.eq_nil_of_length_eq_zero (this.trans h)]
  rfl
theorem blanks_one {n v x y : ByteArray} (h : checkF (n, v) = 0) (hx : allI blkI x = true) (hy : allI blkI y = true) : parseF (n ++ ⟨#[58]⟩ ++ x ++ v ++ y) = ((n, v), 0) := by
  obtain ⟨h1, h2, h3⟩ := check_ok h
  rw [parse_line (n := n) (x := .empty) (v := x ++ v ++ y) (by apply toInj; simp) h1 (by rfl) (allI_mk fun b hb => ?_), if_neg (by decide), trim_about _ _ _ hx hy, h3]
  rw [app_l, app_l, List.mem_append, List.mem_append] at hb
  rcases hb with (hb | hb) | hb
  · exact (blk_facts b (allI_mem hx b hb)).2.2
  · exact allI_mem h2 b hb
  · exact (blk_facts b (allI_mem hy b hb)).2.2
theorem blanks_two {n v x : ByteArray} (h : checkF (n, v) = 0) (hx : allI blkI x = true) : parseF (n ++ x ++ ⟨#[58]⟩ ++ v) = if x.size ≠ 0 then ((.empty, .empty), 22) else ((n, v), 0) := by
  obtain ⟨h1, h2, h3⟩ := check_ok h
  rw [parse_line rfl h1 hx h2, h3]
theorem blanks_three {n v x : ByteArray} (h : checkF (n, v) = 0) (hx : allI blkI x = true) : parseF (x ++ n ++ ⟨#[58]⟩ ++ v) = if x.size ≠ 0 then ((.empty, .empty), 23) else ((n, v), 0) := by
  obtain ⟨h1, h2, h3⟩ := check_ok h
  by_cases h0 : x.size = 0
  · rw [if_neg (by omega)]
    obtain rfl := size0 h0
    have := blanks_two (x := .empty) h (by rfl)
    rw [if_neg (by decide)] at this
    rw [← this, ByteArray.append_empty, ByteArray.empty_append]
  · rw [if_pos h0]
    apply parse_fold
    · apply crlf_of
      intro b hb
      rw [app_l, app_l, app_l, List.mem_append, List.mem_append, List.mem_append] at hb
      rcases hb with ((hb | hb) | hb) | hb
      · exact (blk_facts b (allI_mem hx b hb)).1
      · exact (tok_facts b ((tokB_facts h1).2 b hb)).1
      · obtain rfl : b = 58 := by simpa using hb
        decide
      · exact val_facts b (allI_mem h2 b hb)
    · rw [app_l, app_l, app_l]
      have := blen x
      cases hxl : x.data.toList with
      | nil => rw [hxl] at this; simp at this; omega
      | cons c r =>
        have := allI_mem hx c (by rw [hxl]; exact .head _)
        simpa [blkP] using this

theorem allI_app {q : Int → Bool} {a b : ByteArray} (ha : allI q a = true) (hb : allI q b = true) : allI q (a ++ b) = true := by
  apply allI_mk
  intro c hc
  rw [app_l, List.mem_append] at hc
  exact hc.elim (allI_mem ha c) (allI_mem hb c)

set_option maxHeartbeats 1000000 in
theorem fieldBlanks_any (a0 b0 : ByteArray) (ha0 : a0.size ≤ maxLen) (hb0 : b0.size ≤ maxLen) (p q : Int) (hp0 : 0 ≤ p) (hp1 : p < 256) (hq0 : 0 ≤ q) (hq1 : q < 256) (w : World) :
    Calls Tryd.prog 5 #[.agg #[.string a0, .string b0], .int .u8 p, .int .u8 q] w fun e w' => e = .returned (.bool true) ∧ Chg w w' (fun _ => False) := by
  have hA := fun W => awake12_any W
  have hFa := fun W => few_any a0 ha0 W
  have hFb := fun W => few_any b0 hb0 W
  have ha := fewB_size a0
  have hb := fewB_size b0
  generalize fewB a0 = a at *
  generalize fewB b0 = b at *
  have hC := fun W => fCheck_any a b (by omega) (by omega) W
  have hR := fun W => r12Check_any a b (by omega) (by omega) W
  have hcb : 0 ≤ checkF (a, b) ∧ checkF (a, b) ≤ 25 := by unfold checkF; split <;> (try split) <;> decide
  have hck : checkF (a, b) = checkF (a, b) := rfl
  generalize hce : checkF (a, b) = c at hC hR hcb
  clear hck
  have HCE := Lib.hid hce
  clear hce
  go_enter Tryd.func5, Tryd.ntmps5
  go_wp2_with fail
  refine (hA _).mono ?_; rintro e w1 ⟨rfl, hc1⟩
  have hr := (B2.new w (.string a0) (.string b0) 25).chg hc1 (fun h => h)
  have hw1 : Chg w w1 (fun _ => False) := by repeat (first | with_reducible exact Chg.refl _ _ | assumption | refine Chg.drewN ?_ _ | refine Chg.drew ?_ | refine Chg.alloc ?_ _ | refine Chg.trans ?_ (by assumption))
  have r0 := hr.c0
  have r1 := hr.c1
  have rf0 := hr.fr 0
  have rf1 := hr.fr 1
  have rl := hr.lt
  have ru : w.heap.size ≤ w.heap.size := Nat.le_refl _
  go_wp2_with fail
  refine (hFa _).mono ?_; rintro e w2 ⟨rfl, rfl⟩
  go_wp2_with fail
  refine (hFb _).mono ?_; rintro e w2 ⟨rfl, rfl⟩
  have hr2 : B2 ((w1.setCell ⟨w.heap.size, 0, none⟩ (.string a)).setCell ⟨w.heap.size, 1, none⟩ (.string b)) w.heap.size (.string a) (.string b) 25 := ⟨by rw [heap_set (heap_set hr.blk _)]; rfl⟩
  have hw2 : Chg w ((w1.setCell ⟨w.heap.size, 0, none⟩ (.string a)).setCell ⟨w.heap.size, 1, none⟩ (.string b)) (fun _ => False) := (hw1.setCell (.inl (Nat.le_refl _)) _).setCell (.inl (Nat.le_refl _)) _
  clear hFa hFb hA
  go_wp2_with fail
  generalize (w1.setCell ⟨w.heap.size, 0, none⟩ (.string a)).setCell ⟨w.heap.size, 1, none⟩ (.string b) = w2 at *
  clear hc1 hr hw1 r0 r1 rf0 rf1 rl ru
  refine (hC _).mono ?_; rintro e w3 ⟨rfl, hc3⟩
  have hr3 := hr2.chg hc3 (fun h => h)
  have hw3 := hw2.trans hc3
  have r30 := hr3.c0
  have r31 := hr3.c1
  have r3l := hr3.lt
  clear hr2 hw2 hc3 hC
  by_cases hc0 : c = 0
  · subst hc0
    have hb1 := fun (x y : ByteArray) => blanks_one (x := x) (y := y) HCE.out
    have hb2 := fun (x : ByteArray) => blanks_two (x := x) HCE.out
    have hb3 := fun (x : ByteArray) => blanks_three (x := x) HCE.out
    have HB1 := Lib.hid hb1
    have HB2 := Lib.hid hb2
    have HB3 := Lib.hid hb3
    clear hb1 hb2 hb3 HCE
    obtain ⟨P, hP, hP9⟩ : ∃ P : Nat, p % 9 = (P : Int) ∧ P < 9 := ⟨(p % 9).toNat, by omega, by omega⟩
    obtain ⟨Q, hQ, hQ9⟩ : ∃ Q : Nat, q % 9 = (Q : Int) ∧ Q < 9 := ⟨(q % 9).toNat, by omega, by omega⟩
    go_wp2_with fail
    go_loopg [7, 9] P (fun g s7 s9 wr => w3 = wr ∧ ∃ (k : Nat) (x : ByteArray), k + g = P ∧ s9 = .int .i64 k ∧ s7 = .string x ∧ x.size = k ∧ allI blkI x = true)
    case atStart => exact ⟨rfl, 0, .empty, by omega, rfl, rfl, rfl, rfl⟩
    case round =>
      obtain ⟨rfl, k, x, hk, rfl, rfl, hxk, hx⟩ := hrel
      have HX := Lib.hid hx
      clear hx
      by_cases hlt : k < P
      · obtain ⟨m, hm, hm2⟩ : ∃ m : Nat, (k : Int) % 2 = (m : Int) ∧ m < 2 := ⟨((k : Int) % 2).toNat, by omega, by omega⟩
        go_wp2_with fail
        go_roundg (gk - 1)
        case measure => omega
        case rel =>
          refine ⟨rfl, k + 1, x ++ ByteArray.extract ⟨#[32, 9]⟩ m (m + 1), by omega, by go_num, rfl, ?_, allI_app HX.out ?_⟩
          · rw [ByteArray.size_append, ext_size _ _ _ (by show m + 1 ≤ 2; omega)]; omega
          · rcases (by omega : m = 0 ∨ m = 1) with rfl | rfl <;> decide +kernel
      · go_wp2_with fail
        go_loopg [8, 10] Q (fun g s8 s10 wr => w3 = wr ∧ ∃ (j : Nat) (y : ByteArray), j + g = Q ∧ s10 = .int .i64 j ∧ s8 = .string y ∧ y.size = j ∧ allI blkI y = true)
        case atStart => exact ⟨rfl, 0, .empty, by omega, rfl, rfl, rfl, rfl⟩
        case round =>
          obtain ⟨rfl, j, y, hj, rfl, rfl, hyk, hy⟩ := hrel
          have HY := Lib.hid hy
          clear hy
          by_cases hlt2 : j < Q
          · obtain ⟨m, hm, hm2⟩ : ∃ m : Nat, (j : Int) % 2 = (m : Int) ∧ m < 2 := ⟨((j : Int) % 2).toNat, by omega, by omega⟩
            go_wp2_with fail
            go_roundg (gk - 1)
            case measure => omega
            case rel =>
              refine ⟨rfl, j + 1, y ++ ByteArray.extract ⟨#[9, 32]⟩ m (m + 1), by omega, by go_num, rfl, ?_, allI_app HY.out ?_⟩
              · rw [ByteArray.size_append, ext_size _ _ _ (by show m + 1 ≤ 2; omega)]; omega
              · rcases (by omega : m = 0 ∨ m = 1) with rfl | rfl <;> decide +kernel
          · have e1 := HB1.out x y HX.out HY.out
            have e2 := HB2.out x HX.out
            have e3 := HB3.out x HX.out
            by_cases h0 : x.size = 0
            · have hz := empB0 h0
              rw [if_neg (fun h => h h0)] at e2 e3
              have hP1 := fun W => fParse_any (a ++ ⟨#[58]⟩ ++ x ++ b ++ y) (by simp only [ByteArray.size_append]; have : (⟨#[58]⟩ : ByteArray).size = 1 := rfl; have := hxk; have := hyk; omega) W
              have hP2 := fun W => fParse_any (a ++ x ++ ⟨#[58]⟩ ++ b) (by simp only [ByteArray.size_append]; have : (⟨#[58]⟩ : ByteArray).size = 1 := rfl; have := hxk; omega) W
              have hP3 := fun W => fParse_any (x ++ a ++ ⟨#[58]⟩ ++ b) (by simp only [ByteArray.size_append]; have : (⟨#[58]⟩ : ByteArray).size = 1 := rfl; have := hxk; omega) W
              rw [e1] at hP1
              rw [e2] at hP2
              rw [e3] at hP3
              clear e1 e2 e3 HB1 HB2 HB3 hR h0 HX HY
              go_wp2_with fail
              refine (hP1 _).mono ?_; rintro e w4 ⟨rfl, hc4⟩
              have hr4 := hr3.chg hc4 (fun h => h)
              have hw4 := hw3.trans hc4
              have r40 := hr4.c0
              have r41 := hr4.c1
              have r4l := hr4.lt
              go_wp2_with fail
              refine (hP2 _).mono ?_; rintro e w5 ⟨rfl, hc5⟩
              have hg5 := (B2.new w4 (.string a) (.string b) 25).chg hc5 (fun h => h)
              have hr5 := hr4.chg (((Chg.refl w4 (fun _ => False)).alloc _).trans hc5) (fun h => h)
              have hw5 : Chg w w5 (fun _ => False) := by repeat (first | with_reducible exact Chg.refl _ _ | assumption | refine Chg.drewN ?_ _ | refine Chg.drew ?_ | refine Chg.alloc ?_ _ | refine Chg.trans ?_ (by assumption))
              clear hr3 hc4 hw3 hr4 r40 r41 r4l hc5 hw4 r30 r31 r3l
              have r50 := hr5.c0
              have r51 := hr5.c1
              have r5l := hr5.lt
              go_wp2_with fail
              refine (hP3 _).mono ?_; rintro e w6 ⟨rfl, hc6⟩
              have hc6 := ((Chg.refl w5 (fun _ => False)).alloc _).trans hc6
              have hg6 := hg5.chg hc6 (fun h => h)
              have hr6 := hr5.chg hc6 (fun h => h)
              have hw6 := hw5.trans hc6
              clear hr5 hg5 hw5 hc6 r50 r51 r5l
              have r60 := hr6.c0
              have r61 := hr6.c1
              have r6l := hr6.lt
              have g60 := hg6.c0
              have g61 := hg6.c1
              have g6l := hg6.lt
              go_wp2_with fail
              go_ret
              exact ⟨rfl, hw6.alloc _⟩
            · have hz := empB1 (s := x) (by omega)
              rw [if_pos h0] at e2 e3
              have hP1 := fun W => fParse_any (a ++ ⟨#[58]⟩ ++ x ++ b ++ y) (by simp only [ByteArray.size_append]; have : (⟨#[58]⟩ : ByteArray).size = 1 := rfl; have := hxk; have := hyk; omega) W
              have hP2 := fun W => fParse_any (a ++ x ++ ⟨#[58]⟩ ++ b) (by simp only [ByteArray.size_append]; have : (⟨#[58]⟩ : ByteArray).size = 1 := rfl; have := hxk; omega) W
              have hP3 := fun W => fParse_any (x ++ a ++ ⟨#[58]⟩ ++ b) (by simp only [ByteArray.size_append]; have : (⟨#[58]⟩ : ByteArray).size = 1 := rfl; have := hxk; omega) W
              rw [e1] at hP1
              rw [e2] at hP2
              rw [e3] at hP3
              clear e1 e2 e3 HB1 HB2 HB3 hR h0 HX HY
              go_wp2_with fail
              refine (hP1 _).mono ?_; rintro e w4 ⟨rfl, hc4⟩
              have hr4 := hr3.chg hc4 (fun h => h)
              have hw4 := hw3.trans hc4
              have r40 := hr4.c0
              have r41 := hr4.c1
              have r4l := hr4.lt
              go_wp2_with fail
              refine (hP2 _).mono ?_; rintro e w5 ⟨rfl, hc5⟩
              have hg5 := (B2.new w4 (.string a) (.string b) 25).chg hc5 (fun h => h)
              have hr5 := hr4.chg (((Chg.refl w4 (fun _ => False)).alloc _).trans hc5) (fun h => h)
              have hw5 : Chg w w5 (fun _ => False) := by repeat (first | with_reducible exact Chg.refl _ _ | assumption | refine Chg.drewN ?_ _ | refine Chg.drew ?_ | refine Chg.alloc ?_ _ | refine Chg.trans ?_ (by assumption))
              clear hr3 hc4 hw3 hr4 r40 r41 r4l hc5 hw4 r30 r31 r3l
              have r50 := hr5.c0
              have r51 := hr5.c1
              have r5l := hr5.lt
              go_wp2_with fail
              refine (hP3 _).mono ?_; rintro e w6 ⟨rfl, hc6⟩
              have hc6 := ((Chg.refl w5 (fun _ => False)).alloc _).trans hc6
              have hg6 := hg5.chg hc6 (fun h => h)
              have hr6 := hr5.chg hc6 (fun h => h)
              have hw6 := hw5.trans hc6
              clear hr5 hg5 hw5 hc6 r50 r51 r5l
              have r60 := hr6.c0
              have r61 := hr6.c1
              have r6l := hr6.lt
              have g60 := hg6.c0
              have g61 := hg6.c1
              have g6l := hg6.lt
              go_wp2_with fail
              go_ret
              exact ⟨rfl, hw6.alloc _⟩
  · have hne : (c != 0) = true := by rw [bne_iff_ne]; exact hc0
    go_wp2_with fail
    refine (hR _).mono ?_; rintro e w4 ⟨rfl, hc4⟩
    have hw4 := hw3.trans hc4
    clear hw3 hc4
    go_wp2_with fail
    go_ret
    exact ⟨rfl, hw4⟩
end Go.Proofs.YthncigahodannaaDoor
