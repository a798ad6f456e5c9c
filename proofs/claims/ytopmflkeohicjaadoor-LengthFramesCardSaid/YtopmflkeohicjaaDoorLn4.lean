/- How bodies end: requests and responses; the law. No statement of its own. -/
import Derived.Test.YtopmflkeohicjaaDoorLn3
set_option maxRecDepth 100000
namespace Go.Proofs.YtopmflkeohicjaaDoor
open Go.RowKit
def headS : ByteArray := ⟨#[72, 69, 65, 68]⟩
def connS : ByteArray := ⟨#[67, 79, 78, 78, 69, 67, 84]⟩
def bodB (m : ByteArray) (c : Int) : Bool := decide (m = headS) || decide (c < 200) || c == 204 || c == 304 || (decide (m = connS) && decide (c < 300))
def respW (l : List Fld) (m : ByteArray) (c mi : Int) : Fr3 := if bodB m c = true then (1, 0, 0) else ofW l mi 4
theorem bodiless_p (m : ByteArray) (c : Int) : APure Tryd.prog 89 [.s m, .i c] (.b (bodB m c)) [] := by
  refine APure.of rfl (ACalls.of_vc T_ok mixed Tryd.func89 rfl Tryd.call89 ?_)
  unfold bodB
  intro a ha
  cases a with
  | true =>
    rw [decide_eq_true (show m = headS from ha.1 rfl)]
    exact retb rfl
  | false =>
    rw [decide_eq_false (show ¬ m = headS from fun e => by have := ha.2 e; cases this)]
    refine cnd_split (fun h1 => ?_) (fun h1 => ?_)
    · rw [h1]; exact retb rfl
    rw [h1]
    refine cnd_split (fun h2 => ?_) (fun h2 => ?_)
    · rw [h2]; exact retb rfl
    rw [h2]
    refine cnd_split (fun h3 => ?_) (fun h3 => ?_)
    · rw [h3]; exact retb rfl
    rw [h3]
    intro b hb
    cases b with
    | true =>
      rw [decide_eq_true (show m = connS from hb.1 rfl)]
      exact retb rfl
    | false =>
      rw [decide_eq_false (show ¬ m = connS from fun e => by have := hb.2 e; cases this)]
      exact retb rfl
theorem request_p (k c mi : Int) (m t r : ByteArray) (l : List Fld) (hl : FldOk l) : APure Tryd.prog 27 [hdA k c mi m t r (.sl .no 2 (fldL l))] (frA (ofW l mi 1)) [] := by
  refine APure.of rfl (ACalls.of_vc T_ok mixed Tryd.func27 rfl Tryd.call27 ?_)
  refine ⟨_, rfl, ?_⟩
  refine .p rfl (of_p k c mi 1 m t r l hl) ?_
  refine ⟨_, rfl, ?_⟩
  refine ⟨_, rfl, ?_⟩
  rfl
theorem response_p (k c mi : Int) (mth m t r : ByteArray) (l : List Fld) (hl : FldOk l) : APure Tryd.prog 29 [.s mth, hdA k c mi m t r (.sl .no 2 (fldL l))] (frA (respW l mth c mi)) [] := by
  have hR : respW l mth c mi = if bodB mth c = true then (1, 0, 0) else ofW l mi 4 := rfl
  generalize respW l mth c mi = Z at hR
  refine APure.of rfl (ACalls.of_vc T_ok mixed Tryd.func29 rfl Tryd.call29 ?_)
  refine ⟨_, rfl, ?_⟩
  refine .p rfl (bodiless_p mth c) ?_
  refine cnd_split (fun h => ?_) (fun h => ?_)
  · rw [if_pos h] at hR
    refine ⟨_, rfl, ?_⟩
    refine ⟨_, rfl, ?_⟩
    exact (by rw [hR]; rfl)
  · rw [if_neg (by rw [h]; decide)] at hR
    refine ⟨_, rfl, ?_⟩
    refine .p rfl (of_p k c mi 4 m t r l hl) ?_
    refine ⟨_, rfl, ?_⟩
    refine ⟨_, rfl, ?_⟩
    exact (by rw [hR]; rfl)
theorem resp17_p (k c mi : Int) (mth m t r : ByteArray) (l : List Fld) (hl : FldOk l) : APure Tryd.prog 30 [.s mth, hdA k c mi m t r (.sl .no 2 (fldL l))] (frA (respW l mth c mi)) [] := by
  have hR : respW l mth c mi = if bodB mth c = true then (1, 0, 0) else ofW l mi 4 := rfl
  generalize respW l mth c mi = Z at hR
  have yes : bodB mth c = true → Z = (1, 0, 0) := fun h => by rw [hR, if_pos h]
  have no : bodB mth c = false → Z = ofW l mi 4 := fun h => by rw [hR, if_neg (by rw [h]; decide)]
  clear hR
  have hB : ∀ x1 x2 x3 x4 x5 : Bool, (x1 = true ↔ mth = headS) → x2 = decide (c < 200) → x3 = (c == 204) → x4 = (c == 304) → (x5 = true ↔ mth = connS ∧ c ≤ 299) → (x1 || x2 || x3 || x4 || x5) = bodB mth c := fun x1 x2 x3 x4 x5 h1 h2 h3 h4 h5 => by
    unfold bodB
    have e1 : x1 = decide (mth = headS) := by rw [Bool.eq_iff_iff, h1, decide_eq_true_eq]
    have e5 : x5 = (decide (mth = connS) && decide (c < 300)) := by
      rw [Bool.eq_iff_iff, h5, Bool.and_eq_true, decide_eq_true_eq, decide_eq_true_eq]
      exact and_congr_right fun _ => by omega
    rw [e1, h2, h3, h4, e5]
  generalize bodB mth c = B at yes no hB
  refine APure.of rfl (ACalls.of_vc T_ok mixed Tryd.func30 rfl Tryd.call30 ?_)
  intro a ha
  cases a with
  | true =>
    have hb := hB true _ _ _ _ ha rfl rfl rfl (by rw [decide_eq_true_eq (p := mth = connS ∧ c ≤ 299)])
    have hb : B = true := by rw [← hb]; simp
    refine ⟨_, rfl, ?_⟩
    refine ⟨_, rfl, ?_⟩
    exact (by rw [yes hb]; rfl)
  | false =>
    refine ⟨_, rfl, ?_⟩
    refine cnd_split (fun h1 => ?_) (fun h1 => ?_)
    · have hb := hB false _ _ _ _ ha h1.symm rfl rfl (by rw [decide_eq_true_eq (p := mth = connS ∧ c ≤ 299)])
      have hb : B = true := by rw [← hb]; simp
      refine ⟨_, rfl, ?_⟩
      refine ⟨_, rfl, ?_⟩
      exact (by rw [yes hb]; rfl)
    refine ⟨_, rfl, ?_⟩
    refine cnd_split (fun h2 => ?_) (fun h2 => ?_)
    · have hb := hB false _ _ _ _ ha h1.symm h2.symm rfl (by rw [decide_eq_true_eq (p := mth = connS ∧ c ≤ 299)])
      have hb : B = true := by rw [← hb]; simp
      refine ⟨_, rfl, ?_⟩
      refine ⟨_, rfl, ?_⟩
      exact (by rw [yes hb]; rfl)
    refine ⟨_, rfl, ?_⟩
    refine cnd_split (fun h3 => ?_) (fun h3 => ?_)
    · have hb := hB false _ _ _ _ ha h1.symm h2.symm h3.symm (by rw [decide_eq_true_eq (p := mth = connS ∧ c ≤ 299)])
      have hb : B = true := by rw [← hb]; simp
      refine ⟨_, rfl, ?_⟩
      refine ⟨_, rfl, ?_⟩
      exact (by rw [yes hb]; rfl)
    intro b hb
    cases b with
    | true =>
      have hm : mth = connS := hb.1 rfl
      refine ⟨_, rfl, ?_⟩
      refine cnd_split (fun h4 => ?_) (fun h4 => ?_)
      · have h4 := of_decide_eq_true h4
        have hb := hB false _ _ _ true ha h1.symm h2.symm h3.symm ⟨fun _ => ⟨hm, h4⟩, fun _ => rfl⟩
        have hb : B = true := by rw [← hb]; rfl
        refine ⟨_, rfl, ?_⟩
        refine ⟨_, rfl, ?_⟩
        exact (by rw [yes hb]; rfl)
      · have h4 := of_decide_eq_false h4
        have hb := hB false _ _ _ false ha h1.symm h2.symm h3.symm ⟨fun h => by (cases h), fun h => absurd h.2 h4⟩
        have hb : B = false := by rw [← hb]; rfl
        refine ⟨_, rfl, ?_⟩
        refine .p rfl (of17_p k c mi 4 m t r l hl) ?_
        refine ⟨_, rfl, ?_⟩
        refine ⟨_, rfl, ?_⟩
        exact (by rw [no hb]; rfl)
    | false =>
      have hm : ¬ mth = connS := fun e => by have := hb.2 e; cases this
      have hb := hB false _ _ _ false ha h1.symm h2.symm h3.symm ⟨fun h => by (cases h), fun h => absurd h.1 hm⟩
      have hb : B = false := by rw [← hb]; rfl
      refine ⟨_, rfl, ?_⟩
      refine .p rfl (of17_p k c mi 4 m t r l hl) ?_
      refine ⟨_, rfl, ?_⟩
      refine ⟨_, rfl, ?_⟩
      exact (by rw [no hb]; rfl)
end Go.Proofs.YtopmflkeohicjaaDoor
