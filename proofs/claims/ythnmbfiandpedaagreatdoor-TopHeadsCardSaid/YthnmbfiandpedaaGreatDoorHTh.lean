/- A head, from bytes to bytes: the law. No statement of its own. -/
import Derived.Test.YthnmbfiandpedaaGreatDoorHGac
import Derived.Test.YthnmbfiandpedaaGreatDoorHGwe
set_option linter.unusedSimpArgs false
set_option linter.unusedVariables false
set_option maxRecDepth 100000
namespace Go.Proofs.YthnmbfiandpedaaGreatDoor
open Go.RowKit
theorem same12T_p (l : List Fld) (h1 : l.length ≤ 1099511627776) : APure Tryz.prog 22 [.sl .no 2 (fldL l), .sl .no 2 (fldL l)] (.b true) [] := by
  have el := fldL_len l
  refine APure.of rfl (ACalls.of_vc T_ok mixed Tryz.func22 rfl Tryz.call22 ?_)
  refine cnd_split (fun hd => absurd hd (by simp)) (fun hd => ?_)
  refine vc_loop [5] (fun g vals st' => ∃ k : Nat, k + g = l.length ∧ vals = [.i k]) l.length rfl ⟨0, by omega, rfl⟩ ?_
  rintro g vals st' ⟨k, hk, rfl⟩
  refine cnd_split (fun hd2 => ?_) (fun hd2 => ?_)
  · have hd2 := of_decide_eq_true hd2
    have k1 : k < l.length := by omega
    refine .e (by kernel_rfl) ?_
    refine ⟨k, _, rfl, fldL_at k1, ?_⟩
    refine ⟨k, _, rfl, fldL_at k1, ?_⟩
    refine ⟨by kernel_rfl, fun q hq => ?_⟩
    have hq : q = true ↔ l[k].1 = l[k].1 ∧ l[k].2 = l[k].2 ∧ True := hq
    obtain rfl : q = true := hq.2 ⟨rfl, rfl, trivial⟩
    intro c hc
    rw [IntWalk.i64_in _ (by omega)] at hc
    obtain rfl : c = ((k + 1 : Nat) : Int) := by omega
    exact ⟨g - 1, by omega, k + 1, by omega, rfl⟩
  · rfl
set_option maxHeartbeats 1000000 in
theorem same14_p (x : HX) (es : List (List AV)) : APure Tryz.prog 21 [hxA x (.sl .no 2 es), hxA x (.sl .no 2 es)] (.b true) [] := by
  obtain ⟨k, m, t, c, r, n⟩ := x
  refine APure.of rfl (ACalls.of_vc T_ok mixed Tryz.func21 rfl Tryz.call21 ?_)
  repeat (first
    | refine ⟨_, rfl, ?_⟩
    | refine cnd_split (fun h => ?_) (fun h => absurd h (by simp))
    | (intro u q
       have q : u = true ↔ _ = _ := q
       obtain rfl : u = true := q.2 rfl))
  rfl
theorem same15_p (x : HX) (fs : List Fld) (h1 : fs.length ≤ 1099511627776) : APure Tryz.prog 9 [hxA x (.sl .no 2 (fldL fs)), hxA x (.sl .no 2 (fldL fs))] (.b true) [] := by
  have q1 := same14_p x (fldL fs)
  have q2 := same12T_p fs h1
  refine APure.of rfl (ACalls.of_vc T_ok mixed Tryz.func9 rfl Tryz.call9 ?_)
  refine ⟨_, rfl, ?_⟩
  refine ⟨_, rfl, ?_⟩
  refine .p rfl q1 ?_
  refine ⟨_, rfl, ?_⟩
  refine ⟨_, rfl, ?_⟩
  refine .p rfl q2 ?_
  rfl
/-- what a head that was taken whole is printed as -/
theorem whole_ok {kind : Int} {s : List UInt8} {n : Nat} {x : HX} {fs : List Fld} (hs : s.length ≤ 3000) (h : mrnK kind 5000 ⟨none, [], 0⟩ s = (n, .whole x fs)) :
    ∃ l0, n ≤ s.length ∧ HOk x fs (bOf l0) ∧ (prT l0 fs).length ≤ 5500 ∧ bareL (prT l0 fs) = bareL (s.take n) ∧ mrnK kind 6000 ⟨none, [], 0⟩ (prT l0 fs ++ [120]) = ((prT l0 fs).length, .whole x fs) := by
  have hm : MInv (stXk kind) (stEk kind) (⟨none, [], 0⟩ : MS HX) [] := ⟨rfl, .inl fun c hc => (by cases hc), rfl⟩
  obtain ⟨h1, h2⟩ := mrun_sound (stXk kind) (stEk kind) wholeA hm h
  rw [List.nil_append] at h2
  have h2' := h2
  obtain ⟨z0, ls, hz, _, _, _, hfl, _⟩ := h2'
  obtain ⟨l0, a1, a2, a3, a4, a5, a6, a7, a8, a9⟩ := pr_again (stXk kind) (stEk kind) wholeA h2
  have hc := (whole_cnt a4).1
  have hn : (s.take n).length ≤ 3000 := by rw [List.length_take]; omega
  have hst : startA kind (bOf l0) = (x, 0) := Prod.ext a3.symm a2
  obtain ⟨k1, k2⟩ := startA_text hst
  have k3 := startA_ok hst
  refine ⟨l0, h1, ⟨k2, k3, by show l0.length ≤ _; omega, a5, fun f hf => ?_, a4⟩, by omega, a8, ?_⟩
  · have hT : (linesT ls).length ≤ 100000 := by
      have := congrArg List.length hz
      simp only [HdT, List.length_append, List.length_cons] at this
      omega
    exact flds_size hfl hT f hf
  · exact mrun_whole (stXk kind) (stEk kind) wholeA a7 (by omega) [120]
theorem cutT (n : Nat) (s : ByteArray) : ∃ m, m = (if n < s.size then n else s.size) ∧ m ≤ s.size ∧ m ≤ n ∧ (s.extract 0 m).size = m := by
  refine ⟨_, rfl, by split <;> omega, by split <;> omega, ?_⟩
  rw [ext_size _ _ _ (by split <;> omega)]
  omega
theorem argW_i (n : Int) : argW (.i n) (.i n) := .inl (.inl ⟨rfl, rfl⟩)
set_option maxHeartbeats 4000000 in
theorem topHeads_p (kind : Int) (s0 : ByteArray) : APure Tryz.prog 3 [.i kind, .s s0] (.b true) [] := by
  have hmx : maxLen = 9223372036854775807 := rfl
  obtain ⟨m, hm, hm1, hm2, hm3⟩ := cutT 3000 s0
  have hmin := minI_at s0.size 3000
  rw [← hm] at hmin
  obtain ⟨s, hs⟩ : ∃ s, s = s0.extract 0 m := ⟨_, rfl⟩
  rw [← hs] at hm3
  have hsl := blen s
  obtain ⟨z, hz⟩ : ∃ z, mrnK kind 5000 ⟨none, [], 0⟩ s.data.toList = z := ⟨_, rfl⟩
  refine APure.of rfl ?_
  refine ACalls.of_vc T_ok mixed Tryz.func3 rfl Tryz.call3 ?_
  refine .p rfl works_p ?_
  refine ⟨m, hmin, Nat.zero_le _, hm1, ?_⟩
  rw [← hs]
  refine .s (newA_a (lim := 5000) (by decide) (fun hk => ?_) (fun hk => ?_))
  · have k1 : (kind != 1) = true := bne_iff_ne.2 fun e => hk (.inl e)
    have k2 : (kind != 2) = true := bne_iff_ne.2 fun e => hk (.inr e)
    refine cnd_split (fun h => ?_) (fun h => absurd (k1.symm.trans h) (by simp))
    repeat (first | refine cnd_split (fun h => ?_) (fun h => absurd (k1.symm.trans h) (by simp)) | refine cnd_split (fun h => ?_) (fun h => absurd (k2.symm.trans h) (by simp)))
    exact retb k2
  refine .s (feedA_a (AI.zero hk (last_at _ _)) s (by omega) (by decide) z hz (fun m' hm st' ln' hI m2 => ?_) (fun e hm he st' fr h m2 => ?_) (fun x fs hm st' fr row hrow h m2 => ?_))
  · refine .s (headA_no (lnF_of hI.l) ⟨[], .inl ⟨rfl, rfl⟩⟩ hI.h (fun st2 => ?_))
    refine ⟨_, last_at _ _, ?_⟩
    rfl
  · refine .s (headA_no (.inl rfl) ⟨[], .inl ⟨rfl, rfl⟩⟩ h (fun st2 => ?_))
    refine ⟨_, last_at _ _, ?_⟩
    rfl
  obtain ⟨n, zr⟩ := z
  have hm : zr = .whole x fs := hm
  subst hm
  obtain ⟨l0, b1, b2, b3, b4, b5⟩ := whole_ok (by omega) hz
  have hc := (whole_cnt b2.whole).1
  obtain ⟨T, hT⟩ : ∃ T, T = bOf (prT l0 fs) := ⟨_, rfl⟩
  have hTs : T.size = (prT l0 fs).length := by rw [hT]; rfl
  have qp := hprint_p b2 6000 (by decide) (by show (prT l0 fs).length ≤ _; omega)
  rw [show bOf (prT (bOf l0).data.toList fs) = T from hT.symm] at qp
  have qs := same15_p x fs (by omega)
  have qb1 := bareT_p T (by omega)
  have hex : (s.extract 0 n).data.toList = s.data.toList.take n := by rw [extB]; rfl
  have qb2 := bareT_p (s.extract 0 n) (by rw [ext_size _ _ _ (by omega)]; omega)
  rw [hex, ← b4, show prT l0 fs = T.data.toList by rw [hT]; rfl] at qb2
  have hfe : mrnK kind 6000 ⟨none, [], 0⟩ (T ++ (⟨#[120]⟩ : ByteArray)).data.toList = (T.size, .whole x fs) := by
    rw [app_l, hT]
    exact b5
  refine .s (headA_yes hrow (by omega) h (fun st2 tg m3 => ?_))
  have hrw : ∀ tg : Tk, RowH (.sl tg 2 (fldL fs)) fs := fun tg => by
    cases tg with
    | no => exact .inr (.inl rfl)
    | tight => exact .inr (.inr (.inl rfl))
    | own t e => exact .inr (.inr (.inr ⟨t, e, rfl⟩))
  refine ⟨_, last_at _ _, ?_⟩
  have h10 := last_upd st2.heap z7 (hxC x (.sl tg 2 (fldL fs)))
  refine ⟨_, h10, ?_⟩
  refine .w (args' := [hxA x (.sl .no 2 (fldL fs)), .i 6000]) rfl ⟨hx_arg x (hrw _), argW_i _, trivial⟩ qp ?_
  refine .s (newA_a (lim := 6000) (by decide) (fun h => absurd hk h) (fun _ => ?_))
  refine ⟨by show T.size + 1 ≤ _; omega, ?_⟩
  have h10 := ap (x := acC kind 6000 .nilS 0 false 0 false .zero .nilS) h10
  refine .s (feedA_a (kind := kind) (lim := 6000) (AI.zero hk (last_at _ _)) (T ++ (⟨#[120]⟩ : ByteArray)) (by rw [app_size]; show T.size + 1 ≤ _; omega) (by decide) _ hfe (fun m' hm => by cases hm) (fun e hm => by cases hm) (fun x2 fs2 hm st3 fr3 row3 hrow3 h3 m4 => ?_))
  cases hm
  refine .s (headA_yes hrow3 (by omega) h3 (fun st4 tg2 m5 => ?_))
  have h10 := m5.at' (m4.at' h10 (by show ¬ _ = List.length _; rw [List.length_set, List.length_append]; show ¬ _ = _ + 1; omega)) (fun e => e)
  have hl4 := lt_of h10
  refine ⟨_, last_at _ _, ?_⟩
  have h10 := st_ne (m := st4.heap.length) (x := hxC x (.sl tg2 2 (fldL fs))) (by omega) (ap (x := z7) h10)
  have h19 := last_upd st4.heap z7 (hxC x (.sl tg2 2 (fldL fs)))
  refine ⟨_, h19, ?_⟩
  refine .w (args' := [hxA x (.sl .no 2 (fldL fs)), .i 6000]) rfl ⟨hx_arg x (hrw _), argW_i _, trivial⟩ qp ?_
  refine .x (by kernel_rfl) ?_
  repeat (refine cnd_split (fun h => ?_) (fun h => absurd h (by simp)))
  intro u q
  have q : u = true ↔ T = T := q
  obtain rfl : u = true := q.2 rfl
  repeat (refine cnd_split (fun h => ?_) (fun h => absurd h (by simp)))
  refine ⟨_, h10, ?_⟩
  repeat (refine cnd_split (fun h => ?_) (fun h => absurd h (by simp)))
  refine ⟨_, h19, ?_⟩
  repeat (refine cnd_split (fun h => ?_) (fun h => absurd h (by simp)))
  refine .w (args' := [hxA x (.sl .no 2 (fldL fs)), hxA x (.sl .no 2 (fldL fs))]) rfl ⟨hx_arg x (hrw _), hx_arg x (hrw _), trivial⟩ qs ?_
  repeat (refine cnd_split (fun h => ?_) (fun h => absurd h (by simp)))
  refine .p rfl qb1 ?_
  repeat (refine cnd_split (fun h => ?_) (fun h => absurd h (by simp)))
  refine ⟨n, rfl, Nat.zero_le _, by omega, ?_⟩
  repeat (refine cnd_split (fun h => ?_) (fun h => absurd h (by simp)))
  refine .p rfl qb2 ?_
  repeat (refine cnd_split (fun h => ?_) (fun h => absurd h (by simp)))
  intro u q
  have q : u = true ↔ bOf (bareL T.data.toList) = bOf (bareL T.data.toList) := q
  obtain rfl : u = true := q.2 rfl
  repeat (refine cnd_split (fun h => ?_) (fun h => absurd h (by simp)))
  rfl
end Go.Proofs.YthnmbfiandpedaaGreatDoor
