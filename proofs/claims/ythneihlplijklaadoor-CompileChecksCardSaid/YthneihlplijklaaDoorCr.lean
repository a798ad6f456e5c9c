/- Rules made instructions: the document's definition, but for Compile. No statement of its own. -/
import Derived.Test.YthneihlplijklaaDoorCp
set_option linter.unusedSimpArgs false
set_option linter.unusedVariables false
set_option maxRecDepth 100000
namespace Go.Proofs.YthneihlplijklaaDoor
open Go.RowKit
instance : DecidableEq Opn := fun a b => by
  obtain ⟨a1, a2, a3, a4, a5⟩ := a
  obtain ⟨b1, b2, b3, b4, b5⟩ := b
  rw [Opn.mk.injEq]
  exact inferInstance
theorem Opn.ext' {a b : Opn} (h1 : a.k = b.k) (h2 : a.nm = b.nm) (h3 : a.tx = b.tx) (h4 : a.ps = b.ps) (h5 : a.n = b.n) : a = b := by
  obtain ⟨a1, a2, a3, a4, a5⟩ := a
  obtain ⟨b1, b2, b3, b4, b5⟩ := b
  subst h1 h2 h3 h4 h5
  rfl
theorem take_snoc_ne {α : Type} {l m : List α} {k : Nat} (h1 : k < l.length) (h2 : k < m.length) (h : l[k] ≠ m[k]) : l ≠ m := fun e => by subst e; exact h rfl
set_option maxHeartbeats 1000000 in
theorem same36_p (l m : List Opn) (hl : l.length ≤ 1000000) (hm : m.length ≤ 1000000) (hp : ∀ o ∈ l, o.ps.length ≤ 1000000) (hq : ∀ o ∈ m, o.ps.length ≤ 1000000) :
    APure Tryd.prog 12 [.sl .no 5 (opL l), .sl .no 5 (opL m)] (.b (decide (l = m))) [] := by
  have el := opL_len l
  have em := opL_len m
  refine APure.of rfl (ACalls.of_vc T_ok mixed Tryd.func12 rfl Tryd.call12 ?_)
  refine cnd_split (fun h1 => ?_) (fun h1 => ?_)
  · have h1 := bne_iff_ne.1 h1
    exact retb (decide_eq_false (fun e => h1 (by rw [e]))).symm
  have h1 := bne_eq_false_iff_eq.1 h1
  have hlm : l.length = m.length := by omega
  refine vc_loop [5] (fun g vals st' => ∃ k : Nat, k + g = l.length ∧ vals = [.i k] ∧ l.take k = m.take k) l.length rfl ⟨0, by omega, rfl, by simp⟩ ?_
  rintro g vals st' ⟨k, hk, rfl, ht⟩
  refine cnd_split (fun hd => ?_) (fun hd => ?_)
  · have hd := of_decide_eq_true hd
    have k1 : k < l.length := by omega
    have k2 : k < m.length := by omega
    have q1 := same31_p l[k].ps m[k].ps (by have := hp _ (List.getElem_mem k1); omega) (by have := hq _ (List.getElem_mem k2); omega)
    have no : l[k] ≠ m[k] → false = decide (l = m) := fun h => (decide_eq_false (take_snoc_ne k1 k2 h)).symm
    have yes : l[k] = m[k] → l.take (k + 1) = m.take (k + 1) := fun h => by rw [List.take_succ_eq_append_getElem k1, List.take_succ_eq_append_getElem k2, ht, h]
    refine .x (by kernel_rfl) ?_
    refine ⟨k, _, rfl, opL_at k1, ?_⟩
    refine ⟨k, _, rfl, opL_at k2, ?_⟩
    refine cnd_split (fun e1 => ?_) (fun e1 => ?_)
    · have e1 := bne_iff_ne.1 e1
      exact retb (no fun e => e1 (congrArg Opn.k e))
    have e1 : l[k].k = m[k].k := bne_eq_false_iff_eq.1 e1
    refine ⟨k, _, rfl, opL_at k1, ?_⟩
    refine ⟨k, _, rfl, opL_at k2, ?_⟩
    intro t2 h2
    cases t2 with
    | true => exact retb (no fun e => by have := h2.2 (congrArg Opn.nm e); cases this)
    | false =>
      have e2 := h2.1 rfl
      refine ⟨k, _, rfl, opL_at k1, ?_⟩
      refine ⟨k, _, rfl, opL_at k2, ?_⟩
      intro t3 h3
      cases t3 with
      | true => exact retb (no fun e => by have := h3.2 (congrArg Opn.tx e); cases this)
      | false =>
        have e3 := h3.1 rfl
        refine ⟨k, _, rfl, opL_at k1, ?_⟩
        refine ⟨k, _, rfl, opL_at k2, ?_⟩
        refine cnd_split (fun e4 => ?_) (fun e4 => ?_)
        · have e4 := bne_iff_ne.1 e4
          exact retb (no fun e => e4 (congrArg Opn.n e))
        have e4 : l[k].n = m[k].n := bne_eq_false_iff_eq.1 e4
        refine ⟨k, _, rfl, opL_at k1, ?_⟩
        refine ⟨k, _, rfl, opL_at k2, ?_⟩
        refine .p rfl q1 ?_
        refine cnd_split (fun e5 => ?_) (fun e5 => ?_)
        · rw [Bool.not_eq_true'] at e5
          have e5 := of_decide_eq_false e5
          exact retb (no fun e => e5 (congrArg Opn.ps e))
        · rw [Bool.not_eq_false'] at e5
          have e5 := of_decide_eq_true e5
          intro c hc
          rw [IntWalk.i64_in _ (by omega)] at hc
          obtain rfl : c = ((k + 1 : Nat) : Int) := by omega
          exact ⟨g - 1, by omega, k + 1, by omega, rfl, yes (Opn.ext' e1 e2 e3 e5 e4)⟩
  · have hd := of_decide_eq_false hd
    rw [List.take_of_length_le (by omega), List.take_of_length_le (by omega)] at ht
    exact retb (decide_eq_true ht).symm
theorem checkR36_p (l : List Opn) (hl : l.length ≤ 1000000) : APure Tryd.prog 14 [.sl .no 5 (opL l)] (.tup [.i (checkO l 0).1, .i (checkO l 0).2]) [] := by
  have el := opL_len l
  refine APure.of rfl (ACalls.of_vc T_ok mixed Tryd.func14 rfl Tryd.call14 ?_)
  refine vc_loop [4] (fun g vals st' => ∃ k : Nat, k + g = l.length ∧ vals = [.i k] ∧ checkO l 0 = checkO (l.drop k) k) l.length rfl ⟨0, by omega, rfl, rfl⟩ ?_
  rintro g vals st' ⟨k, hk, rfl, hc⟩
  refine cnd_split (fun hd => ?_) (fun hd => ?_)
  · have hd := of_decide_eq_true hd
    have k1 : k < l.length := by omega
    rw [checkO_at k1] at hc
    have no : ∀ R : Bool, rightO l[k] (l.length - 1 - k) = R → R = false → checkO l 0 = ((k : Int), 9) := fun R e1 e2 => by
      rw [hc, e1, e2]; rfl
    have yes : ∀ R : Bool, rightO l[k] (l.length - 1 - k) = R → R = true → checkO l 0 = checkO (l.drop (k + 1)) (k + 1) := fun R e1 e2 => by
      rw [hc, e1, e2]; rfl
    clear hc
    have gd : 1 ≤ l[k].k ∧ l[k].k ≤ 3 → rightO l[k] (l.length - 1 - k) = decide (1 ≤ l[k].n ∧ l[k].n ≤ ((l.length - 1 - k : Nat) : Int)) := fun h => by unfold rightO; rw [if_pos h]
    have ac : 4 ≤ l[k].k ∧ l[k].k ≤ 7 → rightO l[k] (l.length - 1 - k) = decide (l[k].n = 0) := fun h => by unfold rightO; rw [if_neg (by omega), if_pos h]
    have ot : ¬ (1 ≤ l[k].k ∧ l[k].k ≤ 7) → rightO l[k] (l.length - 1 - k) = false := fun h => by unfold rightO; rw [if_neg (by omega), if_neg (by omega)]
    refine ⟨k, _, rfl, opL_at k1, ?_⟩
    refine cnd_split (fun h1 => ?_) (fun h1 => ?_)
    · have h1 := of_decide_eq_true h1
      rw [no _ (ot (by omega)) rfl]
      rfl
    have h1 := of_decide_eq_false h1
    refine cnd_split (fun h2 => ?_) (fun h2 => ?_)
    · have h2 := of_decide_eq_true h2
      rw [no _ (ot (by omega)) rfl]
      rfl
    have h2 := of_decide_eq_false h2
    refine cnd_split (fun h3 => ?_) (fun h3 => ?_)
    · have h3 := of_decide_eq_true h3
      have gd := gd (by omega)
      refine ⟨k, _, rfl, opL_at k1, ?_⟩
      refine cnd_split (fun h4 => ?_) (fun h4 => ?_)
      · have h4 := of_decide_eq_true h4
        rw [no _ gd (decide_eq_false (by omega))]
        rfl
      have h4 := of_decide_eq_false h4
      refine ⟨k, _, rfl, opL_at k1, ?_⟩
      intro c hc
      rw [IntWalk.i64_in _ (by omega)] at hc
      obtain rfl : c = ((l.length - 1 : Nat) : Int) := by omega
      intro c hc
      rw [IntWalk.i64_in _ (by omega)] at hc
      obtain rfl : c = ((l.length - 1 - k : Nat) : Int) := by omega
      refine cnd_split (fun h5 => ?_) (fun h5 => ?_)
      · have h5 := of_decide_eq_true h5
        rw [no _ gd (decide_eq_false (by omega))]
        rfl
      have h5 := of_decide_eq_false h5
      refine cnd_split (fun h6 => absurd (of_decide_eq_true h6) (by omega)) (fun _ => ?_)
      have yes := yes _ gd (decide_eq_true (by omega))
      intro c hc
      rw [IntWalk.i64_in _ (by omega)] at hc
      obtain rfl : c = ((k + 1 : Nat) : Int) := by omega
      exact ⟨g - 1, by omega, k + 1, by omega, rfl, yes⟩
    have h3 := of_decide_eq_false h3
    refine cnd_split (fun h6 => ?_) (fun h6 => absurd (of_decide_eq_false h6) (by omega))
    have ac := ac (by omega)
    refine ⟨k, _, rfl, opL_at k1, ?_⟩
    refine cnd_split (fun h7 => ?_) (fun h7 => ?_)
    · have h7 : l[k].n ≠ 0 := bne_iff_ne.1 h7
      rw [no _ ac (decide_eq_false h7)]
      rfl
    have h7 : l[k].n = 0 := bne_eq_false_iff_eq.1 h7
    have yes := yes _ ac (decide_eq_true h7)
    intro c hc
    rw [IntWalk.i64_in _ (by omega)] at hc
    obtain rfl : c = ((k + 1 : Nat) : Int) := by omega
    exact ⟨g - 1, by omega, k + 1, by omega, rfl, yes⟩
  · have hd := of_decide_eq_false hd
    have hkl : k = l.length := by omega
    rw [hkl, List.drop_length] at hc
    have hc : checkO l 0 = (0, 0) := hc
    rw [hc]
    rfl
theorem touchW_eq (r : Rl) (x : ByteArray) : touchW r x = (decide (foldB r.nm = foldB x) || (decide (r.ac = 4) && decide (foldB r.un = foldB x))) := by
  unfold touchW wrR memB
  by_cases h : r.ac = 4
  · rw [if_pos h, decide_eq_true h]; simp
  · rw [if_neg h, decide_eq_false h]; simp
end Go.Proofs.YthneihlplijklaaDoor
