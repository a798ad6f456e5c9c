/- Rules made instructions: the document's definition, but for Compile. No statement of its own. -/
import Derived.Test.YthneihlplijklaaGreatDoorCp
set_option linter.unusedSimpArgs false
set_option linter.unusedVariables false
set_option maxRecDepth 100000
namespace Go.Proofs.YthneihlplijklaaGreatDoor
open Go.RowKit
instance : DecidableEq Opn := fun a b => by
  obtain ⟨a1, a2, a3, a4, a5⟩ := a
  obtain ⟨b1, b2, b3, b4, b5⟩ := b
  rw [Opn.mk.injEq]
  exact inferInstance
theorem Opn.ext' {a b : Opn} (h1 : a.k = b.k) (h2 : a.nm = b.nm) (h3 : a.tx = b.tx) (h4 : a.ps = b.ps) (h5 : a.n = b.n) : a = b := by
  obtain ⟨a1, a2, a3, a4, a5⟩ := a
  obtain ⟨b1, b2, b3, b4, b5⟩ := b
  subst h1 h2 h3 h4 h5
  rfl
theorem take_snoc_ne {α : Type} {l m : List α} {k : Nat} (h1 : k < l.length) (h2 : k < m.length) (h : l[k] ≠ m[k]) : l ≠ m := fun e => by subst e; exact h rfl
set_option maxHeartbeats 1000000 in
theorem same36_p (l m : List Opn) (hl : l.length ≤ 1000000) (hm : m.length ≤ 1000000) (hp : ∀ o ∈ l, o.ps.length ≤ 1000000) (hq : ∀ o ∈ m, o.ps.length ≤ 1000000) :
    APure Tryz.prog 14 [.sl .no 5 (opL l), .sl .no 5 (opL m)] (.b (decide (l = m))) [] := by
  have el := opL_len l
  have em := opL_len m
  refine APure.of rfl (ACalls.of_vc T_ok mixed Tryz.func14 rfl Tryz.call14 ?_)
  refine cnd_split (fun h1 => ?_) (fun h1 => ?_)
  · have h1 := bne_iff_ne.1 h1
    exact retb (decide_eq_false (fun e => h1 (by rw [e]))).symm
  have h1 := bne_eq_false_iff_eq.1 h1
  have hlm : l.length = m.length := by omega
  refine vc_loop [5] (fun g vals st' => ∃ k : Nat, k + g = l.length ∧ vals = [.i k] ∧ l.take k = m.take k) l.length rfl ⟨0, by omega, rfl, by simp⟩ ?_
  rintro g vals st' ⟨k, hk, rfl, ht⟩
  refine cnd_split (fun hd => ?_) (fun hd => ?_)
  · have hd := of_decide_eq_true hd
    have k1 : k < l.length := by omega
    have k2 : k < m.length := by omega
    have q1 := same31_p l[k].ps m[k].ps (by have := hp _ (List.getElem_mem k1); omega) (by have := hq _ (List.getElem_mem k2); omega)
    have no : l[k] ≠ m[k] → false = decide (l = m) := fun h => (decide_eq_false (take_snoc_ne k1 k2 h)).symm
    have yes : l[k] = m[k] → l.take (k + 1) = m.take (k + 1) := fun h => by rw [List.take_succ_eq_append_getElem k1, List.take_succ_eq_append_getElem k2, ht, h]
    refine .x (by kernel_rfl) ?_
    refine ⟨k, _, rfl, opL_at k1, ?_⟩
    refine ⟨k, _, rfl, opL_at k2, ?_⟩
    refine cnd_split (fun e1 => ?_) (fun e1 => ?_)
    · have e1 := bne_iff_ne.1 e1
      exact retb (no fun e => e1 (congrArg Opn.k e))
    have e1 : l[k].k = m[k].k := bne_eq_false_iff_eq.1 e1
    refine ⟨k, _, rfl, opL_at k1, ?_⟩
    refine ⟨k, _, rfl, opL_at k2, ?_⟩
    intro t2 h2
    cases t2 with
    | true => exact retb (no fun e => by have := h2.2 (congrArg Opn.nm e); cases this)
    | false =>
      have e2 := h2.1 rfl
      refine ⟨k, _, rfl, opL_at k1, ?_⟩
      refine ⟨k, _, rfl, opL_at k2, ?_⟩
      intro t3 h3
      cases t3 with
      | true => exact retb (no fun e => by have := h3.2 (congrArg Opn.tx e); cases this)
      | false =>
        have e3 := h3.1 rfl
        refine ⟨k, _, rfl, opL_at k1, ?_⟩
        refine ⟨k, _, rfl, opL_at k2, ?_⟩
        refine cnd_split (fun e4 => ?_) (fun e4 => ?_)
        · have e4 := bne_iff_ne.1 e4
          exact retb (no fun e => e4 (congrArg Opn.n e))
        have e4 : l[k].n = m[k].n := bne_eq_false_iff_eq.1 e4
        refine ⟨k, _, rfl, opL_at k1, ?_⟩
        refine ⟨k, _, rfl, opL_at k2, ?_⟩
        refine .p rfl q1 ?_
        refine cnd_split (fun e5 => ?_) (fun e5 => ?_)
        · rw [Bool.not_eq_true'] at e5
          have e5 := of_decide_eq_false e5
          exact retb (no fun e => e5 (congrArg Opn.ps e))
        · rw [Bool.not_eq_false'] at e5
          have e5 := of_decide_eq_true e5
          intro c hc
          rw [IntWalk.i64_in _ (by omega)] at hc
          obtain rfl : c = ((k + 1 : Nat) : Int) := by omega
          exact ⟨g - 1, by omega, k + 1, by omega, rfl, yes (Opn.ext' e1 e2 e3 e5 e4)⟩
  · have hd := of_decide_eq_false hd
    rw [List.take_of_length_le (by omega), List.take_of_length_le (by omega)] at ht
    exact retb (decide_eq_true ht).symm
theorem check35R_p (l : List Rl) (hl : l.length ≤ 1000000) (hr : ∀ r ∈ l, r.Ok) : APure Tryz.prog 40 [.sl .no 8 (rlL l)] (.tup [.i (checkL l).1, .i (checkL l).2]) [] := by
  have el := rlL_len l
  refine APure.of rfl (ACalls.of_vc T_ok mixed Tryz.func40 rfl Tryz.call40 ?_)
  refine vc_loop [4] (fun g vals st' => ∃ k : Nat, k + g = l.length ∧ vals = [.i k] ∧ chkL l 0 = chkL (l.drop k) k) l.length rfl ⟨0, by omega, rfl, rfl⟩ ?_
  rintro g vals st' ⟨k, hk, rfl, hq⟩
  refine cnd_split (fun hd => ?_) (fun hd => ?_)
  · have hd := of_decide_eq_true hd
    have k1 : k < l.length := by omega
    have q1 := rcheck32_p l[k] (hr _ (List.getElem_mem k1))
    rw [chkL_at k1] at hq
    refine ⟨k, _, rfl, rlL_at k1, ?_⟩
    refine .p rfl q1 ?_
    generalize checkR l[k] = c at hq
    refine cnd_split (fun h2 => ?_) (fun h2 => ?_)
    · have h2 : c ≠ 0 := bne_iff_ne.1 h2
      rw [if_neg h2] at hq
      unfold checkL
      rw [hq, if_pos (fun h => by cases h)]
      rfl
    · have h2 : c = 0 := bne_eq_false_iff_eq.1 h2
      rw [if_pos h2] at hq
      intro c hc
      rw [IntWalk.i64_in _ (by omega)] at hc
      obtain rfl : c = ((k + 1 : Nat) : Int) := by omega
      exact ⟨g - 1, by omega, k + 1, by omega, rfl, hq⟩
  · have hd := of_decide_eq_false hd
    have hkl : k = l.length := by omega
    rw [hkl, List.drop_length] at hq
    have hq : chkL l 0 = (0, 0) := hq
    unfold checkL
    rw [hq, if_neg (fun h => h rfl)]
    refine cnd_split (fun h2 => ?_) (fun h2 => ?_)
    · have h2 := of_decide_eq_true h2
      rw [if_pos (by omega)]
      rfl
    · have h2 := of_decide_eq_false h2
      rw [if_neg (by omega)]
      rfl
theorem ownR36_p (r : Rl) : APure Tryz.prog 16 [r.av] (.agg (ownO r).cs) [] := by
  obtain ⟨sd, gk, ga, gb, ac, nm, un, ps⟩ := r
  have key : ∀ o : Opn, ownO ⟨sd, gk, ga, gb, ac, nm, un, ps⟩ = o → ∀ r' : AV, argW r' (.agg o.cs) → argW r' (.agg (ownO ⟨sd, gk, ga, gb, ac, nm, un, ps⟩).cs) := fun o e r' h => by rw [e]; exact h
  refine APure.ofG rfl ?_
  show ACalls _ _ [.agg [.i sd, .i gk, .s ga, .s gb, .i ac, .s nm, .s un, .sl .no 2 (prtL ps)]] _ _
  refine ACalls.of_vc T_ok mixed Tryz.func16 rfl Tryz.call16 ?_
  refine ⟨_, rfl, ?_⟩
  refine cnd_split (fun h1 => ?_) (fun h1 => ?_)
  · skip
    refine ⟨_, rfl, ?_⟩
    refine ⟨_, rfl, ?_⟩
    refine ⟨_, rfl, ?_⟩
    refine ⟨_, rfl, ?_⟩
    exact key ⟨6, nm, emB, ps, 0⟩ (by unfold ownO; rw [if_pos (show ac = 1 from beq_iff_eq.1 h1)]) _ (.inl (.inl ⟨rfl, rfl⟩))
  have h1 : ac ≠ 1 := beq_eq_false_iff_ne.1 h1
  refine cnd_split (fun h2 => ?_) (fun h2 => ?_)
  · skip
    refine ⟨_, rfl, ?_⟩
    refine ⟨_, rfl, ?_⟩
    refine ⟨_, rfl, ?_⟩
    refine ⟨_, rfl, ?_⟩
    exact key ⟨5, nm, emB, ps, 0⟩ (by unfold ownO; rw [if_neg h1, if_pos (show ac = 2 from beq_iff_eq.1 h2)]) _ (.inl (.inl ⟨rfl, rfl⟩))
  have h2 : ac ≠ 2 := beq_eq_false_iff_ne.1 h2
  refine cnd_split (fun h3 => ?_) (fun h3 => ?_)
  · skip
    refine ⟨_, rfl, ?_⟩
    refine ⟨_, rfl, ?_⟩
    refine ⟨_, rfl, ?_⟩
    exact key ⟨4, nm, emB, [], 0⟩ (by unfold ownO; rw [if_neg h1, if_neg h2, if_pos (show ac = 3 from beq_iff_eq.1 h3)]) _ (.inl (.inr ⟨_, _, rfl, rfl, ⟨.inl ⟨rfl, rfl⟩, .inl ⟨rfl, rfl⟩, .inl ⟨rfl, rfl⟩, .inr ⟨rfl, 2, rfl⟩, .inl ⟨rfl, rfl⟩, trivial⟩⟩))
  have h3 : ac ≠ 3 := beq_eq_false_iff_ne.1 h3
  refine cnd_split (fun h4 => ?_) (fun h4 => ?_)
  · skip
    refine ⟨_, rfl, ?_⟩
    refine ⟨_, rfl, ?_⟩
    refine ⟨_, rfl, ?_⟩
    refine ⟨_, rfl, ?_⟩
    exact key ⟨7, nm, un, [], 0⟩ (by unfold ownO; rw [if_neg h1, if_neg h2, if_neg h3, if_pos (show ac = 4 from beq_iff_eq.1 h4)]) _ (.inl (.inr ⟨_, _, rfl, rfl, ⟨.inl ⟨rfl, rfl⟩, .inl ⟨rfl, rfl⟩, .inl ⟨rfl, rfl⟩, .inr ⟨rfl, 2, rfl⟩, .inl ⟨rfl, rfl⟩, trivial⟩⟩))
  have h4 : ac ≠ 4 := beq_eq_false_iff_ne.1 h4
  refine ⟨_, rfl, ?_⟩
  refine ⟨_, rfl, ?_⟩
  exact key ⟨0, emB, emB, [], 0⟩ (by unfold ownO; rw [if_neg h1, if_neg h2, if_neg h3, if_neg h4]) _ (.inl (.inr ⟨_, _, rfl, rfl, ⟨.inl ⟨rfl, rfl⟩, .inl ⟨rfl, rfl⟩, .inl ⟨rfl, rfl⟩, .inr ⟨rfl, 2, rfl⟩, .inl ⟨rfl, rfl⟩, trivial⟩⟩))
theorem touchW_eq (r : Rl) (x : ByteArray) : touchW r x = (decide (foldB r.nm = foldB x) || (decide (r.ac = 4) && decide (foldB r.un = foldB x))) := by
  unfold touchW wrR memB
  by_cases h : r.ac = 4
  · rw [if_pos h, decide_eq_true h]; simp
  · rw [if_neg h, decide_eq_false h]; simp
theorem touches36_p (r : Rl) (x : ByteArray) (hr : r.Ok) (hx : x.size ≤ 1000000) : APure Tryz.prog 41 [r.av, .s x] (.b (touchW r x)) [] := by
  have q1 := foldR_p x (by omega)
  have q2 := foldR_p r.nm (by have := hr.nm; omega)
  have q3 := foldR_p r.un (by have := hr.un; omega)
  have ht := touchW_eq r x
  generalize touchW r x = t at ht
  obtain ⟨sd, gk, ga, gb, ac, nm, un, ps⟩ := r
  show APure _ _ [.agg [.i sd, .i gk, .s ga, .s gb, .i ac, .s nm, .s un, .sl .no 2 (prtL ps)], .s x] _ _
  have ht : t = (decide (foldB nm = foldB x) || (decide (ac = 4) && decide (foldB un = foldB x))) := ht
  refine APure.of rfl (ACalls.of_vc T_ok mixed Tryz.func41 rfl Tryz.call41 ?_)
  refine .p rfl q1 ?_
  refine ⟨_, rfl, ?_⟩
  refine .p rfl q2 ?_
  intro t1 h1
  cases t1 with
  | true => exact retb (by rw [ht, decide_eq_true (h1.1 rfl)]; rfl)
  | false =>
    rw [decide_eq_false (fun e => by have := h1.2 e; cases this), Bool.false_or] at ht
    refine ⟨_, rfl, ?_⟩
    refine cnd_split (fun h4 => ?_) (fun h4 => ?_)
    · rw [decide_eq_true (show ac = 4 from beq_iff_eq.1 h4), Bool.true_and] at ht
      refine ⟨_, rfl, ?_⟩
      refine .p rfl q3 ?_
      intro t2 h2
      exact retb (by rw [ht, Bool.eq_iff_iff, h2, decide_eq_true_eq])
    · rw [decide_eq_false (show ac ≠ 4 from beq_eq_false_iff_ne.1 h4)] at ht
      exact retb ht.symm
end Go.Proofs.YthneihlplijklaaGreatDoor
