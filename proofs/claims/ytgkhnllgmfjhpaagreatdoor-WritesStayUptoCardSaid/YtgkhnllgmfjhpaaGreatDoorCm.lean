/- Rules as instructions: the program. No statement of its own. -/
import Derived.Test.YtgkhnllgmfjhpaaGreatDoorPc
import Derived.Test.YtgkhnllgmfjhpaaGreatDoorVg
import Derived.Test.YtgkhnllgmfjhpaaGreatDoorRuF
set_option linter.unusedSimpArgs false
set_option linter.unusedVariables false
set_option maxRecDepth 100000
namespace Go.Proofs.YtgkhnllgmfjhpaaGreatDoor
open Go.RowKit
/-- a pure function whose result is said less of -/
theorem APure.ofG {P : Program} {f : FuncId} {args : List AV} {r0 : AV} (hd : r0.datR = true) (h : ACalls P f args ⟨[], []⟩ fun r' _ => argW r' r0) : APure P f args r0 [] := by
  refine ⟨AV.res_of_datR hd, h.1, fun J w vs hw hl ha => ?_⟩
  refine (h.2 w.heap.size J w (fun _ => 0) (fun _ => ⟨0, 0, 0⟩) w vs (Ok.none J _ _ w hw) hl ha).mono ?_
  rintro e w' ⟨v, r', st', μ', σ', rfl, hR, hok, hx, hat⟩
  refine ⟨v, fun _ => ⟨0, 0, 0⟩, rfl, ⟨hok.bs, hok.below, fun p cs h => by simp at h, fun p q h => by simp at h, fun t e h => by simp at h⟩, ?_⟩
  exact argW_at hat (fun g x hi _ => ⟨hi.1, fun p hp => by simp at hp, fun t e ht => by simp at ht⟩) hR
theorem cloneP_p (l : List Prt) (hl : l.length ≤ 1099511627776) : APure Tryz.prog 78 [.sl .no 2 (prtL l)] (.sl .no 2 (prtL l)) [] := by
  have hmx : maxLen = 9223372036854775807 := rfl
  have el := prtL_len l
  cases l with
  | nil =>
    refine APure.empty fun a cap hm => ?_
    refine APure.ofW rfl ?_
    cases a with
    | none =>
      refine ACalls.of_vc T_ok mixed Tryz.func78 rfl Tryz.call78 ?_
      exact .inr (.inl ⟨2, rfl, rfl⟩)
    | some a =>
      refine ACalls.of_vc T_ok mixed Tryz.func78 rfl Tryz.call78 ?_
      exact ⟨fun _ => .inl rfl, fun h => absurd rfl h⟩
  | cons f r =>
    refine APure.of rfl (ACalls.of_vc T_ok mixed Tryz.func78 rfl Tryz.call78 ?_)
    refine ⟨fun h => by simp [prtL] at h, fun _ => ⟨?_, ?_, .inl ?_⟩⟩
    · show (prtL (f :: r)).length * 24 ≤ _; omega
    · show (prtL (f :: r)).length ≤ _; omega
    · rfl
theorem check35_p (l : List Rl) (hl : l.length ≤ 1000000) (hr : ∀ r ∈ l, r.Ok) : APure Tryz.prog 20 [.sl .no 8 (rlL l)] (.tup [.i (checkL l).1, .i (checkL l).2]) [] := by
  have el := rlL_len l
  refine APure.of rfl (ACalls.of_vc T_ok mixed Tryz.func20 rfl Tryz.call20 ?_)
  refine vc_loop [9] (fun g vals st' => ∃ k : Nat, k + g = l.length ∧ vals = [.i k] ∧ chkL l 0 = chkL (l.drop k) k) l.length rfl ⟨0, by omega, rfl, rfl⟩ ?_
  rintro g vals st' ⟨k, hk, rfl, hq⟩
  refine cnd_split (fun hd => ?_) (fun hd => ?_)
  · have hd := of_decide_eq_true hd
    have k1 : k < l.length := by omega
    have q1 := rcheckR_p l[k] (hr _ (List.getElem_mem k1))
    rw [chkL_at k1] at hq
    refine ⟨k, _, rfl, rlL_at k1, ?_⟩
    refine ⟨_, last_at _ _, ?_⟩
    refine ⟨_, last_upd _ _ _, ?_⟩
    refine .p rfl q1 ?_
    have c09 := checkR_02 l[k]
    generalize checkR l[k] = c at hq c09
    refine cnd_split (fun h2 => ?_) (fun h2 => ?_)
    · have h2 : c ≠ 0 := bne_iff_ne.1 h2
      rw [if_neg h2] at hq
      obtain rfl : c = 9 := c09.resolve_left h2
      unfold checkL
      rw [hq, if_pos (fun h => by cases h)]
      rfl
    · have h2 : c = 0 := bne_eq_false_iff_eq.1 h2
      rw [if_pos h2] at hq
      intro c hc
      rw [IntWalk.i64_in _ (by omega)] at hc
      obtain rfl : c = ((k + 1 : Nat) : Int) := by omega
      exact ⟨g - 1, by omega, k + 1, by omega, rfl, hq⟩
  · have hd := of_decide_eq_false hd
    have hkl : k = l.length := by omega
    rw [hkl, List.drop_length] at hq
    have hq : chkL l 0 = (0, 0) := hq
    unfold checkL
    rw [hq, if_neg (fun h => h rfl)]
    refine cnd_split (fun h2 => ?_) (fun h2 => ?_)
    · have h2 := of_decide_eq_true h2
      rw [if_pos (by omega)]
      rfl
    · have h2 := of_decide_eq_false h2
      rw [if_neg (by omega)]
      rfl
theorem own36_p (r : Rl) (hr : r.Ok) : APure Tryz.prog 59 [r.av] (.agg (ownO r).cs) [] := by
  have hpl := hr.pl
  have q1 := cloneP_p r.ps (by omega)
  clear hr
  obtain ⟨sd, gk, ga, gb, ac, nm, un, ps⟩ := r
  have key : ∀ o : Opn, ownO ⟨sd, gk, ga, gb, ac, nm, un, ps⟩ = o → ∀ r' : AV, argW r' (.agg o.cs) → argW r' (.agg (ownO ⟨sd, gk, ga, gb, ac, nm, un, ps⟩).cs) := fun o e r' h => by rw [e]; exact h
  refine APure.ofG rfl ?_
  show ACalls _ _ [.agg [.i sd, .i gk, .s ga, .s gb, .i ac, .s nm, .s un, .sl .no 2 (prtL ps)]] _ _
  refine ACalls.of_vc T_ok mixed Tryz.func59 rfl Tryz.call59 ?_
  refine ⟨_, rfl, ?_⟩
  refine ⟨_, rfl, ?_⟩
  refine ⟨_, rfl, ?_⟩
  refine cnd_split (fun h1 => ?_) (fun h1 => ?_)
  · refine ⟨_, rfl, ?_⟩
    refine .p rfl q1 ?_
    refine ⟨_, rfl, ?_⟩
    refine ⟨_, rfl, ?_⟩
    refine ⟨_, rfl, ?_⟩
    refine ⟨_, rfl, ?_⟩
    refine ⟨_, rfl, ?_⟩
    exact key ⟨6, nm, emB, ps, 0⟩ (by unfold ownO; rw [if_pos (show ac = 1 from beq_iff_eq.1 h1)]) _ (.inl (.inl ⟨rfl, rfl⟩))
  have h1 : ac ≠ 1 := beq_eq_false_iff_ne.1 h1
  refine cnd_split (fun h2 => ?_) (fun h2 => ?_)
  · refine ⟨_, rfl, ?_⟩
    refine .p rfl q1 ?_
    refine ⟨_, rfl, ?_⟩
    refine ⟨_, rfl, ?_⟩
    refine ⟨_, rfl, ?_⟩
    refine ⟨_, rfl, ?_⟩
    refine ⟨_, rfl, ?_⟩
    exact key ⟨5, nm, emB, ps, 0⟩ (by unfold ownO; rw [if_neg h1, if_pos (show ac = 2 from beq_iff_eq.1 h2)]) _ (.inl (.inl ⟨rfl, rfl⟩))
  have h2 : ac ≠ 2 := beq_eq_false_iff_ne.1 h2
  refine cnd_split (fun h3 => ?_) (fun h3 => ?_)
  · refine ⟨_, rfl, ?_⟩
    refine ⟨_, rfl, ?_⟩
    refine ⟨_, rfl, ?_⟩
    refine ⟨_, rfl, ?_⟩
    exact key ⟨4, nm, emB, [], 0⟩ (by unfold ownO; rw [if_neg h1, if_neg h2, if_pos (show ac = 3 from beq_iff_eq.1 h3)]) _ (.inl (.inr ⟨_, _, rfl, rfl, ⟨.inl ⟨rfl, rfl⟩, .inl ⟨rfl, rfl⟩, .inl ⟨rfl, rfl⟩, .inr ⟨rfl, 2, rfl⟩, .inl ⟨rfl, rfl⟩, trivial⟩⟩))
  have h3 : ac ≠ 3 := beq_eq_false_iff_ne.1 h3
  refine cnd_split (fun h4 => ?_) (fun h4 => ?_)
  · refine .n (.one 0 (.one 2 (.two 1 3 (.one 3 (.one 4 (.one 5 .done))) (.one 1 (.one 4 (.one 5 .done)))))) (by kernel_rfl) ⟨?_, ?_⟩
    · refine ⟨_, rfl, ?_⟩
      refine ⟨_, rfl, ?_⟩
      refine ⟨_, rfl, ?_⟩
      refine ⟨_, rfl, ?_⟩
      refine ⟨_, rfl, ?_⟩
      refine ⟨_, rfl, ?_⟩
      exact key ⟨7, nm, un, [], 0⟩ (by unfold ownO; rw [if_neg h1, if_neg h2, if_neg h3, if_pos (show ac = 4 from beq_iff_eq.1 h4)]) _ (.inl (.inr ⟨_, _, rfl, rfl, ⟨.inl ⟨rfl, rfl⟩, .inl ⟨rfl, rfl⟩, .inl ⟨rfl, rfl⟩, .inr ⟨rfl, 2, rfl⟩, .inl ⟨rfl, rfl⟩, trivial⟩⟩))
    · refine ⟨_, rfl, ?_⟩
      refine ⟨_, rfl, ?_⟩
      refine ⟨_, rfl, ?_⟩
      refine ⟨_, rfl, ?_⟩
      refine ⟨_, rfl, ?_⟩
      refine ⟨_, rfl, ?_⟩
      exact key ⟨7, nm, un, [], 0⟩ (by unfold ownO; rw [if_neg h1, if_neg h2, if_neg h3, if_pos (show ac = 4 from beq_iff_eq.1 h4)]) _ (.inl (.inr ⟨_, _, rfl, rfl, ⟨.inl ⟨rfl, rfl⟩, .inl ⟨rfl, rfl⟩, .inl ⟨rfl, rfl⟩, .inr ⟨rfl, 2, rfl⟩, .inl ⟨rfl, rfl⟩, trivial⟩⟩))
  have h4 : ac ≠ 4 := beq_eq_false_iff_ne.1 h4
  refine ⟨_, rfl, ?_⟩
  refine ⟨_, rfl, ?_⟩
  exact key ⟨0, emB, emB, [], 0⟩ (by unfold ownO; rw [if_neg h1, if_neg h2, if_neg h3, if_neg h4]) _ (.inl (.inr ⟨_, _, rfl, rfl, ⟨.inl ⟨rfl, rfl⟩, .inl ⟨rfl, rfl⟩, .inl ⟨rfl, rfl⟩, .inr ⟨rfl, 2, rfl⟩, .inl ⟨rfl, rfl⟩, trivial⟩⟩))
theorem guard36_p (gk : Int) (ga gb : ByteArray) (n : Nat) (h : gk = 1 ∨ gk = 2 ∨ gk = 3) (hb : gk = 1 ∨ gk = 2 → gb = emB) : APure Tryz.prog 34 [.agg [.i gk, .s ga, .s gb], .i n] (.agg (guardO (gk, ga, gb) n).cs) [] := by
  refine APure.ofG rfl ?_
  show ACalls _ _ _ _ fun r' _ => argW r' (.agg [.i gk, .s ga, .s gb, .sl .no 2 [], .i n])
  refine ACalls.of_vc T_ok mixed Tryz.func34 rfl Tryz.call34 ?_
  refine ⟨_, rfl, ?_⟩
  refine ⟨_, rfl, ?_⟩
  refine ⟨_, rfl, ?_⟩
  refine cnd_split (fun h1 => ?_) (fun h1 => ?_)
  · refine ⟨_, rfl, ?_⟩
    refine ⟨_, rfl, ?_⟩
    refine ⟨_, rfl, ?_⟩
    refine ⟨_, rfl, ?_⟩
    obtain rfl : gk = 1 := beq_iff_eq.1 h1
    obtain rfl := hb (.inl rfl)
    exact (.inl (.inr ⟨_, _, rfl, rfl, ⟨.inl ⟨rfl, rfl⟩, .inl ⟨rfl, rfl⟩, .inl ⟨rfl, rfl⟩, .inr ⟨rfl, 2, rfl⟩, .inl ⟨rfl, rfl⟩, trivial⟩⟩))
  have h1 : gk ≠ 1 := beq_eq_false_iff_ne.1 h1
  refine cnd_split (fun h2 => ?_) (fun h2 => ?_)
  · refine ⟨_, rfl, ?_⟩
    refine ⟨_, rfl, ?_⟩
    refine ⟨_, rfl, ?_⟩
    refine ⟨_, rfl, ?_⟩
    obtain rfl : gk = 2 := beq_iff_eq.1 h2
    obtain rfl := hb (.inr rfl)
    exact (.inl (.inr ⟨_, _, rfl, rfl, ⟨.inl ⟨rfl, rfl⟩, .inl ⟨rfl, rfl⟩, .inl ⟨rfl, rfl⟩, .inr ⟨rfl, 2, rfl⟩, .inl ⟨rfl, rfl⟩, trivial⟩⟩))
  have h2 : gk ≠ 2 := beq_eq_false_iff_ne.1 h2
  obtain rfl : gk = 3 := by omega
  refine .n (.one 0 (.one 2 (.two 1 3 (.one 3 (.one 4 (.one 5 .done))) (.one 1 (.one 4 (.one 5 .done)))))) (by kernel_rfl) ⟨?_, ?_⟩
  · refine ⟨_, rfl, ?_⟩
    refine ⟨_, rfl, ?_⟩
    refine ⟨_, rfl, ?_⟩
    refine ⟨_, rfl, ?_⟩
    refine ⟨_, rfl, ?_⟩
    refine ⟨_, rfl, ?_⟩
    exact (.inl (.inr ⟨_, _, rfl, rfl, ⟨.inl ⟨rfl, rfl⟩, .inl ⟨rfl, rfl⟩, .inl ⟨rfl, rfl⟩, .inr ⟨rfl, 2, rfl⟩, .inl ⟨rfl, rfl⟩, trivial⟩⟩))
  · refine ⟨_, rfl, ?_⟩
    refine ⟨_, rfl, ?_⟩
    refine ⟨_, rfl, ?_⟩
    refine ⟨_, rfl, ?_⟩
    refine ⟨_, rfl, ?_⟩
    refine ⟨_, rfl, ?_⟩
    exact (.inl (.inr ⟨_, _, rfl, rfl, ⟨.inl ⟨rfl, rfl⟩, .inl ⟨rfl, rfl⟩, .inl ⟨rfl, rfl⟩, .inr ⟨rfl, 2, rfl⟩, .inl ⟨rfl, rfl⟩, trivial⟩⟩))
set_option maxHeartbeats 1000000 in
theorem run36_p (r : Rl) (rs : List Rl) (hl : rs.length ≤ 1000000) (hr : ∀ q ∈ r :: rs, q.Ok) : APure Tryz.prog 33 [.sl .no 8 (rlL (r :: rs))] (.i (contW r.g r rs + 1 : Nat)) [] := by
  have hmx : maxLen = 9223372036854775807 := rfl
  have el := rlL_len (r :: rs)
  have er : (r :: rs).length = rs.length + 1 := rfl
  have hga := (hr r List.mem_cons_self).ga
  have q2 := foldO_p r.ga (by omega)
  refine APure.of rfl (ACalls.of_vc T_ok mixed Tryz.func33 rfl Tryz.call33 ?_)
  refine ⟨0, _, rfl, rfl, ?_⟩
  refine ⟨_, rfl, ?_⟩
  refine vc_loop [4] (fun g vals st' => ∃ (m : Nat) (hm : m < (r :: rs).length), m + g = rs.length ∧ vals = [.i (m + 1 : Nat)] ∧ st' = ⟨[[.i r.gk, .s r.ga, .s r.gb]], []⟩ ∧ contW r.g r rs = m + contW r.g (r :: rs)[m] (rs.drop m)) rs.length rfl ⟨0, by simp, by omega, rfl, rfl, by simp⟩ ?_
  rintro g vals st' ⟨m, hm, hk, rfl, rfl, hc⟩
  have hok := hr _ (List.getElem_mem hm)
  have q1 := writes_p (r :: rs)[m] hok
  have q3 := contains_p (wrR (r :: rs)[m].ac (r :: rs)[m].nm (r :: rs)[m].un) (foldB r.ga) (by unfold wrR; split <;> simp)
  refine .x (by kernel_rfl) ?_
  refine cnd_split (fun hd => ?_) (fun hd => ?_)
  · have hd := of_decide_eq_true hd
    have m1 : m + 1 < (r :: rs).length := by omega
    have m2 : m < rs.length := by omega
    have hx : (r :: rs)[m + 1] = rs[m] := rfl
    rw [List.drop_eq_getElem_cons m2] at hc
    refine ⟨m + 1, _, rfl, rlL_at m1, ?_⟩
    refine ⟨_, rfl, ?_⟩
    refine ⟨by kernel_rfl, fun q hq => ?_⟩
    have hq : q = true ↔ rs[m].gk = r.gk ∧ rs[m].ga = r.ga ∧ rs[m].gb = r.gb ∧ True := hq
    have hg : q = true ↔ rs[m].g = r.g := by
      rw [hq]
      unfold Rl.g
      rw [Prod.mk.injEq, Prod.mk.injEq]
      exact ⟨fun ⟨a, b, c, _⟩ => ⟨a, b, c⟩, fun ⟨a, b, c⟩ => ⟨a, b, c, trivial⟩⟩
    have hq0 := hc
    clear hc
    cases q with
    | false =>
      have hne : ¬ rs[m].g = r.g := fun e => by have := hg.2 e; cases this
      rw [contW, if_neg (fun h => hne h.1)] at hq0
      exact congrArg (fun x : Nat => AV.i (x : Int)) (show m + 1 = contW r.g r rs + 1 by omega)
    | true =>
      have hg := hg.1 rfl
      intro c hc
      rw [IntWalk.i64_in _ (by omega)] at hc
      obtain rfl : c = ((m : Nat) : Int) := by omega
      refine ⟨m, _, rfl, rlL_at hm, ?_⟩
      refine .p rfl q1 ?_
      refine ⟨_, rfl, ?_⟩
      refine .p rfl q2 ?_
      refine .p rfl q3 ?_
      refine cnd_split (fun h3 => ?_) (fun h3 => ?_)
      · rw [Bool.not_eq_true'] at h3
        rw [contW, if_pos ⟨hg, h3⟩] at hq0
        intro c hc
        rw [IntWalk.i64_in _ (by omega)] at hc
        obtain rfl : c = ((m + 2 : Nat) : Int) := by omega
        exact ⟨g - 1, by omega, m + 1, m1, by omega, rfl, rfl, by rw [hx]; omega⟩
      · rw [Bool.not_eq_false'] at h3
        rw [contW, if_neg (fun h => by have h2 : touchW _ r.ga = false := h.2; unfold touchW at h2; rw [h3] at h2; cases h2)] at hq0
        exact congrArg (fun x : Nat => AV.i (x : Int)) (show m + 1 = contW r.g r rs + 1 by omega)
  · have hd := of_decide_eq_false hd
    have : m = rs.length := by omega
    rw [List.drop_of_length_le (by omega), contW] at hc
    exact congrArg (fun x : Nat => AV.i (x : Int)) (show m + 1 = contW r.g r rs + 1 by omega)
end Go.Proofs.YtgkhnllgmfjhpaaGreatDoor
