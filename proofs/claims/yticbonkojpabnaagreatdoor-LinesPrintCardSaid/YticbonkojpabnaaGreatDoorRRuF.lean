/- Rules: cut short; RuleSame, RuleChecks. No statement of its own. -/
import Derived.Test.YticbonkojpabnaaGreatDoorRRu
import Derived.Test.YticbonkojpabnaaGreatDoorRRuR
set_option linter.unusedSimpArgs false
set_option linter.unusedVariables false
set_option maxRecDepth 100000
namespace Go.Proofs.YticbonkojpabnaaGreatDoor
open Go.RowKit
def fewR (r : Rl) : Rl := ⟨r.sd, r.gk, cut60 r.ga, cut60 r.gb, r.ac, cut60 r.nm, cut60 r.un, fewT r.ps⟩
theorem fewR_ok (r : Rl) : (fewR r).Ok :=
 ⟨Nat.le_trans (cut60_size _) (by omega), Nat.le_trans (cut60_size _) (by omega), Nat.le_trans (cut60_size _) (by omega), Nat.le_trans (cut60_size _) (by omega), Nat.le_trans (fewT_len _) (by omega), Nat.le_trans (fewT_sum _) (by omega)⟩
def fw4 (a b c d : ByteArray) : Nat -> List AV
 | 0 => [.s a, .s b, .s c, .s d]
 | 1 => [.s (cut60 a), .s b, .s c, .s d]
 | 2 => [.s (cut60 a), .s (cut60 b), .s c, .s d]
 | 3 => [.s (cut60 a), .s (cut60 b), .s (cut60 c), .s d]
 | _ => [.s (cut60 a), .s (cut60 b), .s (cut60 c), .s (cut60 d)]
theorem few32_p (r : Rl) : APure Tryz.prog 85 [r.av] (fewR r).av [] := by
 have hmx : maxLen = 9223372036854775807 := rfl
 obtain ⟨sd, gk, ga, gb, ac, nm, un, ps⟩ := r
 show APure _ _ [.agg [.i sd, .i gk, .s ga, .s gb, .i ac, .s nm, .s un, .sl .no 2 (prtL ps)]] (.agg [.i sd, .i gk, .s (cut60 ga), .s (cut60 gb), .i ac, .s (cut60 nm), .s (cut60 un), .sl .no 2 (prtL (fewT ps))]) _
 refine APure.of rfl (ACalls.of_vc T_ok mixed Tryz.func85 rfl Tryz.call85 ?_)
 iterate 5 refine ⟨_, rfl, ?_⟩
 refine vc_loop [4] (fun g vals st' => ∃ k : Nat, k + g = 4 /\ vals = [.i k] /\ st' = ⟨[[.i sd, .i gk, .s ga, .s gb, .i ac, .s nm, .s un, .sl .no 2 (prtL ps)], [.i 0, .i 0, .s ⟨#[]⟩, .s ⟨#[]⟩, .i 0, .s ⟨#[]⟩, .s ⟨#[]⟩, .nilS], fw4 nm un ga gb k], []⟩) 4 rfl ⟨0, by omega, rfl, rfl⟩ ?_
 rintro g vals st' ⟨k, hk, rfl, rfl⟩
 obtain rfl | rfl | rfl | rfl | rfl : k = 0 \/ k = 1 \/ k = 2 \/ k = 3 \/ k = 4 := by omega
 ·skip
  refine .x (by kernel_rfl) ?_
  refine ⟨0, rfl, by omega, ?_⟩
  refine ⟨_, rfl, ?_⟩
  refine ⟨0, rfl, by omega, ?_⟩
  refine ⟨_, rfl, ?_⟩
  refine ⟨_, minI_at nm.size 60, Nat.zero_le _, by split <;> omega, ?_⟩
  refine ⟨0, rfl, by omega, ?_⟩
  refine ⟨_, rfl, ?_⟩
  intro c hc
  rw [IntWalk.i64_in _ (by omega)] at hc
  obtain rfl : c = ((0 + 1 : Nat) : Int) := by omega
  exact ⟨g - 1, by omega, 0 + 1, by omega, rfl, rfl⟩
 ·skip
  refine .x (by kernel_rfl) ?_
  refine ⟨1, rfl, by omega, ?_⟩
  refine ⟨_, rfl, ?_⟩
  refine ⟨1, rfl, by omega, ?_⟩
  refine ⟨_, rfl, ?_⟩
  refine ⟨_, minI_at un.size 60, Nat.zero_le _, by split <;> omega, ?_⟩
  refine ⟨1, rfl, by omega, ?_⟩
  refine ⟨_, rfl, ?_⟩
  intro c hc
  rw [IntWalk.i64_in _ (by omega)] at hc
  obtain rfl : c = ((1 + 1 : Nat) : Int) := by omega
  exact ⟨g - 1, by omega, 1 + 1, by omega, rfl, rfl⟩
 ·skip
  refine .x (by kernel_rfl) ?_
  refine ⟨2, rfl, by omega, ?_⟩
  refine ⟨_, rfl, ?_⟩
  refine ⟨2, rfl, by omega, ?_⟩
  refine ⟨_, rfl, ?_⟩
  refine ⟨_, minI_at ga.size 60, Nat.zero_le _, by split <;> omega, ?_⟩
  refine ⟨2, rfl, by omega, ?_⟩
  refine ⟨_, rfl, ?_⟩
  intro c hc
  rw [IntWalk.i64_in _ (by omega)] at hc
  obtain rfl : c = ((2 + 1 : Nat) : Int) := by omega
  exact ⟨g - 1, by omega, 2 + 1, by omega, rfl, rfl⟩
 ·skip
  refine .x (by kernel_rfl) ?_
  refine ⟨3, rfl, by omega, ?_⟩
  refine ⟨_, rfl, ?_⟩
  refine ⟨3, rfl, by omega, ?_⟩
  refine ⟨_, rfl, ?_⟩
  refine ⟨_, minI_at gb.size 60, Nat.zero_le _, by split <;> omega, ?_⟩
  refine ⟨3, rfl, by omega, ?_⟩
  refine ⟨_, rfl, ?_⟩
  intro c hc
  rw [IntWalk.i64_in _ (by omega)] at hc
  obtain rfl : c = ((3 + 1 : Nat) : Int) := by omega
  exact ⟨g - 1, by omega, 3 + 1, by omega, rfl, rfl⟩
 ·skip
  refine ⟨0, rfl, by omega, ?_⟩
  refine ⟨_, rfl, ?_⟩
  refine ⟨_, rfl, ?_⟩
  refine ⟨1, rfl, by omega, ?_⟩
  refine ⟨_, rfl, ?_⟩
  refine ⟨_, rfl, ?_⟩
  refine ⟨2, rfl, by omega, ?_⟩
  refine ⟨_, rfl, ?_⟩
  refine ⟨_, rfl, ?_⟩
  refine ⟨3, rfl, by omega, ?_⟩
  iterate 3 refine ⟨_, rfl, ?_⟩
  refine .p rfl (few31_p ps) ?_
  iterate 4 refine ⟨_, rfl, ?_⟩
  rfl

instance : DecidableEq Rl := fun a b => by
 obtain ⟨a1, a2, a3, a4, a5, a6, a7, a8⟩ := a
 obtain ⟨b1, b2, b3, b4, b5, b6, b7, b8⟩ := b
 rw [Rl.mk.injEq]
 exact inferInstance
theorem rsame_p (r q : Rl) (hr : r.Ok) (hq : q.Ok) : APure Tryz.prog 78 [r.av, q.av] (.b (decide (r = q))) [] := by
 have hps := equalP_p r.ps q.ps (by have := hr.pl; omega) (by have := hq.pl; omega)
 clear hr hq
 obtain ⟨sd, gk, ga, gb, ac, nm, un, ps⟩ := r
 obtain ⟨sd', gk', ga', gb', ac', nm', un', ps'⟩ := q
 show APure _ _ [.agg [.i sd, .i gk, .s ga, .s gb, .i ac, .s nm, .s un, .sl .no 2 (prtL ps)], .agg [.i sd', .i gk', .s ga', .s gb', .i ac', .s nm', .s un', .sl .no 2 (prtL ps')]] _ _
 refine APure.of rfl (ACalls.of_vc T_ok mixed Tryz.func78 rfl Tryz.call78 ?_)
 refine ⟨_, rfl, ?_⟩
 refine ⟨_, rfl, ?_⟩
 refine cnd_split (fun h0 => ?_) (fun h0 => ?_)
 case refine_2 => exact retb (decide_eq_false (fun e => by have := beq_eq_false_iff_ne.1 h0; exact this (congrArg Rl.sd e))).symm
 have h0 : sd = sd' := beq_iff_eq.1 h0
 refine ⟨_, rfl, ?_⟩
 refine ⟨_, rfl, ?_⟩
 refine ⟨by kernel_rfl, fun t1 h1 => ?_⟩
 have h1 : t1 = true ↔ gk = gk' /\ ga = ga' /\ gb = gb' /\ True := h1
 cases t1 with
 | false => exact retb (decide_eq_false (fun e => by have := h1.2 ⟨congrArg Rl.gk e, congrArg Rl.ga e, congrArg Rl.gb e, trivial⟩; cases this)).symm
 | true =>
  obtain ⟨e1, e2, e3, _⟩ := h1.1 rfl
  refine ⟨_, rfl, ?_⟩
  refine ⟨_, rfl, ?_⟩
  refine cnd_split (fun h2 => ?_) (fun h2 => ?_)
  case refine_2 => exact retb (decide_eq_false (fun e => by have := beq_eq_false_iff_ne.1 h2; exact this (congrArg Rl.ac e))).symm
  have h2 : ac = ac' := beq_iff_eq.1 h2
  refine ⟨_, rfl, ?_⟩
  refine ⟨_, rfl, ?_⟩
  intro t3 h3
  cases t3 with
  | false => exact retb (decide_eq_false (fun e => by have := h3.2 (congrArg Rl.nm e); cases this)).symm
  | true =>
   refine ⟨_, rfl, ?_⟩
   refine ⟨_, rfl, ?_⟩
   intro t4 h4
   cases t4 with
   | false => exact retb (decide_eq_false (fun e => by have := h4.2 (congrArg Rl.un e); cases this)).symm
   | true =>
    refine ⟨_, rfl, ?_⟩
    refine ⟨_, rfl, ?_⟩
    refine .p rfl hps ?_
    refine retb ?_
    have e4 := h3.1 rfl
    have e5 := h4.1 rfl
    subst h0 e1 e2 e3 h2 e4 e5
    rw [Bool.eq_iff_iff, decide_eq_true_eq, decide_eq_true_eq]
    exact ⟨fun e => by have e : ps = ps' := e; rw [e], fun e => congrArg Rl.ps e⟩
theorem rsame32_p (r q : Rl) (hr : r.Ok) (hq : q.Ok) : APure Tryz.prog 76 [r.av, q.av] (.b (decide (r = q))) [] := by
 have hps := same31_p r.ps q.ps (by have := hr.pl; omega) (by have := hq.pl; omega)
 clear hr hq
 obtain ⟨sd, gk, ga, gb, ac, nm, un, ps⟩ := r
 obtain ⟨sd', gk', ga', gb', ac', nm', un', ps'⟩ := q
 show APure _ _ [.agg [.i sd, .i gk, .s ga, .s gb, .i ac, .s nm, .s un, .sl .no 2 (prtL ps)], .agg [.i sd', .i gk', .s ga', .s gb', .i ac', .s nm', .s un', .sl .no 2 (prtL ps')]] _ _
 refine APure.of rfl (ACalls.of_vc T_ok mixed Tryz.func76 rfl Tryz.call76 ?_)
 refine ⟨_, rfl, ?_⟩
 refine ⟨_, rfl, ?_⟩
 refine cnd_split (fun h0 => ?_) (fun h0 => ?_)
 case refine_2 => exact retb (decide_eq_false (fun e => by have := beq_eq_false_iff_ne.1 h0; exact this (congrArg Rl.sd e))).symm
 have h0 : sd = sd' := beq_iff_eq.1 h0
 refine ⟨_, rfl, ?_⟩
 refine ⟨_, rfl, ?_⟩
 refine ⟨by kernel_rfl, fun t1 h1 => ?_⟩
 have h1 : t1 = true ↔ gk = gk' /\ ga = ga' /\ gb = gb' /\ True := h1
 cases t1 with
 | false => exact retb (decide_eq_false (fun e => by have := h1.2 ⟨congrArg Rl.gk e, congrArg Rl.ga e, congrArg Rl.gb e, trivial⟩; cases this)).symm
 | true =>
  obtain ⟨e1, e2, e3, _⟩ := h1.1 rfl
  refine ⟨_, rfl, ?_⟩
  refine ⟨_, rfl, ?_⟩
  refine cnd_split (fun h2 => ?_) (fun h2 => ?_)
  case refine_2 => exact retb (decide_eq_false (fun e => by have := beq_eq_false_iff_ne.1 h2; exact this (congrArg Rl.ac e))).symm
  have h2 : ac = ac' := beq_iff_eq.1 h2
  refine ⟨_, rfl, ?_⟩
  refine ⟨_, rfl, ?_⟩
  intro t3 h3
  cases t3 with
  | false => exact retb (decide_eq_false (fun e => by have := h3.2 (congrArg Rl.nm e); cases this)).symm
  | true =>
   refine ⟨_, rfl, ?_⟩
   refine ⟨_, rfl, ?_⟩
   intro t4 h4
   cases t4 with
   | false => exact retb (decide_eq_false (fun e => by have := h4.2 (congrArg Rl.un e); cases this)).symm
   | true =>
    refine ⟨_, rfl, ?_⟩
    refine ⟨_, rfl, ?_⟩
    refine .p rfl hps ?_
    refine retb ?_
    have e4 := h3.1 rfl
    have e5 := h4.1 rfl
    subst h0 e1 e2 e3 h2 e4 e5
    rw [Bool.eq_iff_iff, decide_eq_true_eq, decide_eq_true_eq]
    exact ⟨fun e => by have e : ps = ps' := e; rw [e], fun e => congrArg Rl.ps e⟩
section
attribute [local irreducible] vcApp
end
end Go.Proofs.YticbonkojpabnaaGreatDoor
