/- Rules: cut short; RuleSame, RuleChecks. No statement of its own. -/
import Derived.Test.YticbonkojpabnaaGreatDoorSRu
import Derived.Test.YticbonkojpabnaaGreatDoorSRuR
set_option linter.unusedSimpArgs false
set_option linter.unusedVariables false
set_option maxRecDepth 100000
namespace Go.Proofs.YticbonkojpabnaaGreatDoor
open Go.RowKit
instance:DecidableEq Rl:=fun a b=>by
 obtain ⟨a1,a2,a3,a4,a5,a6,a7,a8⟩:=a
 obtain ⟨b1,b2,b3,b4,b5,b6,b7,b8⟩:=b
 rw [Rl.mk.injEq]
 exact inferInstance
theorem rsame_p (r q:Rl) (hr:r.Ok) (hq:q.Ok):ZAC Tryz.prog 78 [r.av,q.av] (.b (decide (r=q))) []:=by
 have hps:=ZJQ r.ps q.ps (by have:=hr.pl; omega) (by have:=hq.pl; omega)
 clear hr hq
 obtain ⟨sd,gk,ga,gb,ac,nm,un,ps⟩:=r
 obtain ⟨sd',gk',ga',gb',ac',nm',un',ps'⟩:=q
 show ZAC _ _ [.agg [.i sd,.i gk,.s ga,.s gb,.i ac,.s nm,.s un,.sl .no 2 (prtL ps)],.agg [.i sd',.i gk',.s ga',.s gb',.i ac',.s nm',.s un',.sl .no 2 (prtL ps')]] _ _
 refine ZAC.of rfl (ZAB.of_vc T_ok mixed Tryz.func78 rfl Tryz.call78 ?_)
 refine ⟨_,rfl,?_⟩
 refine ⟨_,rfl,?_⟩
 refine ZAA (fun h0=>?_) (fun h0=>?_)
 case refine_2=>exact retb (decide_eq_false (fun e=>by have:=beq_eq_false_iff_ne.1 h0; exact this (congrArg Rl.sd e))).symm
 have h0:sd=sd':=beq_iff_eq.1 h0
 refine ⟨_,rfl,?_⟩
 refine ⟨_,rfl,?_⟩
 refine ⟨by kernel_rfl,fun t1 h1=>?_⟩
 have h1:t1=true ↔ gk=gk'/\ga=ga'/\gb=gb'/\True:=h1
 cases t1 with
 | false=>exact retb (decide_eq_false (fun e=>by have:=h1.2 ⟨congrArg Rl.gk e,congrArg Rl.ga e,congrArg Rl.gb e,trivial⟩; cases this)).symm
 | true =>
  obtain ⟨e1,e2,e3,_⟩:=h1.1 rfl
  refine ⟨_,rfl,?_⟩
  refine ⟨_,rfl,?_⟩
  refine ZAA (fun h2=>?_) (fun h2=>?_)
  case refine_2=>exact retb (decide_eq_false (fun e=>by have:=beq_eq_false_iff_ne.1 h2; exact this (congrArg Rl.ac e))).symm
  have h2:ac=ac':=beq_iff_eq.1 h2
  refine ⟨_,rfl,?_⟩
  refine ⟨_,rfl,?_⟩
  intro t3 h3
  cases t3 with
  | false=>exact retb (decide_eq_false (fun e=>by have:=h3.2 (congrArg Rl.nm e); cases this)).symm
  | true =>
   refine ⟨_,rfl,?_⟩
   refine ⟨_,rfl,?_⟩
   intro t4 h4
   cases t4 with
   | false=>exact retb (decide_eq_false (fun e=>by have:=h4.2 (congrArg Rl.un e); cases this)).symm
   | true =>
    refine ⟨_,rfl,?_⟩
    refine ⟨_,rfl,?_⟩
    refine .p rfl hps ?_
    refine retb ?_
    have e4:=h3.1 rfl
    have e5:=h4.1 rfl
    subst h0 e1 e2 e3 h2 e4 e5
    rw [Bool.eq_iff_iff,decide_eq_true_eq,decide_eq_true_eq]
    exact ⟨fun e=>by have e:ps=ps':=e; rw [e],fun e=>congrArg Rl.ps e⟩
theorem rsame32_p (r q:Rl) (hr:r.Ok) (hq:q.Ok):ZAC Tryz.prog 76 [r.av,q.av] (.b (decide (r=q))) []:=by
 have hps:=ZMd r.ps q.ps (by have:=hr.pl; omega) (by have:=hq.pl; omega)
 clear hr hq
 obtain ⟨sd,gk,ga,gb,ac,nm,un,ps⟩:=r
 obtain ⟨sd',gk',ga',gb',ac',nm',un',ps'⟩:=q
 show ZAC _ _ [.agg [.i sd,.i gk,.s ga,.s gb,.i ac,.s nm,.s un,.sl .no 2 (prtL ps)],.agg [.i sd',.i gk',.s ga',.s gb',.i ac',.s nm',.s un',.sl .no 2 (prtL ps')]] _ _
 refine ZAC.of rfl (ZAB.of_vc T_ok mixed Tryz.func76 rfl Tryz.call76 ?_)
 refine ⟨_,rfl,?_⟩
 refine ⟨_,rfl,?_⟩
 refine ZAA (fun h0=>?_) (fun h0=>?_)
 case refine_2=>exact retb (decide_eq_false (fun e=>by have:=beq_eq_false_iff_ne.1 h0; exact this (congrArg Rl.sd e))).symm
 have h0:sd=sd':=beq_iff_eq.1 h0
 refine ⟨_,rfl,?_⟩
 refine ⟨_,rfl,?_⟩
 refine ⟨by kernel_rfl,fun t1 h1=>?_⟩
 have h1:t1=true ↔ gk=gk'/\ga=ga'/\gb=gb'/\True:=h1
 cases t1 with
 | false=>exact retb (decide_eq_false (fun e=>by have:=h1.2 ⟨congrArg Rl.gk e,congrArg Rl.ga e,congrArg Rl.gb e,trivial⟩; cases this)).symm
 | true =>
  obtain ⟨e1,e2,e3,_⟩:=h1.1 rfl
  refine ⟨_,rfl,?_⟩
  refine ⟨_,rfl,?_⟩
  refine ZAA (fun h2=>?_) (fun h2=>?_)
  case refine_2=>exact retb (decide_eq_false (fun e=>by have:=beq_eq_false_iff_ne.1 h2; exact this (congrArg Rl.ac e))).symm
  have h2:ac=ac':=beq_iff_eq.1 h2
  refine ⟨_,rfl,?_⟩
  refine ⟨_,rfl,?_⟩
  intro t3 h3
  cases t3 with
  | false=>exact retb (decide_eq_false (fun e=>by have:=h3.2 (congrArg Rl.nm e); cases this)).symm
  | true =>
   refine ⟨_,rfl,?_⟩
   refine ⟨_,rfl,?_⟩
   intro t4 h4
   cases t4 with
   | false=>exact retb (decide_eq_false (fun e=>by have:=h4.2 (congrArg Rl.un e); cases this)).symm
   | true =>
    refine ⟨_,rfl,?_⟩
    refine ⟨_,rfl,?_⟩
    refine .p rfl hps ?_
    refine retb ?_
    have e4:=h3.1 rfl
    have e5:=h4.1 rfl
    subst h0 e1 e2 e3 h2 e4 e5
    rw [Bool.eq_iff_iff,decide_eq_true_eq,decide_eq_true_eq]
    exact ⟨fun e=>by have e:ps=ps':=e; rw [e],fun e=>congrArg Rl.ps e⟩
section
attribute [local irreducible] ZAn
end
end Go.Proofs.YticbonkojpabnaaGreatDoor
