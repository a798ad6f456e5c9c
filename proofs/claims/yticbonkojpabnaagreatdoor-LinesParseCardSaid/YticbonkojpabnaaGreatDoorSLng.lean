/- Are two scripts the same? by the program. No statement of its own. -/
import Derived.Test.YticbonkojpabnaaGreatDoorSLnd
import Derived.Test.YticbonkojpabnaaGreatDoorSLna
import Derived.Test.YticbonkojpabnaaGreatDoorSLnf
set_option linter.unusedSimpArgs false
set_option linter.unusedVariables false
set_option maxRecDepth 100000
namespace Go.Proofs.YticbonkojpabnaaGreatDoor
open Go.RowKit
section
theorem eqSwp_p (l m:List Swp) (h1:l.length<=1000000) (h2:m.length<=1000000):ZAC Tryz.prog 41 [.sl .no 2 (fldL l),.sl .no 2 (fldL m)] (.b (decide (l=m))) []:=by
 have el:=ZA5 l
 have em:=ZA5 m
 refine ZAC.of rfl (ZAB.of_vc T_ok mixed Tryz.func41 rfl Tryz.call41 ?_)
 refine ZAA (fun hd=>?_) (fun hd=>?_)
 ·have hd:¬ ((fldL l).length:Int)=(fldL m).length:=by simpa using hd
  exact retb (decide_eq_false (fun e=>by subst e; omega)).symm
 ·have hd:((fldL l).length:Int)=(fldL m).length:=by simpa using hd
  refine ZAF [13] (fun g vals st'=>∃ k:Nat,k+g=l.length/\vals=[.i k]/\∀ j,j<k->l[j]? = m[j]?) l.length rfl ⟨0,by omega,rfl,fun j h=>absurd h (by omega)⟩ ?_
  rintro g vals st' ⟨k,hk,rfl,ha⟩
  refine ZAA (fun hd2=>?_) (fun hd2=>?_)
  ·have hd2:=of_decide_eq_true hd2
   have k1:k<l.length:=by omega
   have k2:k<m.length:=by omega
   refine .e (by kernel_rfl) ?_
   refine ⟨k,_,rfl,ZBj k1,?_⟩
   refine ⟨k,_,rfl,ZBj k2,?_⟩
   refine ⟨by kernel_rfl,fun q hq=>?_⟩
   have hq:q=true ↔ l[k].1=m[k].1/\l[k].2=m[k].2/\True:=hq
   cases q with
   | false =>
    refine retb (decide_eq_false (fun e=>?_)).symm
    subst e
    have:=hq.2 ⟨rfl,rfl,trivial⟩
    cases this
   | true =>
    obtain ⟨e1,e2,_⟩:=hq.1 rfl
    intro c hc
    rw [IntWalk.i64_in _ (by omega)] at hc
    obtain rfl:c=((k+1:Nat):Int):=by omega
    refine ⟨g - 1,by omega,k+1,by omega,rfl,fun j hj=>?_⟩
    by_cases hjk:j=k
    ·subst hjk; rw [List.getElem?_eq_getElem k1,List.getElem?_eq_getElem k2]; exact congrArg some (Prod.ext e1 e2)
    ·exact ha j (by omega)
  ·have hd2:=of_decide_eq_false hd2
   refine retb (decide_eq_true (List.ext_getElem? fun j=>?_)).symm
   by_cases hj:j<k
   ·exact ha j hj
   ·rw [List.getElem?_eq_none (by omega),List.getElem?_eq_none (by omega)]
theorem eqEv_p (l m:List (Int × Int)) (h1:l.length<=1000000) (h2:m.length<=1000000):ZAC Tryz.prog 43 [.sl .no 2 (evL l),.sl .no 2 (evL m)] (.b (decide (l=m))) []:=by
 have el:=ZBN l
 have em:=ZBN m
 refine ZAC.of rfl (ZAB.of_vc T_ok mixed Tryz.func43 rfl Tryz.call43 ?_)
 refine ZAA (fun hd=>?_) (fun hd=>?_)
 ·have hd:¬ ((evL l).length:Int)=(evL m).length:=by simpa using hd
  exact retb (decide_eq_false (fun e=>by subst e; omega)).symm
 ·have hd:((evL l).length:Int)=(evL m).length:=by simpa using hd
  refine ZAF [13] (fun g vals st'=>∃ k:Nat,k+g=l.length/\vals=[.i k]/\∀ j,j<k->l[j]? = m[j]?) l.length rfl ⟨0,by omega,rfl,fun j h=>absurd h (by omega)⟩ ?_
  rintro g vals st' ⟨k,hk,rfl,ha⟩
  refine ZAA (fun hd2=>?_) (fun hd2=>?_)
  ·have hd2:=of_decide_eq_true hd2
   have k1:k<l.length:=by omega
   have k2:k<m.length:=by omega
   refine .e (by kernel_rfl) ?_
   refine ⟨k,_,rfl,ZEi k1,?_⟩
   refine ⟨k,_,rfl,ZEi k2,?_⟩
   refine ⟨by kernel_rfl,fun q hq=>?_⟩
   have hq:q=true ↔ l[k].1=m[k].1/\l[k].2=m[k].2/\True:=hq
   cases q with
   | false =>
    refine retb (decide_eq_false (fun e=>?_)).symm
    subst e
    have:=hq.2 ⟨rfl,rfl,trivial⟩
    cases this
   | true =>
    obtain ⟨e1,e2,_⟩:=hq.1 rfl
    intro c hc
    rw [IntWalk.i64_in _ (by omega)] at hc
    obtain rfl:c=((k+1:Nat):Int):=by omega
    refine ⟨g - 1,by omega,k+1,by omega,rfl,fun j hj=>?_⟩
    by_cases hjk:j=k
    ·subst hjk; rw [List.getElem?_eq_getElem k1,List.getElem?_eq_getElem k2]; exact congrArg some (Prod.ext e1 e2)
    ·exact ha j (by omega)
  ·have hd2:=of_decide_eq_false hd2
   refine retb (decide_eq_true (List.ext_getElem? fun j=>?_)).symm
   by_cases hj:j<k
   ·exact ha j hj
   ·rw [List.getElem?_eq_none (by omega),List.getElem?_eq_none (by omega)]
end
section
set_option maxHeartbeats 4000000 in
theorem same47_p (a b:Scr) (ha:a.Sz) (hb:b.Sz) {B:Bool} (hB:B=true ↔ a=b):ZAC Tryz.prog 16 [a.av,b.av] (.b B) []:=by
 have d1:=eqSwp_p a.doms b.doms ha.dl hb.dl
 have d2:=eqSwp_p a.locs b.locs ha.ll hb.ll
 have d3:=csame_p a.rules b.rules ha.rl hb.rl ha.rok hb.rok
 have d4:=eqEv_p a.evs b.evs ha.el hb.el
 refine ZAC.of rfl (ZAB.of_vc T_ok mixed Tryz.func16 rfl Tryz.call16 ?_)
 refine ⟨_,rfl,?_⟩
 refine ⟨_,rfl,?_⟩
 intro q1 hq1
 cases hqq1:q1
 ·skip
  obtain rfl:B=false:=by
   rw [Bool.eq_false_iff]
   intro e
   have e:=hB.1 e
   subst e
   exact absurd (hq1.2 rfl) (by rw [hqq1]; decide)
  refine ⟨_,rfl,?_⟩
  refine ⟨_,rfl,?_⟩
  refine .p rfl d1 ?_
  cases hD1:decide (a.doms=b.doms) with
  | false =>
   rw [hD1] at d1
   refine ⟨_,rfl,?_⟩
   refine ⟨_,rfl,?_⟩
   intro q5 hq5
   cases hqq5:q5
   ·rfl
   refine ⟨_,rfl,?_⟩
   refine ⟨_,rfl,?_⟩
   intro q6 hq6
   cases hqq6:q6
   ·rfl
   refine ⟨_,rfl,?_⟩
   refine ⟨_,rfl,?_⟩
   refine ZAA (fun h7=>?_) (fun h7=>?_)
   ·skip
    refine ⟨_,rfl,?_⟩
    refine ⟨_,rfl,?_⟩
    rfl
   ·rfl
  | true =>
   rw [hD1] at d1
   refine ⟨_,rfl,?_⟩
   refine ⟨_,rfl,?_⟩
   refine .p rfl d2 ?_
   refine ⟨_,rfl,?_⟩
   refine ⟨_,rfl,?_⟩
   intro q5 hq5
   cases hqq5:q5
   ·rfl
   refine ⟨_,rfl,?_⟩
   refine ⟨_,rfl,?_⟩
   intro q6 hq6
   cases hqq6:q6
   ·rfl
   refine ⟨_,rfl,?_⟩
   refine ⟨_,rfl,?_⟩
   refine ZAA (fun h7=>?_) (fun h7=>?_)
   ·skip
    refine ⟨_,rfl,?_⟩
    refine ⟨_,rfl,?_⟩
    rfl
   ·rfl
 refine ⟨_,rfl,?_⟩
 refine ⟨_,rfl,?_⟩
 intro q2 hq2
 cases hqq2:q2
 ·skip
  obtain rfl:B=false:=by
   rw [Bool.eq_false_iff]
   intro e
   have e:=hB.1 e
   subst e
   exact absurd (hq2.2 rfl) (by rw [hqq2]; decide)
  refine ⟨_,rfl,?_⟩
  refine ⟨_,rfl,?_⟩
  refine .p rfl d1 ?_
  cases hD1:decide (a.doms=b.doms) with
  | false =>
   rw [hD1] at d1
   refine ⟨_,rfl,?_⟩
   refine ⟨_,rfl,?_⟩
   intro q5 hq5
   cases hqq5:q5
   ·rfl
   refine ⟨_,rfl,?_⟩
   refine ⟨_,rfl,?_⟩
   intro q6 hq6
   cases hqq6:q6
   ·rfl
   refine ⟨_,rfl,?_⟩
   refine ⟨_,rfl,?_⟩
   refine ZAA (fun h7=>?_) (fun h7=>?_)
   ·skip
    refine ⟨_,rfl,?_⟩
    refine ⟨_,rfl,?_⟩
    rfl
   ·rfl
  | true =>
   rw [hD1] at d1
   refine ⟨_,rfl,?_⟩
   refine ⟨_,rfl,?_⟩
   refine .p rfl d2 ?_
   refine ⟨_,rfl,?_⟩
   refine ⟨_,rfl,?_⟩
   intro q5 hq5
   cases hqq5:q5
   ·rfl
   refine ⟨_,rfl,?_⟩
   refine ⟨_,rfl,?_⟩
   intro q6 hq6
   cases hqq6:q6
   ·rfl
   refine ⟨_,rfl,?_⟩
   refine ⟨_,rfl,?_⟩
   refine ZAA (fun h7=>?_) (fun h7=>?_)
   ·skip
    refine ⟨_,rfl,?_⟩
    refine ⟨_,rfl,?_⟩
    rfl
   ·rfl
 refine ⟨_,rfl,?_⟩
 refine ⟨_,rfl,?_⟩
 intro q3 hq3
 cases hqq3:q3
 ·skip
  obtain rfl:B=false:=by
   rw [Bool.eq_false_iff]
   intro e
   have e:=hB.1 e
   subst e
   exact absurd (hq3.2 rfl) (by rw [hqq3]; decide)
  refine ⟨_,rfl,?_⟩
  refine ⟨_,rfl,?_⟩
  refine .p rfl d1 ?_
  cases hD1:decide (a.doms=b.doms) with
  | false =>
   rw [hD1] at d1
   refine ⟨_,rfl,?_⟩
   refine ⟨_,rfl,?_⟩
   intro q5 hq5
   cases hqq5:q5
   ·rfl
   refine ⟨_,rfl,?_⟩
   refine ⟨_,rfl,?_⟩
   intro q6 hq6
   cases hqq6:q6
   ·rfl
   refine ⟨_,rfl,?_⟩
   refine ⟨_,rfl,?_⟩
   refine ZAA (fun h7=>?_) (fun h7=>?_)
   ·skip
    refine ⟨_,rfl,?_⟩
    refine ⟨_,rfl,?_⟩
    rfl
   ·rfl
  | true =>
   rw [hD1] at d1
   refine ⟨_,rfl,?_⟩
   refine ⟨_,rfl,?_⟩
   refine .p rfl d2 ?_
   refine ⟨_,rfl,?_⟩
   refine ⟨_,rfl,?_⟩
   intro q5 hq5
   cases hqq5:q5
   ·rfl
   refine ⟨_,rfl,?_⟩
   refine ⟨_,rfl,?_⟩
   intro q6 hq6
   cases hqq6:q6
   ·rfl
   refine ⟨_,rfl,?_⟩
   refine ⟨_,rfl,?_⟩
   refine ZAA (fun h7=>?_) (fun h7=>?_)
   ·skip
    refine ⟨_,rfl,?_⟩
    refine ⟨_,rfl,?_⟩
    rfl
   ·rfl
 refine ⟨_,rfl,?_⟩
 refine ⟨_,rfl,?_⟩
 intro q4 hq4
 cases hqq4:q4
 ·skip
  obtain rfl:B=false:=by
   rw [Bool.eq_false_iff]
   intro e
   have e:=hB.1 e
   subst e
   exact absurd (hq4.2 rfl) (by rw [hqq4]; decide)
  refine ⟨_,rfl,?_⟩
  refine ⟨_,rfl,?_⟩
  refine .p rfl d1 ?_
  cases hD1:decide (a.doms=b.doms) with
  | false =>
   rw [hD1] at d1
   refine ⟨_,rfl,?_⟩
   refine ⟨_,rfl,?_⟩
   intro q5 hq5
   cases hqq5:q5
   ·rfl
   refine ⟨_,rfl,?_⟩
   refine ⟨_,rfl,?_⟩
   intro q6 hq6
   cases hqq6:q6
   ·rfl
   refine ⟨_,rfl,?_⟩
   refine ⟨_,rfl,?_⟩
   refine ZAA (fun h7=>?_) (fun h7=>?_)
   ·skip
    refine ⟨_,rfl,?_⟩
    refine ⟨_,rfl,?_⟩
    rfl
   ·rfl
  | true =>
   rw [hD1] at d1
   refine ⟨_,rfl,?_⟩
   refine ⟨_,rfl,?_⟩
   refine .p rfl d2 ?_
   refine ⟨_,rfl,?_⟩
   refine ⟨_,rfl,?_⟩
   intro q5 hq5
   cases hqq5:q5
   ·rfl
   refine ⟨_,rfl,?_⟩
   refine ⟨_,rfl,?_⟩
   intro q6 hq6
   cases hqq6:q6
   ·rfl
   refine ⟨_,rfl,?_⟩
   refine ⟨_,rfl,?_⟩
   refine ZAA (fun h7=>?_) (fun h7=>?_)
   ·skip
    refine ⟨_,rfl,?_⟩
    refine ⟨_,rfl,?_⟩
    rfl
   ·rfl
 refine ⟨_,rfl,?_⟩
 refine ⟨_,rfl,?_⟩
 refine .p rfl d1 ?_
 cases hD1:decide (a.doms=b.doms) with
 | false =>
  rw [hD1] at d1
  obtain rfl:B=false:=by
   rw [Bool.eq_false_iff]
   intro e
   have e:=hB.1 e
   subst e
   exact absurd rfl (of_decide_eq_false hD1)
  refine ⟨_,rfl,?_⟩
  refine ⟨_,rfl,?_⟩
  intro q5 hq5
  cases hqq5:q5
  ·rfl
  refine ⟨_,rfl,?_⟩
  refine ⟨_,rfl,?_⟩
  intro q6 hq6
  cases hqq6:q6
  ·rfl
  refine ⟨_,rfl,?_⟩
  refine ⟨_,rfl,?_⟩
  refine ZAA (fun h7=>?_) (fun h7=>?_)
  ·skip
   refine ⟨_,rfl,?_⟩
   refine ⟨_,rfl,?_⟩
   rfl
  ·rfl
 | true =>
 rw [hD1] at d1
 refine ⟨_,rfl,?_⟩
 refine ⟨_,rfl,?_⟩
 refine .p rfl d2 ?_
 cases hD2:decide (a.locs=b.locs) with
 | false =>
  rw [hD2] at d2
  obtain rfl:B=false:=by
   rw [Bool.eq_false_iff]
   intro e
   have e:=hB.1 e
   subst e
   exact absurd rfl (of_decide_eq_false hD2)
  refine ⟨_,rfl,?_⟩
  refine ⟨_,rfl,?_⟩
  intro q5 hq5
  cases hqq5:q5
  ·rfl
  refine ⟨_,rfl,?_⟩
  refine ⟨_,rfl,?_⟩
  intro q6 hq6
  cases hqq6:q6
  ·rfl
  refine ⟨_,rfl,?_⟩
  refine ⟨_,rfl,?_⟩
  refine ZAA (fun h7=>?_) (fun h7=>?_)
  ·skip
   refine ⟨_,rfl,?_⟩
   refine ⟨_,rfl,?_⟩
   rfl
  ·rfl
 | true =>
 rw [hD2] at d2
 refine ⟨_,rfl,?_⟩
 refine ⟨_,rfl,?_⟩
 intro q5 hq5
 cases hqq5:q5
 ·skip
  obtain rfl:B=false:=by
   rw [Bool.eq_false_iff]
   intro e
   have e:=hB.1 e
   subst e
   exact absurd (hq5.2 rfl) (by rw [hqq5]; decide)
  rfl
 refine ⟨_,rfl,?_⟩
 refine ⟨_,rfl,?_⟩
 intro q6 hq6
 cases hqq6:q6
 ·skip
  obtain rfl:B=false:=by
   rw [Bool.eq_false_iff]
   intro e
   have e:=hB.1 e
   subst e
   exact absurd (hq6.2 rfl) (by rw [hqq6]; decide)
  rfl
 refine ⟨_,rfl,?_⟩
 refine ⟨_,rfl,?_⟩
 refine ZAA (fun h7=>?_) (fun h7=>?_)
 rotate_left
 ·skip
  obtain rfl:B=false:=by
   rw [Bool.eq_false_iff]
   intro e
   have e:=hB.1 e
   subst e
   exact absurd rfl (beq_eq_false_iff_ne.1 h7)
  rfl
 refine ⟨_,rfl,?_⟩
 refine ⟨_,rfl,?_⟩
 refine ZAA (fun h8=>?_) (fun h8=>?_)
 rotate_left
 ·skip
  obtain rfl:B=false:=by
   rw [Bool.eq_false_iff]
   intro e
   have e:=hB.1 e
   subst e
   exact absurd rfl (beq_eq_false_iff_ne.1 h8)
  rfl
 refine ⟨_,rfl,?_⟩
 refine ⟨_,rfl,?_⟩
 refine ⟨by kernel_rfl,fun q9 hq9=>?_⟩
 have hq9:q9=true ↔ a.ch=b.ch/\a.cc=b.cc/\a.cq=b.cq/\True:=hq9
 cases hqq9:q9
 ·skip
  obtain rfl:B=false:=by
   rw [Bool.eq_false_iff]
   intro e
   have e:=hB.1 e
   subst e
   exact absurd (hq9.2 ⟨rfl,rfl,rfl,trivial⟩) (by rw [hqq9]; decide)
  rfl
 refine ⟨_,rfl,?_⟩
 refine ⟨_,rfl,?_⟩
 refine .p rfl d3 ?_
 cases hD3:decide (a.rules=b.rules) with
 | false =>
  rw [hD3] at d3
  obtain rfl:B=false:=by
   rw [Bool.eq_false_iff]
   intro e
   have e:=hB.1 e
   subst e
   exact absurd rfl (of_decide_eq_false hD3)
  rfl
 | true =>
 rw [hD3] at d3
 refine ⟨_,rfl,?_⟩
 refine ⟨_,rfl,?_⟩
 refine .p rfl d4 ?_
 have hBB:B=decide (a.evs=b.evs):=by
  rw [Bool.eq_iff_iff,hB,decide_eq_true_eq]
  have e1:=hq1.1 hqq1
  have e2:=hq2.1 hqq2
  have e3:=hq3.1 hqq3
  have e4:=hq4.1 hqq4
  have e5:=hq5.1 hqq5
  have e6:=hq6.1 hqq6
  have e7:=beq_iff_eq.1 h7
  have e8:=beq_iff_eq.1 h8
  obtain ⟨e9,eA,eB,_⟩:=hq9.1 hqq9
  have eC:=of_decide_eq_true hD1
  have eD:=of_decide_eq_true hD2
  have eE:=of_decide_eq_true hD3
  constructor
  ·intro e; rw [e]
  ·intro e
   cases a; cases b
   simp only [Scr.mk.injEq]
   exact ⟨e1,e2,e3,e4,eC,eD,e9,eA,eB,eE,e5,e6,e7,e8,e⟩
 subst hBB
 rfl
end
section
def ZNU (a b:Scr):Bool:=decide ((ZAv a).2=0/\(ZAv b).2=0/\(ZAv a).1=(ZAv b).1/\a.rules=b.rules)
structure Scr.Rz (s:Scr):Prop where
 sz:s.Sz
 rz:∀ r∈s.rules,(ZAx r).size<=1099511627776
theorem sameR_p (a b:Scr) (ha:a.Rz) (hb:b.Rz):ZAC Tryz.prog 15 [a.av,b.av] (.b (ZNU a b)) []:=by
 have p1:=ZL7 a ha.sz ha.rz
 have p2:=ZL7 b hb.sz hb.rz
 have d3:=sameAll_p a.rules b.rules ha.sz.rl hb.sz.rl ha.sz.rok hb.sz.rok
 have hB:ZNU a b=true ↔ (ZAv a).2=0/\(ZAv b).2=0/\(ZAv a).1=(ZAv b).1/\a.rules=b.rules:=by unfold ZNU; rw [decide_eq_true_eq]
 generalize ZNU a b=B at *
 generalize ZAv a=X at *
 generalize ZAv b=Y at *
 obtain ⟨x1,x2⟩:=X
 obtain ⟨y1,y2⟩:=Y
 refine ZAC.of rfl (ZAB.of_vc T_ok mixed Tryz.func15 rfl Tryz.call15 ?_)
 refine ⟨_,rfl,?_⟩
 refine .p rfl p1 ?_
 refine ⟨_,rfl,?_⟩
 refine .p rfl p2 ?_
 refine ZAA (fun h1=>?_) (fun h1=>?_)
 rotate_left
 ·obtain rfl:B=false:=by
   rw [Bool.eq_false_iff]
   intro e
   exact beq_eq_false_iff_ne.1 h1 (hB.1 e).1
  rfl
 refine ZAA (fun h2=>?_) (fun h2=>?_)
 rotate_left
 ·obtain rfl:B=false:=by
   rw [Bool.eq_false_iff]
   intro e
   exact beq_eq_false_iff_ne.1 h2 (hB.1 e).2.1
  rfl
 intro q hq
 cases hqq:q
 ·obtain rfl:B=false:=by
   rw [Bool.eq_false_iff]
   intro e
   have:=hq.2 (hB.1 e).2.2.1
   rw [hqq] at this
   cases this
  rfl
 refine ⟨_,rfl,?_⟩
 refine ⟨_,rfl,?_⟩
 refine .p rfl d3 ?_
 have hBB:B=decide (a.rules=b.rules):=by
  rw [Bool.eq_iff_iff,hB,decide_eq_true_eq]
  exact ⟨fun h=>h.2.2.2,fun h=>⟨beq_iff_eq.1 h1,beq_iff_eq.1 h2,hq.1 hqq,h⟩⟩
 subst hBB
 rfl
/-- scripts that print are the same just where the document says so -/
theorem sameR_eq {a b:Scr} (ha:(ZAv a).2=0) (hb:(ZAv b).2=0) (ia:a.In) (ib:b.In):ZNU a b=true ↔ a=b:=by
 unfold ZNU
 rw [decide_eq_true_eq]
 constructor
 ·rintro ⟨_,_,h,_⟩
  obtain ⟨a1,a2,a3,a4⟩:=ZLx ha
  obtain ⟨b1,b2,b3,b4⟩:=ZLx hb
  rw [a4,b4] at h
  have h:tBy (prB a)=tBy (prB b):=h
  have r1:=ZLo a1 a2 ia (ZJU (prB a)) (by rw [ZMv]; omega)
  have r2:=ZLo b1 b2 ib (ZJU (prB b)) (by rw [ZMv]; omega)
  rw [h,r2] at r1
  exact (congrArg Prod.fst r1).symm
 ·rintro rfl
  exact ⟨ha,ha,rfl,rfl⟩
end
end Go.Proofs.YticbonkojpabnaaGreatDoor
