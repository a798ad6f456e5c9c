/- Rules: checked by the document. No statement of its own. -/
import Derived.Test.YticbonkojpabnaaGreatDoorSRu
set_option linter.unusedSimpArgs false
set_option linter.unusedVariables false
set_option maxRecDepth 100000
namespace Go.Proofs.YticbonkojpabnaaGreatDoor
open Go.RowKit
theorem ZB3 {l:List ByteArray} {t:ByteArray} {i:Nat} (h:i<l.length):memB (l.take (i+1)) t=(memB (l.take i) t || decide (l[i]=t)):=by
 unfold memB
 rw [List.take_succ_eq_append_getElem h,List.any_append]
 simp
theorem guardR_p (k:Int) (a b:ByteArray) (ha:a.size<=100000) (hb:b.size<=100000):ZAC Tryz.prog 99 [.agg [.i k,.s a,.s b]] (.b (ZBK k a b)) []:=by
 have hmx:maxLen=9223372036854775807:=rfl
 have ht:=ZEV a (by omega)
 have hc:=rcheck_p a b (by omega) (by omega)
 refine ZAC.of rfl (ZAB.of_vc T_ok mixed Tryz.func99 rfl Tryz.call99 ?_)
 refine ⟨_,rfl,?_⟩
 refine ZAA (fun h0=>?_) (fun h0=>?_)
 ·have h0:k=0:=beq_iff_eq.1 h0
  have hg:ZBK k a b=(decide (a.size=0) && decide (b.size=0)):=by unfold ZBK; rw [if_pos h0]
  rw [hg]
  refine ⟨_,rfl,?_⟩
  intro t1 h1
  cases t1 with
  | false=>exact retb (by rw [<- ZA9 h1]; rfl)
  | true =>
   refine ⟨_,rfl,?_⟩
   intro t2 h2
   exact retb (by rw [<- ZA9 h1,<- ZA9 h2]; rfl)
 have h0:k≠0:=beq_eq_false_iff_ne.1 h0
 have key:k=1 \/ k=2->ZBK k a b=(tokB a && decide (b.size=0)):=fun h=>by unfold ZBK; rw [if_neg h0,if_pos h]
 generalize tokB a=q at ht key
 refine ⟨_,rfl,?_⟩
 refine ZAA (fun h3=>?_) (fun h3=>?_)
 ·have h3:k=3:=beq_iff_eq.1 h3
  refine ⟨_,rfl,?_⟩
  refine ⟨_,rfl,?_⟩
  refine .p rfl hc ?_
  refine retb ?_
  unfold ZBK
  rw [if_neg h0,if_neg (fun h=>h.elim (fun h=>by omega) (fun h=>by omega)),if_pos h3,Bool.eq_iff_iff,beq_iff_eq,decide_eq_true_eq]
 have h3:k≠3:=beq_eq_false_iff_ne.1 h3
 refine ⟨_,rfl,?_⟩
 refine ZAA (fun h1=>?_) (fun h1=>?_)
 ·obtain rfl:k=1:=beq_iff_eq.1 h1
  rw [key (.inl rfl)]
  refine ⟨_,rfl,?_⟩
  refine .p rfl ht ?_
  cases q with
  | false=>rfl
  | true =>
   refine ⟨_,rfl,?_⟩
   intro t2 h2
   exact retb (by rw [<- ZA9 h2]; rfl)
 have h1:k≠1:=beq_eq_false_iff_ne.1 h1
 refine ⟨_,rfl,?_⟩
 refine ZAA (fun h2=>?_) (fun h2=>?_)
 ·have h2:k=2:=beq_iff_eq.1 h2
  rw [key (.inr h2)]
  refine ⟨_,rfl,?_⟩
  refine .p rfl ht ?_
  cases q with
  | false=>rfl
  | true =>
   refine ⟨_,rfl,?_⟩
   intro t2 h2
   exact retb (by rw [<- ZA9 h2]; rfl)
 ·have h2:k≠2:=beq_eq_false_iff_ne.1 h2
  refine retb ?_
  unfold ZBK
  rw [if_neg h0,if_neg (fun h=>h.elim h1 h2),if_neg h3]
def actD (ac:Int) (un:ByteArray) (ps:List Prt):Bool :=
 if ac=1 \/ ac=2 then decide (un.size=0) && decide ((ZB9 ps).2=0) else if ac=3 then decide (un.size=0) && decide (ps.length=0) else if ac=4 then ZDi un && decide (ps.length=0) else false
theorem actB_all (n ac:Int) (un:ByteArray) (ps:List Prt):actB n ac un ps=((namT ps).all (memB (ZAd n)) && actD ac un ps):=by
 have h0:ps.length=0->(namT ps).all (memB (ZAd n))=true:=fun h=>by
  have:=List.eq_nil_of_length_eq_zero h
  subst this; rfl
 unfold actB actD ZFZ
 generalize (namT ps).all (memB (ZAd n))=q at *
 split
 ·cases decide (un.size=0) <;> cases q <;> rfl
 ·split
  ·by_cases h:ps.length=0
   ·rw [h0 h,Bool.true_and]
   ·rw [decide_eq_false h,Bool.and_false,Bool.and_false]
  ·split
   ·by_cases h:ps.length=0
    ·rw [h0 h,Bool.true_and]
    ·rw [decide_eq_false h,Bool.and_false,Bool.and_false]
   ·rw [Bool.and_false]
set_option maxHeartbeats 4000000 in
theorem ZDK (r:Rl) (hr:r.Ok):ZAC Tryz.prog 63 [r.av] (.i (ZAO r)) []:=by
 have hmx:maxLen=9223372036854775807:=rfl
 have hg:=guardR_p r.gk r.ga r.gb hr.ga hr.gb
 have htn:=ZEV r.nm (by have:=hr.nm; omega)
 have hkn:=ZMS r.nm (by have:=hr.nm; omega)
 have htu:=ZEV r.un (by have:=hr.un; omega)
 have hku:=ZMS r.un (by have:=hr.un; omega)
 have hnm:=names31_p r.ps (by have:=hr.pl; omega)
 have htx:=ZKX r.ps hr.pl hr.pz
 have esl:=ZAH (namT r.ps)
 have hnl:=ZFD r.ps r.ps.length (Nat.le_refl _)
 rw [List.take_of_length_le (Nat.le_refl _)] at hnl
 have hpl:=hr.pl
 have ekl:=fun n:Int=>ZAH (ZAd n)
 have hz:ZAO r=if (ZKj r.sd && ZBK r.gk r.ga r.gb && ZDi r.nm && actB r.sd r.ac r.un r.ps)=true then 0 else 9:=rfl
 rw [actB_all] at hz
 have hs:ZKj r.sd=decide (r.sd=1 \/ r.sd=2):=rfl
 generalize ZAO r=z at hz
 have ru:=hr.un
 clear hr
 obtain ⟨sd,gk,ga,gb,ac,nm,un,ps⟩:=r
 show ZAC _ _ [.agg [.i sd,.i gk,.s ga,.s gb,.i ac,.s nm,.s un,.sl .no 2 (prtL ps)]] _ _
 dsimp only at hg htn hkn htu hku hnm htx hz hs esl hnl hpl
 have key:ac=1 \/ ac=2->actD ac un ps=(decide (un.size=0) && decide ((ZB9 ps).2=0)):=fun h=>by unfold actD; rw [if_pos h]
 have key3:ac=3->actD ac un ps=(decide (un.size=0) && decide (ps.length=0)):=fun h=>by unfold actD; rw [if_neg (by omega),if_pos h]
 have key4:ac=4->actD ac un ps=((tokB un && !ZJg un) && decide (ps.length=0)):=fun h=>by unfold actD ZDi; rw [if_neg (by omega),if_neg (by omega),if_pos h]
 have key0:¬ (ac=1 \/ ac=2)->ac≠3->ac≠4->actD ac un ps=false:=fun h h3 h4=>by unfold actD; rw [if_neg h,if_neg h3,if_neg h4]
 have hfr:ZDi nm=(tokB nm && !ZJg nm):=rfl
 rw [hfr] at hz
 clear hfr
 generalize actD ac un ps=D at *
 generalize tokB un=qt at *
 generalize ZJg un=qk at *
 generalize tokB nm=qn at *
 generalize ZJg nm=qm at *
 generalize ZBK gk ga gb=qg at *
 generalize ZB9 ps=tz at *
 refine ZAC.of rfl (ZAB.of_vc T_ok mixed Tryz.func63 rfl Tryz.call63 ?_)
 refine ⟨_,rfl,?_⟩
 refine ZAA (fun h=>?_) (fun h=>?_)
 ·obtain rfl:sd=1:=beq_iff_eq.1 h
  refine ⟨_,rfl,?_⟩
  refine .p rfl hg ?_
  cases qg with
  | false =>
   refine ⟨_,rfl,?_⟩
   refine .p rfl (ZBy _) ?_
   refine ⟨_,rfl,?_⟩
   refine .p rfl hnm ?_
   refine ZAF [3,6] (fun g vals st'=>∃ k:Nat,k+g=(namT ps).length/\vals=[.b false,.i k]/\st'=⟨[[.i 1,.i gk,.s ga,.s gb,.i ac,.s nm,.s un,.sl .no 2 (prtL ps)]],[]⟩) (namT ps).length rfl ⟨0,by omega,rfl,rfl⟩ ?_
   rintro g vals st1 ⟨k,hk,rfl,hst⟩
   refine ZAA (fun hd=>?_) (fun hd=>?_)
   ·have hd:=of_decide_eq_true hd
    have k1:k<(namT ps).length:=by omega
    refine ZAF [7,8] (fun g2 vals st2=>∃ (i:Nat) (b:Bool),i+g2=(ZAd 1).length/\vals=[.b b,.i i]/\st2=st1/\b=memB ((ZAd 1).take i) (namT ps)[k]) (ZAd 1).length rfl ⟨0,false,by omega,rfl,rfl,rfl⟩ ?_
    rintro g2 vals st2 ⟨i,b,hi,rfl,rfl,hb⟩
    have ekn:=ekl 1
    have ekm:=ZBl 1
    refine ZAA (fun hd2=>?_) (fun hd2=>?_)
    ·have hd2:=of_decide_eq_true hd2
     have i1:i<(ZAd 1).length:=by omega
     have hmt:=ZB3 (t:=(namT ps)[k]) i1
     cases b with
     | true =>
      refine .x (by kernel_rfl) ?_
      intro c hc
      rw [IntWalk.i64_in _ (by omega)] at hc
      obtain rfl:c=((i+1:Nat):Int):=by omega
      exact ⟨g2 - 1,by omega,i+1,true,by omega,rfl,rfl,by rw [hmt,<- hb]; rfl⟩
     | false =>
      refine .x (by kernel_rfl) ?_
      refine ⟨i,_,rfl,ZAS i1,?_⟩
      refine ⟨k,_,rfl,ZAS k1,?_⟩
      intro t ht
      have ht:t=decide ((ZAd 1)[i]=(namT ps)[k]):=by rw [Bool.eq_iff_iff,ht,decide_eq_true_eq]
      intro c hc
      rw [IntWalk.i64_in _ (by omega)] at hc
      obtain rfl:c=((i+1:Nat):Int):=by omega
      exact ⟨g2 - 1,by omega,i+1,t,by omega,rfl,rfl,by rw [hmt,<- hb,ht]; rfl⟩
    ·have hd2:=of_decide_eq_false hd2
     rw [List.take_of_length_le (by omega)] at hb
     intro c hc
     rw [IntWalk.i64_in _ (by omega)] at hc
     obtain rfl:c=((k+1:Nat):Int):=by omega
     exact ⟨g - 1,by omega,k+1,by omega,rfl,hst⟩
   ·subst hst
    refine ⟨_,rfl,?_⟩
    refine .p rfl htx ?_
    refine ⟨_,rfl,?_⟩
    refine ZAA (fun h1=>?_) (fun h1=>?_)
    ·obtain rfl:ac=1:=beq_iff_eq.1 h1
     exact reti hz.symm
    refine ZAA (fun h2=>?_) (fun h2=>?_)
    ·exact reti hz.symm
    refine ZAA (fun h3=>?_) (fun h3=>?_)
    ·exact reti hz.symm
    refine ZAA (fun h4=>?_) (fun h4=>?_)
    ·exact reti hz.symm
    exact reti hz.symm
  | true =>
   refine ⟨_,rfl,?_⟩
   refine .p rfl htn ?_
   cases qn with
   | false =>
    refine ⟨_,rfl,?_⟩
    refine .p rfl (ZBy _) ?_
    refine ⟨_,rfl,?_⟩
    refine .p rfl hnm ?_
    refine ZAF [3,6] (fun g vals st'=>∃ k:Nat,k+g=(namT ps).length/\vals=[.b false,.i k]/\st'=⟨[[.i 1,.i gk,.s ga,.s gb,.i ac,.s nm,.s un,.sl .no 2 (prtL ps)]],[]⟩) (namT ps).length rfl ⟨0,by omega,rfl,rfl⟩ ?_
    rintro g vals st1 ⟨k,hk,rfl,hst⟩
    refine ZAA (fun hd=>?_) (fun hd=>?_)
    ·have hd:=of_decide_eq_true hd
     have k1:k<(namT ps).length:=by omega
     refine ZAF [7,8] (fun g2 vals st2=>∃ (i:Nat) (b:Bool),i+g2=(ZAd 1).length/\vals=[.b b,.i i]/\st2=st1/\b=memB ((ZAd 1).take i) (namT ps)[k]) (ZAd 1).length rfl ⟨0,false,by omega,rfl,rfl,rfl⟩ ?_
     rintro g2 vals st2 ⟨i,b,hi,rfl,rfl,hb⟩
     have ekn:=ekl 1
     have ekm:=ZBl 1
     refine ZAA (fun hd2=>?_) (fun hd2=>?_)
     ·have hd2:=of_decide_eq_true hd2
      have i1:i<(ZAd 1).length:=by omega
      have hmt:=ZB3 (t:=(namT ps)[k]) i1
      cases b with
      | true =>
       refine .x (by kernel_rfl) ?_
       intro c hc
       rw [IntWalk.i64_in _ (by omega)] at hc
       obtain rfl:c=((i+1:Nat):Int):=by omega
       exact ⟨g2 - 1,by omega,i+1,true,by omega,rfl,rfl,by rw [hmt,<- hb]; rfl⟩
      | false =>
       refine .x (by kernel_rfl) ?_
       refine ⟨i,_,rfl,ZAS i1,?_⟩
       refine ⟨k,_,rfl,ZAS k1,?_⟩
       intro t ht
       have ht:t=decide ((ZAd 1)[i]=(namT ps)[k]):=by rw [Bool.eq_iff_iff,ht,decide_eq_true_eq]
       intro c hc
       rw [IntWalk.i64_in _ (by omega)] at hc
       obtain rfl:c=((i+1:Nat):Int):=by omega
       exact ⟨g2 - 1,by omega,i+1,t,by omega,rfl,rfl,by rw [hmt,<- hb,ht]; rfl⟩
     ·have hd2:=of_decide_eq_false hd2
      rw [List.take_of_length_le (by omega)] at hb
      intro c hc
      rw [IntWalk.i64_in _ (by omega)] at hc
      obtain rfl:c=((k+1:Nat):Int):=by omega
      exact ⟨g - 1,by omega,k+1,by omega,rfl,hst⟩
    ·subst hst
     refine ⟨_,rfl,?_⟩
     refine .p rfl htx ?_
     refine ⟨_,rfl,?_⟩
     refine ZAA (fun h1=>?_) (fun h1=>?_)
     ·obtain rfl:ac=1:=beq_iff_eq.1 h1
      exact reti hz.symm
     refine ZAA (fun h2=>?_) (fun h2=>?_)
     ·exact reti hz.symm
     refine ZAA (fun h3=>?_) (fun h3=>?_)
     ·exact reti hz.symm
     refine ZAA (fun h4=>?_) (fun h4=>?_)
     ·exact reti hz.symm
     exact reti hz.symm
   | true =>
    refine ⟨_,rfl,?_⟩
    refine .p rfl hkn ?_
    cases qm with
    | true =>
     refine ⟨_,rfl,?_⟩
     refine .p rfl (ZBy _) ?_
     refine ⟨_,rfl,?_⟩
     refine .p rfl hnm ?_
     refine ZAF [3,6] (fun g vals st'=>∃ k:Nat,k+g=(namT ps).length/\vals=[.b false,.i k]/\st'=⟨[[.i 1,.i gk,.s ga,.s gb,.i ac,.s nm,.s un,.sl .no 2 (prtL ps)]],[]⟩) (namT ps).length rfl ⟨0,by omega,rfl,rfl⟩ ?_
     rintro g vals st1 ⟨k,hk,rfl,hst⟩
     refine ZAA (fun hd=>?_) (fun hd=>?_)
     ·have hd:=of_decide_eq_true hd
      have k1:k<(namT ps).length:=by omega
      refine ZAF [7,8] (fun g2 vals st2=>∃ (i:Nat) (b:Bool),i+g2=(ZAd 1).length/\vals=[.b b,.i i]/\st2=st1/\b=memB ((ZAd 1).take i) (namT ps)[k]) (ZAd 1).length rfl ⟨0,false,by omega,rfl,rfl,rfl⟩ ?_
      rintro g2 vals st2 ⟨i,b,hi,rfl,rfl,hb⟩
      have ekn:=ekl 1
      have ekm:=ZBl 1
      refine ZAA (fun hd2=>?_) (fun hd2=>?_)
      ·have hd2:=of_decide_eq_true hd2
       have i1:i<(ZAd 1).length:=by omega
       have hmt:=ZB3 (t:=(namT ps)[k]) i1
       cases b with
       | true =>
        refine .x (by kernel_rfl) ?_
        intro c hc
        rw [IntWalk.i64_in _ (by omega)] at hc
        obtain rfl:c=((i+1:Nat):Int):=by omega
        exact ⟨g2 - 1,by omega,i+1,true,by omega,rfl,rfl,by rw [hmt,<- hb]; rfl⟩
       | false =>
        refine .x (by kernel_rfl) ?_
        refine ⟨i,_,rfl,ZAS i1,?_⟩
        refine ⟨k,_,rfl,ZAS k1,?_⟩
        intro t ht
        have ht:t=decide ((ZAd 1)[i]=(namT ps)[k]):=by rw [Bool.eq_iff_iff,ht,decide_eq_true_eq]
        intro c hc
        rw [IntWalk.i64_in _ (by omega)] at hc
        obtain rfl:c=((i+1:Nat):Int):=by omega
        exact ⟨g2 - 1,by omega,i+1,t,by omega,rfl,rfl,by rw [hmt,<- hb,ht]; rfl⟩
      ·have hd2:=of_decide_eq_false hd2
       rw [List.take_of_length_le (by omega)] at hb
       intro c hc
       rw [IntWalk.i64_in _ (by omega)] at hc
       obtain rfl:c=((k+1:Nat):Int):=by omega
       exact ⟨g - 1,by omega,k+1,by omega,rfl,hst⟩
     ·subst hst
      refine ⟨_,rfl,?_⟩
      refine .p rfl htx ?_
      refine ⟨_,rfl,?_⟩
      refine ZAA (fun h1=>?_) (fun h1=>?_)
      ·obtain rfl:ac=1:=beq_iff_eq.1 h1
       exact reti hz.symm
      refine ZAA (fun h2=>?_) (fun h2=>?_)
      ·exact reti hz.symm
      refine ZAA (fun h3=>?_) (fun h3=>?_)
      ·exact reti hz.symm
      refine ZAA (fun h4=>?_) (fun h4=>?_)
      ·exact reti hz.symm
      exact reti hz.symm
    | false =>
     refine ⟨_,rfl,?_⟩
     refine .p rfl (ZBy _) ?_
     refine ⟨_,rfl,?_⟩
     refine .p rfl hnm ?_
     refine ZAF [3,6] (fun g vals st'=>∃ (k:Nat) (q:Bool),k+g=(namT ps).length/\vals=[.b q,.i k]/\st'=⟨[[.i 1,.i gk,.s ga,.s gb,.i ac,.s nm,.s un,.sl .no 2 (prtL ps)]],[]⟩/\q=((namT ps).take k).all (memB (ZAd 1))) (namT ps).length rfl ⟨0,true,by omega,rfl,rfl,rfl⟩ ?_
     rintro g vals st1 ⟨k,q,hk,rfl,hst,ha⟩
     refine ZAA (fun hd=>?_) (fun hd=>?_)
     ·have hd:=of_decide_eq_true hd
      have k1:k<(namT ps).length:=by omega
      refine ZAF [7,8] (fun g2 vals st2=>∃ (i:Nat) (b:Bool),i+g2=(ZAd 1).length/\vals=[.b b,.i i]/\st2=st1/\b=memB ((ZAd 1).take i) (namT ps)[k]) (ZAd 1).length rfl ⟨0,false,by omega,rfl,rfl,rfl⟩ ?_
      rintro g2 vals st2 ⟨i,b,hi,rfl,rfl,hb⟩
      have ekn:=ekl 1
      have ekm:=ZBl 1
      refine ZAA (fun hd2=>?_) (fun hd2=>?_)
      ·have hd2:=of_decide_eq_true hd2
       have i1:i<(ZAd 1).length:=by omega
       have hmt:=ZB3 (t:=(namT ps)[k]) i1
       cases b with
       | true =>
        refine .x (by kernel_rfl) ?_
        intro c hc
        rw [IntWalk.i64_in _ (by omega)] at hc
        obtain rfl:c=((i+1:Nat):Int):=by omega
        exact ⟨g2 - 1,by omega,i+1,true,by omega,rfl,rfl,by rw [hmt,<- hb]; rfl⟩
       | false =>
        refine .x (by kernel_rfl) ?_
        refine ⟨i,_,rfl,ZAS i1,?_⟩
        refine ⟨k,_,rfl,ZAS k1,?_⟩
        intro t ht
        have ht:t=decide ((ZAd 1)[i]=(namT ps)[k]):=by rw [Bool.eq_iff_iff,ht,decide_eq_true_eq]
        intro c hc
        rw [IntWalk.i64_in _ (by omega)] at hc
        obtain rfl:c=((i+1:Nat):Int):=by omega
        exact ⟨g2 - 1,by omega,i+1,t,by omega,rfl,rfl,by rw [hmt,<- hb,ht]; rfl⟩
      ·have hd2:=of_decide_eq_false hd2
       rw [List.take_of_length_le (by omega)] at hb
       have hs:=ZIz (p:=memB (ZAd 1)) k1
       rw [<- ha,<- hb] at hs
       cases q with
       | false =>
        intro c hc
        rw [IntWalk.i64_in _ (by omega)] at hc
        obtain rfl:c=((k+1:Nat):Int):=by omega
        exact ⟨g - 1,by omega,k+1,_,by omega,rfl,hst,hs.symm⟩
       | true =>
        intro c hc
        rw [IntWalk.i64_in _ (by omega)] at hc
        obtain rfl:c=((k+1:Nat):Int):=by omega
        exact ⟨g - 1,by omega,k+1,_,by omega,rfl,hst,hs.symm⟩
     ·have hd:=of_decide_eq_false hd
      rw [List.take_of_length_le (by omega)] at ha
      subst hst
      rw [<- ha] at hz
      refine ⟨_,rfl,?_⟩
      refine .p rfl htx ?_
      refine ⟨_,rfl,?_⟩
      refine ZAA (fun h1=>?_) (fun h1=>?_)
      ·obtain rfl:ac=1:=beq_iff_eq.1 h1
       cases q with
       | false=>exact reti hz.symm
       | true =>
        rw [key (.inl rfl)] at hz
        refine ⟨_,rfl,?_⟩
        intro t ht
        have ht:=ZA9 ht
        cases t with
        | false =>
         rw [<- ht] at hz
         exact reti hz.symm
        | true =>
         rw [<- ht] at hz
         refine ZAA (fun h5=>?_) (fun h5=>?_)
         ·rw [decide_eq_false (fun e=>by rw [e] at h5; cases h5)] at hz
          exact reti hz.symm
         ·rw [decide_eq_true (by rw [Bool.not_eq_false'] at h5; exact beq_iff_eq.1 h5)] at hz
          exact reti hz.symm
      have h1:ac≠1:=beq_eq_false_iff_ne.1 h1
      refine ZAA (fun h2=>?_) (fun h2=>?_)
      ·cases q with
       | false=>exact reti hz.symm
       | true =>
        rw [key (.inr (beq_iff_eq.1 h2))] at hz
        refine ⟨_,rfl,?_⟩
        intro t ht
        have ht:=ZA9 ht
        cases t with
        | false =>
         rw [<- ht] at hz
         exact reti hz.symm
        | true =>
         rw [<- ht] at hz
         refine ZAA (fun h5=>?_) (fun h5=>?_)
         ·rw [decide_eq_false (fun e=>by rw [e] at h5; cases h5)] at hz
          exact reti hz.symm
         ·rw [decide_eq_true (by rw [Bool.not_eq_false'] at h5; exact beq_iff_eq.1 h5)] at hz
          exact reti hz.symm
      have h2:ac≠2:=beq_eq_false_iff_ne.1 h2
      refine ZAA (fun h3=>?_) (fun h3=>?_)
      ·cases q with
       | false=>exact reti hz.symm
       | true =>
        rw [key3 (beq_iff_eq.1 h3)] at hz
        refine ⟨_,rfl,?_⟩
        intro t ht
        have ht:=ZA9 ht
        cases t with
        | false =>
         rw [<- ht] at hz
         exact reti hz.symm
        | true =>
         rw [<- ht] at hz
         refine ⟨_,rfl,?_⟩
         refine ZAA (fun h5=>?_) (fun h5=>?_)
         ·rw [decide_eq_false (fun e=>by rw [ZCC,decide_eq_true e] at h5; cases h5)] at hz
          exact reti hz.symm
         ·rw [Bool.not_eq_false',ZCC] at h5
          rw [h5] at hz
          exact reti hz.symm
      have h3:ac≠3:=beq_eq_false_iff_ne.1 h3
      refine ZAA (fun h4=>?_) (fun h4=>?_)
      ·cases q with
       | false=>exact reti hz.symm
       | true =>
        rw [key4 (beq_iff_eq.1 h4)] at hz
        refine ⟨_,rfl,?_⟩
        refine .p rfl htu ?_
        cases qt with
        | false=>exact reti hz.symm
        | true =>
         refine ⟨_,rfl,?_⟩
         refine .p rfl hku ?_
         cases qk with
         | true=>exact reti hz.symm
         | false =>
          refine ⟨_,rfl,?_⟩
          refine ZAA (fun h5=>?_) (fun h5=>?_)
          ·rw [decide_eq_false (fun e=>by rw [ZCC,decide_eq_true e] at h5; cases h5)] at hz
           exact reti hz.symm
          ·rw [Bool.not_eq_false',ZCC] at h5
           rw [h5] at hz
           exact reti hz.symm
      have h4:ac≠4:=beq_eq_false_iff_ne.1 h4
      rw [key0 (fun h=>h.elim h1 h2) h3 h4,Bool.and_false] at hz
      exact reti hz.symm
 have h:sd≠1:=beq_eq_false_iff_ne.1 h
 refine ⟨_,rfl,?_⟩
 refine ZAA (fun h2=>?_) (fun h2=>?_)
 ·obtain rfl:sd=2:=beq_iff_eq.1 h2
  refine ⟨_,rfl,?_⟩
  refine .p rfl hg ?_
  cases qg with
  | false =>
   refine ⟨_,rfl,?_⟩
   refine .p rfl (ZBy _) ?_
   refine ⟨_,rfl,?_⟩
   refine .p rfl hnm ?_
   refine ZAF [3,6] (fun g vals st'=>∃ k:Nat,k+g=(namT ps).length/\vals=[.b false,.i k]/\st'=⟨[[.i 2,.i gk,.s ga,.s gb,.i ac,.s nm,.s un,.sl .no 2 (prtL ps)]],[]⟩) (namT ps).length rfl ⟨0,by omega,rfl,rfl⟩ ?_
   rintro g vals st1 ⟨k,hk,rfl,hst⟩
   refine ZAA (fun hd=>?_) (fun hd=>?_)
   ·have hd:=of_decide_eq_true hd
    have k1:k<(namT ps).length:=by omega
    refine ZAF [7,8] (fun g2 vals st2=>∃ (i:Nat) (b:Bool),i+g2=(ZAd 2).length/\vals=[.b b,.i i]/\st2=st1/\b=memB ((ZAd 2).take i) (namT ps)[k]) (ZAd 2).length rfl ⟨0,false,by omega,rfl,rfl,rfl⟩ ?_
    rintro g2 vals st2 ⟨i,b,hi,rfl,rfl,hb⟩
    have ekn:=ekl 2
    have ekm:=ZBl 2
    refine ZAA (fun hd2=>?_) (fun hd2=>?_)
    ·have hd2:=of_decide_eq_true hd2
     have i1:i<(ZAd 2).length:=by omega
     have hmt:=ZB3 (t:=(namT ps)[k]) i1
     cases b with
     | true =>
      refine .x (by kernel_rfl) ?_
      intro c hc
      rw [IntWalk.i64_in _ (by omega)] at hc
      obtain rfl:c=((i+1:Nat):Int):=by omega
      exact ⟨g2 - 1,by omega,i+1,true,by omega,rfl,rfl,by rw [hmt,<- hb]; rfl⟩
     | false =>
      refine .x (by kernel_rfl) ?_
      refine ⟨i,_,rfl,ZAS i1,?_⟩
      refine ⟨k,_,rfl,ZAS k1,?_⟩
      intro t ht
      have ht:t=decide ((ZAd 2)[i]=(namT ps)[k]):=by rw [Bool.eq_iff_iff,ht,decide_eq_true_eq]
      intro c hc
      rw [IntWalk.i64_in _ (by omega)] at hc
      obtain rfl:c=((i+1:Nat):Int):=by omega
      exact ⟨g2 - 1,by omega,i+1,t,by omega,rfl,rfl,by rw [hmt,<- hb,ht]; rfl⟩
    ·have hd2:=of_decide_eq_false hd2
     rw [List.take_of_length_le (by omega)] at hb
     intro c hc
     rw [IntWalk.i64_in _ (by omega)] at hc
     obtain rfl:c=((k+1:Nat):Int):=by omega
     exact ⟨g - 1,by omega,k+1,by omega,rfl,hst⟩
   ·subst hst
    refine ⟨_,rfl,?_⟩
    refine .p rfl htx ?_
    refine ⟨_,rfl,?_⟩
    refine ZAA (fun h1=>?_) (fun h1=>?_)
    ·obtain rfl:ac=1:=beq_iff_eq.1 h1
     exact reti hz.symm
    refine ZAA (fun h2=>?_) (fun h2=>?_)
    ·exact reti hz.symm
    refine ZAA (fun h3=>?_) (fun h3=>?_)
    ·exact reti hz.symm
    refine ZAA (fun h4=>?_) (fun h4=>?_)
    ·exact reti hz.symm
    exact reti hz.symm
  | true =>
   refine ⟨_,rfl,?_⟩
   refine .p rfl htn ?_
   cases qn with
   | false =>
    refine ⟨_,rfl,?_⟩
    refine .p rfl (ZBy _) ?_
    refine ⟨_,rfl,?_⟩
    refine .p rfl hnm ?_
    refine ZAF [3,6] (fun g vals st'=>∃ k:Nat,k+g=(namT ps).length/\vals=[.b false,.i k]/\st'=⟨[[.i 2,.i gk,.s ga,.s gb,.i ac,.s nm,.s un,.sl .no 2 (prtL ps)]],[]⟩) (namT ps).length rfl ⟨0,by omega,rfl,rfl⟩ ?_
    rintro g vals st1 ⟨k,hk,rfl,hst⟩
    refine ZAA (fun hd=>?_) (fun hd=>?_)
    ·have hd:=of_decide_eq_true hd
     have k1:k<(namT ps).length:=by omega
     refine ZAF [7,8] (fun g2 vals st2=>∃ (i:Nat) (b:Bool),i+g2=(ZAd 2).length/\vals=[.b b,.i i]/\st2=st1/\b=memB ((ZAd 2).take i) (namT ps)[k]) (ZAd 2).length rfl ⟨0,false,by omega,rfl,rfl,rfl⟩ ?_
     rintro g2 vals st2 ⟨i,b,hi,rfl,rfl,hb⟩
     have ekn:=ekl 2
     have ekm:=ZBl 2
     refine ZAA (fun hd2=>?_) (fun hd2=>?_)
     ·have hd2:=of_decide_eq_true hd2
      have i1:i<(ZAd 2).length:=by omega
      have hmt:=ZB3 (t:=(namT ps)[k]) i1
      cases b with
      | true =>
       refine .x (by kernel_rfl) ?_
       intro c hc
       rw [IntWalk.i64_in _ (by omega)] at hc
       obtain rfl:c=((i+1:Nat):Int):=by omega
       exact ⟨g2 - 1,by omega,i+1,true,by omega,rfl,rfl,by rw [hmt,<- hb]; rfl⟩
      | false =>
       refine .x (by kernel_rfl) ?_
       refine ⟨i,_,rfl,ZAS i1,?_⟩
       refine ⟨k,_,rfl,ZAS k1,?_⟩
       intro t ht
       have ht:t=decide ((ZAd 2)[i]=(namT ps)[k]):=by rw [Bool.eq_iff_iff,ht,decide_eq_true_eq]
       intro c hc
       rw [IntWalk.i64_in _ (by omega)] at hc
       obtain rfl:c=((i+1:Nat):Int):=by omega
       exact ⟨g2 - 1,by omega,i+1,t,by omega,rfl,rfl,by rw [hmt,<- hb,ht]; rfl⟩
     ·have hd2:=of_decide_eq_false hd2
      rw [List.take_of_length_le (by omega)] at hb
      intro c hc
      rw [IntWalk.i64_in _ (by omega)] at hc
      obtain rfl:c=((k+1:Nat):Int):=by omega
      exact ⟨g - 1,by omega,k+1,by omega,rfl,hst⟩
    ·subst hst
     refine ⟨_,rfl,?_⟩
     refine .p rfl htx ?_
     refine ⟨_,rfl,?_⟩
     refine ZAA (fun h1=>?_) (fun h1=>?_)
     ·obtain rfl:ac=1:=beq_iff_eq.1 h1
      exact reti hz.symm
     refine ZAA (fun h2=>?_) (fun h2=>?_)
     ·exact reti hz.symm
     refine ZAA (fun h3=>?_) (fun h3=>?_)
     ·exact reti hz.symm
     refine ZAA (fun h4=>?_) (fun h4=>?_)
     ·exact reti hz.symm
     exact reti hz.symm
   | true =>
    refine ⟨_,rfl,?_⟩
    refine .p rfl hkn ?_
    cases qm with
    | true =>
     refine ⟨_,rfl,?_⟩
     refine .p rfl (ZBy _) ?_
     refine ⟨_,rfl,?_⟩
     refine .p rfl hnm ?_
     refine ZAF [3,6] (fun g vals st'=>∃ k:Nat,k+g=(namT ps).length/\vals=[.b false,.i k]/\st'=⟨[[.i 2,.i gk,.s ga,.s gb,.i ac,.s nm,.s un,.sl .no 2 (prtL ps)]],[]⟩) (namT ps).length rfl ⟨0,by omega,rfl,rfl⟩ ?_
     rintro g vals st1 ⟨k,hk,rfl,hst⟩
     refine ZAA (fun hd=>?_) (fun hd=>?_)
     ·have hd:=of_decide_eq_true hd
      have k1:k<(namT ps).length:=by omega
      refine ZAF [7,8] (fun g2 vals st2=>∃ (i:Nat) (b:Bool),i+g2=(ZAd 2).length/\vals=[.b b,.i i]/\st2=st1/\b=memB ((ZAd 2).take i) (namT ps)[k]) (ZAd 2).length rfl ⟨0,false,by omega,rfl,rfl,rfl⟩ ?_
      rintro g2 vals st2 ⟨i,b,hi,rfl,rfl,hb⟩
      have ekn:=ekl 2
      have ekm:=ZBl 2
      refine ZAA (fun hd2=>?_) (fun hd2=>?_)
      ·have hd2:=of_decide_eq_true hd2
       have i1:i<(ZAd 2).length:=by omega
       have hmt:=ZB3 (t:=(namT ps)[k]) i1
       cases b with
       | true =>
        refine .x (by kernel_rfl) ?_
        intro c hc
        rw [IntWalk.i64_in _ (by omega)] at hc
        obtain rfl:c=((i+1:Nat):Int):=by omega
        exact ⟨g2 - 1,by omega,i+1,true,by omega,rfl,rfl,by rw [hmt,<- hb]; rfl⟩
       | false =>
        refine .x (by kernel_rfl) ?_
        refine ⟨i,_,rfl,ZAS i1,?_⟩
        refine ⟨k,_,rfl,ZAS k1,?_⟩
        intro t ht
        have ht:t=decide ((ZAd 2)[i]=(namT ps)[k]):=by rw [Bool.eq_iff_iff,ht,decide_eq_true_eq]
        intro c hc
        rw [IntWalk.i64_in _ (by omega)] at hc
        obtain rfl:c=((i+1:Nat):Int):=by omega
        exact ⟨g2 - 1,by omega,i+1,t,by omega,rfl,rfl,by rw [hmt,<- hb,ht]; rfl⟩
      ·have hd2:=of_decide_eq_false hd2
       rw [List.take_of_length_le (by omega)] at hb
       intro c hc
       rw [IntWalk.i64_in _ (by omega)] at hc
       obtain rfl:c=((k+1:Nat):Int):=by omega
       exact ⟨g - 1,by omega,k+1,by omega,rfl,hst⟩
     ·subst hst
      refine ⟨_,rfl,?_⟩
      refine .p rfl htx ?_
      refine ⟨_,rfl,?_⟩
      refine ZAA (fun h1=>?_) (fun h1=>?_)
      ·obtain rfl:ac=1:=beq_iff_eq.1 h1
       exact reti hz.symm
      refine ZAA (fun h2=>?_) (fun h2=>?_)
      ·exact reti hz.symm
      refine ZAA (fun h3=>?_) (fun h3=>?_)
      ·exact reti hz.symm
      refine ZAA (fun h4=>?_) (fun h4=>?_)
      ·exact reti hz.symm
      exact reti hz.symm
    | false =>
     refine ⟨_,rfl,?_⟩
     refine .p rfl (ZBy _) ?_
     refine ⟨_,rfl,?_⟩
     refine .p rfl hnm ?_
     refine ZAF [3,6] (fun g vals st'=>∃ (k:Nat) (q:Bool),k+g=(namT ps).length/\vals=[.b q,.i k]/\st'=⟨[[.i 2,.i gk,.s ga,.s gb,.i ac,.s nm,.s un,.sl .no 2 (prtL ps)]],[]⟩/\q=((namT ps).take k).all (memB (ZAd 2))) (namT ps).length rfl ⟨0,true,by omega,rfl,rfl,rfl⟩ ?_
     rintro g vals st1 ⟨k,q,hk,rfl,hst,ha⟩
     refine ZAA (fun hd=>?_) (fun hd=>?_)
     ·have hd:=of_decide_eq_true hd
      have k1:k<(namT ps).length:=by omega
      refine ZAF [7,8] (fun g2 vals st2=>∃ (i:Nat) (b:Bool),i+g2=(ZAd 2).length/\vals=[.b b,.i i]/\st2=st1/\b=memB ((ZAd 2).take i) (namT ps)[k]) (ZAd 2).length rfl ⟨0,false,by omega,rfl,rfl,rfl⟩ ?_
      rintro g2 vals st2 ⟨i,b,hi,rfl,rfl,hb⟩
      have ekn:=ekl 2
      have ekm:=ZBl 2
      refine ZAA (fun hd2=>?_) (fun hd2=>?_)
      ·have hd2:=of_decide_eq_true hd2
       have i1:i<(ZAd 2).length:=by omega
       have hmt:=ZB3 (t:=(namT ps)[k]) i1
       cases b with
       | true =>
        refine .x (by kernel_rfl) ?_
        intro c hc
        rw [IntWalk.i64_in _ (by omega)] at hc
        obtain rfl:c=((i+1:Nat):Int):=by omega
        exact ⟨g2 - 1,by omega,i+1,true,by omega,rfl,rfl,by rw [hmt,<- hb]; rfl⟩
       | false =>
        refine .x (by kernel_rfl) ?_
        refine ⟨i,_,rfl,ZAS i1,?_⟩
        refine ⟨k,_,rfl,ZAS k1,?_⟩
        intro t ht
        have ht:t=decide ((ZAd 2)[i]=(namT ps)[k]):=by rw [Bool.eq_iff_iff,ht,decide_eq_true_eq]
        intro c hc
        rw [IntWalk.i64_in _ (by omega)] at hc
        obtain rfl:c=((i+1:Nat):Int):=by omega
        exact ⟨g2 - 1,by omega,i+1,t,by omega,rfl,rfl,by rw [hmt,<- hb,ht]; rfl⟩
      ·have hd2:=of_decide_eq_false hd2
       rw [List.take_of_length_le (by omega)] at hb
       have hs:=ZIz (p:=memB (ZAd 2)) k1
       rw [<- ha,<- hb] at hs
       cases q with
       | false =>
        intro c hc
        rw [IntWalk.i64_in _ (by omega)] at hc
        obtain rfl:c=((k+1:Nat):Int):=by omega
        exact ⟨g - 1,by omega,k+1,_,by omega,rfl,hst,hs.symm⟩
       | true =>
        intro c hc
        rw [IntWalk.i64_in _ (by omega)] at hc
        obtain rfl:c=((k+1:Nat):Int):=by omega
        exact ⟨g - 1,by omega,k+1,_,by omega,rfl,hst,hs.symm⟩
     ·have hd:=of_decide_eq_false hd
      rw [List.take_of_length_le (by omega)] at ha
      subst hst
      rw [<- ha] at hz
      refine ⟨_,rfl,?_⟩
      refine .p rfl htx ?_
      refine ⟨_,rfl,?_⟩
      refine ZAA (fun h1=>?_) (fun h1=>?_)
      ·obtain rfl:ac=1:=beq_iff_eq.1 h1
       cases q with
       | false=>exact reti hz.symm
       | true =>
        rw [key (.inl rfl)] at hz
        refine ⟨_,rfl,?_⟩
        intro t ht
        have ht:=ZA9 ht
        cases t with
        | false =>
         rw [<- ht] at hz
         exact reti hz.symm
        | true =>
         rw [<- ht] at hz
         refine ZAA (fun h5=>?_) (fun h5=>?_)
         ·rw [decide_eq_false (fun e=>by rw [e] at h5; cases h5)] at hz
          exact reti hz.symm
         ·rw [decide_eq_true (by rw [Bool.not_eq_false'] at h5; exact beq_iff_eq.1 h5)] at hz
          exact reti hz.symm
      have h1:ac≠1:=beq_eq_false_iff_ne.1 h1
      refine ZAA (fun h2=>?_) (fun h2=>?_)
      ·cases q with
       | false=>exact reti hz.symm
       | true =>
        rw [key (.inr (beq_iff_eq.1 h2))] at hz
        refine ⟨_,rfl,?_⟩
        intro t ht
        have ht:=ZA9 ht
        cases t with
        | false =>
         rw [<- ht] at hz
         exact reti hz.symm
        | true =>
         rw [<- ht] at hz
         refine ZAA (fun h5=>?_) (fun h5=>?_)
         ·rw [decide_eq_false (fun e=>by rw [e] at h5; cases h5)] at hz
          exact reti hz.symm
         ·rw [decide_eq_true (by rw [Bool.not_eq_false'] at h5; exact beq_iff_eq.1 h5)] at hz
          exact reti hz.symm
      have h2:ac≠2:=beq_eq_false_iff_ne.1 h2
      refine ZAA (fun h3=>?_) (fun h3=>?_)
      ·cases q with
       | false=>exact reti hz.symm
       | true =>
        rw [key3 (beq_iff_eq.1 h3)] at hz
        refine ⟨_,rfl,?_⟩
        intro t ht
        have ht:=ZA9 ht
        cases t with
        | false =>
         rw [<- ht] at hz
         exact reti hz.symm
        | true =>
         rw [<- ht] at hz
         refine ⟨_,rfl,?_⟩
         refine ZAA (fun h5=>?_) (fun h5=>?_)
         ·rw [decide_eq_false (fun e=>by rw [ZCC,decide_eq_true e] at h5; cases h5)] at hz
          exact reti hz.symm
         ·rw [Bool.not_eq_false',ZCC] at h5
          rw [h5] at hz
          exact reti hz.symm
      have h3:ac≠3:=beq_eq_false_iff_ne.1 h3
      refine ZAA (fun h4=>?_) (fun h4=>?_)
      ·cases q with
       | false=>exact reti hz.symm
       | true =>
        rw [key4 (beq_iff_eq.1 h4)] at hz
        refine ⟨_,rfl,?_⟩
        refine .p rfl htu ?_
        cases qt with
        | false=>exact reti hz.symm
        | true =>
         refine ⟨_,rfl,?_⟩
         refine .p rfl hku ?_
         cases qk with
         | true=>exact reti hz.symm
         | false =>
          refine ⟨_,rfl,?_⟩
          refine ZAA (fun h5=>?_) (fun h5=>?_)
          ·rw [decide_eq_false (fun e=>by rw [ZCC,decide_eq_true e] at h5; cases h5)] at hz
           exact reti hz.symm
          ·rw [Bool.not_eq_false',ZCC] at h5
           rw [h5] at hz
           exact reti hz.symm
      have h4:ac≠4:=beq_eq_false_iff_ne.1 h4
      rw [key0 (fun h=>h.elim h1 h2) h3 h4,Bool.and_false] at hz
      exact reti hz.symm
 have h2:sd≠2:=beq_eq_false_iff_ne.1 h2
 rw [decide_eq_false (fun h3=>h3.elim h h2)] at hs
 rw [hs] at hz
 refine ⟨_,rfl,?_⟩
 refine .p rfl (ZBy _) ?_
 refine ⟨_,rfl,?_⟩
 refine .p rfl hnm ?_
 refine ZAF [3,6] (fun g vals st'=>∃ k:Nat,k+g=(namT ps).length/\vals=[.b false,.i k]/\st'=⟨[[.i sd,.i gk,.s ga,.s gb,.i ac,.s nm,.s un,.sl .no 2 (prtL ps)]],[]⟩) (namT ps).length rfl ⟨0,by omega,rfl,rfl⟩ ?_
 rintro g vals st1 ⟨k,hk,rfl,hst⟩
 refine ZAA (fun hd=>?_) (fun hd=>?_)
 ·have hd:=of_decide_eq_true hd
  have k1:k<(namT ps).length:=by omega
  refine ZAF [7,8] (fun g2 vals st2=>∃ (i:Nat) (b:Bool),i+g2=(ZAd sd).length/\vals=[.b b,.i i]/\st2=st1/\b=memB ((ZAd sd).take i) (namT ps)[k]) (ZAd sd).length rfl ⟨0,false,by omega,rfl,rfl,rfl⟩ ?_
  rintro g2 vals st2 ⟨i,b,hi,rfl,rfl,hb⟩
  have ekn:=ekl sd
  have ekm:=ZBl sd
  refine ZAA (fun hd2=>?_) (fun hd2=>?_)
  ·have hd2:=of_decide_eq_true hd2
   have i1:i<(ZAd sd).length:=by omega
   have hmt:=ZB3 (t:=(namT ps)[k]) i1
   cases b with
   | true =>
    refine .x (by kernel_rfl) ?_
    intro c hc
    rw [IntWalk.i64_in _ (by omega)] at hc
    obtain rfl:c=((i+1:Nat):Int):=by omega
    exact ⟨g2 - 1,by omega,i+1,true,by omega,rfl,rfl,by rw [hmt,<- hb]; rfl⟩
   | false =>
    refine .x (by kernel_rfl) ?_
    refine ⟨i,_,rfl,ZAS i1,?_⟩
    refine ⟨k,_,rfl,ZAS k1,?_⟩
    intro t ht
    have ht:t=decide ((ZAd sd)[i]=(namT ps)[k]):=by rw [Bool.eq_iff_iff,ht,decide_eq_true_eq]
    intro c hc
    rw [IntWalk.i64_in _ (by omega)] at hc
    obtain rfl:c=((i+1:Nat):Int):=by omega
    exact ⟨g2 - 1,by omega,i+1,t,by omega,rfl,rfl,by rw [hmt,<- hb,ht]; rfl⟩
  ·have hd2:=of_decide_eq_false hd2
   rw [List.take_of_length_le (by omega)] at hb
   intro c hc
   rw [IntWalk.i64_in _ (by omega)] at hc
   obtain rfl:c=((k+1:Nat):Int):=by omega
   exact ⟨g - 1,by omega,k+1,by omega,rfl,hst⟩
 ·subst hst
  refine ⟨_,rfl,?_⟩
  refine .p rfl htx ?_
  refine ⟨_,rfl,?_⟩
  refine ZAA (fun h1=>?_) (fun h1=>?_)
  ·obtain rfl:ac=1:=beq_iff_eq.1 h1
   exact reti hz.symm
  refine ZAA (fun h2=>?_) (fun h2=>?_)
  ·exact reti hz.symm
  refine ZAA (fun h3=>?_) (fun h3=>?_)
  ·exact reti hz.symm
  refine ZAA (fun h4=>?_) (fun h4=>?_)
  ·exact reti hz.symm
  exact reti hz.symm
end Go.Proofs.YticbonkojpabnaaGreatDoor
