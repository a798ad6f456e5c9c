/- Rules: checked by the program. No statement of its own. -/
import Derived.Test.YticbonkojpabnaaGreatDoorSFx
import Derived.Test.YticbonkojpabnaaGreatDoorSFdp
import Derived.Test.YticbonkojpabnaaGreatDoorSTmF
set_option linter.unusedSimpArgs false
set_option linter.unusedVariables false
set_option maxRecDepth 100000
namespace Go.Proofs.YticbonkojpabnaaGreatDoor
open Go.RowKit
structure Rl where
 sd:Int
 gk:Int
 ga:ByteArray
 gb:ByteArray
 ac:Int
 nm:ByteArray
 un:ByteArray
 ps:List Prt
def Rl.av (r:Rl):AV:=.agg [.i r.sd,.i r.gk,.s r.ga,.s r.gb,.i r.ac,.s r.nm,.s r.un,.sl .no 2 (prtL r.ps)]
structure Rl.Ok (r:Rl):Prop where
 ga:r.ga.size<=100000
 gb:r.gb.size<=100000
 nm:r.nm.size<=100000
 un:r.un.size<=100000
 pl:r.ps.length<=1000
 pz:sumT r.ps<=1000000
def ZDi (s:ByteArray):Bool:=tokB s && !ZJg s
def ZBK (k:Int) (a b:ByteArray):Bool :=
 if k=0 then decide (a.size=0) && decide (b.size=0) else if k=1 \/ k=2 then tokB a && decide (b.size=0) else if k=3 then decide (ZEF (a,b)=0) else false
def ZFZ (n:Int) (ps:List Prt):Bool:=(namT ps).all (memB (ZAd n)) && decide ((ZB9 ps).2=0)
def actB (n ac:Int) (un:ByteArray) (ps:List Prt):Bool :=
 if ac=1 \/ ac=2 then decide (un.size=0) && ZFZ n ps else if ac=3 then decide (un.size=0) && decide (ps.length=0) else if ac=4 then ZDi un && decide (ps.length=0) else false
def ZKj (n:Int):Bool:=decide (n=1 \/ n=2)
def ZAO (r:Rl):Int:=if (ZKj r.sd && ZBK r.gk r.ga r.gb && ZDi r.nm && actB r.sd r.ac r.un r.ps)=true then 0 else 9
theorem ZA9 {s:ByteArray} {t:Bool} (h:t=true ↔ s=⟨#[]⟩):t=decide (s.size=0):=by
 rw [Bool.eq_iff_iff,h,ZAi,decide_eq_true_eq]
theorem free_p (s:ByteArray) (hs:s.size<=1099511627776):ZAC Tryz.prog 92 [.s s] (.b (ZDi s)) []:=by
 have hmx:maxLen=9223372036854775807:=rfl
 have ht:=ZKp s (by omega)
 have hk:=kept_p s hs
 have hf:ZDi s=(tokB s && !ZJg s):=rfl
 generalize ZDi s=q at hf
 generalize tokB s=b at ht hf
 refine ZAC.of rfl (ZAB.of_vc T_ok mixed Tryz.func92 rfl Tryz.call92 ?_)
 refine .p rfl ht ?_
 cases b with
 | false=>exact retb hf.symm
 | true =>
  refine .p rfl hk ?_
  exact retb hf.symm
theorem guard_p (k:Int) (a b:ByteArray) (ha:a.size<=100000) (hb:b.size<=100000):ZAC Tryz.prog 91 [.agg [.i k,.s a,.s b]] (.b (ZBK k a b)) []:=by
 have hmx:maxLen=9223372036854775807:=rfl
 have ht:=ZKp a (by omega)
 have hc:=check_p a b (by omega) (by omega)
 refine ZAC.of rfl (ZAB.of_vc T_ok mixed Tryz.func91 rfl Tryz.call91 ?_)
 refine ⟨_,rfl,?_⟩
 refine ZAA (fun h0=>?_) (fun h0=>?_)
 ·have h0:k=0:=beq_iff_eq.1 h0
  have hg:ZBK k a b=(decide (a.size=0) && decide (b.size=0)):=by unfold ZBK; rw [if_pos h0]
  rw [hg]
  refine ⟨_,rfl,?_⟩
  intro t1 h1
  cases t1 with
  | false=>exact retb (by rw [<- ZA9 h1]; rfl)
  | true =>
   refine ⟨_,rfl,?_⟩
   intro t2 h2
   exact retb (by rw [<- ZA9 h1,<- ZA9 h2]; rfl)
 have h0:k≠0:=beq_eq_false_iff_ne.1 h0
 have key:k=1 \/ k=2->ZBK k a b=(tokB a && decide (b.size=0)):=fun h=>by unfold ZBK; rw [if_neg h0,if_pos h]
 generalize tokB a=q at ht key
 refine ZAA (fun h1=>?_) (fun h1=>?_)
 ·obtain rfl:k=1:=beq_iff_eq.1 h1
  rw [key (.inl rfl)]
  refine ⟨_,rfl,?_⟩
  refine .p rfl ht ?_
  cases q with
  | false=>rfl
  | true =>
   refine ⟨_,rfl,?_⟩
   intro t2 h2
   exact retb (by rw [<- ZA9 h2]; rfl)
 have h1:k≠1:=beq_eq_false_iff_ne.1 h1
 refine ZAA (fun h2=>?_) (fun h2=>?_)
 ·have h2:k=2:=beq_iff_eq.1 h2
  rw [key (.inr h2)]
  refine ⟨_,rfl,?_⟩
  refine .p rfl ht ?_
  cases q with
  | false=>rfl
  | true =>
   refine ⟨_,rfl,?_⟩
   intro t2 h2
   exact retb (by rw [<- ZA9 h2]; rfl)
 have h2:k≠2:=beq_eq_false_iff_ne.1 h2
 refine ZAA (fun h3=>?_) (fun h3=>?_)
 ·have h3:k=3:=beq_iff_eq.1 h3
  refine ⟨_,rfl,?_⟩
  refine ⟨_,rfl,?_⟩
  refine .p rfl hc ?_
  refine retb ?_
  unfold ZBK
  rw [if_neg h0,if_neg (fun h=>h.elim h1 h2),if_pos h3,Bool.eq_iff_iff,beq_iff_eq,decide_eq_true_eq]
 ·have h3:k≠3:=beq_eq_false_iff_ne.1 h3
  refine retb ?_
  unfold ZBK
  rw [if_neg h0,if_neg (fun h=>h.elim h1 h2),if_neg h3]
theorem ZIz {l:List ByteArray} {k:Nat} {p:ByteArray->Bool} (h:k<l.length):(l.take (k+1)).all p=((l.take k).all p && p l[k]):=by
 rw [List.take_succ_eq_append_getElem h,List.all_append]
 simp
theorem parts_p (n:Int) (ps:List Prt) (hn:n=1 \/ n=2) (h1:ps.length<=1000) (h2:sumT ps<=1000000):ZAC Tryz.prog 135 [.i n,.sl .no 2 (prtL ps)] (.b (ZFZ n ps)) []:=by
 have hmx:maxLen=9223372036854775807:=rfl
 have hkn:=known_p n hn
 have hkl:=ZBl n
 have hnl:=ZFD ps ps.length (Nat.le_refl _)
 rw [List.take_of_length_le (Nat.le_refl _)] at hnl
 have hnm:=names_p ps (by omega)
 have htx:=ZL6 ps h1 h2
 have esl:=ZAH (namT ps)
 have hP:ZFZ n ps=((namT ps).all (memB (ZAd n)) && decide ((ZB9 ps).2=0)):=rfl
 generalize ZFZ n ps=q at hP
 refine ZAC.of rfl (ZAB.of_vc T_ok mixed Tryz.func135 rfl Tryz.call135 ?_)
 refine .p rfl hkn ?_
 refine .p rfl hnm ?_
 refine ZAF [15] (fun g vals st'=>∃ k:Nat,k+g=(namT ps).length/\vals=[.i k]/\((namT ps).take k).all (memB (ZAd n))=true) (namT ps).length rfl ⟨0,by omega,rfl,rfl⟩ ?_
 rintro g vals st' ⟨k,hk,rfl,ha⟩
 refine ZAA (fun hd=>?_) (fun hd=>?_)
 ·have hd:=of_decide_eq_true hd
  have k1:k<(namT ps).length:=by omega
  have hs:=ZIz (p:=memB (ZAd n)) k1
  rw [ha,Bool.true_and] at hs
  refine ⟨k,_,rfl,ZAS k1,?_⟩
  refine .p rfl (ZDN (ZAd n) (namT ps)[k] (by omega)) ?_
  refine ZAA (fun h3=>?_) (fun h3=>?_)
  ·rw [Bool.not_eq_true'] at h3
   refine retb ?_
   rw [hP]
   have:(namT ps).all (memB (ZAd n))=false:=List.all_eq_false.2 ⟨_,List.getElem_mem k1,by rw [h3]; decide⟩
   rw [this]; rfl
  ·rw [Bool.not_eq_false'] at h3
   intro c hc
   rw [IntWalk.i64_in _ (by omega)] at hc
   obtain rfl:c=((k+1:Nat):Int):=by omega
   exact ⟨g - 1,by omega,k+1,by omega,rfl,by rw [hs]; exact h3⟩
 ·have hd:=of_decide_eq_false hd
  rw [List.take_of_length_le (by omega)] at ha
  refine .p rfl htx ?_
  refine retb ?_
  rw [hP,ha,Bool.true_and,Bool.eq_iff_iff,beq_iff_eq,decide_eq_true_eq]
theorem ZCC {l:List Prt}:(((prtL l).length:Int) == 0)=decide (l.length=0):=by
 rw [Bool.eq_iff_iff,beq_iff_eq,decide_eq_true_eq,ZBg]
 omega
theorem act_p (r:Rl) (hr:r.Ok) (hn:r.sd=1 \/ r.sd=2):ZAC Tryz.prog 93 [r.av] (.b (actB r.sd r.ac r.un r.ps)) []:=by
 have hp:=parts_p r.sd r.ps hn hr.pl hr.pz
 have hf:=free_p r.un (by have:=hr.un; omega)
 obtain ⟨sd,gk,ga,gb,ac,nm,un,ps⟩:=r
 show ZAC _ _ [.agg [.i sd,.i gk,.s ga,.s gb,.i ac,.s nm,.s un,.sl .no 2 (prtL ps)]] (.b (actB sd ac un ps)) []
 have hp:ZAC Tryz.prog 135 [.i sd,.sl .no 2 (prtL ps)] (.b (ZFZ sd ps)) []:=hp
 have hf:ZAC Tryz.prog 92 [.s un] (.b (ZDi un)) []:=hf
 have key:ac=1 \/ ac=2->actB sd ac un ps=(decide (un.size=0) && ZFZ sd ps):=fun h=>by unfold actB; rw [if_pos h]
 have key3:ac=3->actB sd ac un ps=(decide (un.size=0) && decide (ps.length=0)):=fun h=>by unfold actB; rw [if_neg (by omega),if_pos h]
 have key4:ac=4->actB sd ac un ps=(ZDi un && decide (ps.length=0)):=fun h=>by unfold actB; rw [if_neg (by omega),if_neg (by omega),if_pos h]
 have key0:¬ (ac=1 \/ ac=2)->ac≠3->ac≠4->actB sd ac un ps=false:=fun h h3 h4=>by unfold actB; rw [if_neg h,if_neg h3,if_neg h4]
 generalize actB sd ac un ps=q at *
 generalize ZDi un=qf at *
 generalize ZFZ sd ps=qp at *
 refine ZAC.of rfl (ZAB.of_vc T_ok mixed Tryz.func93 rfl Tryz.call93 ?_)
 refine ⟨_,rfl,?_⟩
 refine ZAA (fun h1=>?_) (fun h1=>?_)
 ·rw [key (.inl (beq_iff_eq.1 h1))]
  refine ⟨_,rfl,?_⟩
  intro t ht
  cases t with
  | false=>exact retb (by rw [<- ZA9 ht]; rfl)
  | true =>
   refine ⟨_,rfl,?_⟩
   refine ⟨_,rfl,?_⟩
   refine .p rfl hp ?_
   exact retb (by rw [<- ZA9 ht]; rfl)
 have h1:ac≠1:=beq_eq_false_iff_ne.1 h1
 refine ZAA (fun h2=>?_) (fun h2=>?_)
 ·rw [key (.inr (beq_iff_eq.1 h2))]
  refine ⟨_,rfl,?_⟩
  intro t ht
  cases t with
  | false=>exact retb (by rw [<- ZA9 ht]; rfl)
  | true =>
   refine ⟨_,rfl,?_⟩
   refine ⟨_,rfl,?_⟩
   refine .p rfl hp ?_
   exact retb (by rw [<- ZA9 ht]; rfl)
 have h2:ac≠2:=beq_eq_false_iff_ne.1 h2
 refine ZAA (fun h3=>?_) (fun h3=>?_)
 ·rw [key3 (beq_iff_eq.1 h3)]
  refine ⟨_,rfl,?_⟩
  intro t ht
  cases t with
  | false=>exact retb (by rw [<- ZA9 ht]; rfl)
  | true =>
   refine ⟨_,rfl,?_⟩
   exact retb (by rw [<- ZA9 ht,<- ZCC]; rfl)
 have h3:ac≠3:=beq_eq_false_iff_ne.1 h3
 refine ZAA (fun h4=>?_) (fun h4=>?_)
 ·rw [key4 (beq_iff_eq.1 h4)]
  refine ⟨_,rfl,?_⟩
  refine .p rfl hf ?_
  cases qf with
  | false=>rfl
  | true =>
   refine ⟨_,rfl,?_⟩
   exact retb (by rw [<- ZCC]; rfl)
 have h4:ac≠4:=beq_eq_false_iff_ne.1 h4
 exact retb (key0 (fun h=>h.elim h1 h2) h3 h4).symm
theorem ZD7 (r:Rl) (hr:r.Ok):ZAC Tryz.prog 57 [r.av] (.i (ZAO r)) []:=by
 have hg:=guard_p r.gk r.ga r.gb hr.ga hr.gb
 have hf:=free_p r.nm (by have:=hr.nm; omega)
 have hac:=act_p r hr
 have hkw:=known_p r.sd
 have hkn:=knownN_p r.sd
 have hz:ZAO r=if (ZKj r.sd && ZBK r.gk r.ga r.gb && ZDi r.nm && actB r.sd r.ac r.un r.ps)=true then 0 else 9:=rfl
 have hs:ZKj r.sd=decide (r.sd=1 \/ r.sd=2):=rfl
 generalize ZAO r=z at hz
 generalize actB r.sd r.ac r.un r.ps=qa at *
 obtain ⟨sd,gk,ga,gb,ac,nm,un,ps⟩:=r
 show ZAC _ _ [.agg [.i sd,.i gk,.s ga,.s gb,.i ac,.s nm,.s un,.sl .no 2 (prtL ps)]] _ _
 have hac:sd=1 \/ sd=2->ZAC Tryz.prog 93 [.agg [.i sd,.i gk,.s ga,.s gb,.i ac,.s nm,.s un,.sl .no 2 (prtL ps)]] (.b qa) []:=hac
 have hg:ZAC Tryz.prog 91 [.agg [.i gk,.s ga,.s gb]] (.b (ZBK gk ga gb)) []:=hg
 have hf:ZAC Tryz.prog 92 [.s nm] (.b (ZDi nm)) []:=hf
 have hz:z=if (ZKj sd && ZBK gk ga gb && ZDi nm && qa)=true then 0 else 9:=hz
 have hs:ZKj sd=decide (sd=1 \/ sd=2):=hs
 have hkw:sd=1 \/ sd=2->ZAC Tryz.prog 90 [.i sd] (.sl .no 1 (strL (ZAd sd))) []:=hkw
 have hkn:¬ (sd=1 \/ sd=2)->ZAC Tryz.prog 90 [.i sd] .nilS []:=hkn
 generalize ZBK gk ga gb=qg at *
 generalize ZDi nm=qf at *
 have hc:∃ x r,sd=1 \/ sd=2->ZAd sd=x::r:=by
  by_cases h:sd=1
  ·exact ⟨_,_,fun _=>by rw [h]; rfl⟩
  ·by_cases h2:sd=2
   ·exact ⟨_,_,fun _=>by rw [h2]; rfl⟩
   ·exact ⟨⟨#[]⟩,[],fun h3=>absurd h3 (fun h3=>h3.elim h h2)⟩
 obtain ⟨x,xr,hc⟩:=hc
 refine ZAC.of rfl (ZAB.of_vc T_ok mixed Tryz.func57 rfl Tryz.call57 ?_)
 refine ⟨_,rfl,?_⟩
 by_cases h:sd=1 \/ sd=2
 ·have hkw:=hkw h
  rw [hc h] at hkw
  rw [decide_eq_true h] at hs
  rw [hs,Bool.true_and] at hz
  refine .p rfl hkw ?_
  refine ⟨_,rfl,?_⟩
  refine .p rfl hg ?_
  cases qg with
  | false=>exact reti hz.symm
  | true =>
   refine ⟨_,rfl,?_⟩
   refine .p rfl hf ?_
   cases qf with
   | false=>exact reti hz.symm
   | true =>
    refine ⟨_,rfl,?_⟩
    refine .p rfl (hac h) ?_
    cases qa with
    | false=>exact reti hz.symm
    | true=>exact reti hz.symm
 ·rw [decide_eq_false h] at hs
  rw [hs] at hz
  refine .p rfl (hkn h) ?_
  exact reti hz.symm
end Go.Proofs.YticbonkojpabnaaGreatDoor
