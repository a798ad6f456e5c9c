/- Lines that the document reads. No statement of its own. -/
import Derived.Test.YticbonkojpabnaaGreatDoorSLne
import Derived.Test.YticbonkojpabnaaGreatDoorSLnb
import Derived.Test.YticbonkojpabnaaGreatDoorSLnc
set_option linter.unusedSimpArgs false
set_option linter.unusedVariables false
set_option maxRecDepth 100000
namespace Go.Proofs.YticbonkojpabnaaGreatDoor
open Go.RowKit
section
def othN (s:Scr) (x:ByteArray):Scr × Int:=match ZCz x with
 | some y=>(apL s y,(y.rank:Int))
 | none=>(s,-1)
theorem ZAG (a:ByteArray):ZCV (.s a) (.s a):=.inl ⟨rfl,rfl⟩
theorem ZAN (n:Int):ZCV (.i n) (.i n):=.inl ⟨rfl,rfl⟩
theorem ZAf (n:Bool):ZCV (.b n) (.b n):=.inl ⟨rfl,rfl⟩
theorem ZAJ (t:Tk) (sz:Nat) (es:List (List AV)):ZCV (.sl t sz es) (.sl .no sz es):=.inl ⟨rfl,rfl⟩
theorem ZAX (s:Scr):ZCr s.cells s.cells :=
 ⟨ZAG _,ZAG _,ZAG _,ZAG _,ZAJ _ _ _,ZAJ _ _ _,ZAN _,ZAN _,ZAN _,ZAJ _ _ _,ZAG _,ZAG _,ZAf _,ZAf _,ZAJ _ _ _,trivial⟩
theorem ZJc:∀ (vs pre cs:List AV),cs.length=vs.length->ZBL (pre++cs) pre.length vs=pre++vs
 | [],pre,cs,h=>by
  rw [List.eq_nil_of_length_eq_zero h]
  rfl
 | v::vs,pre,[],h=>by cases h
 | v::vs,pre,c::cs,h=>by
  have ih:=ZJc vs (pre++[v]) cs (by simpa using h)
  rw [List.length_append,List.append_assoc,List.append_assoc] at ih
  have e:(pre++c::cs).set pre.length v=pre++v::cs:=by simp
  show ZBL ((pre++c::cs).set pre.length v) (pre.length+1) vs=_
  rw [e]
  exact ih
theorem ZAI {cs vs:List AV} (h:cs.length=vs.length):ZBL cs 0 vs=vs:=ZJc vs [] cs h
theorem tapp {i:TI} {tg:Tk} {ys:List (List AV)} {st:St} {K:AV->St->Prop} (hz:i.zero.all Value.oneCell'=true) (hb:ys.length*i.bytes<=140737488355328) (hm:ys.length<=maxLen) (h0:ys=[]->K (.sl .tight i.size []) st) (h1:ys≠[]->∀ t e tk',tk'[t]? = some e->K (.sl (.own t e) i.size ys) ⟨st.heap,tk'⟩):ZAn i (.sl .tight i.size []) (.sl tg i.size ys) st K:=by
 unfold ZAn srcA
 simp only [decide_true,hz,Bool.and_self]
 refine ⟨fun e=>h0 e,fun hne=>⟨by simpa using hb,by simpa using hm,.inl ?_⟩⟩
 have:=h1 hne st.tk.length ([]++ys).length (st.tk++[([]++ys).length]) (by simp)
 simpa using this
section
attribute [local irreducible] ZAn
set_option maxHeartbeats 4000000 in
theorem other47_p (s:Scr) (x:ByteArray) (hx:x.size<=100000) (hl:ZF7 s<=1000000000):ZAC Tryz.prog 80 [s.av,.s x] (.tup [(othN s x).1.av,.i (othN s x).2]) []:=by
 have hmx:maxLen=9223372036854775807:=rfl
 unfold ZF7 at hl
 have hw:=ZJt x (by omega)
 have hb1:=ZJR x rulP
 have hb2:=ZJR x evtP
 have hwl:=ZIG x
 have hwz:∀ y∈ZAa x,y.size<=100000:=fun y hy=>Nat.le_trans (ZEk hy) hx
 have hne:ZAa x≠[]:=by
  unfold ZAa
  intro e
  exact ZHE 32 x.data.toList (List.map_eq_nil_iff.1 e)
 have hN:othN s x=match ZCz x with
  | some y=>(apL s y,(y.rank:Int))
  | none=>(s,-1):=rfl
 generalize othN s x=R at *
 unfold ZCz at hN
 have hcw:capW x=decide ((ZAa x).head? = some ZD3/\(ZAa x).length=4):=rfl
 have hco:ZHc x=(ZHp (ZAa x)).map fun t=>.caps t.1 t.2.1 t.2.2:=rfl
 generalize ZAa x=W at *
 obtain ⟨w0,W1,rfl⟩:∃ a b,W=a::b:=by cases W with | nil=>exact absurd rfl hne | cons a b=>exact ⟨a,b,rfl⟩
 have elw:=ZAH (w0::W1)
 refine ZAC.ofG rfl ?_
 refine ZAB.of_vc T_ok mixed Tryz.func80 rfl Tryz.call80 ?_
 refine .p rfl hw ?_
 refine ⟨0,_,rfl,rfl,?_⟩
 intro q hq
 cases hqq:q
 ·have hcf:capW x=false:=by
   rw [hcw]
   refine decide_eq_false (fun h=>?_)
   have:=hq.2 (Option.some.inj h.1)
   rw [hqq] at this
   cases this
  rw [hcf] at hN
  have hN:R=match (if begB x rulP=true then ZDe (ZAm x rulP) else if begB x evtP=true then evO (ZAm x evtP) else none) with
   | some y=>(apL s y,(y.rank:Int))
   | none=>(s,-1):=hN
  clear hcf hcw hco
  cases hB1:begB x rulP with
  | true =>
   rw [hB1] at hb1 hN
   refine .p rfl hb1 ?_
   have hrc:=ZGX hB1
   have hbl:=ZDt hB1
   have hrz:rulP.size=5:=rfl
   have htz:(ZAm x rulP).size<=100000:=by rw [<- hrc,ByteArray.size_extract]; omega
   rw [hrz] at hrc
   have hw3:=ZJw _ htz
   have hok:=ZE8 htz
   have hck:=@ZCq (ZAm x rulP)
   simp only [if_true] at hN
   have hRO:ZDe (ZAm x rulP)=if (ZAT (ZAm x rulP)).2=0/\ZAx (ZAT (ZAm x rulP)).1=ZAm x rulP then some (.rule (ZAT (ZAm x rulP)).1) else none:=rfl
   rw [hRO] at hN
   clear hRO
   refine ⟨5,rfl,by omega,Nat.le_refl _,?_⟩
   rw [hrc]
   refine .p rfl hw3 ?_
   generalize ZAT (ZAm x rulP)=Y at *
   obtain ⟨r,e⟩:=Y
   have htx:=ZIP r hok
   refine ⟨_,rfl,?_⟩
   refine ⟨_,rfl,?_⟩
   by_cases he:e=0
   ·subst he
    rw [ZDW (hck rfl)] at htx
    refine .p rfl htx ?_
    refine ⟨5,rfl,by omega,Nat.le_refl _,?_⟩
    rw [hrc]
    intro q2 hq2
    cases hqq2:q2
    ·have e2:ZAx r=ZAm x rulP:=hq2.1 hqq2
     rw [if_pos ⟨rfl,e2⟩] at hN
     refine .n (.one 0 (.one 1 (.one 2 (.one 4 (.one 5 (.one 3 (.one 6 (.one 7 (.one 8 .done))))))))) (by kernel_rfl) ?_
     refine ⟨_,rfl,?_⟩
     refine ⟨_,rfl,?_⟩
     refine tapp (i:=ti78) (tg:=.no) (ys:=rlL s.rules) (by kernel_rfl) ?_ ?_ (fun ey=>?_) (fun hny t9 e9 tk9 ht9=>?_)
     ·show (rlL s.rules).length*112<=_; rw [ZBk]; omega
     ·show (rlL s.rules).length<=_; rw [ZBk]; omega
     ·refine tapp (i:=ti78) (tg:=.tight) (ys:=[r.cs]) (by kernel_rfl) (by show 1*112<=_; omega) (by show 1<=_; omega) (fun e=>by cases e) (fun hny t9 e9 tk9 ht9=>?_)
      refine ⟨_,rfl,?_⟩
      refine ⟨_,rfl,?_⟩
      refine ⟨_,rfl,lkI (ZAI rfl) ?_⟩
      refine ⟨_,rfl,?_⟩
      subst hN
      refine retV rfl ⟨ZAP ?_,ZAR _,trivial⟩
      have er:([r.cs]:List (List AV))=rlL (s.rules++[r]):=by rw [<- ZFb s.rules r,ey]; rfl
      refine ⟨ZAG _,ZAG _,ZAG _,ZAG _,ZAJ _ _ _,ZAJ _ _ _,ZAN _,ZAN _,ZAN _,?_,ZAG _,ZAG _,ZAf _,ZAf _,ZAJ _ _ _,trivial⟩
      show ZCV _ (.sl .no 8 (rlL (s.rules++[r])))
      rw [<- er]
      exact ZAJ _ _ _
     ·refine Acc.app (n:=0) (i:=ti78) (Acc.own t9 e9 (rlL s.rules) (Nat.zero_le _) ht9) (Nat.zero_le _) (List.cons_ne_nil _ _) ?_ ?_ (fun t1 e1 tk1 q0 q1 q2 q3=>?_)
      ·show ((rlL s.rules).length+1)*112<=_; rw [ZBk]; omega
      ·show (rlL s.rules).length+1<=_; rw [ZBk]; omega
      refine ⟨_,rfl,?_⟩
      refine ⟨_,rfl,?_⟩
      refine ⟨_,rfl,lkI (ZAI rfl) ?_⟩
      refine ⟨_,rfl,?_⟩
      subst hN
      refine retV rfl ⟨ZAP ?_,ZAR _,trivial⟩
      have er:rlL s.rules++[r.cs]=rlL (s.rules++[r]):=ZFb s.rules r
      refine ⟨ZAG _,ZAG _,ZAG _,ZAG _,ZAJ _ _ _,ZAJ _ _ _,ZAN _,ZAN _,ZAN _,?_,ZAG _,ZAG _,ZAf _,ZAf _,ZAJ _ _ _,trivial⟩
      show ZCV _ (.sl .no 8 (rlL (s.rules++[r])))
      rw [<- er]
      exact ZAJ _ _ _
    ·rw [if_neg (fun h=>by have:=hq2.2 h.2; rw [hqq2] at this; cases this)] at hN
     refine ⟨_,rfl,?_⟩
     refine ⟨_,rfl,lkI (ZAI rfl) ?_⟩
     refine ⟨_,rfl,?_⟩
     subst hN
     exact retV rfl ⟨ZAP (ZAX _),ZAR _,trivial⟩
   ·rw [if_neg (fun h=>he h.1)] at hN
    refine .p rfl htx ?_
    refine ZAA (fun h=>?_) (fun h=>absurd (bne_eq_false_iff_eq.1 h) he)
    refine ⟨_,rfl,?_⟩
    refine ⟨_,rfl,lkI (ZAI rfl) ?_⟩
    refine ⟨_,rfl,?_⟩
    subst hN
    exact retV rfl ⟨ZAP (ZAX _),ZAR _,trivial⟩
  | false =>
   rw [hB1] at hb1 hN
   refine .p rfl hb1 ?_
   cases hB2:begB x evtP with
   | true =>
    rw [hB2] at hb2 hN
    refine .p rfl hb2 ?_
    have hrc:=ZGX hB2
    have hbl:=ZDt hB2
    have hrz:evtP.size=6:=rfl
    have htz:(ZAm x evtP).size<=100000:=by rw [<- hrc,ByteArray.size_extract]; omega
    rw [hrz] at hrc
    have hw3:=ZJl (ZAm x evtP) (by omega)
    have hEO:evO (ZAm x evtP)=(evP (ZAm x evtP)).map fun t=>.ev t.1 t.2:=rfl
    simp only [if_true] at hN
    have hN:R=match evO (ZAm x evtP) with
     | some y=>(apL s y,(y.rank:Int))
     | none=>(s,-1):=hN
    rw [hEO] at hN
    refine ⟨6,rfl,by omega,Nat.le_refl _,?_⟩
    rw [hrc]
    cases hV:evP (ZAm x evtP) with
    | none =>
     rw [hV] at hw3 hN
     refine .p rfl hw3 ?_
     refine ⟨_,rfl,?_⟩
     refine ⟨_,rfl,?_⟩
     refine ⟨_,rfl,lkI (ZAI rfl) ?_⟩
     refine ⟨_,rfl,?_⟩
     subst hN
     exact retV rfl ⟨ZAP (ZAX _),ZAR _,trivial⟩
    | some v =>
     obtain ⟨kk,nn⟩:=v
     rw [hV] at hw3 hN
     refine .p rfl hw3 ?_
     refine ⟨_,rfl,?_⟩
     refine .n (.one 0 (.one 1 (.one 2 (.one 4 (.one 5 (.one 3 (.one 6 (.one 7 (.one 8 .done))))))))) (by kernel_rfl) ?_
     refine ⟨_,rfl,?_⟩
     refine ⟨_,rfl,?_⟩
     refine tapp (i:=ti88) (tg:=.no) (ys:=evL s.evs) (by kernel_rfl) ?_ ?_ (fun ey=>?_) (fun hny t9 e9 tk9 ht9=>?_)
     ·show (evL s.evs).length*16<=_; rw [ZBN]; omega
     ·show (evL s.evs).length<=_; rw [ZBN]; omega
     ·refine tapp (i:=ti88) (tg:=.tight) (ys:=[([AV.i kk,AV.i nn])]) (by kernel_rfl) (by show 1*16<=_; omega) (by show 1<=_; omega) (fun e=>by cases e) (fun hny t9 e9 tk9 ht9=>?_)
      refine ⟨_,rfl,?_⟩
      refine ⟨_,rfl,?_⟩
      refine ⟨_,rfl,lkI (ZAI rfl) ?_⟩
      refine ⟨_,rfl,?_⟩
      subst hN
      refine retV rfl ⟨ZAP ?_,ZAR _,trivial⟩
      have er:([([AV.i kk,AV.i nn])]:List (List AV))=evL (s.evs++[(kk,nn)]):=by rw [<- ZFJ s.evs (kk,nn),ey]; rfl
      refine ⟨ZAG _,ZAG _,ZAG _,ZAG _,ZAJ _ _ _,ZAJ _ _ _,ZAN _,ZAN _,ZAN _,ZAJ _ _ _,ZAG _,ZAG _,ZAf _,ZAf _,?_,trivial⟩
      show ZCV _ (.sl .no 2 (evL (s.evs++[(kk,nn)])))
      rw [<- er]
      exact ZAJ _ _ _
     ·refine Acc.app (n:=0) (i:=ti88) (Acc.own t9 e9 (evL s.evs) (Nat.zero_le _) ht9) (Nat.zero_le _) (List.cons_ne_nil _ _) ?_ ?_ (fun t1 e1 tk1 q0 q1 q2 q3=>?_)
      ·show ((evL s.evs).length+1)*16<=_; rw [ZBN]; omega
      ·show (evL s.evs).length+1<=_; rw [ZBN]; omega
      refine ⟨_,rfl,?_⟩
      refine ⟨_,rfl,?_⟩
      refine ⟨_,rfl,lkI (ZAI rfl) ?_⟩
      refine ⟨_,rfl,?_⟩
      subst hN
      refine retV rfl ⟨ZAP ?_,ZAR _,trivial⟩
      have er:evL s.evs++[([AV.i kk,AV.i nn])]=evL (s.evs++[(kk,nn)]):=ZFJ s.evs (kk,nn)
      refine ⟨ZAG _,ZAG _,ZAG _,ZAG _,ZAJ _ _ _,ZAJ _ _ _,ZAN _,ZAN _,ZAN _,ZAJ _ _ _,ZAG _,ZAG _,ZAf _,ZAf _,?_,trivial⟩
      show ZCV _ (.sl .no 2 (evL (s.evs++[(kk,nn)])))
      rw [<- er]
      exact ZAJ _ _ _
   | false =>
    rw [hB2] at hb2 hN
    refine .p rfl hb2 ?_
    refine ⟨_,rfl,?_⟩
    refine ⟨_,rfl,lkI (ZAI rfl) ?_⟩
    refine ⟨_,rfl,?_⟩
    subst hN
    exact retV rfl ⟨ZAP (ZAX _),ZAR _,trivial⟩
 ·have ha:w0=ZD3:=hq.1 hqq
  refine ZAA (fun h4=>?_) (fun h4=>?_)
  ·have h4:((strL (w0::W1)).length:Int)=4:=beq_iff_eq.1 h4
   have h4:(w0::W1).length=4:=by omega
   match W1,h4 with
   | [a,b,c],_ =>
    have za:=hwz a (by simp)
    have zb:=hwz b (by simp)
    have zc:=hwz c (by simp)
    have hct:capW x=true:=by rw [hcw,ha]; exact decide_eq_true ⟨rfl,rfl⟩
    rw [hct] at hN
    have hN:R=match ZHc x with
     | some y=>(apL s y,(y.rank:Int))
     | none=>(s,-1):=hN
    have hcl:ZHp [w0,a,b,c]=match numV a,numV b,numV c with
     | some x,some y,some z=>some (x,y,z)
     | _,_,_=>none:=by unfold ZHp; exact if_pos ha
    rw [hco,hcl] at hN
    clear hw hwl hwz hne elw hct hcl hco hcw hb1 hb2
    refine ⟨_,rfl,?_⟩
    refine ZAF [8] (fun g vals st'=>∃ (i:Nat) (a0 a1 a2:Int),i+g=3/\vals=[.i i]/\st'=⟨[s.cells,[.s ⟨#[]⟩,.s ⟨#[]⟩,.s ⟨#[]⟩,.s ⟨#[]⟩,.nilS,.nilS,.i 0,.i 0,.i 0,.nilS,.s ⟨#[]⟩,.s ⟨#[]⟩,.b false,.b false,.nilS],[.i a0,.i a1,.i a2]],[]⟩/\(0<i->numV a=some a0)/\(1<i->numV b=some a1)/\(2<i->numV c=some a2)) 3 rfl ⟨0,0,0,0,rfl,rfl,rfl,fun h=>absurd h (by decide),fun h=>absurd h (by decide),fun h=>absurd h (by decide)⟩ ?_
    rintro g vals st1 ⟨i,a0,a1,a2,hi,rfl,rfl,n0,n1,n2⟩
    obtain rfl | rfl | rfl | rfl:i=0 \/ i=1 \/ i=2 \/ i=3:=by omega
    ·skip
     intro c0 hc0
     obtain rfl:c0=0+1:=hc0.trans (by decide)
     refine ⟨0+1,_,rfl,rfl,?_⟩
     refine .s (ZIY a (by omega) (fun n hv=>?_) (fun hv n=>?_))
     ·refine ⟨0,rfl,by decide,?_⟩
      refine ⟨_,rfl,?_⟩
      intro c0 hc0
      obtain rfl:c0=0+1:=hc0.trans (by decide)
      refine ⟨g - 1,by omega,0+1,n,a1,a2,by omega,rfl,rfl,fun _=>hv,fun h=>absurd h (by decide),fun h=>absurd h (by decide)⟩
     ·rw [hv] at hN
      refine ⟨_,rfl,?_⟩
      refine ⟨_,rfl,lkI (ZAI rfl) ?_⟩
      refine ⟨_,rfl,?_⟩
      subst hN
      exact retV rfl ⟨ZAP (ZAX _),ZAR _,trivial⟩
    ·have n0:=n0 (by decide)
     rw [n0] at hN
     intro c0 hc0
     obtain rfl:c0=1+1:=hc0.trans (by decide)
     refine ⟨1+1,_,rfl,rfl,?_⟩
     refine .s (ZIY b (by omega) (fun n hv=>?_) (fun hv n=>?_))
     ·refine ⟨1,rfl,by decide,?_⟩
      refine ⟨_,rfl,?_⟩
      intro c0 hc0
      obtain rfl:c0=1+1:=hc0.trans (by decide)
      refine ⟨g - 1,by omega,1+1,a0,n,a2,by omega,rfl,rfl,fun _=>n0,fun _=>hv,fun h=>absurd h (by decide)⟩
     ·rw [hv] at hN
      refine ⟨_,rfl,?_⟩
      refine ⟨_,rfl,lkI (ZAI rfl) ?_⟩
      refine ⟨_,rfl,?_⟩
      subst hN
      exact retV rfl ⟨ZAP (ZAX _),ZAR _,trivial⟩
    ·have n0:=n0 (by decide)
     have n1:=n1 (by decide)
     rw [n0,n1] at hN
     intro c0 hc0
     obtain rfl:c0=2+1:=hc0.trans (by decide)
     refine ⟨2+1,_,rfl,rfl,?_⟩
     refine .s (ZIY c (by omega) (fun n hv=>?_) (fun hv n=>?_))
     ·refine ⟨2,rfl,by decide,?_⟩
      refine ⟨_,rfl,?_⟩
      intro c0 hc0
      obtain rfl:c0=2+1:=hc0.trans (by decide)
      refine ⟨g - 1,by omega,2+1,a0,a1,n,by omega,rfl,rfl,fun _=>n0,fun _=>n1,fun _=>hv⟩
     ·rw [hv] at hN
      refine ⟨_,rfl,?_⟩
      refine ⟨_,rfl,lkI (ZAI rfl) ?_⟩
      refine ⟨_,rfl,?_⟩
      subst hN
      exact retV rfl ⟨ZAP (ZAX _),ZAR _,trivial⟩
    ·rw [n0 (by decide),n1 (by decide),n2 (by decide)] at hN
     refine ⟨0,rfl,by decide,?_⟩
     refine ⟨_,rfl,?_⟩
     refine ⟨1,rfl,by decide,?_⟩
     refine ⟨_,rfl,?_⟩
     refine ⟨2,rfl,by decide,?_⟩
     iterate 3 refine ⟨_,rfl,?_⟩
     refine ⟨_,rfl,lkI (ZAI rfl) ?_⟩
     refine ⟨_,rfl,?_⟩
     subst hN
     exact retV rfl ⟨ZAP (ZAX (apL s (.caps a0 a1 a2))),ZAR _,trivial⟩
  ·have h4:((strL (w0::W1)).length:Int)≠4:=beq_eq_false_iff_ne.1 h4
   have hcf:capW x=false:=by
    rw [hcw]
    exact decide_eq_false (fun h=>by have:=h.2; omega)
   rw [hcf] at hN
   have hN:R=match (if begB x rulP=true then ZDe (ZAm x rulP) else if begB x evtP=true then evO (ZAm x evtP) else none) with
    | some y=>(apL s y,(y.rank:Int))
    | none=>(s,-1):=hN
   clear hcf hcw hco
   cases hB1:begB x rulP with
   | true =>
    rw [hB1] at hb1 hN
    refine .p rfl hb1 ?_
    have hrc:=ZGX hB1
    have hbl:=ZDt hB1
    have hrz:rulP.size=5:=rfl
    have htz:(ZAm x rulP).size<=100000:=by rw [<- hrc,ByteArray.size_extract]; omega
    rw [hrz] at hrc
    have hw3:=ZJw _ htz
    have hok:=ZE8 htz
    have hck:=@ZCq (ZAm x rulP)
    simp only [if_true] at hN
    have hRO:ZDe (ZAm x rulP)=if (ZAT (ZAm x rulP)).2=0/\ZAx (ZAT (ZAm x rulP)).1=ZAm x rulP then some (.rule (ZAT (ZAm x rulP)).1) else none:=rfl
    rw [hRO] at hN
    clear hRO
    refine ⟨5,rfl,by omega,Nat.le_refl _,?_⟩
    rw [hrc]
    refine .p rfl hw3 ?_
    generalize ZAT (ZAm x rulP)=Y at *
    obtain ⟨r,e⟩:=Y
    have htx:=ZIP r hok
    refine ⟨_,rfl,?_⟩
    refine ⟨_,rfl,?_⟩
    by_cases he:e=0
    ·subst he
     rw [ZDW (hck rfl)] at htx
     refine .p rfl htx ?_
     refine ⟨5,rfl,by omega,Nat.le_refl _,?_⟩
     rw [hrc]
     intro q2 hq2
     cases hqq2:q2
     ·have e2:ZAx r=ZAm x rulP:=hq2.1 hqq2
      rw [if_pos ⟨rfl,e2⟩] at hN
      refine .n (.one 0 (.one 1 (.one 2 (.one 4 (.one 5 (.one 3 (.one 6 (.one 7 (.one 8 .done))))))))) (by kernel_rfl) ?_
      refine ⟨_,rfl,?_⟩
      refine ⟨_,rfl,?_⟩
      refine tapp (i:=ti78) (tg:=.no) (ys:=rlL s.rules) (by kernel_rfl) ?_ ?_ (fun ey=>?_) (fun hny t9 e9 tk9 ht9=>?_)
      ·show (rlL s.rules).length*112<=_; rw [ZBk]; omega
      ·show (rlL s.rules).length<=_; rw [ZBk]; omega
      ·refine tapp (i:=ti78) (tg:=.tight) (ys:=[r.cs]) (by kernel_rfl) (by show 1*112<=_; omega) (by show 1<=_; omega) (fun e=>by cases e) (fun hny t9 e9 tk9 ht9=>?_)
       refine ⟨_,rfl,?_⟩
       refine ⟨_,rfl,?_⟩
       refine ⟨_,rfl,lkI (ZAI rfl) ?_⟩
       refine ⟨_,rfl,?_⟩
       subst hN
       refine retV rfl ⟨ZAP ?_,ZAR _,trivial⟩
       have er:([r.cs]:List (List AV))=rlL (s.rules++[r]):=by rw [<- ZFb s.rules r,ey]; rfl
       refine ⟨ZAG _,ZAG _,ZAG _,ZAG _,ZAJ _ _ _,ZAJ _ _ _,ZAN _,ZAN _,ZAN _,?_,ZAG _,ZAG _,ZAf _,ZAf _,ZAJ _ _ _,trivial⟩
       show ZCV _ (.sl .no 8 (rlL (s.rules++[r])))
       rw [<- er]
       exact ZAJ _ _ _
      ·refine Acc.app (n:=0) (i:=ti78) (Acc.own t9 e9 (rlL s.rules) (Nat.zero_le _) ht9) (Nat.zero_le _) (List.cons_ne_nil _ _) ?_ ?_ (fun t1 e1 tk1 q0 q1 q2 q3=>?_)
       ·show ((rlL s.rules).length+1)*112<=_; rw [ZBk]; omega
       ·show (rlL s.rules).length+1<=_; rw [ZBk]; omega
       refine ⟨_,rfl,?_⟩
       refine ⟨_,rfl,?_⟩
       refine ⟨_,rfl,lkI (ZAI rfl) ?_⟩
       refine ⟨_,rfl,?_⟩
       subst hN
       refine retV rfl ⟨ZAP ?_,ZAR _,trivial⟩
       have er:rlL s.rules++[r.cs]=rlL (s.rules++[r]):=ZFb s.rules r
       refine ⟨ZAG _,ZAG _,ZAG _,ZAG _,ZAJ _ _ _,ZAJ _ _ _,ZAN _,ZAN _,ZAN _,?_,ZAG _,ZAG _,ZAf _,ZAf _,ZAJ _ _ _,trivial⟩
       show ZCV _ (.sl .no 8 (rlL (s.rules++[r])))
       rw [<- er]
       exact ZAJ _ _ _
     ·rw [if_neg (fun h=>by have:=hq2.2 h.2; rw [hqq2] at this; cases this)] at hN
      refine ⟨_,rfl,?_⟩
      refine ⟨_,rfl,lkI (ZAI rfl) ?_⟩
      refine ⟨_,rfl,?_⟩
      subst hN
      exact retV rfl ⟨ZAP (ZAX _),ZAR _,trivial⟩
    ·rw [if_neg (fun h=>he h.1)] at hN
     refine .p rfl htx ?_
     refine ZAA (fun h=>?_) (fun h=>absurd (bne_eq_false_iff_eq.1 h) he)
     refine ⟨_,rfl,?_⟩
     refine ⟨_,rfl,lkI (ZAI rfl) ?_⟩
     refine ⟨_,rfl,?_⟩
     subst hN
     exact retV rfl ⟨ZAP (ZAX _),ZAR _,trivial⟩
   | false =>
    rw [hB1] at hb1 hN
    refine .p rfl hb1 ?_
    cases hB2:begB x evtP with
    | true =>
     rw [hB2] at hb2 hN
     refine .p rfl hb2 ?_
     have hrc:=ZGX hB2
     have hbl:=ZDt hB2
     have hrz:evtP.size=6:=rfl
     have htz:(ZAm x evtP).size<=100000:=by rw [<- hrc,ByteArray.size_extract]; omega
     rw [hrz] at hrc
     have hw3:=ZJl (ZAm x evtP) (by omega)
     have hEO:evO (ZAm x evtP)=(evP (ZAm x evtP)).map fun t=>.ev t.1 t.2:=rfl
     simp only [if_true] at hN
     have hN:R=match evO (ZAm x evtP) with
      | some y=>(apL s y,(y.rank:Int))
      | none=>(s,-1):=hN
     rw [hEO] at hN
     refine ⟨6,rfl,by omega,Nat.le_refl _,?_⟩
     rw [hrc]
     cases hV:evP (ZAm x evtP) with
     | none =>
      rw [hV] at hw3 hN
      refine .p rfl hw3 ?_
      refine ⟨_,rfl,?_⟩
      refine ⟨_,rfl,?_⟩
      refine ⟨_,rfl,lkI (ZAI rfl) ?_⟩
      refine ⟨_,rfl,?_⟩
      subst hN
      exact retV rfl ⟨ZAP (ZAX _),ZAR _,trivial⟩
     | some v =>
      obtain ⟨kk,nn⟩:=v
      rw [hV] at hw3 hN
      refine .p rfl hw3 ?_
      refine ⟨_,rfl,?_⟩
      refine .n (.one 0 (.one 1 (.one 2 (.one 4 (.one 5 (.one 3 (.one 6 (.one 7 (.one 8 .done))))))))) (by kernel_rfl) ?_
      refine ⟨_,rfl,?_⟩
      refine ⟨_,rfl,?_⟩
      refine tapp (i:=ti88) (tg:=.no) (ys:=evL s.evs) (by kernel_rfl) ?_ ?_ (fun ey=>?_) (fun hny t9 e9 tk9 ht9=>?_)
      ·show (evL s.evs).length*16<=_; rw [ZBN]; omega
      ·show (evL s.evs).length<=_; rw [ZBN]; omega
      ·refine tapp (i:=ti88) (tg:=.tight) (ys:=[([AV.i kk,AV.i nn])]) (by kernel_rfl) (by show 1*16<=_; omega) (by show 1<=_; omega) (fun e=>by cases e) (fun hny t9 e9 tk9 ht9=>?_)
       refine ⟨_,rfl,?_⟩
       refine ⟨_,rfl,?_⟩
       refine ⟨_,rfl,lkI (ZAI rfl) ?_⟩
       refine ⟨_,rfl,?_⟩
       subst hN
       refine retV rfl ⟨ZAP ?_,ZAR _,trivial⟩
       have er:([([AV.i kk,AV.i nn])]:List (List AV))=evL (s.evs++[(kk,nn)]):=by rw [<- ZFJ s.evs (kk,nn),ey]; rfl
       refine ⟨ZAG _,ZAG _,ZAG _,ZAG _,ZAJ _ _ _,ZAJ _ _ _,ZAN _,ZAN _,ZAN _,ZAJ _ _ _,ZAG _,ZAG _,ZAf _,ZAf _,?_,trivial⟩
       show ZCV _ (.sl .no 2 (evL (s.evs++[(kk,nn)])))
       rw [<- er]
       exact ZAJ _ _ _
      ·refine Acc.app (n:=0) (i:=ti88) (Acc.own t9 e9 (evL s.evs) (Nat.zero_le _) ht9) (Nat.zero_le _) (List.cons_ne_nil _ _) ?_ ?_ (fun t1 e1 tk1 q0 q1 q2 q3=>?_)
       ·show ((evL s.evs).length+1)*16<=_; rw [ZBN]; omega
       ·show (evL s.evs).length+1<=_; rw [ZBN]; omega
       refine ⟨_,rfl,?_⟩
       refine ⟨_,rfl,?_⟩
       refine ⟨_,rfl,lkI (ZAI rfl) ?_⟩
       refine ⟨_,rfl,?_⟩
       subst hN
       refine retV rfl ⟨ZAP ?_,ZAR _,trivial⟩
       have er:evL s.evs++[([AV.i kk,AV.i nn])]=evL (s.evs++[(kk,nn)]):=ZFJ s.evs (kk,nn)
       refine ⟨ZAG _,ZAG _,ZAG _,ZAG _,ZAJ _ _ _,ZAJ _ _ _,ZAN _,ZAN _,ZAN _,ZAJ _ _ _,ZAG _,ZAG _,ZAf _,ZAf _,?_,trivial⟩
       show ZCV _ (.sl .no 2 (evL (s.evs++[(kk,nn)])))
       rw [<- er]
       exact ZAJ _ _ _
    | false =>
     rw [hB2] at hb2 hN
     refine .p rfl hb2 ?_
     refine ⟨_,rfl,?_⟩
     refine ⟨_,rfl,lkI (ZAI rfl) ?_⟩
     refine ⟨_,rfl,?_⟩
     subst hN
     exact retV rfl ⟨ZAP (ZAX _),ZAR _,trivial⟩
end
end
section
/-- the document's step: a first line begins anew -/
def apR (s:Scr):Ln->Scr
 | .env a b c d=>{ s with ec:=a,eh:=b,es:=c,eb:=d,doms:=[],locs:=[] }
 | y=>apL s y
/-- a script with what a line says, and the line's rank -/
def lineD (s:Scr) (x:ByteArray):Scr × Int:=match ZHP x with
 | some y=>(apR s y,(y.rank:Int))
 | none=>(s,-1)
theorem other_ap {s:Scr} {x:ByteArray} {y:Ln} (h:ZCz x=some y):apR s y=apL s y:=by
 unfold ZCz at h
 split at h
 ·unfold ZHc at h
  cases hc:ZHx x with
  | none=>rw [hc] at h; cases h
  | some t=>rw [hc] at h; cases h; rfl
 ·split at h
  ·obtain ⟨r,rfl,_,_⟩:=ZF1 h; rfl
  ·split at h
   ·obtain ⟨k,n,rfl,_,_⟩:=ZIS h; rfl
   ·cases h
theorem ZDM (sz:Nat):ZCV .nilS (.sl .no sz []):=.inr ⟨rfl,sz,rfl⟩
section
attribute [local irreducible] ZAn
set_option maxHeartbeats 4000000 in
theorem read47_p (s:Scr) (x:ByteArray) (hx:x.size<=100000) (hl:ZF7 s<=1000000000):ZAC Tryz.prog 45 [s.av,.s x] (.tup [(lineD s x).1.av,.i (lineD s x).2]) []:=by
 have hmx:maxLen=9223372036854775807:=rfl
 have hoth:=other47_p s x hx hl
 have hN:lineD s x=match ZHP x with
  | some y=>(apR s y,(y.rank:Int))
  | none=>(s,-1):=rfl
 have hO:othN s x=match ZCz x with
  | some y=>(apL s y,(y.rank:Int))
  | none=>(s,-1):=rfl
 have hOR:othN s x=match ZCz x with
  | some y=>(apR s y,(y.rank:Int))
  | none=>(s,-1):=by
  rw [hO]
  cases h:ZCz x with
  | none=>rfl
  | some y=>show (apL s y,_)=(apR s y,_); rw [other_ap h]
 unfold ZF7 at hl
 generalize lineD s x=R at *
 generalize othN s x=O at *
 clear hO
 unfold ZHP at hN
 have w1:=ZED x envW 4 (by decide) (by omega)
 have w1t:=ZBO (s:=x) (w:=envW) (n:=4)
 generalize ZAs x envW 4=w1W at *
 have w2:=ZED x domW 2 (by decide) (by omega)
 have w2t:=ZBO (s:=x) (w:=domW) (n:=2)
 generalize ZAs x domW 2=w2W at *
 have w3:=ZED x plcW 2 (by decide) (by omega)
 have w3t:=ZBO (s:=x) (w:=plcW) (n:=2)
 generalize ZAs x plcW 2=w3W at *
 have w4:=ZED x cliW 1 (by decide) (by omega)
 have w4t:=ZBO (s:=x) (w:=cliW) (n:=1)
 generalize ZAs x cliW 1=w4W at *
 have w5:=ZED x upsW 1 (by decide) (by omega)
 have w5t:=ZBO (s:=x) (w:=upsW) (n:=1)
 generalize ZAs x upsW 1=w5W at *
 obtain ⟨L1,b1⟩:=w1W
 obtain ⟨L2,b2⟩:=w2W
 obtain ⟨L3,b3⟩:=w3W
 obtain ⟨L4,b4⟩:=w4W
 obtain ⟨L5,b5⟩:=w5W
 refine ZAC.ofG rfl ?_
 refine ZAB.of_vc T_ok mixed Tryz.func45 rfl Tryz.call45 ?_
 refine .p rfl w1 ?_
 cases b1
 rotate_left
 ·have h4:L1.length=4:=(w1t rfl).2
  match L1,h4 with
  | [a,b,c,d],_ =>
   have hN:R=(apR s (.env a b c d),0):=hN
   refine .e (by kernel_rfl) ?_
   refine ⟨0,_,rfl,rfl,?_⟩
   refine ⟨1,_,rfl,rfl,?_⟩
   refine ⟨2,_,rfl,rfl,?_⟩
   refine ⟨3,_,rfl,rfl,?_⟩
   refine ⟨_,rfl,?_⟩
   refine ⟨_,rfl,?_⟩
   refine ⟨_,rfl,lkI (ZAI rfl) ?_⟩
   refine ⟨_,rfl,?_⟩
   subst hN
   exact retV rfl ⟨ZAP ⟨ZAG _,ZAG _,ZAG _,ZAG _,ZDM _,ZDM _,ZAN _,ZAN _,ZAN _,ZAJ _ _ _,ZAG _,ZAG _,ZAf _,ZAf _,ZAJ _ _ _,trivial⟩,ZAR _,trivial⟩
 rw [if_neg (by simp)] at hN
 refine .p rfl w2 ?_
 cases b2
 rotate_left
 ·have h4:L2.length=2:=(w2t rfl).2
  match L2,h4 with
  | [a,b],_ =>
   have hN:R=(apL s (.dom a b),1):=hN
   refine .n (.one 0 (.one 1 (.one 2 (.one 3 (.one 5 (.one 6 (.one 7 (.one 8 (.one 9 (.one 10 (.one 11 (.one 12 (.one 4 (.one 13 (.one 14 (.one 15 (.one 16 .done))))))))))))))))) (by kernel_rfl) ?_
   refine ⟨_,rfl,?_⟩
   refine ⟨0,_,rfl,rfl,?_⟩
   refine ⟨1,_,rfl,rfl,?_⟩
   refine tapp (i:=ti97) (tg:=.no) (ys:=fldL s.doms) (by kernel_rfl) ?_ ?_ (fun ey=>?_) (fun hny t9 e9 tk9 ht9=>?_)
   ·show (fldL s.doms).length*32<=_; rw [ZA5]; omega
   ·show (fldL s.doms).length<=_; rw [ZA5]; omega
   ·refine tapp (i:=ti97) (tg:=.tight) (ys:=[[AV.s a,AV.s b]]) (by kernel_rfl) (by show 1*32<=_; omega) (by show 1<=_; omega) (fun e=>by cases e) (fun hny t9 e9 tk9 ht9=>?_)
    refine ⟨_,rfl,?_⟩
    refine ⟨_,rfl,?_⟩
    refine ⟨_,rfl,lkI (ZAI rfl) ?_⟩
    refine ⟨_,rfl,?_⟩
    subst hN
    refine retV rfl ⟨ZAP ?_,ZAR _,trivial⟩
    have er:([[AV.s a,AV.s b]]:List (List AV))=fldL (s.doms++[(a,b)]):=by rw [<- ZDP,ey]; rfl
    refine ⟨ZAG _,ZAG _,ZAG _,ZAG _,?_,ZAJ _ _ _,ZAN _,ZAN _,ZAN _,ZAJ _ _ _,ZAG _,ZAG _,ZAf _,ZAf _,ZAJ _ _ _,trivial⟩
    show ZCV _ (.sl .no 2 (fldL (s.doms++[(a,b)])))
    rw [<- er]
    exact ZAJ _ _ _
   ·refine Acc.app (n:=0) (i:=ti97) (Acc.own t9 e9 (fldL s.doms) (Nat.zero_le _) ht9) (Nat.zero_le _) (List.cons_ne_nil _ _) ?_ ?_ (fun t1 e1 tk1 q0 q1 q2 q3=>?_)
    ·show ((fldL s.doms).length+1)*32<=_; rw [ZA5]; omega
    ·show (fldL s.doms).length+1<=_; rw [ZA5]; omega
    refine ⟨_,rfl,?_⟩
    refine ⟨_,rfl,?_⟩
    refine ⟨_,rfl,lkI (ZAI rfl) ?_⟩
    refine ⟨_,rfl,?_⟩
    subst hN
    refine retV rfl ⟨ZAP ?_,ZAR _,trivial⟩
    have er:fldL s.doms++[[AV.s a,AV.s b]]=fldL (s.doms++[(a,b)]):=ZDP s.doms a b
    refine ⟨ZAG _,ZAG _,ZAG _,ZAG _,?_,ZAJ _ _ _,ZAN _,ZAN _,ZAN _,ZAJ _ _ _,ZAG _,ZAG _,ZAf _,ZAf _,ZAJ _ _ _,trivial⟩
    show ZCV _ (.sl .no 2 (fldL (s.doms++[(a,b)])))
    rw [<- er]
    exact ZAJ _ _ _
 rw [if_neg (by simp)] at hN
 refine .p rfl w3 ?_
 cases b3
 rotate_left
 ·have h4:L3.length=2:=(w3t rfl).2
  match L3,h4 with
  | [a,b],_ =>
   have hN:R=(apL s (.plc a b),2):=hN
   refine .n (.one 0 (.one 1 (.one 2 (.one 3 (.one 5 (.one 6 (.one 7 (.one 8 (.one 9 (.one 10 (.one 11 (.one 12 (.one 4 (.one 13 (.one 14 (.one 15 (.one 16 .done))))))))))))))))) (by kernel_rfl) ?_
   refine ⟨_,rfl,?_⟩
   refine ⟨0,_,rfl,rfl,?_⟩
   refine ⟨1,_,rfl,rfl,?_⟩
   refine tapp (i:=ti97) (tg:=.no) (ys:=fldL s.locs) (by kernel_rfl) ?_ ?_ (fun ey=>?_) (fun hny t9 e9 tk9 ht9=>?_)
   ·show (fldL s.locs).length*32<=_; rw [ZA5]; omega
   ·show (fldL s.locs).length<=_; rw [ZA5]; omega
   ·refine tapp (i:=ti97) (tg:=.tight) (ys:=[[AV.s a,AV.s b]]) (by kernel_rfl) (by show 1*32<=_; omega) (by show 1<=_; omega) (fun e=>by cases e) (fun hny t9 e9 tk9 ht9=>?_)
    refine ⟨_,rfl,?_⟩
    refine ⟨_,rfl,?_⟩
    refine ⟨_,rfl,lkI (ZAI rfl) ?_⟩
    refine ⟨_,rfl,?_⟩
    subst hN
    refine retV rfl ⟨ZAP ?_,ZAR _,trivial⟩
    have er:([[AV.s a,AV.s b]]:List (List AV))=fldL (s.locs++[(a,b)]):=by rw [<- ZDP,ey]; rfl
    refine ⟨ZAG _,ZAG _,ZAG _,ZAG _,ZAJ _ _ _,?_,ZAN _,ZAN _,ZAN _,ZAJ _ _ _,ZAG _,ZAG _,ZAf _,ZAf _,ZAJ _ _ _,trivial⟩
    show ZCV _ (.sl .no 2 (fldL (s.locs++[(a,b)])))
    rw [<- er]
    exact ZAJ _ _ _
   ·refine Acc.app (n:=0) (i:=ti97) (Acc.own t9 e9 (fldL s.locs) (Nat.zero_le _) ht9) (Nat.zero_le _) (List.cons_ne_nil _ _) ?_ ?_ (fun t1 e1 tk1 q0 q1 q2 q3=>?_)
    ·show ((fldL s.locs).length+1)*32<=_; rw [ZA5]; omega
    ·show (fldL s.locs).length+1<=_; rw [ZA5]; omega
    refine ⟨_,rfl,?_⟩
    refine ⟨_,rfl,?_⟩
    refine ⟨_,rfl,lkI (ZAI rfl) ?_⟩
    refine ⟨_,rfl,?_⟩
    subst hN
    refine retV rfl ⟨ZAP ?_,ZAR _,trivial⟩
    have er:fldL s.locs++[[AV.s a,AV.s b]]=fldL (s.locs++[(a,b)]):=ZDP s.locs a b
    refine ⟨ZAG _,ZAG _,ZAG _,ZAG _,ZAJ _ _ _,?_,ZAN _,ZAN _,ZAN _,ZAJ _ _ _,ZAG _,ZAG _,ZAf _,ZAf _,ZAJ _ _ _,trivial⟩
    show ZCV _ (.sl .no 2 (fldL (s.locs++[(a,b)])))
    rw [<- er]
    exact ZAJ _ _ _
 rw [if_neg (by simp)] at hN
 refine .p rfl w4 ?_
 cases b4
 rotate_left
 ·have h4:L4.length=1:=(w4t rfl).2
  match L4,h4 with
  | [a],_ =>
   have hN:R=(apL s (.cli a),5):=hN
   refine ⟨0,_,rfl,rfl,?_⟩
   refine ⟨_,rfl,?_⟩
   refine ⟨_,rfl,?_⟩
   refine ⟨_,rfl,lkI (ZAI rfl) ?_⟩
   refine ⟨_,rfl,?_⟩
   subst hN
   exact retV rfl ⟨ZAP (ZAX (apL s (.cli a))),ZAR _,trivial⟩
 rw [if_neg (by simp)] at hN
 refine .p rfl w5 ?_
 cases b5
 rotate_left
 ·have h4:L5.length=1:=(w5t rfl).2
  match L5,h4 with
  | [a],_ =>
   have hN:R=(apL s (.ups a),6):=hN
   refine ⟨0,_,rfl,rfl,?_⟩
   refine ⟨_,rfl,?_⟩
   refine ⟨_,rfl,?_⟩
   refine ⟨_,rfl,lkI (ZAI rfl) ?_⟩
   refine ⟨_,rfl,?_⟩
   subst hN
   exact retV rfl ⟨ZAP (ZAX (apL s (.ups a))),ZAR _,trivial⟩
 rw [if_neg (by simp)] at hN
 intro q7 hq7
 cases hqq7:q7
 rotate_left
 ·rw [if_pos (show x=enC from hq7.1 hqq7)] at hN
  have hN:R=(apL s .ce,7):=hN
  refine ⟨_,rfl,?_⟩
  refine ⟨_,rfl,?_⟩
  refine ⟨_,rfl,lkI (ZAI rfl) ?_⟩
  refine ⟨_,rfl,?_⟩
  subst hN
  exact retV rfl ⟨ZAP (ZAX (apL s .ce)),ZAR _,trivial⟩
 rw [if_neg (show ¬ x=enC from fun e=>by have:=hq7.2 e; rw [hqq7] at this; cases this)] at hN
 intro q8 hq8
 cases hqq8:q8
 rotate_left
 ·rw [if_pos (show x=enU from hq8.1 hqq8)] at hN
  have hN:R=(apL s .ue,8):=hN
  refine ⟨_,rfl,?_⟩
  refine ⟨_,rfl,?_⟩
  refine ⟨_,rfl,lkI (ZAI rfl) ?_⟩
  refine ⟨_,rfl,?_⟩
  subst hN
  exact retV rfl ⟨ZAP (ZAX (apL s .ue)),ZAR _,trivial⟩
 rw [if_neg (show ¬ x=enU from fun e=>by have:=hq8.2 e; rw [hqq8] at this; cases this)] at hN
 have hRO:R=O:=hN.trans hOR.symm
 subst hRO
 refine ⟨_,rfl,?_⟩
 refine .p rfl hoth ?_
 refine ⟨_,rfl,lkI (ZAI rfl) ?_⟩
 refine ⟨_,rfl,?_⟩
 exact retV rfl ⟨ZAP (ZAX R.1),ZAR _,trivial⟩
end
end
end Go.Proofs.YticbonkojpabnaaGreatDoor
