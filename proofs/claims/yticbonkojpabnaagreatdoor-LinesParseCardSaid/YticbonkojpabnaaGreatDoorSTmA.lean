/- Templates: the program's reading. No statement of its own. -/
import Derived.Test.YticbonkojpabnaaGreatDoorSTmP
import Derived.Test.YticbonkojpabnaaGreatDoorSVg
import Derived.Test.YticbonkojpabnaaGreatDoorSSm
set_option linter.unusedSimpArgs false
set_option linter.unusedVariables false
set_option maxRecDepth 100000
namespace Go.Proofs.YticbonkojpabnaaGreatDoor
open Go.RowKit
def prtC (p:Prt):List AV:=[.i p.1,.s p.2]
def prtL (l:List Prt):List (List AV):=l.map prtC
theorem ZBg (l:List Prt):(prtL l).length=l.length:=by simp [prtL]
theorem ZBA {l:List Prt} {j:Nat} (h:j<l.length):(prtL l)[j]? = some [.i l[j].1,.s l[j].2]:=by simp [prtL,h,prtC]
theorem ZBh (l:List Prt) (p:Prt):prtL l++[prtC p]=prtL (l++[p]):=by simp [prtL]
theorem ZBo (l:List Prt):∀ e∈prtL l,e.length=2/\e.all AV.flat=true:=fun e he=>by
 obtain ⟨p,_,rfl⟩:=List.mem_map.1 he
 exact ⟨rfl,rfl⟩
theorem ZL1 (l:List Prt) (i:Nat) (p:Prt):(prtL l).set i (prtC p)=prtL (l.set i p):=by
 unfold prtL
 rw [List.map_set]
theorem hasPre_p (s t:ByteArray):ZAC Tryz.prog 73 [.s s,.s t] (.b (decide (t.size<=s.size/\s.extract 0 t.size=t))) []:=by
 have h:ZAC Tryz.prog 115 [.s s,.s t] (.b (decide (t.size<=s.size/\s.extract 0 t.size=t))) []:=by
  refine ZAC.of rfl (ZAB.of_vc T_ok mixed Tryz.func115 rfl Tryz.call115 ?_)
  refine ZAA (fun hd=>?_) (fun hd=>?_)
  ·have hd:(t.size:Int)<=s.size:=of_decide_eq_true hd
   refine ⟨t.size,rfl,Nat.zero_le _,by omega,?_⟩
   intro q hq
   refine retb ?_
   rw [Bool.eq_iff_iff,hq,decide_eq_true_eq]
   exact ⟨fun h=>⟨by omega,h⟩,fun h=>h.2⟩
  ·have hd:¬ (t.size:Int)<=s.size:=of_decide_eq_false hd
   exact retb (decide_eq_false (fun h=>hd (by omega))).symm
 refine ZAC.of rfl (ZAB.of_vc T_ok mixed Tryz.func73 rfl Tryz.call73 ?_)
 refine .p rfl h ?_
 exact retb rfl
theorem pre2 (s:ByteArray) (k:Nat) (a b:UInt8):decide ((⟨#[a,b]⟩:ByteArray).size<=(s.extract k s.size).size/\(s.extract k s.size).extract 0 (⟨#[a,b]⟩:ByteArray).size=⟨#[a,b]⟩)=(atB s k (a.toNat:Int) && atB s (k+1) (b.toNat:Int)):=by
 have hz:=ZJA s k
 have h2:(⟨#[a,b]⟩:ByteArray).size=2:=rfl
 rw [h2]
 have eqI:∀ x y:UInt8,((x.toNat:Int) == (y.toNat:Int))=decide (x=y):=fun x y=>by
  rw [Bool.eq_iff_iff,beq_iff_eq,decide_eq_true_eq]
  exact ⟨fun h=>UInt8.toNat_inj.1 (by omega),fun h=>by rw [h]⟩
 by_cases hk:k+1<s.size
 ·have hx:((s.extract k s.size).extract 0 2).data.toList=[s[k],s[k+1]]:=by
   rw [ZLa,exL]
   have hl:=blen s
   have e1:s.data.toList=s.data.toList.take k++(s[k]::s[k+1]::s.data.toList.drop (k+2)):=by
    conv=>lhs; rw [<- List.take_append_drop k s.data.toList]
    congr 1
    rw [List.drop_eq_getElem_cons (by omega),List.drop_eq_getElem_cons (by omega),bget s k (by omega),bget s (k+1) (by omega)]
   have hlt:(s.data.toList.take k).length=k:=by rw [List.length_take]; omega
   have e2:s.data.toList.take (k+2)=s.data.toList.take k++[s[k],s[k+1]]:=by
    conv=>lhs; rw [e1]
    rw [List.take_append,hlt,List.take_of_length_le (by omega),show k+2 - k=2 by omega]
    rfl
   rw [Nat.add_zero,e2,List.drop_append,hlt,List.drop_of_length_le (by omega),Nat.sub_self]
   rfl
  have:((s.extract k s.size).extract 0 2=⟨#[a,b]⟩) ↔ (s[k]=a/\s[k+1]=b):=by
   constructor
   ·intro h
    rw [h] at hx
    have hx:[a,b]=[s[k],s[k+1]]:=hx
    simp only [List.cons.injEq,and_true] at hx
    exact ⟨hx.1.symm,hx.2.symm⟩
   ·rintro ⟨h1,h3⟩
    refine inL ?_
    rw [hx,h1,h3]
  rw [ZAj (by omega),ZAj hk,eqI,eqI,Bool.eq_iff_iff,decide_eq_true_eq,this,Bool.and_eq_true,decide_eq_true_eq,decide_eq_true_eq]
  exact ⟨fun h=>h.2,fun h=>⟨by omega,h⟩⟩
 ·rw [ZCY (k:=k+1) (by omega),Bool.and_false]
  exact decide_eq_false fun h=>by omega
section
variable {st:St} {p k n:Nat} {s:ByteArray} {R:AV->St->Prop}
theorem text2_m (h:Sc st p s k) (hn:n<=st.tk.length) (a b:UInt8) (h1:¬ (atB s k (a.toNat:Int)=true/\atB s (k+1) (b.toNat:Int)=true)->R (.b false) st)
  (h2:atB s k (a.toNat:Int)=true->atB s (k+1) (b.toNat:Int)=true->∀ st',Mv n (·=p) st st'->Sc st' p s (k+2)->R (.b true) st'):ZAB Tryz.prog 150 [.ptr p 0,.s ⟨#[a,b]⟩] st R:=by
 have hp:=hasPre_p (s.extract k s.size) ⟨#[a,b]⟩
 rw [pre2] at hp
 have hmx:maxLen=9223372036854775807:=rfl
 have hsm:=h.max
 have hle:=h.le
 refine ZAB.of_vc T_ok mixed Tryz.func150 rfl Tryz.call150 ?_
 refine .s (rest_a h ?_)
 refine .p rfl hp ?_
 refine ZAA (fun hd=>?_) (fun hd=>?_)
 ·exact h1 (fun ⟨x,y⟩=>by rw [x,y] at hd; cases hd)
 ·have hd:(atB s k (a.toNat:Int) && atB s (k+1) (b.toNat:Int))=true:=by simpa using hd
  rw [Bool.and_eq_true] at hd
  have hk1:k+1<s.size:=Decidable.byContradiction fun hc=>by rw [ZCY (k:=k+1) (by omega)] at hd; cases hd.2
  refine ⟨_,h.at',?_⟩
  intro c hc
  have hc:c=((k+2:Nat):Int):=by rw [hc,IntWalk.i64_in _ (by show _<=_/\_<=_; show -9223372036854775808<=(k:Int)+((2:Nat):Int)/\(k:Int)+((2:Nat):Int)<=9223372036854775807; omega)]; show (k:Int)+((2:Nat):Int)=_; omega
  subst hc
  refine ⟨_,h.at',?_⟩
  exact h2 hd.1 hd.2 _ ((Mv.refl (C:=(·=p)) hn).sc (p:=p) (fun _=>rfl) s (k+2)) (h.sc (by omega))
end
theorem small_p (n:Int) (h0:0<=n) (h1:n<=255):ZAC Tryz.prog 240 [.int .u8 n] (.b (smlI n)) []:=by
 refine ZAC.of rfl (ZAB.of_vc T_ok mixed Tryz.func240 rfl Tryz.call240 ?_)
 unfold smlI
 refine ZAA (fun h=>?_) (fun h=>?_)
 ·have h:decide (97<=n)=true:=h
  exact retb (by rw [h]; rfl)
 ·have h:decide (97<=n)=false:=h
  exact retb (by rw [h]; rfl)
theorem plain_p (n:Int) (h0:0<=n) (h1:n<=255):ZAC Tryz.prog 221 [.int .u8 n] (.b (plnI n)) []:=by
 refine ZAC.of rfl (ZAB.of_vc T_ok mixed Tryz.func221 rfl Tryz.call221 ?_)
 unfold plnI
 refine .p rfl (ZHX n) ?_
 refine ZAA (fun h=>?_) (fun h=>?_)
 ·exact retb (by rw [h]; rfl)
 ·exact retb (by rw [h]; rfl)
section
variable {st:St} {rd sc k n:Nat} {r:Option Nat} {s:ByteArray} {R:AV->St->Prop} {a:AV} {acc:List Prt}
attribute [local irreducible] ZAn
theorem ttext_a (x:ByteArray) (hr:st.heap[rd]? = some [.ptr sc 0,a]) (hH:HR st 2 a r (prtL acc)) (hne:r≠some rd) (hn:n<=st.tk.length) (hl:acc.length<=1099511627776) (hs:sumT acc+x.size<=maxLen)
  (hK:∀ st' a' r',Mv n (fun q=>q=rd \/ some q=r) st st'->(∀ p,r'=some p->r=some p \/ st.heap.length<=p)->r'≠some rd->st'.heap[rd]? = some [.ptr sc 0,a']->HR st' 2 a' r' (prtL (mrgT acc x))->R (.tup []) st') :
  ZAB Tryz.prog 219 [.ptr rd 0,.s x] st R:=by
 have hmx:maxLen=9223372036854775807:=rfl
 have el:=ZBg acc
 have hel:=ZBo acc
 have hrl:=ZBC hr
 have fin:∀ (st':St) (p cap:Nat),RwS st' p cap 2 (prtL (acc++[(1,x)]))->Mv n (fun q=>some q=r) st st'->(some p=r \/ st.heap.length<=p)->mrgT acc x=acc++[(1,x)]->R (.tup []) ⟨st'.heap.set rd [.ptr sc 0,.hs p 0 (prtL (acc++[(1,x)])).length cap 2],st'.tk⟩:=fun st' p cap hw hm hp hmr=>by
  have hrd':=hm.at' hr (fun e=>hne e.symm)
  have hpr:rd≠p:=by
   rintro rfl
   rcases hp with hp | hp
   ·exact hne hp.symm
   ·omega
  refine hK _ _ (some p) ((hm.wide fun q _ h=>.inr h).set (fun _=>.inl rfl) _) (fun p' e=>by cases e; exact hp.imp (fun h=>h.symm) id) (fun e=>hpr (Option.some.inj e).symm) (ZAY hrd') ?_
  rw [hmr]
  exact .hs _ _ _ (hw.keep fun cs hcs=>ZBe hpr hcs)
 generalize hes:prtL acc=es at hH
 cases hH with
 | nil =>
  have h0:acc=[]:=List.eq_nil_of_length_eq_zero (by rw [<- el,hes]; rfl)
  subst h0
  refine ZAB.of_vc T_ok mixed Tryz.func219 rfl Tryz.call219 ?_
  refine ⟨_,hr,?_⟩
  refine ⟨_,hr,?_⟩
  refine HR.app (n:=n) (i:=ZFa) (.nil) rfl rfl (List.cons_ne_nil _ _) (ZBo [(1,x)]) (by show 1*24<=140737488355328; decide) (by show 1<=9223372036854775807; decide) hn (fun p cap st' hw hm hp hlt=>?_)
  refine ⟨_,hm.at' hr (fun e=>hne e.symm),?_⟩
  exact fin st' p cap hw hm hp rfl
 | tight =>
  have h0:acc=[]:=List.eq_nil_of_length_eq_zero (by rw [<- el,hes]; rfl)
  subst h0
  refine ZAB.of_vc T_ok mixed Tryz.func219 rfl Tryz.call219 ?_
  refine ⟨_,hr,?_⟩
  refine ⟨_,hr,?_⟩
  refine HR.app (n:=n) (i:=ZFa) (.tight) rfl rfl (List.cons_ne_nil _ _) (ZBo [(1,x)]) (by show 1*24<=140737488355328; decide) (by show 1<=9223372036854775807; decide) hn (fun p cap st' hw hm hp hlt=>?_)
  refine ⟨_,hm.at' hr (fun e=>hne e.symm),?_⟩
  exact fin st' p cap hw hm hp rfl
 | hs p cap es hw =>
  subst hes
  have app:mrgT acc x=acc++[(1,x)]->(∀ K:AV->St->Prop,(∀ p' cap' st',RwS st' p' cap' 2 (prtL acc++[[.i 1,.s x]])->Mv n (fun q=>some q=some p) st st'->(some p'=some p \/ st.heap.length<=p')->p'<st'.heap.length->K (.hs p' 0 ((prtL acc).length+1) cap' 2) st')->ZAn ZFa (.hs p 0 (prtL acc).length cap 2) (.sl .tight 2 [[.i 1,.s x]]) st K):=fun _ K hK2 =>
   HR.app (n:=n) (i:=ZFa) (.hs p cap _ hw) rfl rfl (List.cons_ne_nil _ _) (ZBo [(1,x)]) (by show ((prtL acc).length+1)*24<=_; omega) (by show (prtL acc).length+1<=_; omega) hn hK2
  obtain ⟨⟨zs,hp,hzs⟩,_,_⟩:=id hw
  have el1:∀ e∈prtL acc,e.length=2:=fun e he=>(hel e he).1
  refine ZAB.of_vc T_ok mixed Tryz.func219 rfl Tryz.call219 ?_
  refine ⟨_,hr,?_⟩
  refine ZAA (fun hd=>?_) (fun hd=>?_)
  ·have hd:((prtL acc).length:Int) > 0:=of_decide_eq_true hd
   have hlt:acc.length - 1<acc.length:=by omega
   have hlt2:acc.length - 1<(prtL acc).length:=by omega
   have hg:=ZBA hlt
   have hg2:(prtL acc)[acc.length - 1]=[.i acc[acc.length - 1].1,.s acc[acc.length - 1].2]:=by
    rw [List.getElem?_eq_getElem hlt2] at hg
    exact Option.some.inj hg
   have hlast:acc[acc.length - 1]? = some acc[acc.length - 1]:=List.getElem?_eq_getElem hlt
   have hc0:∀ zs:List AV,((prtL acc).flatten++zs)[0+(acc.length - 1)*2+0]? = some (.i acc[acc.length - 1].1):=fun zs=>by
    have:=ZDx (zs:=zs) el1 hlt2 (j:=0) (by omega)
    rw [hg2] at this
    rw [Nat.zero_add]
    exact this
   have hc1:∀ zs:List AV,((prtL acc).flatten++zs)[0+(acc.length - 1)*2+1]? = some (.s acc[acc.length - 1].2):=fun zs=>by
    have:=ZDx (zs:=zs) el1 hlt2 (j:=1) (by omega)
    rw [hg2] at this
    rw [Nat.zero_add]
    exact this
   refine ⟨_,hr,?_⟩
   intro c hc
   rw [IntWalk.i64_in _ (by omega)] at hc
   obtain rfl:c=((acc.length - 1:Nat):Int):=by omega
   refine ⟨acc.length - 1,rfl,by omega,?_⟩
   refine ⟨_,hp,ld1 rfl (hc0 zs) ?_⟩
   refine ZAA (fun hk=>?_) (fun hk=>?_)
   ·have hk:acc[acc.length - 1].1=1:=beq_iff_eq.1 hk
    refine ⟨_,hr,?_⟩
    intro c hc
    rw [IntWalk.i64_in _ (by omega)] at hc
    obtain rfl:c=((acc.length - 1:Nat):Int):=by omega
    refine ⟨acc.length - 1,rfl,by omega,?_⟩
    refine ⟨_,hp,ld1 rfl (hc1 zs) ?_⟩
    have hsz:=ZFi (List.getElem_mem hlt)
    refine ⟨by omega,?_⟩
    refine ⟨acc.length - 1,rfl,by omega,?_⟩
    have e2:(prtL acc).set (acc.length - 1) (([AV.i acc[acc.length - 1].1,.s acc[acc.length - 1].2]).set 1 (.s (acc[acc.length - 1].2++x)))=prtL (mrgT acc x):=by
     rw [ZEK hlast hk,<- ZL1]
     congr 1
     rw [hk]
     rfl
    have e4:=ZKU (zs:=zs) el1 hlt2 (j:=1) (by omega) (.s (acc[acc.length - 1].2++x))
    rw [hg2,e2] at e4
    refine ⟨_,hp,st1' rfl (List.getElem?_eq_some_iff.1 (hc1 zs)).1 e4 ?_⟩
    have e3:(prtL acc).length=(prtL (mrgT acc x)).length:=by rw [<- e2,List.length_set]
    have hnp:p≠rd:=fun e=>hne (by rw [e])
    refine hK _ (.hs p 0 (prtL acc).length cap 2) (some p) ((Mv.refl hn).set (fun _=>.inr rfl) _) (fun p' e=>.inl e) hne ((List.getElem?_set_ne hnp).trans hr) ?_
    rw [e3]
    exact .hs _ _ _ ⟨⟨zs,List.getElem?_set_self (ZBC hp),by rw [<- e3]; exact hzs⟩,ZBo _,by rw [<- e3]; exact hw.hn⟩
   ·have hk:acc[acc.length - 1].1≠1:=beq_eq_false_iff_ne.1 hk
    have hmr:mrgT acc x=acc++[(1,x)]:=ZGs fun q hq=>by rw [hlast] at hq; cases hq; exact hk
    refine ⟨_,hr,?_⟩
    refine app hmr _ (fun p' cap' st' hw' hm hp' hlt'=>?_)
    refine ⟨_,hm.at' hr (fun e=>hne e.symm),?_⟩
    have:=fin st' p' cap' (by rw [<- ZBh]; exact hw') hm hp' hmr
    rw [<- ZBh,List.length_append] at this
    exact this
  ·have hd:¬ ((prtL acc).length:Int) > 0:=of_decide_eq_false hd
   have h0:acc=[]:=List.eq_nil_of_length_eq_zero (by omega)
   have hmr:mrgT acc x=acc++[(1,x)]:=by rw [h0]; rfl
   refine ⟨_,hr,?_⟩
   refine app hmr _ (fun p' cap' st' hw' hm hp' hlt'=>?_)
   refine ⟨_,hm.at' hr (fun e=>hne e.symm),?_⟩
   have:=fin st' p' cap' (by rw [<- ZBh]; exact hw') hm hp' hmr
   rw [<- ZBh,List.length_append] at this
   exact this
theorem small_f:ZG0 240 smlI:=small_p
theorem plain_f:ZG0 221 plnI:=plain_p
set_option maxHeartbeats 1000000 in
theorem tnamed_a (hS:Sc st sc s (k+2)) (hr:st.heap[rd]? = some [.ptr sc 0,a]) (hH:HR st 2 a r (prtL acc)) (hne:r≠some rd) (hsr:r≠some sc) (hsd:sc≠rd) (h1:atB s k 36=true) (h2:atB s (k+1) 123=true) (hl:acc.length<=k) (hz:sumT acc<=k) (hmax:s.size<=1099511627776)
  (hno:tpW s k acc=none->∀ st',R (.b false) st')
  (hyes:∀ k' acc',tpW s k acc=tpW s k' acc'->k<k'->k'<=s.size->acc'.length<=k'->sumT acc'<=k'->∀ st' a' r',r'≠some rd->r'≠some sc->Sc st' sc s k'->st'.heap[rd]? = some [.ptr sc 0,a']->HR st' 2 a' r' (prtL acc')->R (.b true) st') :
  ZAB Tryz.prog 220 [.ptr rd 0] st R:=by
 have hmx:maxLen=9223372036854775807:=rfl
 have el:=ZBg acc
 have hrl:=ZBC hr
 have hsl:=hS.lt
 have hle:=hS.le
 have hlt2:acc.length<1099511627776:=by omega
 have mF:∀ c d,Mv 0 (fun _=>False) st ⟨(st.heap++[c]).set st.heap.length d,st.tk⟩:=fun c d=>((Mv.refl (Nat.zero_le _)).alloc _).set (fun hh=>absurd hh (Nat.lt_irrefl _)) _
 refine ZAB.of_vc T_ok mixed Tryz.func220 rfl Tryz.call220 ?_
 refine ⟨_,ZAK _ _,?_⟩
 have mF:=mF [.i 0,.s ⟨#[]⟩] [.i 2,.s ⟨#[]⟩]
 have hS0:=hS.mv mF (fun h=>h)
 have hr0:=mF.at' hr (fun h=>h)
 have hH0:=hH.mv mF (fun _ _ h=>h)
 have hp0:((st.heap++[[AV.i 0,.s ⟨#[]⟩]]).set st.heap.length [.i 2,.s ⟨#[]⟩])[st.heap.length]? = some [.i 2,.s ⟨#[]⟩]:=ZAL _ _ _
 have hpr:r≠some st.heap.length:=fun e=>by subst e; have:=hH.lt; omega
 refine ⟨_,hr0,?_⟩
 refine .s (ZCk (n:=0) hS0 (Nat.zero_le _) 64 (fun hb S1 m1 hs1=>?_) (fun hb hlt S1 m1 hs1=>?_))
 ·have hr1:=m1.at' hr0 (Ne.symm hsd)
  have hp1:=m1.at' hp0 (by omega)
  have hH1:=hH0.mv m1 (fun p e h=>hsr (by rw [e,h]))
  refine ⟨_,hr1,?_⟩
  refine .s (ZIt (n:=0) small_f hs1 (Nat.zero_le _) rfl (fun S2 m2 hs2=>?_))
  have hr2:=m2.at' hr1 (Ne.symm hsd)
  have hp2:=m2.at' hp1 (by omega)
  have hH2:=hH1.mv m2 (fun p e h=>hsr (by rw [e,h]))
  have hXz:=ZBb s (k+2) (k+2+tw smlI s (k+2)) hs2.le
  refine ⟨_,hp2,?_⟩
  have N:(s.extract (k+2) (k+2+tw smlI s (k+2))=⟨#[]⟩ \/ atB s (k+2+tw smlI s (k+2)) 125=false)->tpW s k acc=none:=fun h=>tp_var_no h1 h2 hb (h.imp (fun e=>by have:=(ZAi _).1 e; omega) id)
  have Y:s.extract (k+2) (k+2+tw smlI s (k+2))≠⟨#[]⟩->atB s (k+2+tw smlI s (k+2)) 125=true->tpW s k acc=tpW s (k+2+tw smlI s (k+2)+1) (acc++[(2,s.extract (k+2) (k+2+tw smlI s (k+2)))]):=fun e h=>tp_var h1 h2 hb (fun e0=>e ((ZAi _).2 (by omega))) h
  have hpl:=ZBC hp2
  have mT:Mv 0 (fun q=>q=st.heap.length) S2 ⟨S2.heap.set st.heap.length [.i 2,.s (s.extract (k+2) (k+2+tw smlI s (k+2)))],S2.tk⟩:=(Mv.refl (C:=fun q=>q=st.heap.length) (Nat.zero_le _)).set (p:=st.heap.length) (fun _=>rfl) _
  have hr3:=mT.at' hr2 (by omega)
  have hp3:(S2.heap.set st.heap.length [.i 2,.s (s.extract (k+2) (k+2+tw smlI s (k+2)))])[st.heap.length]? = some [.i 2,.s (s.extract (k+2) (k+2+tw smlI s (k+2)))]:=ZAY hp2
  have hH3:=(hH2).mv mT (fun p e h=>hpr (by rw [e,h]))
  have hs3:=(hs2).mv mT (by omega)
  refine .n (.one 0 (.one 1 (.one 2 (.one 3 (.one 4 (.one 5 (.one 6 (.only 7 (.one 8 (.one 9 (.one 10 .done))))))))))) (by kernel_rfl) ?_
  refine ⟨_,hr3,?_⟩
  refine ⟨_,hp3,?_⟩
  refine HR.app (n:=0) (i:=ZFa) hH3 rfl rfl (List.cons_ne_nil _ _) (ZBo [(2,s.extract (k+2) (k+2+tw smlI s (k+2)))]) (by show ((prtL acc).length+1)*24<=_; omega) (by show (prtL acc).length+1<=_; omega) (Nat.zero_le _) (fun p' cap' S4 hw hm hp hlt4=>?_)
  have hr4:=hm.at' hr3 (fun e=>hne e.symm)
  have hp4:=hm.at' hp3 (fun e=>hpr e.symm)
  have hs4:=hs3.mv hm (fun e=>hsr e.symm)
  refine ⟨_,hr4,?_⟩
  have l4:S2.heap.length<=p' \/ some p'=r:=hp.symm.imp (fun h=>by simpa using h) id
  have n1:p'≠rd:=fun e=>l4.elim (fun h=>by have:=ZBC hr2; omega) (fun h=>hne (by rw [<- h,e]))
  have n2:p'≠sc:=fun e=>l4.elim (fun h=>by have:=(hs2).lt; omega) (fun h=>hsr (by rw [<- h,e]))
  have n3:p'≠st.heap.length:=fun e=>l4.elim (fun h=>by omega) (fun h=>hpr (by rw [<- h,e]))
  have hp5:=ZBe (x:=[.ptr sc 0,.hs p' 0 ((prtL acc).length+1) cap' 2]) (m:=rd) (by omega) hp4
  have hr5:=ZAY (x:=[.ptr sc 0,.hs p' 0 ((prtL acc).length+1) cap' 2]) hr4
  have hs5:Sc ⟨S4.heap.set rd [.ptr sc 0,.hs p' 0 ((prtL acc).length+1) cap' 2],S4.tk⟩ sc s _:=⟨ZBe (Ne.symm hsd) hs4.at',hs4.le,hs4.max⟩
  refine ⟨_,hp5,?_⟩
  intro t ht
  cases t with
  | false=>exact hno (N (.inl (ht.1 rfl))) _
  | true =>
   have hX0:(s.extract (k+2) (k+2+tw smlI s (k+2)):ByteArray)≠⟨#[]⟩:=fun e=>by have:=ht.2 e; cases this
   refine ⟨_,hr5,?_⟩
   refine .s (ZCk (n:=0) hs5 (Nat.zero_le _) 125 (fun hb2 S6 m6 hs6=>?_) (fun hb2 hlt6 S6 m6 hs6=>?_))
   ·exact hno (N (.inr hb2)) _
   ·have e1:(prtL acc).length+1=(prtL acc++prtL [(2,s.extract (k+2) (k+2+tw smlI s (k+2)))]).length:=by rw [List.length_append]; rfl
    have hw6:RwS S6 p' cap' 2 (prtL acc++prtL [(2,s.extract (k+2) (k+2+tw smlI s (k+2)))]):=(hw.keep fun cs hcs=>ZBe (by omega) hcs).mv m6 n2
    have hr6:=m6.at' hr5 (Ne.symm hsd)
    refine hyes _ _ (Y hX0 hb2) (by have:=hs6.le; omega) hs6.le (by rw [List.length_append]; simp; omega) (by unfold sumT at hz ⊢; rw [List.map_append,List.sum_append]; simp; omega) S6 _ (some p') (fun e=>n1 (Option.some.inj e)) (fun e=>n2 (Option.some.inj e)) hs6 hr6 ?_
    rw [e1,<- ZBh]
    exact .hs _ _ _ hw6
 ·have hr1:=m1.at' hr0 (Ne.symm hsd)
  have hp1:=m1.at' hp0 (by omega)
  have hH1:=hH0.mv m1 (fun p e h=>hsr (by rw [e,h]))
  have hpl:=ZBC hp1
  refine ⟨_,hp1,?_⟩
  have mS:Mv 0 (fun q=>q=st.heap.length) S1 ⟨S1.heap.set st.heap.length [.i 3,.s ⟨#[]⟩],S1.tk⟩:=(Mv.refl (C:=fun q=>q=st.heap.length) (Nat.zero_le _)).set (p:=st.heap.length) (fun _=>rfl) _
  have hr1:=mS.at' hr1 (by omega)
  have hp1:(S1.heap.set st.heap.length [.i 3,.s ⟨#[]⟩])[st.heap.length]? = some [.i 3,.s ⟨#[]⟩]:=ZAY hp1
  have hH1:=hH1.mv mS (fun p e h=>hpr (by rw [e,h]))
  have hs1:=hs1.mv mS (by omega)
  refine ⟨_,hr1,?_⟩
  refine .s (token_m (n:=0) hs1 (Nat.zero_le _) (fun ht S2 m2 hs2=>?_) (fun ht S2 m2 hs2=>?_))
  ·have hr2:=m2.at' hr1 (Ne.symm hsd)
   have hp2:=m2.at' hp1 (by omega)
   have hH2:=hH1.mv m2 (fun p e h=>hsr (by rw [e,h]))
   refine ⟨_,hp2,?_⟩
   have N:((⟨#[]⟩:ByteArray)=⟨#[]⟩ \/ atB s (k+3) 125=false)->tpW s k acc=none:=fun _=>ZGx h1 h2 hb (.inl ht)
   have Y:(⟨#[]⟩:ByteArray)≠⟨#[]⟩->atB s (k+3) 125=true->tpW s k acc=tpW s (k+3+1) (acc++[(3,⟨#[]⟩)]):=fun e=>absurd rfl e
   have hXz:(⟨#[]⟩:ByteArray).size=0:=rfl
   have hpl:=ZBC hp2
   have mT:Mv 0 (fun q=>q=st.heap.length) S2 ⟨S2.heap.set st.heap.length [.i 3,.s ((⟨#[]⟩:ByteArray))],S2.tk⟩:=(Mv.refl (C:=fun q=>q=st.heap.length) (Nat.zero_le _)).set (p:=st.heap.length) (fun _=>rfl) _
   have hr3:=mT.at' hr2 (by omega)
   have hp3:(S2.heap.set st.heap.length [.i 3,.s ((⟨#[]⟩:ByteArray))])[st.heap.length]? = some [.i 3,.s ((⟨#[]⟩:ByteArray))]:=ZAY hp2
   have hH3:=(hH2).mv mT (fun p e h=>hpr (by rw [e,h]))
   have hs3:=(hs2).mv mT (by omega)
   refine .n (.one 0 (.one 1 (.one 2 (.one 3 (.one 4 (.one 5 (.one 6 (.only 7 (.one 8 (.one 9 (.one 10 .done))))))))))) (by kernel_rfl) ?_
   refine ⟨_,hr3,?_⟩
   refine ⟨_,hp3,?_⟩
   refine HR.app (n:=0) (i:=ZFa) hH3 rfl rfl (List.cons_ne_nil _ _) (ZBo [(3,(⟨#[]⟩:ByteArray))]) (by show ((prtL acc).length+1)*24<=_; omega) (by show (prtL acc).length+1<=_; omega) (Nat.zero_le _) (fun p' cap' S4 hw hm hp hlt4=>?_)
   have hr4:=hm.at' hr3 (fun e=>hne e.symm)
   have hp4:=hm.at' hp3 (fun e=>hpr e.symm)
   have hs4:=hs3.mv hm (fun e=>hsr e.symm)
   refine ⟨_,hr4,?_⟩
   have l4:S2.heap.length<=p' \/ some p'=r:=hp.symm.imp (fun h=>by simpa using h) id
   have n1:p'≠rd:=fun e=>l4.elim (fun h=>by have:=ZBC hr2; omega) (fun h=>hne (by rw [<- h,e]))
   have n2:p'≠sc:=fun e=>l4.elim (fun h=>by have:=(hs2).lt; omega) (fun h=>hsr (by rw [<- h,e]))
   have n3:p'≠st.heap.length:=fun e=>l4.elim (fun h=>by omega) (fun h=>hpr (by rw [<- h,e]))
   have hp5:=ZBe (x:=[.ptr sc 0,.hs p' 0 ((prtL acc).length+1) cap' 2]) (m:=rd) (by omega) hp4
   have hr5:=ZAY (x:=[.ptr sc 0,.hs p' 0 ((prtL acc).length+1) cap' 2]) hr4
   have hs5:Sc ⟨S4.heap.set rd [.ptr sc 0,.hs p' 0 ((prtL acc).length+1) cap' 2],S4.tk⟩ sc s _:=⟨ZBe (Ne.symm hsd) hs4.at',hs4.le,hs4.max⟩
   refine ⟨_,hp5,?_⟩
   intro t ht
   cases t with
   | false=>exact hno (N (.inl (ht.1 rfl))) _
   | true =>
    have hX0:((⟨#[]⟩:ByteArray):ByteArray)≠⟨#[]⟩:=fun e=>by have:=ht.2 e; cases this
    refine ⟨_,hr5,?_⟩
    refine .s (ZCk (n:=0) hs5 (Nat.zero_le _) 125 (fun hb2 S6 m6 hs6=>?_) (fun hb2 hlt6 S6 m6 hs6=>?_))
    ·exact hno (N (.inr hb2)) _
    ·have e1:(prtL acc).length+1=(prtL acc++prtL [(3,(⟨#[]⟩:ByteArray))]).length:=by rw [List.length_append]; rfl
     have hw6:RwS S6 p' cap' 2 (prtL acc++prtL [(3,(⟨#[]⟩:ByteArray))]):=(hw.keep fun cs hcs=>ZBe (by omega) hcs).mv m6 n2
     have hr6:=m6.at' hr5 (Ne.symm hsd)
     refine hyes _ _ (Y hX0 hb2) (by have:=hs6.le; omega) hs6.le (by rw [List.length_append]; simp; omega) (by unfold sumT at hz ⊢; rw [List.map_append,List.sum_append]; simp; omega) S6 _ (some p') (fun e=>n1 (Option.some.inj e)) (fun e=>n2 (Option.some.inj e)) hs6 hr6 ?_
     rw [e1,<- ZBh]
     exact .hs _ _ _ hw6
  ·have hr2:=m2.at' hr1 (Ne.symm hsd)
   have hp2:=m2.at' hp1 (by omega)
   have hH2:=hH1.mv m2 (fun p e h=>hsr (by rw [e,h]))
   have hXz:=ZBb s (k+3) (k+3+tw tokI s (k+3)) hs2.le
   refine ⟨_,hp2,?_⟩
   have N:(s.extract (k+3) (k+3+tw tokI s (k+3))=⟨#[]⟩ \/ atB s (k+3+tw tokI s (k+3)) 125=false)->tpW s k acc=none:=fun h=>ZGx h1 h2 hb (h.imp (fun e=>by have:=(ZAi _).1 e; omega) id)
   have Y:s.extract (k+3) (k+3+tw tokI s (k+3))≠⟨#[]⟩->atB s (k+3+tw tokI s (k+3)) 125=true->tpW s k acc=tpW s (k+3+tw tokI s (k+3)+1) (acc++[(3,s.extract (k+3) (k+3+tw tokI s (k+3)))]):=fun e h=>tp_field h1 h2 hb ht h
   have hpl:=ZBC hp2
   have mT:Mv 0 (fun q=>q=st.heap.length) S2 ⟨S2.heap.set st.heap.length [.i 3,.s (s.extract (k+3) (k+3+tw tokI s (k+3)))],S2.tk⟩:=(Mv.refl (C:=fun q=>q=st.heap.length) (Nat.zero_le _)).set (p:=st.heap.length) (fun _=>rfl) _
   have hr3:=mT.at' hr2 (by omega)
   have hp3:(S2.heap.set st.heap.length [.i 3,.s (s.extract (k+3) (k+3+tw tokI s (k+3)))])[st.heap.length]? = some [.i 3,.s (s.extract (k+3) (k+3+tw tokI s (k+3)))]:=ZAY hp2
   have hH3:=(hH2).mv mT (fun p e h=>hpr (by rw [e,h]))
   have hs3:=(hs2).mv mT (by omega)
   refine .n (.one 0 (.one 1 (.one 2 (.one 3 (.one 4 (.one 5 (.one 6 (.only 7 (.one 8 (.one 9 (.one 10 .done))))))))))) (by kernel_rfl) ?_
   refine ⟨_,hr3,?_⟩
   refine ⟨_,hp3,?_⟩
   refine HR.app (n:=0) (i:=ZFa) hH3 rfl rfl (List.cons_ne_nil _ _) (ZBo [(3,s.extract (k+3) (k+3+tw tokI s (k+3)))]) (by show ((prtL acc).length+1)*24<=_; omega) (by show (prtL acc).length+1<=_; omega) (Nat.zero_le _) (fun p' cap' S4 hw hm hp hlt4=>?_)
   have hr4:=hm.at' hr3 (fun e=>hne e.symm)
   have hp4:=hm.at' hp3 (fun e=>hpr e.symm)
   have hs4:=hs3.mv hm (fun e=>hsr e.symm)
   refine ⟨_,hr4,?_⟩
   have l4:S2.heap.length<=p' \/ some p'=r:=hp.symm.imp (fun h=>by simpa using h) id
   have n1:p'≠rd:=fun e=>l4.elim (fun h=>by have:=ZBC hr2; omega) (fun h=>hne (by rw [<- h,e]))
   have n2:p'≠sc:=fun e=>l4.elim (fun h=>by have:=(hs2).lt; omega) (fun h=>hsr (by rw [<- h,e]))
   have n3:p'≠st.heap.length:=fun e=>l4.elim (fun h=>by omega) (fun h=>hpr (by rw [<- h,e]))
   have hp5:=ZBe (x:=[.ptr sc 0,.hs p' 0 ((prtL acc).length+1) cap' 2]) (m:=rd) (by omega) hp4
   have hr5:=ZAY (x:=[.ptr sc 0,.hs p' 0 ((prtL acc).length+1) cap' 2]) hr4
   have hs5:Sc ⟨S4.heap.set rd [.ptr sc 0,.hs p' 0 ((prtL acc).length+1) cap' 2],S4.tk⟩ sc s _:=⟨ZBe (Ne.symm hsd) hs4.at',hs4.le,hs4.max⟩
   refine ⟨_,hp5,?_⟩
   intro t ht
   cases t with
   | false=>exact hno (N (.inl (ht.1 rfl))) _
   | true =>
    have hX0:(s.extract (k+3) (k+3+tw tokI s (k+3)):ByteArray)≠⟨#[]⟩:=fun e=>by have:=ht.2 e; cases this
    refine ⟨_,hr5,?_⟩
    refine .s (ZCk (n:=0) hs5 (Nat.zero_le _) 125 (fun hb2 S6 m6 hs6=>?_) (fun hb2 hlt6 S6 m6 hs6=>?_))
    ·exact hno (N (.inr hb2)) _
    ·have e1:(prtL acc).length+1=(prtL acc++prtL [(3,s.extract (k+3) (k+3+tw tokI s (k+3)))]).length:=by rw [List.length_append]; rfl
     have hw6:RwS S6 p' cap' 2 (prtL acc++prtL [(3,s.extract (k+3) (k+3+tw tokI s (k+3)))]):=(hw.keep fun cs hcs=>ZBe (by omega) hcs).mv m6 n2
     have hr6:=m6.at' hr5 (Ne.symm hsd)
     refine hyes _ _ (Y hX0 hb2) (by have:=hs6.le; omega) hs6.le (by rw [List.length_append]; simp; omega) (by unfold sumT at hz ⊢; rw [List.map_append,List.sum_append]; simp; omega) S6 _ (some p') (fun e=>n1 (Option.some.inj e)) (fun e=>n2 (Option.some.inj e)) hs6 hr6 ?_
     rw [e1,<- ZBh]
     exact .hs _ _ _ hw6
set_option maxHeartbeats 1000000 in
theorem tstep_a (hS:Sc st sc s k) (hk:k<s.size) (hr:st.heap[rd]? = some [.ptr sc 0,a]) (hH:HR st 2 a r (prtL acc)) (hne:r≠some rd) (hsr:r≠some sc) (hsd:sc≠rd) (hl:acc.length<=k) (hz:sumT acc<=k) (hmax:s.size<=1099511627776)
  (hno:tpW s k acc=none->∀ st',R (.b false) st')
  (hyes:∀ k' acc',tpW s k acc=tpW s k' acc'->k<k'->k'<=s.size->acc'.length<=k'->sumT acc'<=k'->∀ st' a' r',r'≠some rd->r'≠some sc->Sc st' sc s k'->st'.heap[rd]? = some [.ptr sc 0,a']->HR st' 2 a' r' (prtL acc')->R (.b true) st') :
  ZAB Tryz.prog 177 [.ptr rd 0] st R:=by
 have hmx:maxLen=9223372036854775807:=rfl
 have ml:=ZMH acc
 have ms:=ZId acc
 have scne:∀ {S:St} {r':Option Nat},sc<S.heap.length->(∀ p,r'=some p->r=some p \/ S.heap.length<=p)->r'≠some sc:=fun h1 h2 e=>(h2 _ e).elim (fun h=>hsr h) (fun h=>by omega)
 refine ZAB.of_vc T_ok mixed Tryz.func177 rfl Tryz.call177 ?_
 refine ⟨_,hr,?_⟩
 refine .s (text2_m (n:=0) hS (Nat.zero_le _) 36 36 (fun hnot=>?_) (fun x y S1 m1 hs1=>?_))
 ·refine ⟨_,hr,?_⟩
  refine .s (text2_m (n:=0) hS (Nat.zero_le _) 36 123 (fun hnot2=>?_) (fun x y S1 m1 hs1=>?_))
  ·refine ⟨_,hr,?_⟩
   refine .s (ZIt (n:=0) plain_f hS (Nat.zero_le _) rfl (fun S1 m1 hs1=>?_))
   have hr1:=m1.at' hr (Ne.symm hsd)
   have hH1:=hH.mv m1 (fun p e h=>hsr (by rw [e,h]))
   have hXz:=ZBb s k (k+tw plnI s k) hs1.le
   have hs1l:=hs1.le
   refine .s (ttext_a (n:=0) _ hr1 hH1 hne (Nat.zero_le _) (by omega) (by omega) (fun S2 a2 r2 m2 l2 n2 hr2 hH2=>?_))
   have hs2:=hs1.mv m2 (fun h=>h.elim hsd (fun h=>hsr h.symm))
   intro q hq
   cases q with
   | false =>
    have h0:tw plnI s k=0:=by have:=(ZAi _).1 (hq.1 rfl); omega
    exact hno (ZLT hk h0 hnot hnot2) _
   | true =>
    have h0:tw plnI s k≠0:=fun e=>by have:=hq.2 ((ZAi _).2 (by omega)); cases this
    have m1l:=ml (s.extract k (k+tw plnI s k))
    have m1s:=ms (s.extract k (k+tw plnI s k))
    exact hyes _ _ (ZKo (by omega) h0) (by omega) hs1.le (by omega) (by omega) S2 a2 r2 n2 (scne hs1.lt l2) hs2 hr2 hH2
  ·have hr1:=m1.at' hr (Ne.symm hsd)
   have hH1:=hH.mv m1 (fun p e h=>hsr (by rw [e,h]))
   refine .s (tnamed_a hs1 hr1 hH1 hne hsr hsd x y hl hz hmax (fun h st'=>?_) (fun k' acc' e l1 l2 l3 l4 st' a' r' n1 n2 hs' hr' hH'=>?_))
   ·exact hno h _
   ·exact hyes k' acc' e l1 l2 l3 l4 st' a' r' n1 n2 hs' hr' hH'
 ·have hr1:=m1.at' hr (Ne.symm hsd)
  have hH1:=hH.mv m1 (fun p e h=>hsr (by rw [e,h]))
  have m1l:=ml ⟨#[36]⟩
  have m1s:=ms ⟨#[36]⟩
  have hz1:(⟨#[36]⟩:ByteArray).size=1:=rfl
  refine .s (ttext_a (n:=0) ⟨#[36]⟩ hr1 hH1 hne (Nat.zero_le _) (by omega) (by omega) (fun S2 a2 r2 m2 l2 n2 hr2 hH2=>?_))
  have hs2:=hs1.mv m2 (fun h=>h.elim hsd (fun h=>hsr h.symm))
  exact hyes _ _ (tp_two x y) (by omega) hs1.le (by omega) (by omega) S2 a2 r2 n2 (scne hs1.lt l2) hs2 hr2 hH2
end
theorem ZIq {st:St} {a:AV} {r:Option Nat} {sz:Nat} {es:List (List AV)} {e:Int} (hH:HR st sz a r es):resX st (.tup [a,.i e]) (.tup [.sl .no sz es,.i e]):=by
 refine .inr ⟨_,_,rfl,rfl,?_,.dat rfl rfl,trivial⟩
 cases hH with
 | nil=>exact .inr (.inl ⟨rfl,sz,rfl⟩)
 | tight=>exact .inl ⟨rfl,rfl⟩
 | hs p cap es h =>
  obtain ⟨⟨zs,h1,h2⟩,h3,h4⟩:=h
  exact .inr (.inr ⟨p,0,_,cap,sz,_,es,rfl,h1,ZHh h3,rfl⟩)
theorem ZDV {st:St} {sz:Nat} {e:Int}:resX st (.tup [.nilS,.i e]) (.tup [.sl .no sz [],.i e]):=.inr ⟨_,_,rfl,rfl,.inr (.inl ⟨rfl,sz,rfl⟩),.dat rfl rfl,trivial⟩
set_option maxHeartbeats 1000000 in
theorem ZIy (s:ByteArray) (hs:s.size<=1099511627776):ZAC Tryz.prog 138 [.s s] (.tup [.sl .no 2 (prtL (ZAM s).1),.i (ZAM s).2]) []:=by
 have hmx:maxLen=9223372036854775807:=rfl
 have hP:ZAM s=match tpW s 0 [] with
  | none=>([],2)
  | some l=>if 32<l.length then ([],3) else (l,0):=rfl
 generalize ZAM s=Z at hP
 refine ZAC.ofX rfl ?_
 refine ZAB.of_vc T_ok mixed Tryz.func138 rfl Tryz.call138 ?_
 refine .s (new_a ?_)
 refine ⟨(by show 0<1; decide),?_⟩
 refine ZAF [] (fun g vals st'=>vals=[]/\∃ k acc a r,k+g=s.size/\Sc st' 0 s k/\st'.heap[1]? = some [.ptr 0 0,a]/\HR st' 2 a r (prtL acc)/\r≠some 1/\r≠some 0/\tpW s 0 []=tpW s k acc/\acc.length<=k/\sumT acc<=k) s.size rfl ⟨rfl,0,[],_,none,by omega,⟨rfl,Nat.zero_le _,by omega⟩,rfl,.nil,by simp,by simp,rfl,Nat.le_refl _,Nat.le_refl _⟩ ?_
 rintro g vals st1 ⟨rfl,k,acc,a,r,hk,hS,hr,hH,n1,n0,hX,hl,hz⟩
 refine ⟨_,hr,?_⟩
 refine .s (ZLF hS ?_)
 refine ZAA (fun hd=>?_) (fun hd=>?_)
 ·have hd:k<s.size:=by simpa using hd
  refine .s (tstep_a hS hd hr hH n1 n0 (by show (0:Nat)≠1; decide) hl hz hs (fun h st'=>?_) (fun k' acc' e l1 l2 l3 l4 st' a' r' m1 m2 hs' hr' hH'=>?_))
  ·rw [hX,h] at hP
   simp only at hP
   subst hP
   exact ZDV
  ·exact ⟨s.size - k',by omega,rfl,k',acc',a',r',by omega,hs',hr',hH',m1,m2,hX.trans e,l3,l4⟩
 ·have hd:¬ k<s.size:=by simpa using hd
  rw [hX,ZHV hd] at hP
  simp only at hP
  have el:=ZBg acc
  generalize hes:prtL acc=es at hH el
  cases hH with
  | nil =>
   have h0:acc=[]:=List.eq_nil_of_length_eq_zero (by rw [<- el]; rfl)
   rw [if_neg (by rw [h0]; decide)] at hP
   subst hP
   refine ⟨_,hr,?_⟩
   refine ⟨_,hr,?_⟩
   show resX st1 (.tup [.nilS,.i 0]) (.tup [.sl .no 2 (prtL acc),.i 0])
   rw [hes]
   exact ZDV
  | tight =>
   have h0:acc=[]:=List.eq_nil_of_length_eq_zero (by rw [<- el]; rfl)
   rw [if_neg (by rw [h0]; decide)] at hP
   subst hP
   refine ⟨_,hr,?_⟩
   refine ⟨_,hr,?_⟩
   show resX st1 (.tup [.sl .tight 2 [],.i 0]) (.tup [.sl .no 2 (prtL acc),.i 0])
   rw [hes]
   exact ZIq .tight
  | hs p cap es hw =>
   refine ⟨_,hr,?_⟩
   refine ZAA (fun hd2=>?_) (fun hd2=>?_)
   ·have hd2:(es.length:Int) > 32:=of_decide_eq_true hd2
    rw [if_pos (by omega)] at hP
    subst hP
    exact ZDV
   ·have hd2:¬ (es.length:Int) > 32:=of_decide_eq_false hd2
    rw [if_neg (by omega)] at hP
    subst hP
    refine ⟨_,hr,?_⟩
    show resX st1 (.tup [.hs p 0 es.length cap 2,.i 0]) (.tup [.sl .no 2 (prtL acc),.i 0])
    rw [hes]
    exact ZIq (.hs _ _ _ hw)
end Go.Proofs.YticbonkojpabnaaGreatDoor
