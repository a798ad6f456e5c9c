/- A word and coded texts behind it, as the document reads them. No statement of its own. -/
import Derived.Test.YticbonkojpabnaaGreatDoorSLnb
set_option linter.unusedSimpArgs false
set_option linter.unusedVariables false
set_option maxRecDepth 100000
namespace Go.Proofs.YticbonkojpabnaaGreatDoor
open Go.RowKit
section
theorem beg_ext {s w:ByteArray} (h:w.size<=s.size):s.extract 0 w.size=w ↔ begB s w=true:=by
 rw [ZCc]
 constructor
 ·intro e
  refine ⟨s.data.toList.drop w.size,?_⟩
  have e2:(s.extract 0 w.size).data.toList=w.data.toList:=by rw [e]
  rw [exL,List.drop_zero] at e2
  rw [<- e2,List.take_append_drop]
 ·rintro ⟨r,hr⟩
  refine inL ?_
  rw [exL,List.drop_zero,hr,<- blen w,List.take_left]
theorem ZJR (s w:ByteArray):ZAC Tryz.prog 120 [.s s,.s w] (.b (begB s w)) []:=by
 refine ZAC.of rfl (ZAB.of_vc T_ok mixed Tryz.func120 rfl Tryz.call120 ?_)
 refine ZAA (fun hd=>?_) (fun hd=>?_)
 ·have hd:=of_decide_eq_true hd
  have hd:w.size<=s.size:=by omega
  refine ⟨w.size,rfl,Nat.zero_le _,hd,?_⟩
  intro q hq
  exact retb (by rw [Bool.eq_iff_iff,hq,beg_ext hd])
 ·have hd:=of_decide_eq_false hd
  have e:begB s w=false:=by
   cases hb:begB s w
   ·rfl
   ·have:=ZDt hb; omega
  exact retb e.symm
def n34 (n:Int):Bool:=n != 34
def endR (r:ByteArray):Nat:=2+tw n34 r 2
def ZDF (r:ByteArray):Option (ByteArray × ByteArray) :=
 if r.size<3 \/ ¬ r.extract 0 2=⟨#[32,34]⟩ then none
 else if endR r=r.size then none
 else match ZGD (r.extract 1 (endR r+1)) with
  | none=>none
  | some v=>some (v,r.extract (endR r+1) r.size)
def ZC9:Nat->ByteArray->List ByteArray->Option (List ByteArray × ByteArray)
 | 0,r,acc=>some (acc,r)
 | n+1,r,acc=>match ZDF r with
  | none=>none
  | some (v,r')=>ZC9 n r' (acc++[v])
def codedE:Option (List ByteArray × ByteArray)->List ByteArray × Bool
 | none=>([],false)
 | some (l,r)=>(l,decide (r=⟨#[]⟩))
def ZAs (s w:ByteArray) (n:Nat):List ByteArray × Bool:=if begB s w=true then codedE (ZC9 n (s.extract w.size s.size) []) else ([],false)
theorem ZFN:argW .nilS (.sl .no 1 (strL [])):=Acc.argW (n:=0) (tk:=[]) .nil
attribute [local irreducible] ZAn
set_option maxHeartbeats 4000000 in
theorem ZED (s w:ByteArray) (n:Nat) (hn:n<=4) (hs:s.size<=1000000000):ZAC Tryz.prog 79 [.s s,.s w,.i n] (.tup [.sl .no 1 (strL (ZAs s w n).1),.b (ZAs s w n).2]) []:=by
 have hmx:maxLen=9223372036854775807:=rfl
 have hF:ZAs s w n=if begB s w=true then codedE (ZC9 n (s.extract w.size s.size) []) else ([],false):=rfl
 generalize ZAs s w n=F at *
 refine ZAC.ofG rfl ?_
 refine ZAB.of_vc T_ok mixed Tryz.func79 rfl Tryz.call79 ?_
 refine .p rfl (ZJR s w) ?_
 cases hb:begB s w
 ·rw [if_neg (by rw [hb]; decide)] at hF
  subst hF
  exact retV rfl ⟨ZFN,.inl (.inl ⟨rfl,rfl⟩),trivial⟩
 ·rw [if_pos hb] at hF
  have hw:=ZDt hb
  refine ⟨w.size,rfl,hw,Nat.le_refl _,?_⟩
  have hr0:(s.extract w.size s.size).size<=s.size:=by rw [ByteArray.size_extract]; omega
  generalize s.extract w.size s.size=r0 at *
  refine ZAF [8,9,10] (fun g vals st'=>∃ (k:Nat) (r:ByteArray) (acc:List ByteArray) (a:AV),k+g=n/\vals=[a,.s r,.i k]/\acc.length<=k/\r.size<=s.size/\Acc 0 st'.tk 1 a (strL acc)/\F=codedE (ZC9 (n - k) r acc)) n rfl ⟨0,r0,[],.nilS,by omega,rfl,Nat.le_refl _,hr0,.nil,hF⟩ ?_
  clear hF
  rintro g vals st1 ⟨k,r,acc,a,hk,rfl,hal,hr,hA,hF⟩
  rcases hA.form with rfl | ⟨t0,e0,rfl⟩
  iterate 2
   ·skip
    refine ZAA (fun hd=>?_) (fun hd=>?_)
    ·have hd:=of_decide_eq_true hd
     have hg:ZC9 (n - k) r acc=match ZDF r with
      | none=>none
      | some (v,r')=>ZC9 (n - (k+1)) r' (acc++[v]):=by rw [show n - k=(n - (k+1))+1 by omega]; rfl
     refine ZAA (fun h3=>?_) (fun h3=>?_)
     ·have h3:=of_decide_eq_true h3
      have hn:ZDF r=none:=by unfold ZDF; exact if_pos (.inl (by omega))
      rw [hg,hn] at hF
      subst hF
      exact retV rfl ⟨ZFN,.inl (.inl ⟨rfl,rfl⟩),trivial⟩
     have h3:=of_decide_eq_false h3
     refine ⟨2,rfl,Nat.zero_le _,by omega,?_⟩
     intro q hq
     cases hqq:q
     rotate_left
     ·have hne:¬ r.extract 0 2=⟨#[32,34]⟩:=fun e=>by have:=hq.2 e; rw [hqq] at this; cases this
      have hn:ZDF r=none:=by unfold ZDF; exact if_pos (.inr hne)
      rw [hg,hn] at hF
      subst hF
      exact retV rfl ⟨ZFN,.inl (.inl ⟨rfl,rfl⟩),trivial⟩
     have h2:r.extract 0 2=⟨#[32,34]⟩:=hq.1 hqq
     have hnn:¬ (r.size<3 \/ ¬ r.extract 0 2=⟨#[32,34]⟩):=fun h=>by
      rcases h with h | h
      ·omega
      ·exact h h2
     refine ZE5 2 [11] (fun g vals st'=>∃ m:Nat,m+g=r.size/\2<=m/\vals=[.i m]/\st'=st1/\∀ j (hj:j<r.size),2<=j->j<m->n34 (r[j].toNat:Int)=true) (r.size - 2) (fun vals st'=>vals=[.i (endR r:Nat)]/\st'=st1) rfl ⟨2,by omega,Nat.le_refl _,rfl,rfl,fun j _ h1 h2=>absurd h1 (by omega)⟩ ?_ ?_
     ·rintro g vals st' ⟨m,hm,hm1,rfl,rfl,hall⟩
      refine ZAA (fun hd=>?_) (fun hd=>?_)
      ·have hd:=of_decide_eq_true hd
       have m1:m<r.size:=by omega
       refine ⟨m,m1,rfl,?_⟩
       refine ZAA (fun h1=>?_) (fun h1=>?_)
       ·skip
        intro c hc
        rw [IntWalk.i64_in _ (by omega)] at hc
        obtain rfl:c=((m+1:Nat):Int):=by omega
        refine ⟨g - 1,by omega,m+1,by omega,by omega,rfl,rfl,fun j hj h0 hjm=>?_⟩
        by_cases e:j=m
        ·subst e; exact h1
        ·exact hall j hj h0 (by omega)
       ·exact ⟨congrArg (fun x:Nat=>[AV.i (x:Int)]) (ZDc hall hm1 (by omega) (fun _=>h1)).symm,rfl⟩
      ·have hd:=of_decide_eq_false hd
       exact ⟨congrArg (fun x:Nat=>[AV.i (x:Int)]) (ZDc hall hm1 (by omega) (fun h=>absurd h (by omega))).symm,rfl⟩
     rintro vals st' ⟨rfl,rfl⟩
     have hel:endR r<=r.size:=ZCR n34 r 2 (by omega)
     have he2:2<=endR r:=by unfold endR; omega
     have hP:ZDF r=if endR r=r.size then none else match ZGD (r.extract 1 (endR r+1)) with
      | none=>none
      | some v=>some (v,r.extract (endR r+1) r.size):=by unfold ZDF; exact if_neg hnn
     generalize endR r=e at *
     refine ZAA (fun h4=>?_) (fun h4=>?_)
     ·have h4:(e:Int)=(r.size:Int):=beq_iff_eq.1 h4
      rw [if_pos (by omega)] at hP
      rw [hg,hP] at hF
      subst hF
      exact retV rfl ⟨ZFN,.inl (.inl ⟨rfl,rfl⟩),trivial⟩
     have h4:¬ (e:Int)=(r.size:Int):=beq_eq_false_iff_ne.1 h4
     rw [if_neg (by omega)] at hP
     intro c hc
     rw [IntWalk.i64_in _ (by omega)] at hc
     obtain rfl:c=((e+1:Nat):Int):=by omega
     refine ⟨e+1,rfl,1,rfl,by omega,by omega,?_⟩
     refine .p rfl (decodeR_p (r.extract 1 (e+1)) (by rw [ByteArray.size_extract]; omega)) ?_
     have hU:ZGD (r.extract 1 (e+1))=if ZAo ⟨(docW (r.extract 1 (e+1)) 1 []).toArray⟩=r.extract 1 (e+1) then some ⟨(docW (r.extract 1 (e+1)) 1 []).toArray⟩ else none:=rfl
     generalize (⟨(docW (r.extract 1 (e+1)) 1 []).toArray⟩:ByteArray)=v at *
     refine ZAA (fun h5=>?_) (fun h5=>?_)
     ·have h5:decide (ZAo v=r.extract 1 (e+1))=false:=by rw [Bool.not_eq_true'] at h5; exact h5
      have h5:=of_decide_eq_false h5
      rw [hU,if_neg h5] at hP
      rw [hg,hP] at hF
      subst hF
      exact retV rfl ⟨ZFN,.inl (.inl ⟨rfl,rfl⟩),trivial⟩
     have h5:decide (ZAo v=r.extract 1 (e+1))=true:=by rw [Bool.not_eq_false'] at h5; exact h5
     have h5:=of_decide_eq_true h5
     rw [hU,if_pos h5] at hP
     rw [hg,hP] at hF
     refine Acc.app (n:=0) (i:=ti9) hA (Nat.zero_le _) (List.cons_ne_nil _ _) ?_ ?_ (fun t1 e1 tk1 q0 q1 q2 q3=>?_)
     ·show ((strL acc).length+1)*16<=_; rw [ZAH]; omega
     ·show (strL acc).length+1<=_; rw [ZAH]; omega
     intro c hc
     rw [IntWalk.i64_in _ (by omega)] at hc
     obtain rfl:c=((e+1:Nat):Int):=by omega
     refine ⟨e+1,rfl,by omega,Nat.le_refl _,?_⟩
     intro c hc
     rw [IntWalk.i64_in _ (by omega)] at hc
     obtain rfl:c=((k+1:Nat):Int):=by omega
     refine ⟨g - 1,by omega,k+1,_,acc++[v],_,by omega,rfl,by rw [List.length_append]; show _+1<=_; omega,by rw [ByteArray.size_extract]; omega,?_,hF⟩
     rw [ZAh]
     exact .own _ _ _ q0 q1
    ·have hd:=of_decide_eq_false hd
     rw [show n - k=0 by omega] at hF
     intro q hq
     have e:q=decide (r=⟨#[]⟩):=by rw [Bool.eq_iff_iff,hq,decide_eq_true_eq]
     subst e
     refine retV rfl ?_
     rw [hF]
     exact ⟨hA.argW,.inl (.inl ⟨rfl,rfl⟩),trivial⟩
end
section
theorem ZK9 {r v r':ByteArray} (h:ZDF r=some (v,r')):r.data.toList=32::(ZBR v.data.toList++r'.data.toList)/\r'.size<=r.size:=by
 unfold ZDF at h
 split at h
 ·cases h
 rename_i h1
 split at h
 ·cases h
 rename_i h2
 have h3:r.extract 0 2=⟨#[32,34]⟩:=Decidable.byContradiction fun hc=>h1 (.inr hc)
 have h4:¬ r.size<3:=fun hc=>h1 (.inl hc)
 have hel:endR r<=r.size:=ZCR n34 r 2 (by omega)
 have he2:2<=endR r:=by unfold endR; omega
 generalize endR r=e at *
 cases hu:ZGD (r.extract 1 (e+1)) with
 | none=>rw [hu] at h; cases h
 | some x =>
  rw [hu] at h
  cases h
  have e1:=congrArg (fun x:ByteArray=>x.data.toList) (ZK1 hu)
  have e1:(r.data.toList.take (e+1)).drop 1=ZBR v.data.toList:=by
   rw [<- exL,<- ZBT]; exact e1
  have e2:r.data.toList.take 2=[32,34]:=by
   have:=congrArg (fun x:ByteArray=>x.data.toList) h3
   rw [<- List.drop_zero (l:=r.data.toList.take 2),<- exL]; exact this
  have e3:r.data.toList=r.data.toList.take (e+1)++r.data.toList.drop (e+1):=(List.take_append_drop _ _).symm
  have e4:r.data.toList.take (e+1)=32::(r.data.toList.take (e+1)).drop 1:=by
   cases hl:r.data.toList with
   | nil=>rw [hl] at e2; cases e2
   | cons a l =>
    rw [hl] at e2
    have:a=32:=by
     have:=congrArg List.head? e2
     simpa using this
    rw [this]
    rfl
  refine ⟨?_,by rw [ByteArray.size_extract]; omega⟩
  rw [exL,List.take_of_length_le (by rw [blen]; exact Nat.le_refl _)]
  conv=>lhs; rw [e3,e4,e1]
  rfl
theorem pieceS_of {r v:ByteArray} {t:List UInt8} (h:r.data.toList=32::(ZBR v.data.toList++t)):ZDF r=some (v,⟨t.toArray⟩):=by
 have h0:r.data.toList=32::34::(encL v.data.toList++34::t):=by rw [h]; simp [ZBR]
 have hz:r.size=(encL v.data.toList).length+t.length+3:=by rw [<- blen,h0]; simp; omega
 have hget:∀ j,(hj:j<r.size)->r.data.toList[j]? = some r[j]:=fun j hj=>ZDp hj
 have he:endR r=2+(encL v.data.toList).length:=by
  refine ZDc (fun j hj h2 hm=>?_) (by omega) (by omega) (fun hj=>?_)
  ·have hg:=hget j hj
   obtain ⟨i,rfl⟩:∃ i,j=i+2:=⟨j - 2,by omega⟩
   rw [h0,List.getElem?_cons_succ,List.getElem?_cons_succ,List.getElem?_append_left (by omega)] at hg
   have hm2:=ZJ5 v.data.toList _ (List.mem_of_getElem? hg)
   unfold n34
   refine bne_iff_ne.2 fun e=>hm2.1 (UInt8.toNat_inj.1 ?_)
   show _=34
   omega
  ·have hg:=hget _ hj
   have e:r.data.toList[2+(encL v.data.toList).length]? = some 34:=by
    rw [h0,Nat.add_comm 2,List.getElem?_cons_succ,List.getElem?_cons_succ,List.getElem?_append_right (Nat.le_refl _),Nat.sub_self]
    rfl
   rw [e] at hg
   rw [<- Option.some.inj hg]
   rfl
 have e2:r.extract 0 2=⟨#[32,34]⟩:=by
  refine inL ?_
  rw [exL,h0]
  rfl
 have hl:(32::ZBR v.data.toList).length=endR r+1:=by rw [he]; simp [ZBR]; omega
 have h1:r.data.toList=(32::ZBR v.data.toList)++t:=by rw [h]; rfl
 have e3:r.extract 1 (endR r+1)=ZAo v:=by
  refine inL ?_
  rw [exL,h1,<- hl,List.take_left,ZBT]
  rfl
 have e4:r.extract (endR r+1) r.size=⟨t.toArray⟩:=by
  refine inL ?_
  rw [exL,List.take_of_length_le (by rw [blen]; exact Nat.le_refl _),h1,<- hl,List.drop_left]
 unfold ZDF
 rw [if_neg (fun hc=>by
  rcases hc with hc | hc
  ·omega
  ·exact hc e2),if_neg (by omega),e3,ZLd,e4]
theorem ZLD:∀ (n:Nat) (r:ByteArray) (acc l:List ByteArray) (r':ByteArray),ZC9 n r acc=some (l,r')->∃ m,l=acc++m/\m.length=n/\r.data.toList=(m.flatMap fun x=>32::ZBR x.data.toList)++r'.data.toList:=by
 intro n
 induction n with
 | zero=>intro r acc l r' h; cases h; exact ⟨[],by simp,rfl,rfl⟩
 | succ n ih =>
  intro r acc l r' h
  unfold ZC9 at h
  cases hp:ZDF r with
  | none=>rw [hp] at h; cases h
  | some x =>
   obtain ⟨v,r1⟩:=x
   rw [hp] at h
   obtain ⟨m,h1,h2,h3⟩:=ih r1 _ l r' h
   refine ⟨v::m,by rw [h1]; simp,by simp [h2],?_⟩
   rw [(ZK9 hp).1,h3]
   simp
theorem codedG_of:∀ (m:List ByteArray) (r:ByteArray) (acc:List ByteArray) (t:List UInt8),r.data.toList=(m.flatMap fun x=>32::ZBR x.data.toList)++t->ZC9 m.length r acc=some (acc++m,⟨t.toArray⟩):=by
 intro m
 induction m with
 | nil =>
  intro r acc t h
  have:r=⟨t.toArray⟩:=inL (by rw [h]; rfl)
  subst this
  show some (acc,_)=_
  rw [List.append_nil]
 | cons v m ih =>
  intro r acc t h
  have hp:=pieceS_of (r:=r) (v:=v) (t:=(m.flatMap fun x=>32::ZBR x.data.toList)++t) (by rw [h]; simp)
  show ZC9 (m.length+1) r acc=_
  unfold ZC9
  rw [hp]
  show ZC9 m.length _ (acc++[v])=_
  rw [ih _ (acc++[v]) t rfl]
  simp
theorem ZBO {s w:ByteArray} {n:Nat} (h:(ZAs s w n).2=true):Wds s w (ZAs s w n).1/\(ZAs s w n).1.length=n:=by
 unfold ZAs at h ⊢
 split at h
 ·rename_i hb
  rw [if_pos hb]
  cases hc:ZC9 n (s.extract w.size s.size) [] with
  | none=>rw [hc] at h; cases h
  | some x =>
   obtain ⟨l,r⟩:=x
   rw [hc] at h
   obtain ⟨m,h1,h2,h3⟩:=ZLD n _ _ _ _ hc
   have hr:r=⟨#[]⟩:=of_decide_eq_true h
   subst hr
   obtain ⟨t,ht⟩:=ZCc.1 hb
   have e:(s.extract w.size s.size).data.toList=t:=by
    rw [exL,List.take_of_length_le (by rw [blen]; exact Nat.le_refl _),ht,<- blen w,List.drop_left]
   have hl:l=m:=h1
   subst hl
   refine ⟨?_,h2⟩
   unfold Wds
   rw [ht,<- e,h3]
   show _++(_++[])=_
   rw [List.append_nil]
   rfl
 ·cases h
theorem ZD6 {s w:ByteArray} {l:List ByteArray} (h:Wds s w l):ZAs s w l.length=(l,true):=by
 have hb:begB s w=true:=ZCc.2 ⟨_,h⟩
 have e:(s.extract w.size s.size).data.toList=(l.flatMap fun x=>32::ZBR x.data.toList)++[]:=by
  rw [exL,List.take_of_length_le (by rw [blen]; exact Nat.le_refl _),show s.data.toList=_ from h,<- blen w,List.drop_left,List.append_nil]
 unfold ZAs
 rw [if_pos hb,codedG_of l _ [] [] e]
 rfl
end
section
def evOk (k n:Int):Bool:=((k == 1 || k == 3) && (decide (0<=n) && decide (n<=1048576))) || ((k == 2 || k == 4) && n == 0)
def evC (k n:Int):Int:=if evOk k n=true then 0 else 1
def cliB:ByteArray:=⟨#[99,108,105,101,110,116,32]⟩
def upsB:ByteArray:=⟨#[117,112,115,116,114,101,97,109,32]⟩
def endB:ByteArray:=⟨#[101,110,100]⟩
def evT (k n:Int):ByteArray:=if k=1 then cliB++numT n else if k=2 then cliB++endB else if k=3 then upsB++numT n else upsB++endB
theorem ZG8 {k n:Int} (h:k=1 \/ k=3):evOk k n=(decide (0<=n) && decide (n<=1048576)):=by
 rcases h with rfl | rfl <;> simp [evOk]
theorem ZI2 {k n:Int} (h:k=2 \/ k=4):evOk k n=(n == 0):=by
 rcases h with rfl | rfl <;> simp [evOk]
theorem evOk_no {k n:Int} (h1:k≠1) (h2:k≠2) (h3:k≠3) (h4:k≠4):evOk k n=false:=by
 simp [evOk,h1,h2,h3,h4]
theorem evCheck_p (k n:Int):ZAC Tryz.prog 97 [.agg [.i k,.i n]] (.i (evC k n)) []:=by
 have hC:evC k n=if evOk k n=true then 0 else 1:=rfl
 generalize evC k n=C at *
 by_cases h1:k=1
 ·subst h1
  have hE:=ZG8 (n:=n) (.inl (rfl:(1:Int)=1))
  refine ZAC.of rfl (ZAB.of_vc T_ok mixed Tryz.func97 rfl Tryz.call97 ?_)
  refine ⟨_,rfl,?_⟩
  refine ⟨_,rfl,?_⟩
  refine ZAA (fun a1=>?_) (fun a1=>?_)
  ·have a1:decide (0<=n)=true:=a1
   refine ⟨_,rfl,?_⟩
   refine ZAA (fun a2=>?_) (fun a2=>?_)
   ·have a2:decide (n<=1048576)=true:=a2
    rw [a1,a2] at hE
    rw [if_pos (by rw [hE]; rfl)] at hC
    exact reti hC.symm
   ·have a2:decide (n<=1048576)=false:=a2
    rw [a1,a2] at hE
    rw [if_neg (by rw [hE]; decide)] at hC
    exact reti hC.symm
  ·have a1:decide (0<=n)=false:=a1
   rw [a1] at hE
   rw [if_neg (by rw [hE]; simp)] at hC
   exact reti hC.symm
 by_cases h2:k=2
 ·subst h2
  have hE:=ZI2 (n:=n) (.inl (rfl:(2:Int)=2))
  refine ZAC.of rfl (ZAB.of_vc T_ok mixed Tryz.func97 rfl Tryz.call97 ?_)
  refine ⟨_,rfl,?_⟩
  refine ⟨_,rfl,?_⟩
  refine ZAA (fun a1=>?_) (fun a1=>?_)
  ·have a1:(n == 0)=true:=a1
   rw [a1] at hE
   rw [if_pos hE] at hC
   exact reti hC.symm
  ·have a1:(n == 0)=false:=a1
   rw [a1] at hE
   rw [if_neg (by rw [hE]; decide)] at hC
   exact reti hC.symm
 by_cases h3:k=3
 ·subst h3
  have hE:=ZG8 (n:=n) (.inr (rfl:(3:Int)=3))
  refine ZAC.of rfl (ZAB.of_vc T_ok mixed Tryz.func97 rfl Tryz.call97 ?_)
  refine ⟨_,rfl,?_⟩
  refine ⟨_,rfl,?_⟩
  refine ZAA (fun a1=>?_) (fun a1=>?_)
  ·have a1:decide (0<=n)=true:=a1
   refine ⟨_,rfl,?_⟩
   refine ZAA (fun a2=>?_) (fun a2=>?_)
   ·have a2:decide (n<=1048576)=true:=a2
    rw [a1,a2] at hE
    rw [if_pos (by rw [hE]; rfl)] at hC
    exact reti hC.symm
   ·have a2:decide (n<=1048576)=false:=a2
    rw [a1,a2] at hE
    rw [if_neg (by rw [hE]; decide)] at hC
    exact reti hC.symm
  ·have a1:decide (0<=n)=false:=a1
   rw [a1] at hE
   rw [if_neg (by rw [hE]; simp)] at hC
   exact reti hC.symm
 by_cases h4:k=4
 ·subst h4
  have hE:=ZI2 (n:=n) (.inr (rfl:(4:Int)=4))
  refine ZAC.of rfl (ZAB.of_vc T_ok mixed Tryz.func97 rfl Tryz.call97 ?_)
  refine ⟨_,rfl,?_⟩
  refine ⟨_,rfl,?_⟩
  refine ZAA (fun a1=>?_) (fun a1=>?_)
  ·have a1:(n == 0)=true:=a1
   rw [a1] at hE
   rw [if_pos hE] at hC
   exact reti hC.symm
  ·have a1:(n == 0)=false:=a1
   rw [a1] at hE
   rw [if_neg (by rw [hE]; decide)] at hC
   exact reti hC.symm
 have hE:=evOk_no (n:=n) h1 h2 h3 h4
 rw [if_neg (by rw [hE]; decide)] at hC
 refine ZAC.of rfl (ZAB.of_vc T_ok mixed Tryz.func97 rfl Tryz.call97 ?_)
 refine ⟨_,rfl,?_⟩
 refine ZAA (fun a=>?_) (fun a=>?_)
 ·exact absurd (beq_iff_eq.1 a) h1
 refine ZAA (fun a=>?_) (fun a=>?_)
 ·exact absurd (beq_iff_eq.1 a) h3
 refine ZAA (fun a=>?_) (fun a=>?_)
 ·exact absurd (beq_iff_eq.1 a) h2
 refine ZAA (fun a=>?_) (fun a=>?_)
 ·exact absurd (beq_iff_eq.1 a) h4
 exact reti hC.symm
theorem ZF0 {k n:Int} (h:evOk k n=true):((k=1 \/ k=3)/\0<=n/\n<=1048576) \/ ((k=2 \/ k=4)/\n=0):=by
 unfold evOk at h
 simpa using h
def evTX (k n:Int):ByteArray:=if evOk k n=true then evT k n else ⟨#[]⟩
theorem ZC0 (k n:Int):ZAC Tryz.prog 60 [.agg [.i k,.i n]] (.tup [.s (evTX k n),.i (evC k n)]) []:=by
 have hp:=evCheck_p k n
 have hC:evC k n=if evOk k n=true then 0 else 1:=rfl
 have hT:evTX k n=if evOk k n=true then evT k n else ⟨#[]⟩:=rfl
 generalize evC k n=C at *
 generalize evTX k n=X at *
 cases hE:evOk k n
 ·rw [if_neg (by rw [hE]; decide)] at hC hT
  subst hC hT
  refine ZAC.of rfl (ZAB.of_vc T_ok mixed Tryz.func60 rfl Tryz.call60 ?_)
  refine ⟨_,rfl,?_⟩
  refine .p rfl hp ?_
  exact rfl
 ·rw [if_pos hE] at hC hT
  subst hC hT
  rcases ZF0 hE with ⟨rfl | rfl,h0,h1⟩ | ⟨rfl | rfl,rfl⟩
  ·skip
   refine ZAC.of rfl (ZAB.of_vc T_ok mixed Tryz.func60 rfl Tryz.call60 ?_)
   refine ⟨_,rfl,?_⟩
   refine .p rfl hp ?_
   refine ⟨_,rfl,?_⟩
   refine ⟨_,rfl,?_⟩
   have hin:inR n:=⟨by omega,by omega⟩
   have hz:=ZAk hin
   refine .p rfl (ZFS n hin h0) ?_
   refine ⟨?_,?_⟩
   ·show 7+(numT n).size<=_
    have hmx:maxLen=9223372036854775807:=rfl
    omega
   ·exact rfl
  ·skip
   refine ZAC.of rfl (ZAB.of_vc T_ok mixed Tryz.func60 rfl Tryz.call60 ?_)
   refine ⟨_,rfl,?_⟩
   refine .p rfl hp ?_
   refine ⟨_,rfl,?_⟩
   refine ⟨_,rfl,?_⟩
   have hin:inR n:=⟨by omega,by omega⟩
   have hz:=ZAk hin
   refine .p rfl (ZFS n hin h0) ?_
   refine ⟨?_,?_⟩
   ·show 9+(numT n).size<=_
    have hmx:maxLen=9223372036854775807:=rfl
    omega
   ·exact rfl
  iterate 2
   ·skip
    refine ZAC.of rfl (ZAB.of_vc T_ok mixed Tryz.func60 rfl Tryz.call60 ?_)
    refine ⟨_,rfl,?_⟩
    refine .p rfl hp ?_
    refine ⟨_,rfl,?_⟩
    exact rfl
theorem check45_p (k n:Int):ZAC Tryz.prog 66 [.agg [.i k,.i n]] (.i (evC k n)) []:=by
 have hC:evC k n=if evOk k n=true then 0 else 1:=rfl
 generalize evC k n=C at *
 by_cases h1:k=1
 ·subst h1
  have hE:=ZG8 (n:=n) (.inl (rfl:(1:Int)=1))
  refine ZAC.of rfl (ZAB.of_vc T_ok mixed Tryz.func66 rfl Tryz.call66 ?_)
  iterate 3 refine ⟨_,rfl,?_⟩
  refine ZAA (fun a1=>?_) (fun a1=>?_)
  ·have a1:=of_decide_eq_true a1
   rw [if_neg (by rw [hE,decide_eq_false (by omega)]; simp)] at hC
   exact reti hC.symm
  have a1:=of_decide_eq_false a1
  refine ⟨_,rfl,?_⟩
  refine ZAA (fun a2=>?_) (fun a2=>?_)
  ·have a2:=of_decide_eq_true a2
   rw [if_neg (by rw [hE,decide_eq_false (show ¬ n<=1048576 by omega)]; simp)] at hC
   exact reti hC.symm
  have a2:=of_decide_eq_false a2
  refine ⟨_,rfl,?_⟩
  refine ⟨_,rfl,?_⟩
  rw [if_pos (by rw [hE,decide_eq_true (show 0<=n by omega),decide_eq_true (show n<=1048576 by omega)]; rfl)] at hC
  exact reti hC.symm
 by_cases h2:k=2
 ·subst h2
  have hE:=ZI2 (n:=n) (.inl (rfl:(2:Int)=2))
  refine ZAC.of rfl (ZAB.of_vc T_ok mixed Tryz.func66 rfl Tryz.call66 ?_)
  iterate 3 refine ⟨_,rfl,?_⟩
  refine ZAA (fun a1=>?_) (fun a1=>?_)
  ·have a1:=of_decide_eq_true a1
   rw [if_neg (by rw [hE]; simp; omega)] at hC
   exact reti hC.symm
  have a1:=of_decide_eq_false a1
  refine ⟨_,rfl,?_⟩
  refine ZAA (fun a2=>?_) (fun a2=>?_)
  ·have a2:=of_decide_eq_true a2
   rw [if_neg (by rw [hE]; simp; omega)] at hC
   exact reti hC.symm
  have a2:=of_decide_eq_false a2
  refine ⟨_,rfl,?_⟩
  skip
  refine ⟨_,rfl,?_⟩
  refine ZAA (fun a3=>?_) (fun a3=>?_)
  ·have a3:=bne_iff_ne.1 a3
   rw [if_neg (by rw [hE]; simp; exact a3)] at hC
   exact reti hC.symm
  ·have a3:=bne_eq_false_iff_eq.1 a3
   rw [if_pos (by rw [hE]; simp; exact a3)] at hC
   exact reti hC.symm
 by_cases h3:k=3
 ·subst h3
  have hE:=ZG8 (n:=n) (.inr (rfl:(3:Int)=3))
  refine ZAC.of rfl (ZAB.of_vc T_ok mixed Tryz.func66 rfl Tryz.call66 ?_)
  iterate 3 refine ⟨_,rfl,?_⟩
  refine ZAA (fun a1=>?_) (fun a1=>?_)
  ·have a1:=of_decide_eq_true a1
   rw [if_neg (by rw [hE,decide_eq_false (by omega)]; simp)] at hC
   exact reti hC.symm
  have a1:=of_decide_eq_false a1
  refine ⟨_,rfl,?_⟩
  refine ZAA (fun a2=>?_) (fun a2=>?_)
  ·have a2:=of_decide_eq_true a2
   rw [if_neg (by rw [hE,decide_eq_false (show ¬ n<=1048576 by omega)]; simp)] at hC
   exact reti hC.symm
  have a2:=of_decide_eq_false a2
  refine ⟨_,rfl,?_⟩
  refine ⟨_,rfl,?_⟩
  rw [if_pos (by rw [hE,decide_eq_true (show 0<=n by omega),decide_eq_true (show n<=1048576 by omega)]; rfl)] at hC
  exact reti hC.symm
 by_cases h4:k=4
 ·subst h4
  have hE:=ZI2 (n:=n) (.inr (rfl:(4:Int)=4))
  refine ZAC.of rfl (ZAB.of_vc T_ok mixed Tryz.func66 rfl Tryz.call66 ?_)
  iterate 3 refine ⟨_,rfl,?_⟩
  refine ZAA (fun a1=>?_) (fun a1=>?_)
  ·have a1:=of_decide_eq_true a1
   rw [if_neg (by rw [hE]; simp; omega)] at hC
   exact reti hC.symm
  have a1:=of_decide_eq_false a1
  refine ⟨_,rfl,?_⟩
  refine ZAA (fun a2=>?_) (fun a2=>?_)
  ·have a2:=of_decide_eq_true a2
   rw [if_neg (by rw [hE]; simp; omega)] at hC
   exact reti hC.symm
  have a2:=of_decide_eq_false a2
  iterate 3 refine ⟨_,rfl,?_⟩
  refine ZAA (fun a3=>?_) (fun a3=>?_)
  ·have a3:=bne_iff_ne.1 a3
   rw [if_neg (by rw [hE]; simp; exact a3)] at hC
   exact reti hC.symm
  ·have a3:=bne_eq_false_iff_eq.1 a3
   rw [if_pos (by rw [hE]; simp; exact a3)] at hC
   exact reti hC.symm
 have hE:=evOk_no (n:=n) h1 h2 h3 h4
 rw [if_neg (by rw [hE]; decide)] at hC
 refine ZAC.of rfl (ZAB.of_vc T_ok mixed Tryz.func66 rfl Tryz.call66 ?_)
 refine ⟨_,rfl,?_⟩
 refine ZAA (fun a=>?_) (fun a=>?_)
 ·exact reti hC.symm
 have a:=of_decide_eq_false a
 refine ⟨_,rfl,?_⟩
 refine ZAA (fun a2=>?_) (fun a2=>?_)
 ·exact reti hC.symm
 have a2:=of_decide_eq_false a2
 omega
theorem ZGo (k n:Int):ZAC Tryz.prog 37 [.agg [.i k,.i n]] (.tup [.s (evTX k n),.i (evC k n)]) []:=by
 have hp:=check45_p k n
 have hC:evC k n=if evOk k n=true then 0 else 1:=rfl
 have hT:evTX k n=if evOk k n=true then evT k n else ⟨#[]⟩:=rfl
 generalize evC k n=C at *
 generalize evTX k n=X at *
 cases hE:evOk k n
 ·rw [if_neg (by rw [hE]; decide)] at hC hT
  subst hC hT
  refine ZAC.of rfl (ZAB.of_vc T_ok mixed Tryz.func37 rfl Tryz.call37 ?_)
  refine ⟨_,rfl,?_⟩
  refine .p rfl hp ?_
  exact rfl
 ·rw [if_pos hE] at hC hT
  subst hC hT
  rcases ZF0 hE with ⟨rfl | rfl,h0,h1⟩ | ⟨rfl | rfl,rfl⟩
  ·skip
   refine ZAC.of rfl (ZAB.of_vc T_ok mixed Tryz.func37 rfl Tryz.call37 ?_)
   refine ⟨_,rfl,?_⟩
   refine .p rfl hp ?_
   refine ⟨_,rfl,?_⟩
   refine ⟨1,rfl,by decide,?_⟩
   iterate 3 refine ⟨_,rfl,?_⟩
   have hin:inR n:=⟨by omega,by omega⟩
   have hz:=ZAk hin
   have hnp:=ZES h0
   obtain ⟨m,rfl⟩:=Int.eq_ofNat_of_zero_le h0
   have hq:=ZEU m (by omega)
   rw [show digB 10 m=numT (m:Int) from hnp.symm] at hq
   refine .p rfl hq ?_
   refine ⟨?_,?_⟩
   ·show 7+(numT (m:Int)).size<=_
    have hmx:maxLen=9223372036854775807:=rfl
    omega
   ·exact rfl
  ·skip
   refine ZAC.of rfl (ZAB.of_vc T_ok mixed Tryz.func37 rfl Tryz.call37 ?_)
   refine ⟨_,rfl,?_⟩
   refine .p rfl hp ?_
   refine ⟨_,rfl,?_⟩
   refine ⟨3,rfl,by decide,?_⟩
   iterate 3 refine ⟨_,rfl,?_⟩
   have hin:inR n:=⟨by omega,by omega⟩
   have hz:=ZAk hin
   have hnp:=ZES h0
   obtain ⟨m,rfl⟩:=Int.eq_ofNat_of_zero_le h0
   have hq:=ZEU m (by omega)
   rw [show digB 10 m=numT (m:Int) from hnp.symm] at hq
   refine .p rfl hq ?_
   refine ⟨?_,?_⟩
   ·show 9+(numT (m:Int)).size<=_
    have hmx:maxLen=9223372036854775807:=rfl
    omega
   ·exact rfl
  ·skip
   refine ZAC.of rfl (ZAB.of_vc T_ok mixed Tryz.func37 rfl Tryz.call37 ?_)
   refine ⟨_,rfl,?_⟩
   refine .p rfl hp ?_
   refine ⟨_,rfl,?_⟩
   refine ⟨2,rfl,by decide,?_⟩
   refine ⟨_,rfl,?_⟩
   refine ⟨by decide,?_⟩
   exact rfl
  ·skip
   refine ZAC.of rfl (ZAB.of_vc T_ok mixed Tryz.func37 rfl Tryz.call37 ?_)
   refine ⟨_,rfl,?_⟩
   refine .p rfl hp ?_
   refine ⟨_,rfl,?_⟩
   refine ⟨4,rfl,by decide,?_⟩
   refine ⟨_,rfl,?_⟩
   refine ⟨_,rfl,?_⟩
   refine ⟨by decide,?_⟩
   exact rfl
end
section
theorem ZFf {n:Nat} (h:n<=1048576):ZA6 10 (numT n) 1048576=((n:Int),0):=by
 obtain ⟨d1,d2,_,_⟩:=ZH1 (B:=10) (by decide) n
 have hD:∀ d,d<10->isD 10 ((dgt d).toNat:Int)=true/\(ZAr ((dgt d).toNat:Int)).toNat=d:=by decide +kernel
 rw [ZES (by omega),show ((n:Int)).toNat=n from rfl]
 have hl:(digB 10 n).data.toList=(digs 10 n).map dgt:=by unfold digB; rw [List.toList_toArray]
 have hv:digV (digB 10 n)=digs 10 n:=by
  unfold digV
  rw [hl,List.map_map]
  conv=>rhs; rw [<- List.map_id (digs 10 n)]
  exact List.map_congr_left fun d hd=>(hD d (d2 d hd)).2
 have ha:allI (isD 10) (digB 10 n)=true:=by
  unfold allI
  rw [hl]
  refine List.all_eq_true.2 fun b hb=>?_
  obtain ⟨d,hd,rfl⟩:=List.mem_map.1 hb
  exact (hD d (d2 d hd)).1
 have hs:(digB 10 n).size≠0:=fun e=>by
  have:(digB 10 n).data.toList=[]:=List.eq_nil_of_length_eq_zero (by rw [blen]; exact e)
  rw [ZMj] at this
  exact (ZB2 n).2.2 this
 unfold ZA6
 rw [if_neg (fun h=>by
  rcases h with h | h
  ·exact hs h
  ·rw [ha] at h; cases h),hv,d1,if_neg (by omega)]
theorem ZNM (s:ByteArray) (hs:s.size<maxLen):ZAC Tryz.prog 155 [.s s,.i 1048576] (.tup [.i (ZA6 10 s 1048576).1,.i (ZA6 10 s 1048576).2]) []:=by
 have h:=nread_p isDigit_f digI_hex 10 (by omega) (by omega) s hs 1048576 (by decide)
 rw [readQ_G] at h
 refine ZAC.of rfl (ZAB.of_vc T_ok mixed Tryz.func155 rfl Tryz.call155 ?_)
 refine .p rfl h ?_
 rfl
def upsW:ByteArray:=⟨#[117,112,115,116,114,101,97,109]⟩
def cliW:ByteArray:=⟨#[99,108,105,101,110,116]⟩
def ZBS (s:ByteArray):ByteArray:=⟨(Lib.cut s.data.toList [32]).2.1.toArray⟩
def evK (s:ByteArray):Int:=if ZEp s=upsW then 3 else 1
def evE (s:ByteArray):Int × Int:=if ZBS s=endB then (evK s+1,0) else (evK s,(ZA6 10 (ZBS s) 1048576).1)
/-- the event of a text -/
def evP (s:ByteArray):Option (Int × Int):=if evOk (evE s).1 (evE s).2=true/\evT (evE s).1 (evE s).2=s then some (evE s) else none
def evR (x:Option (Int × Int)):List AV:=[.i (x.getD (0,0)).1,.i (x.getD (0,0)).2]
def evRI (x:Option (Int × Int)):Int:=if x.isSome=true then 0 else 2
theorem evParse_p (s:ByteArray) (hs:s.size<=4000000000):ZAC Tryz.prog 118 [.s s] (.tup [.agg (evR (evP s)),.i (evRI (evP s))]) []:=by
 have hmx:maxLen=9223372036854775807:=rfl
 have hp:=cut_p s hs
 have hrs:(ZBS s).size<=s.size:=by
  unfold ZBS Lib.cut
  split
  ·show (List.toArray _).size<=_
   rw [List.size_toArray,List.length_drop,blen]
   omega
  ·exact Nat.zero_le _
 have hdec:=ZNM (ZBS s) (by omega)
 have hrc:(⟨(Lib.cut s.data.toList [32]).2.1.toArray⟩:ByteArray)=ZBS s:=rfl
 rw [hrc] at hp
 obtain ⟨P,hPP⟩:∃ P,P=evP s:=⟨_,rfl⟩
 rw [<- hPP]
 refine ZAC.of rfl (ZAB.of_vc T_ok mixed Tryz.func118 rfl Tryz.call118 ?_)
 refine .p rfl hp ?_
 refine ⟨_,rfl,?_⟩
 intro q hq
 cases hqq:q
 rotate_left
 ·have hK:evK s=3:=by unfold evK; exact if_pos (hq.1 hqq)
  refine ⟨_,rfl,?_⟩
  intro q2 hq2
  cases hq3:q2
  rotate_left
  ·have h2:ZBS s=endB:=hq2.1 hq3
   refine ⟨_,rfl,?_⟩
   intro c hc
   obtain rfl:c=3+1:=hc.trans (by decide)
   refine ⟨_,rfl,?_⟩
   have hE:evE s=(3+1,0):=(by unfold evE; rw [if_pos h2,hK])
   have ht:=ZC0 (3+1) (0)
   refine ⟨_,rfl,?_⟩
   have hP:P=if evOk (3+1) (0)=true/\evT (3+1) (0)=s then some (3+1,0) else none:=by rw [hPP]; unfold evP; rw [hE]
   have hC:evC (3+1) (0)=if evOk (3+1) (0)=true then 0 else 1:=rfl
   have hT:evTX (3+1) (0)=if evOk (3+1) (0)=true then evT (3+1) (0) else ⟨#[]⟩:=rfl
   generalize evC (3+1) (0)=C at *
   generalize evTX (3+1) (0)=X at *
   cases hk:evOk (3+1) (0)
   ·rw [if_neg (by rw [hk]; decide)] at hC
    rw [if_neg (by rw [hk]; exact fun h=>absurd h.1 (by decide))] at hP
    subst hC hP
    refine .p rfl ht ?_
    refine ⟨_,rfl,?_⟩
    refine ⟨_,rfl,?_⟩
    exact rfl
   ·rw [if_pos hk] at hC hT
    subst hC hT
    refine .p rfl ht ?_
    intro q hq
    cases hqq:q
    ·rw [if_pos ⟨hk,hq.1 hqq⟩] at hP
     subst hP
     iterate 3 refine ⟨_,rfl,?_⟩
     exact rfl
    ·rw [if_neg (fun h=>by have:=hq.2 h.2; rw [hqq] at this; cases this)] at hP
     subst hP
     refine ⟨_,rfl,?_⟩
     refine ⟨_,rfl,?_⟩
     exact rfl
  ·have h2:¬ ZBS s=endB:=fun e=>by have:=hq2.2 e; rw [hq3] at this; cases this
   refine .p rfl hdec ?_
   refine ⟨_,rfl,?_⟩
   have hE:evE s=(3,(ZA6 10 (ZBS s) 1048576).1):=(by unfold evE; rw [if_neg h2,hK])
   have ht:=ZC0 (3) ((ZA6 10 (ZBS s) 1048576).1)
   refine ⟨_,rfl,?_⟩
   have hP:P=if evOk (3) ((ZA6 10 (ZBS s) 1048576).1)=true/\evT (3) ((ZA6 10 (ZBS s) 1048576).1)=s then some (3,(ZA6 10 (ZBS s) 1048576).1) else none:=by rw [hPP]; unfold evP; rw [hE]
   have hC:evC (3) ((ZA6 10 (ZBS s) 1048576).1)=if evOk (3) ((ZA6 10 (ZBS s) 1048576).1)=true then 0 else 1:=rfl
   have hT:evTX (3) ((ZA6 10 (ZBS s) 1048576).1)=if evOk (3) ((ZA6 10 (ZBS s) 1048576).1)=true then evT (3) ((ZA6 10 (ZBS s) 1048576).1) else ⟨#[]⟩:=rfl
   generalize evC (3) ((ZA6 10 (ZBS s) 1048576).1)=C at *
   generalize evTX (3) ((ZA6 10 (ZBS s) 1048576).1)=X at *
   cases hk:evOk (3) ((ZA6 10 (ZBS s) 1048576).1)
   ·rw [if_neg (by rw [hk]; decide)] at hC
    rw [if_neg (by rw [hk]; exact fun h=>absurd h.1 (by decide))] at hP
    subst hC hP
    refine .p rfl ht ?_
    refine ⟨_,rfl,?_⟩
    refine ⟨_,rfl,?_⟩
    exact rfl
   ·rw [if_pos hk] at hC hT
    subst hC hT
    refine .p rfl ht ?_
    intro q hq
    cases hqq:q
    ·rw [if_pos ⟨hk,hq.1 hqq⟩] at hP
     subst hP
     iterate 3 refine ⟨_,rfl,?_⟩
     exact rfl
    ·rw [if_neg (fun h=>by have:=hq.2 h.2; rw [hqq] at this; cases this)] at hP
     subst hP
     refine ⟨_,rfl,?_⟩
     refine ⟨_,rfl,?_⟩
     exact rfl
 ·have hK:evK s=1:=by unfold evK; exact if_neg (fun e=>by have:=hq.2 e; rw [hqq] at this; cases this)
  intro q2 hq2
  cases hq3:q2
  rotate_left
  ·have h2:ZBS s=endB:=hq2.1 hq3
   refine ⟨_,rfl,?_⟩
   intro c hc
   obtain rfl:c=1+1:=hc.trans (by decide)
   refine ⟨_,rfl,?_⟩
   have hE:evE s=(1+1,0):=(by unfold evE; rw [if_pos h2,hK])
   have ht:=ZC0 (1+1) (0)
   refine ⟨_,rfl,?_⟩
   have hP:P=if evOk (1+1) (0)=true/\evT (1+1) (0)=s then some (1+1,0) else none:=by rw [hPP]; unfold evP; rw [hE]
   have hC:evC (1+1) (0)=if evOk (1+1) (0)=true then 0 else 1:=rfl
   have hT:evTX (1+1) (0)=if evOk (1+1) (0)=true then evT (1+1) (0) else ⟨#[]⟩:=rfl
   generalize evC (1+1) (0)=C at *
   generalize evTX (1+1) (0)=X at *
   cases hk:evOk (1+1) (0)
   ·rw [if_neg (by rw [hk]; decide)] at hC
    rw [if_neg (by rw [hk]; exact fun h=>absurd h.1 (by decide))] at hP
    subst hC hP
    refine .p rfl ht ?_
    refine ⟨_,rfl,?_⟩
    refine ⟨_,rfl,?_⟩
    exact rfl
   ·rw [if_pos hk] at hC hT
    subst hC hT
    refine .p rfl ht ?_
    intro q hq
    cases hqq:q
    ·rw [if_pos ⟨hk,hq.1 hqq⟩] at hP
     subst hP
     iterate 3 refine ⟨_,rfl,?_⟩
     exact rfl
    ·rw [if_neg (fun h=>by have:=hq.2 h.2; rw [hqq] at this; cases this)] at hP
     subst hP
     refine ⟨_,rfl,?_⟩
     refine ⟨_,rfl,?_⟩
     exact rfl
  ·have h2:¬ ZBS s=endB:=fun e=>by have:=hq2.2 e; rw [hq3] at this; cases this
   refine .p rfl hdec ?_
   refine ⟨_,rfl,?_⟩
   have hE:evE s=(1,(ZA6 10 (ZBS s) 1048576).1):=(by unfold evE; rw [if_neg h2,hK])
   have ht:=ZC0 (1) ((ZA6 10 (ZBS s) 1048576).1)
   refine ⟨_,rfl,?_⟩
   have hP:P=if evOk (1) ((ZA6 10 (ZBS s) 1048576).1)=true/\evT (1) ((ZA6 10 (ZBS s) 1048576).1)=s then some (1,(ZA6 10 (ZBS s) 1048576).1) else none:=by rw [hPP]; unfold evP; rw [hE]
   have hC:evC (1) ((ZA6 10 (ZBS s) 1048576).1)=if evOk (1) ((ZA6 10 (ZBS s) 1048576).1)=true then 0 else 1:=rfl
   have hT:evTX (1) ((ZA6 10 (ZBS s) 1048576).1)=if evOk (1) ((ZA6 10 (ZBS s) 1048576).1)=true then evT (1) ((ZA6 10 (ZBS s) 1048576).1) else ⟨#[]⟩:=rfl
   generalize evC (1) ((ZA6 10 (ZBS s) 1048576).1)=C at *
   generalize evTX (1) ((ZA6 10 (ZBS s) 1048576).1)=X at *
   cases hk:evOk (1) ((ZA6 10 (ZBS s) 1048576).1)
   ·rw [if_neg (by rw [hk]; decide)] at hC
    rw [if_neg (by rw [hk]; exact fun h=>absurd h.1 (by decide))] at hP
    subst hC hP
    refine .p rfl ht ?_
    refine ⟨_,rfl,?_⟩
    refine ⟨_,rfl,?_⟩
    exact rfl
   ·rw [if_pos hk] at hC hT
    subst hC hT
    refine .p rfl ht ?_
    intro q hq
    cases hqq:q
    ·rw [if_pos ⟨hk,hq.1 hqq⟩] at hP
     subst hP
     iterate 3 refine ⟨_,rfl,?_⟩
     exact rfl
    ·rw [if_neg (fun h=>by have:=hq.2 h.2; rw [hqq] at this; cases this)] at hP
     subst hP
     refine ⟨_,rfl,?_⟩
     refine ⟨_,rfl,?_⟩
     exact rfl
end
section
theorem cut_app {a r:List UInt8} (h:∀ b∈a,b≠32):Lib.cut (a++32::r) [32]=(a,r,true):=by
 unfold Lib.cut
 rw [ZHM h,if_pos (by omega)]
 have e1:((a.length:Int)).toNat=a.length:=Int.toNat_natCast _
 rw [e1,List.take_left]
 have e2:(a++32::r).drop (a.length+([32]:List UInt8).length)=r:=by
  rw [show a++32::r=(a++[32])++r by simp]
  rw [show a.length+([32]:List UInt8).length=(a++[32]).length by simp,List.drop_left]
 rw [e2]
theorem ZI6 {s a b:ByteArray} (h:∀ x∈a.data.toList,x≠32) (hs:s.data.toList=a.data.toList++32::b.data.toList):ZEp s=a/\ZBS s=b/\ZAa s=a::ZAa b:=by
 refine ⟨inL ?_,inL ?_,?_⟩
 ·unfold ZEp
  rw [hs,cut_app h]
 ·unfold ZBS
  rw [hs,cut_app h]
 ·unfold ZAa
  rw [hs,ZBz h]
  rfl
theorem numT_ne {n:Int} (h:0<=n):numT n≠endB:=fun e=>by
 have h1:=ZFd n
 rw [e] at h1
 unfold Lib.itoa at h1
 rw [if_neg (by omega)] at h1
 have:=(ZB2 n.toNat).2.1 101 (by rw [<- h1]; decide)
 unfold isDg at this
 exact absurd this.2 (by decide)
theorem ZGh {k n:Int} (h:evOk k n=true):∃ (w r:ByteArray),(evT k n).data.toList=w.data.toList++32::r.data.toList/\(∀ x∈w.data.toList,x≠32)/\(∀ x∈r.data.toList,x≠32) /\
  ((w=cliW/\k=1/\r=numT n/\r≠endB/\∃ m:Nat,n=m/\m<=1048576) \/ (w=upsW/\k=3/\r=numT n/\r≠endB/\∃ m:Nat,n=m/\m<=1048576) \/ (w=cliW/\k=2/\n=0/\r=endB) \/ (w=upsW/\k=4/\n=0/\r=endB)):=by
 have hc:∀ x∈cliW.data.toList,x≠32:=by decide
 have hu:∀ x∈upsW.data.toList,x≠32:=by decide
 have he:∀ x∈endB.data.toList,x≠32:=by decide
 rcases ZF0 h with ⟨rfl | rfl,h0,h1⟩ | ⟨rfl | rfl,rfl⟩
 ·exact ⟨cliW,numT n,by show (cliB++numT n).data.toList=_; rw [ZAp]; rfl,hc,fun x hx=>(ZC6 x hx).2,.inl ⟨rfl,rfl,rfl,numT_ne h0,n.toNat,by omega,by omega⟩⟩
 ·exact ⟨upsW,numT n,by show (upsB++numT n).data.toList=_; rw [ZAp]; rfl,hu,fun x hx=>(ZC6 x hx).2,.inr (.inl ⟨rfl,rfl,rfl,numT_ne h0,n.toNat,by omega,by omega⟩)⟩
 ·exact ⟨cliW,endB,by decide +kernel,hc,he,.inr (.inr (.inl ⟨rfl,rfl,rfl,rfl⟩))⟩
 ·exact ⟨upsW,endB,by decide +kernel,hu,he,.inr (.inr (.inr ⟨rfl,rfl,rfl,rfl⟩))⟩
theorem evP_of {k n:Int} (h:evOk k n=true):evP (evT k n)=some (k,n):=by
 obtain ⟨w,r,e,hw,hr,hc⟩:=ZGh h
 obtain ⟨c1,c2,_⟩:=ZI6 hw e
 have hE:evE (evT k n)=(k,n):=by
  unfold evE evK
  rw [c1,c2]
  rcases hc with ⟨rfl,rfl,rfl,hne,m,rfl,hm⟩ | ⟨rfl,rfl,rfl,hne,m,rfl,hm⟩ | ⟨rfl,rfl,rfl,rfl⟩ | ⟨rfl,rfl,rfl,rfl⟩
  ·rw [if_neg hne,ZFf hm,if_neg (by decide)]
  ·rw [if_neg hne,ZFf hm,if_pos rfl]
  ·rw [if_pos rfl,if_neg (by decide)]; rfl
  ·rw [if_pos rfl,if_pos rfl]; rfl
 unfold evP
 rw [hE]
 exact if_pos ⟨h,rfl⟩
theorem ZMs {s:ByteArray} {k n:Int} (h:evP s=some (k,n)):evOk k n=true/\s=evT k n:=by
 unfold evP at h
 split at h
 ·rename_i hc
  have e:evE s=(k,n):=Option.some.inj h
  rw [e] at hc
  exact ⟨hc.1,hc.2.symm⟩
 ·cases h
def ZLU (a b:ByteArray):Option (Int × Int):=if a=cliW \/ a=upsW then
  if b=endB then some ((if a=upsW then 3 else 1)+1,0)
  else if (ZA6 10 b 1048576).2=0/\numT (ZA6 10 b 1048576).1=b then some (if a=upsW then 3 else 1,(ZA6 10 b 1048576).1) else none
 else none
def ev45:List ByteArray->Option (Int × Int)
 | [a,b]=>ZLU a b
 | _=>none
theorem cutL_two {c:UInt8} {s x y:List UInt8} (h:cutL c s=[x,y]):s=x++c::y:=by
 by_cases hm:c∈s
 ·obtain ⟨a,r,rfl,ha⟩:=List.eq_append_cons_of_mem hm
  rw [ZBz (fun b hb e=>by subst e; exact ha hb)] at h
  obtain ⟨rfl,h2⟩:=List.cons.inj h
  by_cases hr:c∈r
  ·obtain ⟨a2,r2,rfl,ha2⟩:=List.eq_append_cons_of_mem hr
   rw [ZBz (fun b hb e=>by subst e; exact ha2 hb)] at h2
   have h3:=(List.cons.inj h2).2
   cases r2 with
   | nil=>cases h3
   | cons z r3 =>
    unfold cutL at h3
    split at h3
    ·cases h3
    ·split at h3 <;> cases h3
  ·rw [ZCP (fun b hb e=>by subst e; exact hr hb)] at h2
   rw [(List.cons.inj h2).1]
 ·rw [ZCP (fun b hb e=>by subst e; exact hm hb)] at h
  cases (List.cons.inj h).2
theorem words_two {s a b:ByteArray} (h:ZAa s=[a,b]):s.data.toList=a.data.toList++32::b.data.toList:=by
 unfold ZAa at h
 cases hc:cutL 32 s.data.toList with
 | nil=>rw [hc] at h; cases h
 | cons x l =>
  cases l with
  | nil=>rw [hc] at h; cases h
  | cons y l =>
   cases l with
   | nil =>
    rw [hc] at h
    cases h
    exact cutL_two hc
   | cons z l=>rw [hc] at h; cases h
theorem ZEz (b:ByteArray):ZA6 10 b 1048576=(0,2) \/ ZA6 10 b 1048576=(0,7) \/ ∃ m:Nat,m<=1048576/\ZA6 10 b 1048576=((m:Int),0):=by
 unfold ZA6
 split
 ·exact .inl rfl
 ·split
  ·exact .inr (.inl rfl)
  ·exact .inr (.inr ⟨_,by omega,rfl⟩)
theorem ZM4 {a b:ByteArray} {k n:Int} (h:ZLU a b=some (k,n)):evOk k n=true/\(evT k n).data.toList=a.data.toList++32::b.data.toList:=by
 unfold ZLU at h
 split at h
 ·rename_i ha
  split at h
  ·rename_i hb
   subst hb
   cases h
   rcases ha with rfl | rfl
   ·rw [if_neg (by decide)]; exact ⟨by decide,by decide +kernel⟩
   ·rw [if_pos rfl]; exact ⟨by decide,by decide +kernel⟩
  ·split at h
   ·rename_i hr
    rcases ZEz b with e | e | ⟨m,hm,e⟩
    iterate 2
     ·rw [e] at hr; exact absurd hr.1 (by decide)
    ·rw [e] at hr h
     cases h
     have hk:∀ k,k=1 \/ k=3->evOk k (m:Int)=true:=fun k hk=>by
      rw [ZG8 hk,decide_eq_true (by omega),decide_eq_true (by omega)]; rfl
     have hb:numT (m:Int)=b:=hr.2
     rcases ha with rfl | rfl
     ·rw [if_neg (by decide),<- hb]
      refine ⟨hk _ (.inl rfl),?_⟩
      show (cliB++numT (m:Int)).data.toList=_
      rw [ZAp]; rfl
     ·rw [if_pos rfl,<- hb]
      refine ⟨hk _ (.inr rfl),?_⟩
      show (upsB++numT (m:Int)).data.toList=_
      rw [ZAp]; rfl
   ·cases h
 ·cases h
theorem ev45_eq (s:ByteArray):ev45 (ZAa s)=evP s:=by
 cases hp:evP s with
 | some x =>
  obtain ⟨k,n⟩:=x
  obtain ⟨h,rfl⟩:=ZMs hp
  obtain ⟨w,r,e,hw,hr,hc⟩:=ZGh h
  obtain ⟨_,_,c3⟩:=ZI6 hw e
  have c4:ZAa r=[r]:=by
   unfold ZAa
   rw [ZCP hr]
   rfl
  rw [c3,c4]
  show ZLU w r=_
  unfold ZLU
  rcases hc with ⟨rfl,rfl,rfl,hne,m,rfl,hm⟩ | ⟨rfl,rfl,rfl,hne,m,rfl,hm⟩ | ⟨rfl,rfl,rfl,rfl⟩ | ⟨rfl,rfl,rfl,rfl⟩
  ·rw [if_pos (.inl rfl),if_neg hne,ZFf hm,if_pos ⟨rfl,rfl⟩,if_neg (by decide)]
  ·rw [if_pos (.inr rfl),if_neg hne,ZFf hm,if_pos ⟨rfl,rfl⟩,if_pos rfl]
  ·rw [if_pos (.inl rfl),if_pos rfl,if_neg (by decide)]; rfl
  ·rw [if_pos (.inr rfl),if_pos rfl,if_pos rfl]; rfl
 | none =>
  cases hq:ev45 (ZAa s) with
  | none=>rfl
  | some x =>
   obtain ⟨k,n⟩:=x
   unfold ev45 at hq
   split at hq
   ·rename_i a b hl
    obtain ⟨h1,h2⟩:=ZM4 hq
    have e:s=evT k n:=inL (by rw [h2,words_two hl])
    rw [e,evP_of h1] at hp
    cases hp
   ·cases hq
end
section
theorem ev45_no {l:List ByteArray} (h:l.length≠2):ev45 l=none:=by
 unfold ev45
 split
 ·exact absurd rfl h
 ·rfl
theorem ZJl (s:ByteArray) (hs:s.size<=4000000000):ZAC Tryz.prog 123 [.s s] (.tup [.agg (evR (evP s)),.i (evRI (evP s))]) []:=by
 have hmx:maxLen=9223372036854775807:=rfl
 have hp:=ZJt s hs
 have hQ:=(ev45_eq s).symm
 have hz:∀ x∈ZAa s,x.size<=s.size:=fun x hx=>ZEk hx
 generalize evP s=P at *
 generalize ZAa s=l at *
 have el:=ZAH l
 refine ZAC.of rfl (ZAB.of_vc T_ok mixed Tryz.func123 rfl Tryz.call123 ?_)
 refine .p rfl hp ?_
 refine ZAA (fun h1=>?_) (fun h1=>?_)
 ·have h1:¬ ((strL l).length:Int)=2:=bne_iff_ne.1 h1
  rw [ev45_no (by omega)] at hQ
  subst hQ
  refine ⟨_,rfl,?_⟩
  refine ⟨_,rfl,?_⟩
  exact rfl
 have h1:((strL l).length:Int)=2:=bne_eq_false_iff_eq.1 h1
 have h2:l.length=2:=by omega
 match l,h2 with
 | [a,b],_ =>
  have zb:=hz b (by simp)
  have hrd:=r3Read_p 10 (by decide) (by decide) b (by omega) 1048576 (by decide)
  clear hp hz el h1
  have hQ:P=ZLU a b:=hQ
  unfold ZLU at hQ
  refine ⟨0,_,rfl,rfl,?_⟩
  intro q hq
  cases hqq:q
  ·have ha:a=cliW:=hq.1 hqq
   have hk:(if a=upsW then (3:Int) else 1)=1:=if_neg (by rw [ha]; decide)
   rw [if_pos (.inl ha),hk] at hQ
   refine ⟨0,_,rfl,rfl,?_⟩
   intro q3 hq3
   cases hqq3:q3
   rotate_left
   ·have:=hq3.1 hqq3
    rw [ha] at this
    exact absurd this (by decide)
   refine ⟨1,_,rfl,rfl,?_⟩
   intro q5 hq5
   cases hb:q5
   rotate_left
   ·have hbe:b=endB:=hq5.1 hb
    rw [if_pos hbe] at hQ
    subst hQ
    intro c hc
    obtain rfl:c=1+1:=hc.trans (by decide)
    refine ⟨_,rfl,?_⟩
    refine ⟨_,rfl,?_⟩
    exact rfl
   have hbe:¬ b=endB:=fun e=>by have:=hq5.2 e; rw [hb] at this; cases this
   rw [if_neg hbe] at hQ
   refine ⟨1,_,rfl,rfl,?_⟩
   refine .p rfl hrd ?_
   rcases ZEz b with e | e | ⟨m,hm,e⟩
   iterate 2
    ·rw [e] at hQ ⊢
     rw [if_neg (fun h=>absurd h.1 (by decide))] at hQ
     subst hQ
     refine .x (by kernel_rfl) ?_
     refine ⟨_,rfl,?_⟩
     refine ⟨_,rfl,?_⟩
     exact rfl
   ·rw [e] at hQ ⊢
    refine .x (by kernel_rfl) ?_
    have hq:=ZEU m (by omega)
    rw [show digB 10 m=numT (m:Int) from (ZES (n:=(m:Int)) (by omega)).symm] at hq
    refine .p rfl hq ?_
    refine ⟨1,_,rfl,rfl,?_⟩
    intro q6 hq6
    cases hqq6:q6
    ·rw [if_pos ⟨rfl,hq6.1 hqq6⟩] at hQ
     subst hQ
     refine ⟨_,rfl,?_⟩
     refine ⟨_,rfl,?_⟩
     exact rfl
    ·rw [if_neg (fun h=>by have:=hq6.2 h.2; rw [hqq6] at this; cases this)] at hQ
     subst hQ
     refine ⟨_,rfl,?_⟩
     refine ⟨_,rfl,?_⟩
     exact rfl
  ·have ha:¬ a=cliW:=fun e=>by have:=hq.2 e; rw [hqq] at this; cases this
   refine ⟨0,_,rfl,rfl,?_⟩
   intro q3 hq3
   cases hqq3:q3
   rotate_left
   ·have hu:¬ a=upsW:=fun e=>by have:=hq3.2 e; rw [hqq3] at this; cases this
    rw [if_neg (fun h=>by
     rcases h with h | h
     ·exact ha h
     ·exact hu h)] at hQ
    subst hQ
    refine ⟨_,rfl,?_⟩
    refine ⟨_,rfl,?_⟩
    exact rfl
   have hu:a=upsW:=hq3.1 hqq3
   have hk:(if a=upsW then (3:Int) else 1)=3:=if_pos hu
   rw [if_pos (.inr hu),hk] at hQ
   refine ⟨0,_,rfl,rfl,?_⟩
   intro q4 hq4
   cases hqq4:q4
   ·exact absurd (hq4.2 hu) (by rw [hqq4]; decide)
   refine ⟨1,_,rfl,rfl,?_⟩
   intro q5 hq5
   cases hb:q5
   rotate_left
   ·have hbe:b=endB:=hq5.1 hb
    rw [if_pos hbe] at hQ
    subst hQ
    intro c hc
    obtain rfl:c=3+1:=hc.trans (by decide)
    refine ⟨_,rfl,?_⟩
    refine ⟨_,rfl,?_⟩
    exact rfl
   have hbe:¬ b=endB:=fun e=>by have:=hq5.2 e; rw [hb] at this; cases this
   rw [if_neg hbe] at hQ
   refine ⟨1,_,rfl,rfl,?_⟩
   refine .p rfl hrd ?_
   rcases ZEz b with e | e | ⟨m,hm,e⟩
   iterate 2
    ·rw [e] at hQ ⊢
     rw [if_neg (fun h=>absurd h.1 (by decide))] at hQ
     subst hQ
     refine .x (by kernel_rfl) ?_
     refine ⟨_,rfl,?_⟩
     refine ⟨_,rfl,?_⟩
     exact rfl
   ·rw [e] at hQ ⊢
    refine .x (by kernel_rfl) ?_
    have hq:=ZEU m (by omega)
    rw [show digB 10 m=numT (m:Int) from (ZES (n:=(m:Int)) (by omega)).symm] at hq
    refine .p rfl hq ?_
    refine ⟨1,_,rfl,rfl,?_⟩
    intro q6 hq6
    cases hqq6:q6
    ·rw [if_pos ⟨rfl,hq6.1 hqq6⟩] at hQ
     subst hQ
     refine ⟨_,rfl,?_⟩
     refine ⟨_,rfl,?_⟩
     exact rfl
    ·rw [if_neg (fun h=>by have:=hq6.2 h.2; rw [hqq6] at this; cases this)] at hQ
     subst hQ
     refine ⟨_,rfl,?_⟩
     refine ⟨_,rfl,?_⟩
     exact rfl
end
section
def onceB (k:Nat):Bool:=k == 0 || k == 3 || k == 5 || k == 6 || k == 7 || k == 8
theorem once_p (k:Nat) (h:k<=9):ZAC Tryz.prog 71 [.i k] (.b (onceB k)) []:=by
 obtain rfl | rfl | rfl | rfl | rfl | rfl | rfl | rfl | rfl | rfl:k=0 \/ k=1 \/ k=2 \/ k=3 \/ k=4 \/ k=5 \/ k=6 \/ k=7 \/ k=8 \/ k=9:=by omega
 all_goals
  refine ZAC.of rfl (ZAB.of_vc T_ok mixed Tryz.func71 rfl Tryz.call71 ?_)
  exact rfl
/-- may a line of a stage stand behind one of another stage? (the last one: one more than its stage, 0 for none) -/
def ZCU (l k:Nat):Bool:=match k with
 | 0=>l == 0
 | 1=>l == 1 || l == 2
 | 2=>l == 1 || l == 2 || l == 3
 | 3=>l == 1 || l == 2 || l == 3
 | 4=>l == 4 || l == 5
 | 5=>l == 4 || l == 5
 | 6=>l == 6
 | 9=>decide (7<=l)
 | k=>decide (7<=l) && decide (l<k+1)
theorem follows_p (l k:Nat) (hl:l<=10) (h:k<=9):ZAC Tryz.prog 46 [.i ((l:Int) - 1),.i k] (.b (ZCU l k)) []:=by
 obtain rfl | rfl | rfl | rfl | rfl | rfl | rfl | rfl | rfl | rfl:k=0 \/ k=1 \/ k=2 \/ k=3 \/ k=4 \/ k=5 \/ k=6 \/ k=7 \/ k=8 \/ k=9:=by omega
 all_goals
  obtain rfl | rfl | rfl | rfl | rfl | rfl | rfl | rfl | rfl | rfl | rfl:l=0 \/ l=1 \/ l=2 \/ l=3 \/ l=4 \/ l=5 \/ l=6 \/ l=7 \/ l=8 \/ l=9 \/ l=10:=by omega
  all_goals
   refine ZAC.of rfl (ZAB.of_vc T_ok mixed Tryz.func46 rfl Tryz.call46 ?_)
   exact rfl
end
section
def mustB (x:Nat):Bool:=x == 0 || x == 3 || x == 5 || x == 6
/-- may a line of a stage come, where this is the least that may? -/
def mayB (nx at':Nat):Bool:=decide (nx<=at') && (List.range at').all fun x=>decide (x<nx) || !mustB x
def ZCN (l:Nat):Nat:=match l with
 | 0=>0
 | l+1=>if onceB l=true then l+1 else l
theorem ZMx:∀ l:_root_.Fin 11,∀ k:_root_.Fin 10,mayB (ZCN l.1) k.1=ZCU l.1 k.1:=by decide +kernel
theorem ZIm {nx k x:Nat} (h1:nx<=x) (h2:x<k) (h3:mustB x=true):mayB nx k=false:=by
 unfold mayB
 rw [Bool.and_eq_false_iff]
 refine .inr (List.all_eq_false.2 ⟨x,List.mem_range.2 h2,?_⟩)
 rw [h3,decide_eq_false (by omega)]
 decide
theorem mayB_yes {nx k:Nat} (h1:nx<=k) (h:∀ x,nx<=x->x<k->mustB x=false):mayB nx k=true:=by
 unfold mayB
 rw [Bool.and_eq_true]
 refine ⟨decide_eq_true h1,List.all_eq_true.2 fun x hx=>?_⟩
 have hx:=List.mem_range.1 hx
 by_cases hn:x<nx
 ·rw [decide_eq_true hn]; rfl
 ·rw [h x (by omega) hx]; simp
theorem ZHn {st:St} {R:AV->St->Prop} {p:Nat} {c0 c1 c2 c3 c4 c5 c6 c7 c8 c9 c10 c11 c12 c13 c14:AV} (nx k:Nat) (hn:nx<=10) (hk:k<=9) (hp:st.heap[p]? = some [c0,c1,c2,c3,c4,c5,c6,c7,c8,c9,c10,c11,c12,c13,c14,.i nx])
  (h:R (.b (mayB nx k)) st):ZAB Tryz.prog 70 [.ptr p 0,.i k] st R:=by
 refine ZAB.of_vc T_ok mixed Tryz.func70 rfl Tryz.call70 ?_
 refine ⟨_,hp,?_⟩
 refine ZAA (fun hd=>?_) (fun hd=>?_)
 ·have hd:=of_decide_eq_true hd
  have hm:mayB nx k=false:=by unfold mayB; rw [decide_eq_false (by omega)]; rfl
  rw [hm] at h
  exact h
 have hd:=of_decide_eq_false hd
 refine ⟨_,hp,?_⟩
 refine ZAF [5] (fun g vals st'=>∃ x:Nat,x+g=k/\vals=[.i x]/\st=st'/\nx<=x/\∀ y,nx<=y->y<x->mustB y=false) (k - nx) rfl ⟨nx,by omega,rfl,rfl,Nat.le_refl _,fun y h1 h2=>by omega⟩ ?_
 rintro g vals st1 ⟨x,hx,rfl,rfl,h1,hall⟩
 refine ZAA (fun hd2=>?_) (fun hd2=>?_)
 ·have hd2:=of_decide_eq_true hd2
  refine ZAA (fun a=>?_) (fun a=>?_)
  ·have a:x=0:=by have a:(x:Int)=0:=beq_iff_eq.1 a; omega
   have hm:=ZIm (nx:=nx) (k:=k) h1 (show x<k by omega) (by subst a; rfl)
   rw [hm] at h
   exact h
  have a0:¬ x=0:=fun e=>by rw [e] at a; exact absurd a (by decide)
  refine ZAA (fun a=>?_) (fun a=>?_)
  ·have a:x=3:=by have a:(x:Int)=3:=beq_iff_eq.1 a; omega
   have hm:=ZIm (nx:=nx) (k:=k) h1 (show x<k by omega) (by subst a; rfl)
   rw [hm] at h
   exact h
  have a3:¬ x=3:=fun e=>by rw [e] at a; exact absurd a (by decide)
  refine ZAA (fun a=>?_) (fun a=>?_)
  ·have a:x=5:=by have a:(x:Int)=5:=beq_iff_eq.1 a; omega
   have hm:=ZIm (nx:=nx) (k:=k) h1 (show x<k by omega) (by subst a; rfl)
   rw [hm] at h
   exact h
  have a5:¬ x=5:=fun e=>by rw [e] at a; exact absurd a (by decide)
  refine ZAA (fun a=>?_) (fun a=>?_)
  ·have a:x=6:=by have a:(x:Int)=6:=beq_iff_eq.1 a; omega
   have hm:=ZIm (nx:=nx) (k:=k) h1 (show x<k by omega) (by subst a; rfl)
   rw [hm] at h
   exact h
  have a6:¬ x=6:=fun e=>by rw [e] at a; exact absurd a (by decide)
  intro c hc
  rw [IntWalk.i64_in _ (by omega)] at hc
  obtain rfl:c=((x+1:Nat):Int):=by omega
  refine ⟨g - 1,by omega,x+1,by omega,rfl,rfl,by omega,fun y q1 q2=>?_⟩
  by_cases e:y=x
  ·subst e
   simp [mustB,a0,a3,a5,a6]
  ·exact hall y q1 (by omega)
 ·have hd2:=of_decide_eq_false hd2
  have hm:=mayB_yes (nx:=nx) (k:=k) (by omega) (fun y q1 q2=>hall y q1 (by omega))
  rw [hm] at h
  exact h
end
section
def swapE:List ByteArray × Bool->(ByteArray × ByteArray) × Bool
 | ([a,b],true)=>((a,b),true)
 | _=>((⟨#[]⟩,⟨#[]⟩),false)
def ZHK (s w:ByteArray):(ByteArray × ByteArray) × Bool:=swapE (ZAu s w 2)
theorem swap_p (s w:ByteArray) (hs:s.size<=1099511627776):ZAC Tryz.prog 113 [.s s,.s w] (.tup [.agg [.s (ZHK s w).1.1,.s (ZHK s w).1.2],.b (ZHK s w).2]) []:=by
 have hp:=ZI5 s w 2 (by decide) hs
 have hF:ZHK s w=swapE (ZAu s w 2):=rfl
 have hT:=ZCi (s:=s) (w:=w) (n:=2)
 generalize ZHK s w=F at *
 generalize ZAu s w 2=W at *
 obtain ⟨l,ok⟩:=W
 cases ok
 ·have hF:F=((⟨#[]⟩,⟨#[]⟩),false):=by
   rw [hF]
   unfold swapE
   split
   ·rename_i e; cases e
   ·rfl
  subst hF
  refine ZAC.of rfl (ZAB.of_vc T_ok mixed Tryz.func113 rfl Tryz.call113 ?_)
  refine .p rfl hp ?_
  refine ⟨_,rfl,?_⟩
  refine ⟨_,rfl,?_⟩
  exact rfl
 ·have h2:l.length=2:=(hT rfl).2
  match l,h2 with
  | [a,b],_ =>
   have hF:F=((a,b),true):=hF
   subst hF
   refine ZAC.of rfl (ZAB.of_vc T_ok mixed Tryz.func113 rfl Tryz.call113 ?_)
   refine .p rfl hp ?_
   refine .e (by kernel_rfl) ?_
   refine ⟨0,_,rfl,rfl,?_⟩
   refine ⟨1,_,rfl,rfl,?_⟩
   refine ⟨_,rfl,?_⟩
   refine ⟨_,rfl,?_⟩
   exact rfl
end
end Go.Proofs.YticbonkojpabnaaGreatDoor
