/- CommasSplits: the document's reading of quoted texts and comments, its trim. No statement of its own. -/
import Derived.Test.YticbonkojpabnaaGreatDoorSSb
import Derived.Test.YticbonkojpabnaaGreatDoorSFoP
set_option linter.unusedSimpArgs false
set_option linter.unusedVariables false
set_option maxRecDepth 100000
namespace Go.Proofs.YticbonkojpabnaaGreatDoor
open Go.RowKit
theorem ZFg (n:Int) (h0:0<=n) (h1:n<=255):ZAC Tryz.prog 104 [.int .u8 n] (.b (valI n)) []:=by
 have e:valI n=r1valI n:=by
  obtain ⟨m,rfl⟩:=Int.eq_ofNat_of_zero_le h0
  exact (valI_eq m (by omega)).symm
 rw [e]
 refine ZAC.of rfl (ZAB.of_vc T_ok mixed Tryz.func104 rfl Tryz.call104 ?_)
 unfold r1valI
 refine ZAA (fun h=>?_) (fun h=>?_)
 ·have h:=of_decide_eq_true h
  rw [show decide (32<=n)=true from decide_eq_true h]
  refine ZAA (fun h2=>?_) (fun h2=>?_)
  ·exact retb (by rw [show (n == 127)=false by simpa using h2]; rfl)
  ·exact retb (by rw [show (n == 127)=true by simpa using h2]; rfl)
 ·have h:=of_decide_eq_false h
  rw [show decide (32<=n)=false from decide_eq_false h]
  exact retb rfl
theorem front5_p (s:ByteArray) (hs:s.size<=1099511627776):ZAC Tryz.prog 236 [.s s] (.tup [.s (ZEG s).1,.i (ZEG s).2]) []:=by
 have hmx:maxLen=9223372036854775807:=rfl
 have hF:ZAw s 0=if atB s 0 34=true then ZBQ s 1 [] else none:=rfl
 have bad:ZAw s 0=none->ZEG s=(⟨#[]⟩,0):=fun h=>by unfold ZEG; rw [h]
 have good:∀ v j,ZAw s 0=some (v,j)->ZEG s=(⟨v.toArray⟩,(j:Int)):=fun v j h=>by unfold ZEG; rw [h]
 generalize ZAw s 0=F at *
 generalize ZEG s=G at *
 refine ZAC.of (by cases G; rfl) ?_
 refine ZAB.of_vc T_ok mixed Tryz.func236 rfl Tryz.call236 ?_
 refine ZAA (fun h0=>?_) (fun h0=>?_)
 ·have h0:s.size=0:=by
   have:((s.size:Int) == 0)=true:=h0
   have:=beq_iff_eq.1 this
   omega
  rw [ZCY (by omega),if_neg (by decide)] at hF
  rw [bad hF]; rfl
 ·have h0:0<s.size:=by
   have:((s.size:Int) == 0)=false:=h0
   have:=beq_eq_false_iff_ne.1 this
   omega
  refine ⟨0,h0,rfl,?_⟩
  have e34:=ZAj h0 34
  refine ZAA (fun h1=>?_) (fun h1=>?_)
  ·have h1:((s[0].toNat:Int) == 34)=false:=by rw [bne,Bool.not_eq_true'] at h1; exact h1
   rw [e34,h1,if_neg (by decide)] at hF
   rw [bad hF]; rfl
  ·have h1:((s[0].toNat:Int) == 34)=true:=by rw [bne,Bool.not_eq_false'] at h1; exact h1
   rw [e34,h1,if_pos rfl] at hF
   refine ZAF [4,5] (fun g vals st'=>∃ (k:Nat) (acc:List UInt8),k+g=s.size/\vals=[.s ⟨acc.toArray⟩,.i k]/\acc.length<=k/\ZBQ s k acc=F) (s.size - 1) rfl ⟨1,[],by omega,rfl,by simp,hF.symm⟩ ?_
   rintro g vals st' ⟨k,acc,hk,rfl,hac,hW⟩
   refine ZAA (fun hd=>?_) (fun hd=>?_)
   ·have hd:=of_decide_eq_true hd
    have k1:k<s.size:=by omega
    refine ⟨k,k1,rfl,?_⟩
    have q34:=ZAj k1 34
    refine ZAA (fun h2=>?_) (fun h2=>?_)
    ·rw [ZBf acc (q34.trans h2)] at hW
     intro c hc
     rw [IntWalk.i64_in _ (by omega)] at hc
     subst hc
     rw [good _ _ hW.symm]; rfl
    ·have h34:atB s k 34=false:=q34.trans h2
     refine ⟨k,k1,rfl,?_⟩
     have q92:=ZAj k1 92
     have go:∀ i:Nat,(if atB s k 92=true then k+1 else k)=i->nxt s k=match s.data.toList[i]? with | some b=>if valI (b.toNat:Int)=true then some (b,i+1) else none | none=>none:=fun i hi=>by unfold nxt; rw [hi]; rfl
     refine ZAA (fun h3=>?_) (fun h3=>?_)
     ·have hi:=go (k+1) (by rw [q92]; rw [show ((s[k].toNat:Int) == 92)=true from h3]; rfl)
      intro c hc
      rw [IntWalk.i64_in _ (by omega)] at hc
      obtain rfl:c=((k+1:Nat):Int):=by omega
      refine ZAA (fun h4=>?_) (fun h4=>?_)
      ·have h4:(k+1:Nat)=s.size:=by
        have:=beq_iff_eq.1 h4
        omega
       rw [List.getElem?_eq_none (by rw [blen]; omega)] at hi
       rw [ZAy acc h34 hi] at hW
       rw [bad hW.symm]; rfl
      ·have h4:¬ (k+1:Nat)=s.size:=by
        have:=beq_eq_false_iff_ne.1 h4
        omega
       have hlt:k+1<s.size:=by omega
       rw [ZDp hlt] at hi
       simp only at hi
       refine ⟨k+1,hlt,rfl,?_⟩
       refine .p rfl (ZFg _ (by omega) (by have:=(s[k+1]'hlt).toNat_lt; omega)) ?_
       refine ZAA (fun h5=>?_) (fun h5=>?_)
       ·rw [Bool.not_eq_true'] at h5
        rw [h5,if_neg (by decide)] at hi
        rw [ZAy acc h34 hi] at hW
        rw [bad hW.symm]; rfl
       ·rw [Bool.not_eq_false'] at h5
        rw [h5,if_pos rfl] at hi
        rw [ZA2 acc h34 hi] at hW
        have ez:(⟨acc.toArray⟩:ByteArray).size=acc.length:=by show (Array.size _)=_; rw [List.size_toArray]
        have ex:=ZBb s (k+1) (k+1+1) (by omega)
        intro c hc
        rw [IntWalk.i64_in _ (by omega)] at hc
        obtain rfl:c=((k+1+1:Nat):Int):=by omega
        refine ⟨k+1+1,rfl,k+1,rfl,by omega,by omega,?_⟩
        refine ⟨by omega,?_⟩
        intro c hc
        rw [IntWalk.i64_in _ (by omega)] at hc
        obtain rfl:c=((k+1+1:Nat):Int):=by omega
        refine ⟨s.size - (k+1+1),by omega,k+1+1,acc++[s[k+1]],by omega,?_,by simp; omega,hW⟩
        have:(⟨acc.toArray⟩:ByteArray)++s.extract (k+1) (k+1+1)=⟨(acc++[s[k+1]]).toArray⟩:=by
         rw [ext1 s _ hlt]
         apply inL
         rw [ZAp]
        rw [<- this]; rfl
     ·have hi:=go k (by rw [q92]; rw [show ((s[k].toNat:Int) == 92)=false from h3]; rfl)
      refine ZAA (fun h4=>?_) (fun h4=>?_)
      ·have h4:(k:Nat)=s.size:=by
        have:=beq_iff_eq.1 h4
        omega
       rw [List.getElem?_eq_none (by rw [blen]; omega)] at hi
       rw [ZAy acc h34 hi] at hW
       rw [bad hW.symm]; rfl
      ·have h4:¬ (k:Nat)=s.size:=by
        have:=beq_eq_false_iff_ne.1 h4
        omega
       have hlt:k<s.size:=by omega
       rw [ZDp hlt] at hi
       simp only at hi
       refine ⟨k,hlt,rfl,?_⟩
       refine .p rfl (ZFg _ (by omega) (by have:=(s[k]'hlt).toNat_lt; omega)) ?_
       refine ZAA (fun h5=>?_) (fun h5=>?_)
       ·rw [Bool.not_eq_true'] at h5
        rw [h5,if_neg (by decide)] at hi
        rw [ZAy acc h34 hi] at hW
        rw [bad hW.symm]; rfl
       ·rw [Bool.not_eq_false'] at h5
        rw [h5,if_pos rfl] at hi
        rw [ZA2 acc h34 hi] at hW
        have ez:(⟨acc.toArray⟩:ByteArray).size=acc.length:=by show (Array.size _)=_; rw [List.size_toArray]
        have ex:=ZBb s (k) (k+1) (by omega)
        intro c hc
        rw [IntWalk.i64_in _ (by omega)] at hc
        obtain rfl:c=((k+1:Nat):Int):=by omega
        refine ⟨k+1,rfl,k,rfl,by omega,by omega,?_⟩
        refine ⟨by omega,?_⟩
        intro c hc
        rw [IntWalk.i64_in _ (by omega)] at hc
        obtain rfl:c=((k+1:Nat):Int):=by omega
        refine ⟨s.size - (k+1),by omega,k+1,acc++[s[k]],by omega,?_,by simp; omega,hW⟩
        have:(⟨acc.toArray⟩:ByteArray)++s.extract (k) (k+1)=⟨(acc++[s[k]]).toArray⟩:=by
         rw [ext1 s _ hlt]
         apply inL
         rw [ZAp]
        rw [<- this]; rfl
   ·have hd:=of_decide_eq_false hd
    have hN:nxt s k=none:=by
     unfold nxt
     rw [ZCY (by omega),if_neg (by decide),List.getElem?_eq_none (by rw [blen]; omega)]
    rw [ZAy acc (ZCY (by omega) _) hN] at hW
    rw [bad hW.symm]; rfl
theorem trim6_p (s:ByteArray) (hs:s.size<=1099511627776):ZAC Tryz.prog 180 [.s s] (.s (ZJB s spcS)) []:=by
 have hmx:maxLen=9223372036854775807:=rfl
 refine ZAC.of rfl (ZAB.of_vc T_ok mixed Tryz.func180 rfl Tryz.call180 ?_)
 refine ZAF [0] (fun g vals st'=>∃ (p:Nat) (x:ByteArray),p+g=s.size/\vals=[.s x]/\x=s.extract p s.size/\∀ i,i<p->bkAt s i=true) s.size rfl ⟨0,s,by omega,rfl,by rw [ByteArray.extract_zero_size],fun i h=>by omega⟩ ?_
 rintro g vals st' ⟨p,x,hp,rfl,hx,ha⟩
 have ez:x.size=s.size - p:=by rw [hx]; exact ZBb s p s.size (Nat.le_refl _)
 have hb:∀ hi:0<x.size,blkI (x[0].toNat:Int)=bkAt s p:=fun hi=>by
  subst hx
  rw [<- ZDU hi,ext_bk (by omega) (Nat.le_refl _),Nat.add_zero]
 refine ZAA (fun h1=>?_) (fun h1=>?_)
 ·have h1:=of_decide_eq_true h1
  have hps:p<s.size:=by omega
  refine ⟨0,by omega,rfl,?_⟩
  refine .p rfl (ZE3 _) ?_
  have hb1:=hb (by omega)
  refine ZAA (fun h2=>?_) (fun h2=>?_)
  ·refine ⟨1,rfl,by omega,Nat.le_refl _,?_⟩
   refine ⟨g - 1,by omega,p+1,_,by omega,rfl,?_,fun i hi=>?_⟩
   ·rw [hx,ZLf s p 1]
   ·by_cases e:i=p
    ·rw [e,<- hb1]; exact h2
    ·exact ha i (by omega)
  ·have hstop:p<s.size->bkAt s p=false:=fun _=>by rw [<- hb1]; exact h2
   refine ZAF [0] (fun g2 vals st2=>∃ (q:Nat) (y:ByteArray),q=p+g2/\q<=s.size/\vals=[.s y]/\y=s.extract p q/\∀ i,q<=i->bkAt s i=true) (s.size - p) rfl ⟨s.size,x,by omega,by omega,rfl,hx,fun i hi=>ZKw hi⟩ ?_
   rintro g2 vals st2 ⟨q,y,hq,hqs,rfl,hy,hqb⟩
   have eq:y.size=q - p:=by rw [hy]; exact ZBb s p q hqs
   have fin:(p<q->bkAt s (q - 1)=false)->y=ZJB s spcS:=fun hl=>by
    rw [hy]
    by_cases hpq:p<q
    ·exact (ZMP hpq ha hqb (hstop (by omega)) (hl hpq)).symm
    ·have h1:=(ZAi _).2 (ZHL (s:=s) fun i=>if hi:i<p then ha i hi else hqb i (by omega))
     rw [h1]
     exact (ZAi _).2 (by rw [<- hy]; omega)
   have hb:∀ i (hi:i<y.size),blkI (y[i].toNat:Int)=bkAt s (p+i):=fun i hi=>by
    subst hy
    rw [<- ZDU hi,ext_bk (by omega) hqs]
   refine ZAA (fun h1=>?_) (fun h1=>?_)
   ·have h1:=of_decide_eq_true h1
    have hpq:p<q:=by omega
    intro c hc
    rw [IntWalk.i64_in _ (by omega)] at hc
    obtain rfl:c=((q - p - 1:Nat):Int):=by omega
    refine ⟨q - p - 1,by omega,rfl,?_⟩
    refine .p rfl (ZE3 _) ?_
    have hb1:=hb (q - p - 1) (by omega)
    rw [show p+(q - p - 1)=q - 1 by omega] at hb1
    refine ZAA (fun h2=>?_) (fun h2=>?_)
    ·intro c hc
     rw [IntWalk.i64_in _ (by omega)] at hc
     obtain rfl:c=((q - p - 1:Nat):Int):=by omega
     refine ⟨q - p - 1,rfl,Nat.zero_le _,by omega,?_⟩
     refine ⟨g2 - 1,by omega,q - 1,_,by omega,by omega,rfl,?_,fun i hi=>?_⟩
     ·rw [hy,ZMQ _ _ _ _ _ (by omega),Nat.add_zero,show p+(q - p - 1)=q - 1 by omega]
     ·by_cases e:i=q - 1
      ·rw [e,<- hb1]; exact h2
      ·exact hqb i (by omega)
    ·exact rets (fin fun _=>by rw [<- hb1]; exact h2)
   ·have h1:=of_decide_eq_false h1
    exact rets (fin fun h=>by omega)
 ·have h1:=of_decide_eq_false h1
  have hstop:p<s.size->bkAt s p=false:=fun h=>by omega
  refine ZAF [0] (fun g2 vals st2=>∃ (q:Nat) (y:ByteArray),q=p+g2/\q<=s.size/\vals=[.s y]/\y=s.extract p q/\∀ i,q<=i->bkAt s i=true) (s.size - p) rfl ⟨s.size,x,by omega,by omega,rfl,hx,fun i hi=>ZKw hi⟩ ?_
  rintro g2 vals st2 ⟨q,y,hq,hqs,rfl,hy,hqb⟩
  have eq:y.size=q - p:=by rw [hy]; exact ZBb s p q hqs
  have fin:(p<q->bkAt s (q - 1)=false)->y=ZJB s spcS:=fun hl=>by
   rw [hy]
   by_cases hpq:p<q
   ·exact (ZMP hpq ha hqb (hstop (by omega)) (hl hpq)).symm
   ·have h1:=(ZAi _).2 (ZHL (s:=s) fun i=>if hi:i<p then ha i hi else hqb i (by omega))
    rw [h1]
    exact (ZAi _).2 (by rw [<- hy]; omega)
  have hb:∀ i (hi:i<y.size),blkI (y[i].toNat:Int)=bkAt s (p+i):=fun i hi=>by
   subst hy
   rw [<- ZDU hi,ext_bk (by omega) hqs]
  refine ZAA (fun h1=>?_) (fun h1=>?_)
  ·have h1:=of_decide_eq_true h1
   have hpq:p<q:=by omega
   intro c hc
   rw [IntWalk.i64_in _ (by omega)] at hc
   obtain rfl:c=((q - p - 1:Nat):Int):=by omega
   refine ⟨q - p - 1,by omega,rfl,?_⟩
   refine .p rfl (ZE3 _) ?_
   have hb1:=hb (q - p - 1) (by omega)
   rw [show p+(q - p - 1)=q - 1 by omega] at hb1
   refine ZAA (fun h2=>?_) (fun h2=>?_)
   ·intro c hc
    rw [IntWalk.i64_in _ (by omega)] at hc
    obtain rfl:c=((q - p - 1:Nat):Int):=by omega
    refine ⟨q - p - 1,rfl,Nat.zero_le _,by omega,?_⟩
    refine ⟨g2 - 1,by omega,q - 1,_,by omega,by omega,rfl,?_,fun i hi=>?_⟩
    ·rw [hy,ZMQ _ _ _ _ _ (by omega),Nat.add_zero,show p+(q - p - 1)=q - 1 by omega]
    ·by_cases e:i=q - 1
     ·rw [e,<- hb1]; exact h2
     ·exact hqb i (by omega)
   ·exact rets (fin fun _=>by rw [<- hb1]; exact h2)
  ·have h1:=of_decide_eq_false h1
   exact rets (fin fun h=>by omega)

section
attribute [local irreducible] ZAn
end
theorem one_p (n:Int) (l:ByteArray):ZAC Tryz.prog 206 [.int .u8 n,.s l] (.b (decide (0<=Lib.indexByte l.data.toList n.toNat.toUInt8))) []:=by
 refine ZAC.of rfl (ZAB.of_vc T_ok mixed Tryz.func206 rfl Tryz.call206 ?_)
 refine .p rfl (ZEn l n) ?_
 exact retb rfl
def tokSB:ByteArray:=⟨#[33,35,36,37,38,39,42,43,45,46,94,95,96,124,126]⟩
theorem isToken_p (n:Int) (h0:0<=n) (h1:n<=255):ZAC Tryz.prog 168 [.int .u8 n] (.b (tokI n)) []:=by
 refine ZAC.of rfl (ZAB.of_vc T_ok mixed Tryz.func168 rfl Tryz.call168 ?_)
 unfold tokI
 refine .p rfl (isAlpha_p n h0 h1) ?_
 cases alpI n with
 | true =>
  exact retb rfl
 | false =>
  refine .p rfl (ZHm n) ?_
  cases digI n with
  | true=>exact retb rfl
  | false =>
   refine .p rfl (one_p n tokSB) ?_
   exact retb rfl
theorem ZKB:ZG0 168 tokI:=fun n h0 h1=>isToken_p n h0 h1
theorem ZMI {f:FuncId} {q:Int->Bool} (hq:ZG0 f q) (s:ByteArray) (hs:s.size<=maxLen):ZAC Tryz.prog 167 [.lit (.func (.func f) #[] #[]),.sl .no 1 [[.s s]]] (.b (allI q s)) []:=by
 unfold maxLen at hs
 refine ZAC.of rfl (ZAB.of_vc T_ok mixed Tryz.func167 rfl Tryz.call167 ?_)
 refine ZAF [10] (fun g vals st'=>(g=1/\vals=[.i 0]) \/ (g=0/\vals=[.i 1]/\allI q s=true)) 1 rfl (.inl ⟨rfl,rfl⟩) ?_
 rintro g vals st' (⟨rfl,rfl⟩ | ⟨rfl,rfl,ha⟩)
 ·refine ⟨0,_,rfl,rfl,?_⟩
  refine ZAF [16] (fun g2 vals st2=>∃ k:Nat,k+g2=s.size/\vals=[.i k]/\ARel q s k) s.size rfl ⟨0,by omega,rfl,fun j _ h=>absurd h (by omega)⟩ ?_
  rintro g2 vals st2 ⟨k,hk,rfl,hr⟩
  refine ZAA (fun hd=>?_) (fun hd=>?_)
  ·have hd:=of_decide_eq_true hd
   have k1:k<s.size:=by omega
   refine ⟨k,k1,rfl,?_⟩
   refine .p rfl (hq _ (by omega) (by have:=s[k].toNat_lt; omega)) ?_
   refine ZAA (fun h2=>?_) (fun h2=>?_)
   ·rw [Bool.not_eq_true'] at h2
    exact retb (ZB4 k1 h2).symm
   ·rw [Bool.not_eq_false'] at h2
    intro c hc
    rw [IntWalk.i64_in _ (by omega)] at hc
    obtain rfl:c=((k+1:Nat):Int):=by omega
    refine ⟨g2 - 1,by omega,k+1,by omega,rfl,fun j hj hjk=>?_⟩
    by_cases e:j=k
    ·subst e; exact h2
    ·exact hr j hj (by omega)
  ·have hd:=of_decide_eq_false hd
   intro c hc
   obtain rfl:c=1:=by rw [IntWalk.i64_in _ (by omega)] at hc; omega
   exact ⟨0,by omega,.inr ⟨rfl,rfl,ZB1 fun j hj=>hr j hj (by omega)⟩⟩
 ·exact retb ha.symm
theorem ZKp (s:ByteArray) (hs:s.size<=maxLen):ZAC Tryz.prog 132 [.s s] (.b (tokB s)) []:=by
 refine ZAC.of rfl (ZAB.of_vc T_ok mixed Tryz.func132 rfl Tryz.call132 ?_)
 unfold tokB
 intro t ht
 have h0:=ht.trans (ZAi s)
 cases t with
 | true =>
  have:0<s.size:=by
   apply Decidable.byContradiction
   intro hc
   have:=h0.2 (by omega)
   cases this
  rw [decide_eq_true this]
  refine .p rfl (ZMI ZKB s hs) ?_
  exact retb rfl
 | false =>
  have:s.size=0:=h0.1 rfl
  rw [show decide (0<s.size)=false by rw [decide_eq_false_iff_not]; omega]
  exact retb rfl
theorem in1_p (n:Int) (l:ByteArray) (hl:l.size<=maxLen):ZAC Tryz.prog 181 [.int .u8 n,.s l] (.b (inI l n)) []:=by
 unfold maxLen at hl
 refine ZAC.of rfl (ZAB.of_vc T_ok mixed Tryz.func181 rfl Tryz.call181 ?_)
 refine ZAF [5] (fun g vals st'=>∃ k:Nat,k+g=l.size/\vals=[.i k]/\∀ j (hj:j<l.size),j<k->((l[j].toNat:Int) == n)=false) l.size rfl ⟨0,by omega,rfl,fun j _ h=>absurd h (by omega)⟩ ?_
 rintro g vals st' ⟨k,hk,rfl,hr⟩
 refine ZAA (fun hd=>?_) (fun hd=>?_)
 ·have hd:=of_decide_eq_true hd
  have k1:k<l.size:=by omega
  refine ⟨k,k1,rfl,?_⟩
  refine ZAA (fun h2=>?_) (fun h2=>?_)
  ·exact retb (inI_true k1 h2).symm
  ·intro c hc
   rw [IntWalk.i64_in _ (by omega)] at hc
   obtain rfl:c=((k+1:Nat):Int):=by omega
   refine ⟨g - 1,by omega,k+1,by omega,rfl,fun j hj hjk=>?_⟩
   by_cases e:j=k
   ·subst e; exact h2
   ·exact hr j hj (by omega)
 ·have hd:=of_decide_eq_false hd
  exact retb (inI_false fun j hj=>hr j hj (by omega)).symm
theorem tok1_p (n:Int) (h0:0<=n) (h1:n<=255):ZAC Tryz.prog 141 [.int .u8 n] (.b (tokI n)) []:=by
 have e:tokI n=inI tokC n:=by
  obtain ⟨m,rfl⟩:=Int.eq_ofNat_of_zero_le h0
  exact (tokC_eq m (by omega)).symm
 rw [e]
 refine ZAC.of rfl (ZAB.of_vc T_ok mixed Tryz.func141 rfl Tryz.call141 ?_)
 exact .p rfl (in1_p n tokC (by decide)) rfl
theorem ZEV (s:ByteArray) (hs:s.size<=maxLen):ZAC Tryz.prog 100 [.s s] (.b (tokB s)) []:=by
 unfold maxLen at hs
 refine ZAC.of rfl (ZAB.of_vc T_ok mixed Tryz.func100 rfl Tryz.call100 ?_)
 refine ZAF [3] (fun g vals st'=>∃ k:Nat,k+g=s.size/\vals=[.i k]/\ARel tokI s k) s.size rfl ⟨0,by omega,rfl,fun j _ h=>absurd h (by omega)⟩ ?_
 rintro g vals st' ⟨k,hk,rfl,hr⟩
 unfold tokB
 refine ZAA (fun hd=>?_) (fun hd=>?_)
 ·have hd:=of_decide_eq_true hd
  have k1:k<s.size:=by omega
  refine ⟨k,k1,rfl,?_⟩
  refine .p rfl (tok1_p _ (by omega) (by have:=s[k].toNat_lt; omega)) ?_
  refine ZAA (fun h2=>?_) (fun h2=>?_)
  ·rw [Bool.not_eq_true'] at h2
   exact retb (by rw [ZB4 k1 h2,Bool.and_false])
  ·rw [Bool.not_eq_false'] at h2
   intro c hc
   rw [IntWalk.i64_in _ (by omega)] at hc
   obtain rfl:c=((k+1:Nat):Int):=by omega
   refine ⟨g - 1,by omega,k+1,by omega,rfl,fun j hj hjk=>?_⟩
   by_cases e:j=k
   ·subst e; exact h2
   ·exact hr j hj (by omega)
 ·have hd:=of_decide_eq_false hd
  refine retb ?_
  rw [ZB1 (fun j hj=>hr j hj (by omega)),Bool.and_true]
  exact decide_eq_decide.2 (by omega)
def upS:ByteArray:=⟨#[65,66,67,68,69,70,71,72,73,74,75,76,77,78,79,80,81,82,83,84,85,86,87,88,89,90]⟩
def loS:ByteArray:=⟨#[97,98,99,100,101,102,103,104,105,106,107,108,109,110,111,112,113,114,115,116,117,118,119,120,121,122]⟩
theorem upS_at:∀ j:Nat,(h:j<26)->(upS[j]'h).toNat=65+j:=by decide +kernel
theorem loS_at:∀ j:Nat,j<26->loS.extract j (j+1)=⟨#[UInt8.ofNat (97+j)]⟩:=by decide +kernel
def lwJ (b:UInt8) (j:Nat):UInt8:=if 65<=b.toNat/\b.toNat<65+j then lowU b else b
theorem lwJ_low:∀ m:Nat,m<256->lwJ (UInt8.ofNat m) 26=lowU (UInt8.ofNat m):=by decide +kernel
theorem lowU_up:∀ j:Nat,j<26->lowU (UInt8.ofNat (65+j))=UInt8.ofNat (97+j):=by decide +kernel
theorem lwJ_26 (b:UInt8):lwJ b 26=lowU b:=by
 have:=lwJ_low b.toNat b.toNat_lt
 rwa [UInt8.ofNat_toNat] at this
theorem foldR_p (s:ByteArray) (hs:s.size<=1099511627776):ZAC Tryz.prog 142 [.s s] (.s (ZD4 s)) []:=by
 have hmx:maxLen=9223372036854775807:=rfl
 refine ZAC.of rfl (ZAB.of_vc T_ok mixed Tryz.func142 rfl Tryz.call142 ?_)
 refine ZAF [3,4] (fun g vals st'=>∃ (k:Nat) (y:ByteArray),k+g=s.size/\vals=[.s y,.i k]/\y=⟨(foldL (s.data.toList.take k)).toArray⟩) s.size rfl ⟨0,⟨#[]⟩,by omega,rfl,rfl⟩ ?_
 rintro g vals st' ⟨k,y,hk,rfl,hy⟩
 refine ZAA (fun hd=>?_) (fun hd=>?_)
 ·have hd:=of_decide_eq_true hd
  have k1:k<s.size:=by omega
  have ysz:y.size=k:=by
   rw [hy]
   show (Array.size _)=_
   rw [List.size_toArray]
   unfold foldL
   rw [List.length_map,List.length_take,blen]; omega
  intro c hc
  rw [IntWalk.i64_in _ (by omega)] at hc
  obtain rfl:c=((k+1:Nat):Int):=by omega
  refine ⟨k+1,rfl,k,rfl,by omega,by omega,?_⟩
  refine ZAF [5,6] (fun g2 vals st2=>∃ (j:Nat) (x:ByteArray),j+g2=26/\vals=[.s x,.i j]/\x=⟨#[lwJ s[k] j]⟩) 26 rfl ⟨0,s.extract k (k+1),by omega,rfl,by rw [ext1 s k k1]; unfold lwJ; rw [if_neg (by omega)]⟩ ?_
  rintro g2 vals st2 ⟨j,x,hj,rfl,hx⟩
  refine ZAA (fun hd2=>?_) (fun hd2=>?_)
  ·have hd2:=of_decide_eq_true hd2
   have j1:j<26:=by omega
   have hu:=upS_at j j1
   refine .e (by kernel_rfl) ?_
   refine ⟨j,j1,rfl,?_⟩
   refine ⟨k,k1,rfl,?_⟩
   have next:(s[k].toNat=65+j->UInt8.ofNat (97+j)=lwJ s[k] (j+1))/\(s[k].toNat≠65+j->lwJ s[k] j=lwJ s[k] (j+1)):=by
    constructor
    ·intro h
     unfold lwJ
     rw [if_pos ⟨by omega,by omega⟩,<- lowU_up j j1,<- h,UInt8.ofNat_toNat]
    ·intro h
     unfold lwJ
     by_cases h2:65<=s[k].toNat/\s[k].toNat<65+j
     ·rw [if_pos h2,if_pos ⟨h2.1,by omega⟩]
     ·rw [if_neg h2,if_neg (by omega)]
   refine ZAA (fun h3=>?_) (fun h3=>?_)
   ·have h3:((upS[j]'j1).toNat:Int)=(s[k].toNat:Int):=beq_iff_eq.1 h3
    intro c hc
    rw [IntWalk.i64_in _ (by omega)] at hc
    obtain rfl:c=((j+1:Nat):Int):=by omega
    refine ⟨j+1,rfl,j,rfl,by omega,by show j+1<=26; omega,?_⟩
    intro c hc
    rw [IntWalk.i64_in _ (by omega)] at hc
    obtain rfl:c=((j+1:Nat):Int):=by omega
    refine ⟨g2 - 1,by omega,j+1,_,by omega,rfl,?_⟩
    rw [<- next.1 (by omega)]
    exact loS_at j j1
   ·have h3:¬ ((upS[j]'j1).toNat:Int)=(s[k].toNat:Int):=beq_eq_false_iff_ne.1 h3
    intro c hc
    rw [IntWalk.i64_in _ (by omega)] at hc
    obtain rfl:c=((j+1:Nat):Int):=by omega
    exact ⟨g2 - 1,by omega,j+1,x,by omega,rfl,by rw [hx,next.2 (fun e=>h3 (by omega))]⟩
  ·have hd2:=of_decide_eq_false hd2
   obtain rfl:j=26:=by omega
   rw [lwJ_26] at hx
   have xsz:x.size=1:=by rw [hx]; rfl
   refine ⟨by omega,?_⟩
   intro c hc
   rw [IntWalk.i64_in _ (by omega)] at hc
   obtain rfl:c=((k+1:Nat):Int):=by omega
   refine ⟨g - 1,by omega,k+1,_,by omega,rfl,?_⟩
   rw [hy,hx,List.take_add_one,ZDp k1]
   apply inL
   rw [ZAp]
   simp [foldL]
 ·have hd:=of_decide_eq_false hd
  refine rets ?_
  rw [hy,List.take_of_length_le (by rw [blen]; omega)]
  rfl
section
attribute [local irreducible] ZAn
end
section
attribute [local irreducible] ZAn
end
end Go.Proofs.YticbonkojpabnaaGreatDoor
