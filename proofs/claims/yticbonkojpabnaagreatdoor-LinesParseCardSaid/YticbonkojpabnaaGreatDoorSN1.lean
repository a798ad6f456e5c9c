/- Numbers, read by the program and by the document. No statement of its own. -/
import Derived.Test.YticbonkojpabnaaGreatDoorSSp
set_option linter.unusedSimpArgs false
set_option linter.unusedVariables false
set_option maxRecDepth 100000
namespace Go.Proofs.YticbonkojpabnaaGreatDoor
open Go.RowKit
theorem ZKf (B:Nat) (hB:B<=16) (m:Nat) (h1:m<256):ZAC Tryz.prog 202 [.int .u8 m,.i B] (.i (if isD B m then ZAr m else -1)) []:=by
 have hit:∀ k:Nat,(hk:k<16)->k<B->((hexD[k]'hk).toNat=m \/ (hexG[k]'hk).toNat=m)->(if isD B m then ZAr m else -1)=(k:Int):=fun k hk hkB h=>by
  obtain ⟨a,b⟩:=hex_hit m h1 k hk h
  rw [if_pos (by unfold isD; rw [a,b]; simp; omega),b]
 have miss:(∀ k:Nat,(hk:k<16)->k<B->(hexD[k]'hk).toNat≠m/\(hexG[k]'hk).toNat≠m)->(if isD B m then ZAr m else -1)=-1:=fun h=>by
  rw [if_neg]
  unfold isD
  intro h2
  rw [Bool.and_eq_true,decide_eq_true_eq] at h2
  obtain ⟨k,hk,a,b⟩:=hex_miss m h1 h2.1
  have:=h k hk (by omega)
  rcases b with b | b
  ·exact this.1 b
  ·exact this.2 b
 generalize (if isD B m then ZAr m else -1)=z at *
 refine ZAC.of rfl (ZAB.of_vc T_ok mixed Tryz.func202 rfl Tryz.call202 ?_)
 refine ZAF [7] (fun g vals st'=>∃ k:Nat,k+g=B/\vals=[.i k]/\∀ j:Nat,(hj:j<16)->j<k->(hexD[j]'hj).toNat≠m/\(hexG[j]'hj).toNat≠m) B rfl ⟨0,by omega,rfl,fun j _ h=>absurd h (by omega)⟩ ?_
 rintro g vals st' ⟨k,hk,rfl,hr⟩
 refine ZAA (fun hd=>?_) (fun hd=>?_)
 ·have hd:=of_decide_eq_true hd
  have k1:k<16:=by omega
  refine ⟨k,k1,rfl,?_⟩
  refine ZAA (fun h2=>?_) (fun h2=>?_)
  ·have h2:(((hexD[k]'k1).toNat:Int))=(m:Int):=beq_iff_eq.1 h2
   exact reti (hit k k1 (by omega) (.inl (by omega))).symm
  ·have h2:¬ (((hexD[k]'k1).toNat:Int))=(m:Int):=beq_eq_false_iff_ne.1 h2
   refine ⟨k,k1,rfl,?_⟩
   refine ZAA (fun h3=>?_) (fun h3=>?_)
   ·have h3:(((hexG[k]'k1).toNat:Int))=(m:Int):=beq_iff_eq.1 h3
    exact reti (hit k k1 (by omega) (.inr (by omega))).symm
   ·have h3:¬ (((hexG[k]'k1).toNat:Int))=(m:Int):=beq_eq_false_iff_ne.1 h3
    intro c hc
    rw [IntWalk.i64_in _ (by omega)] at hc
    obtain rfl:c=((k+1:Nat):Int):=by omega
    refine ⟨g - 1,by omega,k+1,by omega,rfl,fun j hj hjk=>?_⟩
    by_cases e:j=k
    ·subst e; exact ⟨by omega,by omega⟩
    ·exact hr j hj (by omega)
 ·have hd:=of_decide_eq_false hd
  exact reti (miss fun j hj hjB=>hr j hj (by omega)).symm
theorem ZFt (B:Nat) (h2:2<=B) (hB:B<=16) (n:Nat) (hn:n<2 ^ 63):ZAC Tryz.prog 107 [.i n,.i B] (.s (digB B n)) []:=by
 have hmx:maxLen=9223372036854775807:=rfl
 induction n using Nat.strongRecOn with
 | _ n ih =>
  refine ZAC.of rfl (ZAB.of_vc T_ok mixed Tryz.func107 rfl Tryz.call107 ?_)
  refine ZAA (fun hd=>?_) (fun hd=>?_)
  ·have hd:=of_decide_eq_true hd
   have hl:n<B:=by omega
   intro c hc
   rw [IntWalk.i64_in _ (by omega)] at hc
   obtain rfl:c=((n+1:Nat):Int):=by omega
   refine ⟨n+1,rfl,n,rfl,by omega,by show n+1<=16; omega,?_⟩
   exact rets ((hexD_at n (by omega)).trans (ZGY hl).symm)
  ·have hd:=of_decide_eq_false hd
   have hl:¬ n<B:=by omega
   have hq:n / B<n:=Nat.div_lt_self (by omega) (by omega)
   have hm:n % B<B:=Nat.mod_lt _ (by omega)
   have q1:(n:Int).tdiv (B:Int)=((n / B:Nat):Int):=by rw [Int.tdiv_eq_ediv_of_nonneg (by omega)]; exact (Int.natCast_ediv n B).symm
   have q2:(n:Int).tmod (B:Int)=((n % B:Nat):Int):=by rw [Int.tmod_eq_emod_of_nonneg (by omega)]; exact (Int.natCast_emod n B).symm
   have hs:=digB_size (B:=B) (n:=n / B) h2 (by omega)
   have hI:=ih (n / B) hq (by omega)
   have hH:=ZKd hl h2
   clear ih
   generalize n / B=a at *
   generalize n % B=b at *
   refine .x (by kernel_rfl) ?_
   refine ⟨by omega,?_⟩
   intro c hc
   rw [q1,IntWalk.i64_in _ (by omega)] at hc
   subst hc
   refine .p rfl hI ?_
   refine ⟨by omega,?_⟩
   refine ⟨by omega,?_⟩
   intro c hc
   rw [q2,IntWalk.i64_in _ (by omega)] at hc
   obtain rfl:c=((b+1:Nat):Int):=by omega
   refine ⟨b+1,rfl,b,q2,by omega,by show b+1<=16; omega,?_⟩
   have hx:(⟨#[48,49,50,51,52,53,54,55,56,57,97,98,99,100,101,102]⟩:ByteArray).extract b (b+1)=⟨#[dgt b]⟩:=hexD_at b (by omega)
   refine ⟨?_,?_⟩
   ·rw [hx]; show _+1<=_; omega
   ·exact rets (by rw [hx,hH])
theorem ZLZ (l:List Nat) (v:Nat):ZGF (l++[v])=if ZCK l=[]/\v=0 then ZGF l else ZGF l++⟨#[dgt v]⟩:=by
 unfold ZGF
 rw [ZKx]
 by_cases h:ZCK l=[]/\v=0
 ·rw [if_pos h,if_pos h,h.1]
 ·rw [if_neg h,if_neg h,List.map_append]
  apply ByteArray.ext
  rw [ByteArray.data_append]
  simp
theorem r3Plain_p (B:Nat) (h2:2<=B) (hB:B<=16) (s:ByteArray) (hs:s.size<maxLen):ZAC Tryz.prog 200 [.s s,.i B] (.tup [.s (plR B s).1,.b (plR B s).2]) []:=by
 have hmx:maxLen=9223372036854775807:=rfl
 have hdl:(digV s).length=s.size:=by unfold digV; rw [List.length_map,blen]
 refine ZAC.of rfl (ZAB.of_vc T_ok mixed Tryz.func200 rfl Tryz.call200 ?_)
 refine ZAF [6,7] (fun g vals st'=>∃ (k:Nat) (y:ByteArray),k+g=s.size/\vals=[.s y,.i k]/\y=ZGF ((digV s).take k)/\∀ j (hj:j<s.size),j<k->isD B (s[j].toNat:Int)=true) s.size rfl ⟨0,_,by omega,rfl,by rw [List.take_zero]; rfl,fun j _ h=>absurd h (by omega)⟩ ?_
 rintro g vals st' ⟨k,y,hk,rfl,hy,hr⟩
 have hsz:=ZK2 ((digV s).take k)
 rw [<- hy] at hsz
 have hpl:(ZCK ((digV s).take k)).length<=k:=by
  unfold ZCK
  have:=(List.dropWhile_sublist (· == 0) (l:=(digV s).take k)).length_le
  rw [List.length_take] at this
  omega
 refine ZAA (fun hd=>?_) (fun hd=>?_)
 ·have hd:=of_decide_eq_true hd
  have k1:k<s.size:=by omega
  have hW:=ZKf B hB s[k].toNat s[k].toNat_lt
  refine ⟨k,k1,rfl,?_⟩
  cases hq:isD B (s[k].toNat:Int) with
  | false =>
   rw [hq] at hW
   refine .p rfl hW ?_
   exact (by unfold plR; rw [ZB4 k1 hq]; rfl)
  | true =>
   rw [hq,if_pos rfl] at hW
   have hq2:=hq
   unfold isD at hq2
   rw [Bool.and_eq_true,decide_eq_true_eq] at hq2
   have hb:0<=ZAr (s[k].toNat:Int):=by
    have hx:=hq2.1
    unfold hexI at hx
    unfold ZAr
    unfold digI at *
    simp only [Bool.or_eq_true,Bool.and_eq_true,decide_eq_true_eq] at hx ⊢
    split <;> omega
   have ht:(digV s).take (k+1)=(digV s).take k++[(ZAr (s[k].toNat:Int)).toNat]:=by
    rw [List.take_succ_eq_append_getElem (by rw [hdl]; exact k1)]
    congr 2
    unfold digV
    rw [List.getElem_map]
    rfl
   obtain ⟨v,hv⟩:=Int.eq_ofNat_of_zero_le hb
   have hvB:v<B:=by have:=hq2.2; omega
   rw [hv,Int.toNat_natCast] at ht
   rw [hv] at hW
   have hn:=ZLZ ((digV s).take k) v
   rw [<- ht,<- hy] at hn
   have next:∀ j (hj:j<s.size),j<k+1->isD B (s[j].toNat:Int)=true:=fun j hj hjk=>by
    by_cases e:j=k
    ·subst e; exact hq
    ·exact hr j hj (by omega)
   have hDg:=ZFt B h2 hB v (by omega)
   rw [ZGY hvB] at hDg
   have hz:y=ByteArray.empty ↔ ZCK ((digV s).take k)=[]:=by
    constructor
    ·intro e; rw [e] at hsz; exact List.eq_nil_of_length_eq_zero hsz.symm
    ·intro e; rw [hy]; unfold ZGF; rw [e]; rfl
   refine .p rfl hW ?_
   ·intro t htt
    cases t with
    | true =>
     have hne:¬ ZCK ((digV s).take k)=[]:=fun e=>by
      have:=htt.2 (hz.2 e)
      cases this
     rw [if_neg (fun h=>hne h.1)] at hn
     refine .p rfl hDg ?_
     refine ⟨by show _+1<=_; omega,?_⟩
     intro c hc
     rw [IntWalk.i64_in _ (by omega)] at hc
     obtain rfl:c=((k+1:Nat):Int):=by omega
     exact ⟨g - 1,by omega,k+1,_,by omega,rfl,hn.symm,next⟩
    | false =>
     have he:=hz.1 (htt.1 rfl)
     refine ZAA (fun h1=>?_) (fun h1=>?_)
     ·have h1:=of_decide_eq_true h1
      rw [if_neg (fun h=>by omega)] at hn
      refine .p rfl hDg ?_
      refine ⟨by show _+1<=_; omega,?_⟩
      intro c hc
      rw [IntWalk.i64_in _ (by omega)] at hc
      obtain rfl:c=((k+1:Nat):Int):=by omega
      exact ⟨g - 1,by omega,k+1,_,by omega,rfl,hn.symm,next⟩
     ·have h1:=of_decide_eq_false h1
      rw [if_pos ⟨he,by omega⟩] at hn
      intro c hc
      rw [IntWalk.i64_in _ (by omega)] at hc
      obtain rfl:c=((k+1:Nat):Int):=by omega
      exact ⟨g - 1,by omega,k+1,_,by omega,rfl,hn.symm,next⟩
 ·have hd:=of_decide_eq_false hd
  have ha:allI (isD B) s=true:=ZB1 fun j hj=>hr j hj (by omega)
  rw [List.take_of_length_le (by omega)] at hy hsz
  have hz:y=ByteArray.empty ↔ ZCK (digV s)=[]:=by
   constructor
   ·intro e; rw [e] at hsz; exact List.eq_nil_of_length_eq_zero hsz.symm
   ·intro e; rw [hy]; unfold ZGF; rw [e]; rfl
  have hp1:(plR B s).1=if ZCK (digV s)=[] then ⟨#[48]⟩ else y:=by
   unfold plR
   rw [ha,if_pos rfl,ZKM]
   split
   ·rfl
   ·exact hy.symm
  have hp2:(plR B s).2=decide (0<s.size):=by unfold plR; rw [ha,Bool.true_and]
  rw [hp1,hp2]
  have fin:∀ z:ByteArray,∀ t:Bool,(t=false ↔ s=ByteArray.empty)->(AV.tup [.s z,.b t]).stripR=.tup [.s z,.b (decide (0<s.size))]:=fun z t ht=>by
   have:t=decide (0<s.size):=by
    rw [Bool.eq_iff_iff,decide_eq_true_eq]
    cases t with
    | false =>
     have e:=ht.1 rfl
     subst e
     exact ⟨fun h=>by (cases h),fun h=>absurd h (by decide)⟩
    | true =>
     refine ⟨fun _=>?_,fun _=>rfl⟩
     apply Decidable.byContradiction
     intro hc
     have:=ht.2 ((ZAi s).2 (by omega))
     cases this
   rw [this]; rfl
  intro t ht
  cases t with
  | true =>
   rw [if_pos (hz.1 (ht.1 rfl))]
   intro t2 ht2
   exact fin _ _ ht2
  | false =>
   rw [if_neg (fun e=>by have:=ht.2 (hz.2 e); cases this)]
   intro t2 ht2
   exact fin _ _ ht2
theorem r3Less_p (a b:ByteArray):ZAC Tryz.prog 201 [.s a,.s b] (.b (lessB a b)) []:=by
 refine ZAC.of rfl (ZAB.of_vc T_ok mixed Tryz.func201 rfl Tryz.call201 ?_)
 unfold lessB
 refine ZAA (fun h1=>?_) (fun h1=>?_)
 ·have h1:=of_decide_eq_true h1
  exact retb (by rw [decide_eq_true (show a.size<b.size by omega)]; rfl)
 ·have h1:=of_decide_eq_false h1
  refine ZAA (fun h2=>?_) (fun h2=>?_)
  ·have h2:(a.size:Int)=b.size:=beq_iff_eq.1 h2
   exact retb (by rw [decide_eq_false (show ¬ a.size<b.size by omega),decide_eq_true (show a.size=b.size by omega)]; rfl)
  ·have h2:¬ (a.size:Int)=b.size:=beq_eq_false_iff_ne.1 h2
   exact retb (by rw [decide_eq_false (show ¬ a.size<b.size by omega),decide_eq_false (show ¬ a.size=b.size by omega)]; rfl)
theorem isD_lt {B:Nat} {s:ByteArray} (ha:allI (isD B) s=true):∀ d∈digV s,d<B:=fun d hd=>by
 unfold digV at hd
 obtain ⟨b,hb,rfl⟩:=List.mem_map.1 hd
 have h1:=List.all_eq_true.1 ha b hb
 unfold isD at h1
 rw [Bool.and_eq_true,decide_eq_true_eq] at h1
 have hx:=h1.1
 have hw:0<=ZAr (b.toNat:Int):=by
  unfold hexI at hx
  unfold ZAr
  unfold digI at *
  simp only [Bool.or_eq_true,Bool.and_eq_true,decide_eq_true_eq] at hx ⊢
  split <;> omega
 omega
theorem r3Read_p (B:Nat) (h2:2<=B) (hB:B<=16) (s:ByteArray) (hs:s.size<maxLen) (most:Nat) (hm:most<2 ^ 62):ZAC Tryz.prog 158 [.s s,.i B,.i most] (.tup [.i (ZA6 B s most).1,.i (ZA6 B s most).2]) []:=by
 have hmx:maxLen=9223372036854775807:=rfl
 have hP:=r3Plain_p B h2 hB s hs
 refine ZAC.of rfl (ZAB.of_vc T_ok mixed Tryz.func158 rfl Tryz.call158 ?_)
 refine .p rfl hP ?_
 cases hok:(plR B s).2 with
 | false =>
  have:ZA6 B s most=(0,2):=by
   unfold plR at hok
   unfold ZA6
   rw [if_pos]
   cases ha:allI (isD B) s
   ·exact .inr rfl
   ·rw [ha] at hok; simp at hok; exact .inl (by rw [hok]; rfl)
  exact (by rw [this]; rfl)
 | true =>
  obtain ⟨ha,hs0⟩:allI (isD B) s=true/\0<s.size:=by
   unfold plR at hok
   simpa using hok
  have hds:=isD_lt ha
  have hp1:(plR B s).1=⟨((ZCn (digV s)).map dgt).toArray⟩:=by unfold plR; rw [ha]; rfl
  obtain ⟨s1,s2,s3⟩:=ZHj B (by omega) (digV s) hds
  have hsl:(ZCn (digV s)).length<=s.size:=by
   unfold ZCn
   split
   ·simp; omega
   ·have:=(List.dropWhile_sublist (· == 0) (l:=digV s)).length_le
    unfold digV at this ⊢
    rw [List.length_map,blen] at this
    omega
  have hRG:ZA6 B s most=if most<valN B (digV s) then (0,7) else (((valN B (digV s):Nat):Int),0):=by
   unfold ZA6
   rw [if_neg (fun h=>h.elim (fun h=>by omega) (fun h=>by rw [ha] at h; cases h))]
  have hL:=r3Less_p (digB B most) (plR B s).1
  rw [hp1,lessB_val h2 hB most _ hds] at hL
  have hget:∀ k (hk:k<(ZCn (digV s)).length) (hk2:k<(⟨((ZCn (digV s)).map dgt).toArray⟩:ByteArray).size),(⟨((ZCn (digV s)).map dgt).toArray⟩:ByteArray)[k]=dgt (ZCn (digV s))[k]:=fun k hk hk2=>by
   show ((ZCn (digV s)).map dgt).toArray[k]'_=_
   simp
  have hstr:(⟨((ZCn (digV s)).map dgt).toArray⟩:ByteArray).size=(ZCn (digV s)).length:=by
   show ((ZCn (digV s)).map dgt).toArray.size=_
   rw [List.size_toArray,List.length_map]
  rw [<- s1] at hRG hL
  rw [hp1,hRG]
  clear hP hok hp1 hRG
  generalize ZCn (digV s)=q at *
  generalize (⟨(q.map dgt).toArray⟩:ByteArray)=p at *
  refine .p rfl (ZFt B h2 hB most (by omega)) ?_
  refine .p rfl hL ?_
  refine ZAA (fun hlo=>?_) (fun hlo=>?_)
  ·rw [if_pos (of_decide_eq_true hlo)]; rfl
  ·have hlo:=of_decide_eq_false hlo
   rw [if_neg hlo]
   refine ZAF [10,11] (fun g vals st'=>∃ k:Nat,k+g=q.length/\vals=[.i (valN B (q.take k):Nat),.i k]) q.length rfl ⟨0,by omega,rfl⟩ ?_
   rintro g vals st' ⟨k,hk,rfl⟩
   refine ZAA (fun hd=>?_) (fun hd=>?_)
   ·have hd:=of_decide_eq_true hd
    have hlk:k<q.length:=by omega
    have hkp:k<p.size:=by omega
    have hg:=hget k hlk hkp
    have hdB:=s2 q[k] (List.getElem_mem hlk)
    have ht:q.take (k+1)=q.take k++[q[k]]:=by rw [List.take_succ_eq_append_getElem hlk]
    have hv:=val_app B (q.take k) q[k]
    rw [<- ht] at hv
    have hm1:=val_take B q (k+1) (by omega)
    have hW:=ZKf B hB (dgt q[k]).toNat (UInt8.toNat_lt _)
    obtain ⟨x1,x2⟩:=dgt_worth q[k] (by omega)
    rw [show isD B ((dgt q[k]).toNat:Int)=true from by unfold isD; rw [x1,x2]; simp; omega,if_pos rfl,x2,<- hg] at hW
    have hmul:((valN B (q.take k):Nat):Int)*(B:Int)=((valN B (q.take k)*B:Nat):Int):=(Int.natCast_mul _ B).symm
    intro c hc
    rw [hmul,IntWalk.i64_in _ (by omega)] at hc
    subst hc
    refine ⟨k,hkp,rfl,?_⟩
    refine .p rfl hW ?_
    intro c hc
    rw [IntWalk.i64_in _ (by omega)] at hc
    obtain rfl:c=((valN B (q.take (k+1)):Nat):Int):=by omega
    intro c hc
    rw [IntWalk.i64_in _ (by omega)] at hc
    obtain rfl:c=((k+1:Nat):Int):=by omega
    exact ⟨g - 1,by omega,k+1,by omega,rfl⟩
   ·have hd:=of_decide_eq_false hd
    have:q.take k=q:=List.take_of_length_le (by omega)
    exact (by rw [this]; rfl)

/-- numeral: a digit's worth, numbers of a base -/
theorem nworth_p (n:Int) (h0:0<=n) (h1:n<=255) (hx:hexI n=true):ZAC Tryz.prog 235 [.int .u8 n] (.i (ZAr n)) []:=by
 refine ZAC.of rfl (ZAB.of_vc T_ok mixed Tryz.func235 rfl Tryz.call235 ?_)
 refine .p rfl (ZHm n) ?_
 unfold ZAr
 unfold hexI at hx
 cases hd:digI n with
 | true =>
  have hd':=hd
  unfold digI at hd'
  simp only [Bool.and_eq_true,decide_eq_true_eq] at hd'
  intro c hc
  rw [IntWalk.u8_in _ (by omega)] at hc
  intro c2 hc2
  rw [IntWalk.i64_in _ (by omega)] at hc2
  exact reti (by rw [if_pos rfl]; omega)
 | false =>
  rw [hd,Bool.false_or] at hx
  simp only [Bool.and_eq_true,decide_eq_true_eq] at hx
  refine .p rfl (ZKr n h0 h1) ?_
  intro c hc
  rw [IntWalk.u8_in _ (by omega)] at hc
  intro c2 hc2
  rw [IntWalk.i64_in _ (by omega)] at hc2
  intro c3 hc3
  rw [IntWalk.i64_in _ (by omega)] at hc3
  exact reti (by rw [if_neg (by decide)]; omega)
def ZKP (q:Int->Bool) (B:Nat) (s:ByteArray) (most:Nat):Int × Int:=if s.size=0 \/ allI q s=false then (0,2) else rdL B most s.data.toList 0
theorem rdL_at {B most:Int} {s:ByteArray} {k:Nat} (hk:k<s.size) (n:Int):rdL B most (s.data.toList.drop k) n=if most<ZAr (s[k].toNat:Int) \/ (most - ZAr (s[k].toNat:Int)) / B<n then (0,7) else rdL B most (s.data.toList.drop (k+1)) (n*B+ZAr (s[k].toNat:Int)):=by
 rw [List.drop_eq_getElem_cons (by rw [blen]; exact hk)]
 rfl
theorem nread_p {f:FuncId} {q:Int->Bool} (hq:ZG0 f q) (hqx:∀ n:Int,q n=true->hexI n=true) (B:Nat) (h2:2<=B) (hB:B<=16) (s:ByteArray) (hs:s.size<maxLen) (most:Nat) (hm:most<2 ^ 62):ZAC Tryz.prog 195 [.s s,.i B,.i most,.lit (.func (.func f) #[] #[])] (.tup [.i (ZKP q B s most).1,.i (ZKP q B s most).2]) []:=by
 have hmx:maxLen=9223372036854775807:=rfl
 refine ZAC.of rfl (ZAB.of_vc T_ok mixed Tryz.func195 rfl Tryz.call195 ?_)
 intro t ht
 cases t with
 | true =>
  have:s.size=0:=(ZAi s).1 (ht.1 rfl)
  exact (by unfold ZKP; rw [if_pos (.inl this)]; rfl)
 | false =>
  have hs0:s.size≠0:=fun e=>by have:=ht.2 ((ZAi s).2 e); cases this
  refine .p rfl (ZMI hq s (by omega)) ?_
  cases ha:allI q s with
  | false=>exact (by unfold ZKP; rw [if_pos (.inr ha)]; rfl)
  | true =>
   have hR:ZKP q B s most=rdL B most s.data.toList 0:=by unfold ZKP; rw [if_neg (fun h=>h.elim hs0 (fun h=>by rw [ha] at h; cases h))]
   rw [hR]
   clear hR
   refine ZAF [10,24] (fun g vals st'=>∃ (k n:Nat),k+g=s.size/\vals=[.i n,.i k]/\n<=most/\rdL B most (s.data.toList.drop k) n=rdL B most s.data.toList 0) s.size rfl ⟨0,0,by omega,rfl,by omega,rfl⟩ ?_
   rintro g vals st' ⟨k,n,hk,rfl,hn,hr⟩
   refine ZAA (fun hd=>?_) (fun hd=>?_)
   ·have hd:=of_decide_eq_true hd
    have k1:k<s.size:=by omega
    have hb:=s[k].toNat_lt
    have hx:=hqx _ (allI_at ha k k1)
    have hw:0<=ZAr (s[k].toNat:Int)/\ZAr (s[k].toNat:Int)<=15:=by
     have hx:=hx
     unfold hexI at hx
     unfold ZAr
     unfold digI at *
     simp only [Bool.or_eq_true,Bool.and_eq_true,decide_eq_true_eq] at hx ⊢
     split <;> omega
    obtain ⟨d,hd'⟩:=Int.eq_ofNat_of_zero_le hw.1
    have hW:=nworth_p (s[k].toNat:Int) (by omega) (by omega) hx
    rw [rdL_at k1,hd'] at hr
    rw [hd'] at hW
    refine ⟨k,k1,rfl,?_⟩
    refine .p rfl hW ?_
    refine ZAA (fun h3=>?_) (fun h3=>?_)
    ·have h3:=of_decide_eq_true h3
     rw [if_pos (.inl h3)] at hr
     exact (by rw [<- hr]; rfl)
    ·have h3:=of_decide_eq_false h3
     intro c hc
     rw [IntWalk.i64_in _ (by omega)] at hc
     subst hc
     refine ⟨by omega,?_⟩
     have e1:((most:Int) - (d:Int)).tdiv (B:Int)=((most:Int) - (d:Int)) / (B:Int):=Int.tdiv_eq_ediv_of_nonneg (by omega)
     have e2:((most:Int) - (d:Int)) / (B:Int)=(((most - d) / B:Nat):Int):=by rw [Int.natCast_ediv]; congr 1; omega
     have e3:(most - d) / B<=most - d:=Nat.div_le_self _ _
     have e4:(most - d) / B*B<=most - d:=Nat.div_mul_le_self _ _
     rw [e1,e2]
     rw [e2] at hr
     clear e1 e2
     generalize (most - d) / B=x at *
     intro c hc
     rw [IntWalk.i64_in _ (by omega)] at hc
     subst hc
     refine ZAA (fun h4=>?_) (fun h4=>?_)
     ·have h4:=of_decide_eq_true h4
      rw [if_pos (.inr h4)] at hr
      exact (by rw [<- hr]; rfl)
     ·have h4:=of_decide_eq_false h4
      rw [if_neg (fun h=>h.elim h3 h4)] at hr
      have h5:n*B<=most - d:=by
       have:n<=x:=by omega
       exact Nat.le_trans (Nat.mul_le_mul_right B this) e4
      have hmul:(n:Int)*(B:Int)=((n*B:Nat):Int):=(Int.natCast_mul n B).symm
      rw [hmul] at hr
      intro c hc
      rw [hmul,IntWalk.i64_in _ (by omega)] at hc
      subst hc
      intro c hc
      rw [IntWalk.i64_in _ (by omega)] at hc
      obtain rfl:c=((n*B+d:Nat):Int):=by omega
      intro c hc
      rw [IntWalk.i64_in _ (by omega)] at hc
      obtain rfl:c=((k+1:Nat):Int):=by omega
      exact ⟨g - 1,by omega,k+1,_,by omega,rfl,by omega,by rw [<- hr]; congr 1⟩
   ·have hd:=of_decide_eq_false hd
    have:s.data.toList.drop k=[]:=List.drop_of_length_le (by rw [blen]; omega)
    rw [this] at hr
    exact (by rw [<- hr]; rfl)
theorem isDigit_f:ZG0 196 digI:=fun n _ _=>ZHm n
theorem digI_hex (n:Int) (h:digI n=true):hexI n=true:=by unfold hexI; rw [h]; rfl
/-- program and document read alike -/
theorem readQ_G (s:ByteArray) (most:Nat):ZKP digI 10 s most=ZA6 10 s most:=by
 have hD:∀ n:Nat,n<256->isD 10 (n:Int)=digI (n:Int)/\(digI (n:Int)=true->0<=ZAr (n:Int)):=by decide +kernel
 have e:allI (isD 10) s=allI digI s:=by
  unfold allI
  congr 1
  funext b
  exact (hD b.toNat b.toNat_lt).1
 unfold ZA6 ZKP
 rw [e]
 by_cases h:s.size=0 \/ allI digI s=false
 ·rw [if_pos h,if_pos h]
 ·rw [if_neg h,if_neg h]
  have ha:allI digI s=true:=by
   cases hx:allI digI s
   ·exact absurd (.inr hx) h
   ·rfl
  exact rdL_val 10 most (by decide) s.data.toList 0 (fun b hb=>(hD b.toNat b.toNat_lt).2 (List.all_eq_true.1 ha b hb)) (by omega)
end Go.Proofs.YticbonkojpabnaaGreatDoor
