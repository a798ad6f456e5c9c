/- Templates: the document's texts and names; rows of parts cut short. No statement of its own. -/
import Derived.Test.YticbonkojpabnaaGreatDoorSTmD
set_option linter.unusedSimpArgs false
set_option linter.unusedVariables false
set_option maxRecDepth 100000
namespace Go.Proofs.YticbonkojpabnaaGreatDoor
open Go.RowKit
theorem ZKh {l:List UInt8} {k:Nat} (h:k<l.length):escL (l.take (k+1))=escL (l.take k)++(if l[k]=36 then [36,36] else [l[k]]):=by
 rw [List.take_succ_eq_append_getElem h,escL_app]
 congr 1
def escP (s:ByteArray) (k:Nat):ByteArray:=⟨(escL (s.data.toList.take k)).toArray⟩
theorem escP_all (s:ByteArray):escP s s.size=escB s:=by
 unfold escP escB
 rw [List.take_of_length_le (by rw [blen]; exact Nat.le_refl _)]
theorem ZMh (s:ByteArray) (k:Nat):(escP s k).data.toList=escL (s.data.toList.take k):=by unfold escP; show (escL _).toArray.toList=_; rw [List.toList_toArray]
theorem escP_yes {s:ByteArray} {k:Nat} (h:k<s.size) (e:s[k]=36):escP s (k+1)=escP s k++⟨#[36]⟩++s.extract k (k+1):=by
 refine inL ?_
 rw [ZAp,ZAp,ZMh,ZMh,ZKh (by rw [blen]; exact h),ext_one s h,bget s k h,if_pos e,e]
 simp
theorem escP_no {s:ByteArray} {k:Nat} (h:k<s.size) (e:s[k]≠36):escP s (k+1)=escP s k++s.extract k (k+1):=by
 refine inL ?_
 rw [ZAp,ZMh,ZMh,ZKh (by rw [blen]; exact h),ext_one s h,bget s k h,if_neg e]
theorem escP_size (s:ByteArray) (k:Nat) (hk:k<=s.size):(escP s k).size<=2*k:=by
 have:=ZMc (s.data.toList.take k)
 rw [List.length_take,blen,Nat.min_eq_left hk] at this
 show (escL _).toArray.size<=_
 rw [List.size_toArray]
 exact this
theorem sumT_take (l:List Prt) (k:Nat):sumT (l.take k)<=sumT l:=by
 unfold sumT
 conv=>rhs; rw [<- List.take_append_drop k l]
 rw [List.map_append,List.sum_append]
 omega
theorem wrT_size (l:List Prt) (k:Nat):(wrL (l.take k)).size<=2*sumT l+4*l.length:=by
 have h1:=ZEZ (l.take k)
 have h2:=sumT_take l k
 rw [List.length_take] at h1
 omega
set_option maxHeartbeats 1000000 in
theorem ZKX (l:List Prt) (hl:l.length<=1000) (hz:sumT l<=1000000):ZAC Tryz.prog 65 [.sl .no 2 (prtL l)] (.tup [.s (ZB9 l).1,.i (ZB9 l).2]) []:=by
 have hmx:maxLen=9223372036854775807:=rfl
 have el:=ZBg l
 have hws:=ZEZ l
 have hT:ZB9 l=if (ZAM (wrL l)).2≠0 \/ (ZAM (wrL l)).1≠l then (⟨#[]⟩,2) else (wrL l,0):=rfl
 have hpl:=ZDL (wrL l)
 generalize ZB9 l=Z at hT
 refine ZAC.of rfl (ZAB.of_vc T_ok mixed Tryz.func65 rfl Tryz.call65 ?_)
 refine ZAF [4,5] (fun g vals st'=>∃ (k:Nat) (S:ByteArray),k+g=l.length/\vals=[.s S,.i k]/\S=wrL (l.take k)) l.length rfl ⟨0,_,by omega,rfl,rfl⟩ ?_
 rintro g vals st1 ⟨k,S,hk,rfl,hS⟩
 have hSz:=wrT_size l k
 rw [<- hS] at hSz
 refine ZAA (fun hd=>?_) (fun hd=>?_)
 ·have hd:=of_decide_eq_true hd
  have k1:k<l.length:=by omega
  have hmem:=ZFi (List.getElem_mem k1)
  have hnx:=wrL_take k1
  rw [<- hS] at hnx
  refine ⟨k,_,rfl,ZBA k1,?_⟩
  refine ZAA (fun h1=>?_) (fun h1=>?_)
  ·have h1:l[k].1=1:=beq_iff_eq.1 h1
   have hw1:wr1 l[k]=escB l[k].2:=by unfold wr1; rw [if_pos h1]
   refine ZAF [4,6] (fun g2 vals st'=>∃ (i:Nat) (S':ByteArray),i+g2=l[k].2.size/\vals=[.s S',.i i]/\S'=S++escP l[k].2 i) l[k].2.size rfl ⟨0,S,by omega,rfl,(ZHo S).symm⟩ ?_
   rintro g2 vals st2 ⟨i,S',hi,rfl,hS'⟩
   have hpz:=escP_size l[k].2 i (by omega)
   have hSz':S'.size<=S.size+2*i:=by rw [hS',ZAD]; omega
   refine ⟨k,_,rfl,ZBA k1,?_⟩
   refine ZAA (fun hd2=>?_) (fun hd2=>?_)
   ·have hd2:=of_decide_eq_true hd2
    have i1:i<l[k].2.size:=by omega
    refine ⟨k,_,rfl,ZBA k1,?_⟩
    refine ⟨i,i1,rfl,?_⟩
    have hz1:(l[k].2.extract i (i+1)).size=1:=by rw [ZBb _ _ _ (by omega)]; omega
    refine ZAA (fun h2=>?_) (fun h2=>?_)
    ·have h2:l[k].2[i]=36:=by
      have:=beq_iff_eq.1 h2
      exact UInt8.toNat_inj.1 (by show _=36; omega)
     refine ⟨by show S'.size+1<=_; omega,?_⟩
     refine ⟨k,_,rfl,ZBA k1,?_⟩
     intro c hc
     rw [IntWalk.i64_in _ (by omega)] at hc
     obtain rfl:c=((i+1:Nat):Int):=by omega
     refine ⟨i+1,rfl,i,rfl,by omega,by omega,?_⟩
     refine ⟨by rw [ZAD,hz1]; show S'.size+1+1<=_; omega,?_⟩
     intro c hc
     rw [IntWalk.i64_in _ (by omega)] at hc
     obtain rfl:c=((i+1:Nat):Int):=by omega
     exact ⟨g2 - 1,by omega,i+1,_,by omega,rfl,by rw [escP_yes i1 h2,hS',ByteArray.append_assoc,ByteArray.append_assoc,ByteArray.append_assoc]⟩
    ·have h2:l[k].2[i]≠36:=fun e=>by
      have:=beq_eq_false_iff_ne.1 h2
      exact this (by rw [e]; rfl)
     refine ⟨k,_,rfl,ZBA k1,?_⟩
     intro c hc
     rw [IntWalk.i64_in _ (by omega)] at hc
     obtain rfl:c=((i+1:Nat):Int):=by omega
     refine ⟨i+1,rfl,i,rfl,by omega,by omega,?_⟩
     refine ⟨by rw [hz1]; omega,?_⟩
     intro c hc
     rw [IntWalk.i64_in _ (by omega)] at hc
     obtain rfl:c=((i+1:Nat):Int):=by omega
     exact ⟨g2 - 1,by omega,i+1,_,by omega,rfl,by rw [escP_no i1 h2,hS',ByteArray.append_assoc]⟩
   ·have hd2:=of_decide_eq_false hd2
    have hi2:i=l[k].2.size:=by omega
    intro c hc
    rw [IntWalk.i64_in _ (by omega)] at hc
    obtain rfl:c=((k+1:Nat):Int):=by omega
    exact ⟨g - 1,by omega,k+1,_,by omega,rfl,by rw [hnx,hw1,hS',hi2,escP_all]⟩
  have h1:l[k].1≠1:=beq_eq_false_iff_ne.1 h1
  refine ZAA (fun h2=>?_) (fun h2=>?_)
  ·have h2:l[k].1=2:=beq_iff_eq.1 h2
   have hw1:wr1 l[k]=⟨#[36,123]⟩++l[k].2++⟨#[125]⟩:=by unfold wr1; rw [if_neg h1,if_pos h2]
   refine ⟨by show S.size+2<=_; omega,?_⟩
   refine ⟨k,_,rfl,ZBA k1,?_⟩
   refine ⟨by rw [ZAD]; show S.size+2+l[k].2.size<=_; omega,?_⟩
   refine ⟨by rw [ZAD,ZAD]; show S.size+2+l[k].2.size+1<=_; omega,?_⟩
   intro c hc
   rw [IntWalk.i64_in _ (by omega)] at hc
   obtain rfl:c=((k+1:Nat):Int):=by omega
   exact ⟨g - 1,by omega,k+1,_,by omega,rfl,by rw [hnx,hw1,<- ByteArray.append_assoc,<- ByteArray.append_assoc]⟩
  have h2:l[k].1≠2:=beq_eq_false_iff_ne.1 h2
  refine ZAA (fun h3=>?_) (fun h3=>?_)
  ·have h3:l[k].1=3:=beq_iff_eq.1 h3
   have hw1:wr1 l[k]=⟨#[36,123,64]⟩++l[k].2++⟨#[125]⟩:=by unfold wr1; rw [if_neg h1,if_neg h2,if_pos h3]
   refine ⟨by show S.size+3<=_; omega,?_⟩
   refine ⟨k,_,rfl,ZBA k1,?_⟩
   refine ⟨by rw [ZAD]; show S.size+3+l[k].2.size<=_; omega,?_⟩
   refine ⟨by rw [ZAD,ZAD]; show S.size+3+l[k].2.size+1<=_; omega,?_⟩
   intro c hc
   rw [IntWalk.i64_in _ (by omega)] at hc
   obtain rfl:c=((k+1:Nat):Int):=by omega
   exact ⟨g - 1,by omega,k+1,_,by omega,rfl,by rw [hnx,hw1,<- ByteArray.append_assoc,<- ByteArray.append_assoc]⟩
  have h3:l[k].1≠3:=beq_eq_false_iff_ne.1 h3
  have hw1:wr1 l[k]=⟨#[]⟩:=by unfold wr1; rw [if_neg h1,if_neg h2,if_neg h3]
  intro c hc
  rw [IntWalk.i64_in _ (by omega)] at hc
  obtain rfl:c=((k+1:Nat):Int):=by omega
  exact ⟨g - 1,by omega,k+1,_,by omega,rfl,by rw [hnx,hw1,ZHo]⟩
 ·have hd:=of_decide_eq_false hd
  have hkl:k=l.length:=by omega
  rw [hkl,List.take_of_length_le (Nat.le_refl _)] at hS
  subst hS
  refine .p rfl (ZG5 (wrL l) (by omega)) ?_
  refine ZAA (fun h1=>?_) (fun h1=>?_)
  ·have h1:(ZAM (wrL l)).2≠0:=by
    rw [bne_iff_ne] at h1
    exact h1
   rw [if_pos (.inl h1)] at hT
   rw [hT]
   rfl
  ·have h1:(ZAM (wrL l)).2=0:=bne_eq_false_iff_eq.1 h1
   refine .p rfl (ZMd _ l (by omega) (by omega)) ?_
   refine ZAA (fun h2=>?_) (fun h2=>?_)
   ·rw [Bool.not_eq_true',decide_eq_false_iff_not] at h2
    rw [if_pos (.inr h2)] at hT
    rw [hT]
    rfl
   ·rw [Bool.not_eq_false',decide_eq_true_eq] at h2
    rw [if_neg (fun h=>h.elim (fun h=>h h1) (fun h=>h h2))] at hT
    rw [hT]
    rfl
end Go.Proofs.YticbonkojpabnaaGreatDoor
