/- Templates: the document's names; the law's rows; the laws. No statement of its own. -/
import Derived.Test.YticbonkojpabnaaGreatDoorSTmE
set_option linter.unusedSimpArgs false
set_option linter.unusedVariables false
set_option maxRecDepth 100000
namespace Go.Proofs.YticbonkojpabnaaGreatDoor
open Go.RowKit
section
attribute [local irreducible] ZAn
set_option maxHeartbeats 1000000 in
theorem names31_p (l:List Prt) (hl:l.length<=1000000):ZAC Tryz.prog 103 [.sl .no 2 (prtL l)] (.sl .no 1 (strL (namT l))) []:=by
 have hmx:maxLen=9223372036854775807:=rfl
 have el:=ZBg l
 refine ZAC.ofX rfl ?_
 refine ZAB.of_vc T_ok mixed Tryz.func103 rfl Tryz.call103 ?_
 refine ZAF [3,4] (fun g vals st'=>∃ (k:Nat) (a:AV),k+g=l.length/\vals=[a,.i k]/\Acc 0 st'.tk 1 a (strL (namT (l.take k)))) l.length rfl ⟨0,_,by omega,rfl,.nil⟩ ?_
 rintro g vals st1 ⟨k,a,hk,rfl,hA⟩
 have hnl:=ZFD l k (by omega)
 generalize hes:strL (namT (l.take k))=es at hA
 cases hA with
 | nil =>
  refine ZAA (fun hd=>?_) (fun hd=>?_)
  ·have hd:=of_decide_eq_true hd
   have k1:k<l.length:=by omega
   have hnk:=ZEE k1
   have hol:=ZAH (namT (l.take k))
   rw [hes] at hol
   have hol2:([]:List (List AV)).length=(namT (l.take k)).length:=hol
   refine ⟨k,_,rfl,ZBA k1,?_⟩
   refine ZAF [5,6] (fun g2 vals st'=>∃ (j:Nat) (b:Bool),j+g2=(namT (l.take k)).length/\vals=[.b b,.i j]/\st'=st1/\b=(l[k].1 != 2 || memB ((namT (l.take k)).take j) l[k].2)) (namT (l.take k)).length rfl ⟨0,_,by omega,rfl,rfl,(Bool.or_false _).symm⟩ ?_
   rintro g2 vals st2 ⟨j,b,hj,rfl,rfl,hb⟩
   have hjl:j=(namT (l.take k)).length:=by first | omega | (simp at hol2; omega)
   rw [hjl,List.take_of_length_le (Nat.le_refl _)] at hb
   refine ZAA (fun h3=>?_) (fun h3=>?_)
   ·rw [Bool.not_eq_true'] at h3
    rw [h3] at hb
    have hb:=(Bool.or_eq_false_iff.1 hb.symm)
    rw [if_pos ⟨bne_eq_false_iff_eq.1 hb.1,hb.2⟩] at hnk
    refine ⟨k,_,rfl,ZBA k1,?_⟩
    refine Acc.app (n:=0) (i:=ti9) (es:=[]) .nil (Nat.zero_le _) (List.cons_ne_nil _ _) ?_ ?_ (fun t9 e9 tk9 z0 z1 z2 z3=>?_)
    ·show (([]:List (List AV)).length+1)*16<=_; omega
    ·show ([]:List (List AV)).length+1<=_; omega
    intro c hc
    rw [IntWalk.i64_in _ (by omega)] at hc
    obtain rfl:c=((k+1:Nat):Int):=by omega
    refine ⟨g - 1,by omega,k+1,_,by omega,rfl,?_⟩
    rw [hnk,<- ZGt,hes]
    exact .own _ _ _ (Nat.zero_le _) z1
   ·rw [Bool.not_eq_false'] at h3
    rw [h3] at hb
    rw [if_neg (fun h=>by rw [h.1,h.2] at hb; cases hb)] at hnk
    intro c hc
    rw [IntWalk.i64_in _ (by omega)] at hc
    obtain rfl:c=((k+1:Nat):Int):=by omega
    refine ⟨g - 1,by omega,k+1,_,by omega,rfl,?_⟩
    rw [hnk,hes]
    exact .nil
  ·have hd:=of_decide_eq_false hd
   have hkl:k=l.length:=by omega
   rw [hkl,List.take_of_length_le (Nat.le_refl _)] at hes
   show resX _ _ (.sl .no 1 (strL (namT l)))
   rw [hes]
   exact .inl (.inr (.inl ⟨rfl,1,rfl⟩))
 | own t e es q0 q1 =>
  refine ZAA (fun hd=>?_) (fun hd=>?_)
  ·have hd:=of_decide_eq_true hd
   have k1:k<l.length:=by omega
   have hnk:=ZEE k1
   have hol:=ZAH (namT (l.take k))
   rw [hes] at hol
   have hol2:(es:List (List AV)).length=(namT (l.take k)).length:=hol
   refine ⟨k,_,rfl,ZBA k1,?_⟩
   refine ZAF [5,6] (fun g2 vals st'=>∃ (j:Nat) (b:Bool),j+g2=(namT (l.take k)).length/\vals=[.b b,.i j]/\st'=st1/\b=(l[k].1 != 2 || memB ((namT (l.take k)).take j) l[k].2)) (namT (l.take k)).length rfl ⟨0,_,by omega,rfl,rfl,(Bool.or_false _).symm⟩ ?_
   rintro g2 vals st2 ⟨j,b,hj,rfl,rfl,hb⟩
   refine ZAA (fun hd2=>?_) (fun hd2=>?_)
   ·have hd2:=of_decide_eq_true hd2
    have j1:j<(namT (l.take k)).length:=by omega
    have hat:=ZAS j1
    rw [hes] at hat
    have hmt:memB ((namT (l.take k)).take (j+1)) l[k].2=(memB ((namT (l.take k)).take j) l[k].2 || decide ((namT (l.take k))[j]=l[k].2)):=by
     unfold memB
     rw [List.take_succ_eq_append_getElem j1,List.any_append]
     simp
    cases b with
    | true =>
     refine .x (by kernel_rfl) ?_
     intro c hc
     rw [IntWalk.i64_in _ (by omega)] at hc
     obtain rfl:c=((j+1:Nat):Int):=by omega
     exact ⟨g2 - 1,by omega,j+1,true,by omega,rfl,rfl,by rw [hmt,<- Bool.or_assoc,<- hb]; rfl⟩
    | false =>
     refine .x (by kernel_rfl) ?_
     refine ⟨j,_,rfl,hat,?_⟩
     refine ⟨k,_,rfl,ZBA k1,?_⟩
     intro t ht
     have ht:t=decide ((namT (l.take k))[j]=l[k].2):=by rw [Bool.eq_iff_iff,ht,decide_eq_true_eq]
     intro c hc
     rw [IntWalk.i64_in _ (by omega)] at hc
     obtain rfl:c=((j+1:Nat):Int):=by omega
     exact ⟨g2 - 1,by omega,j+1,t,by omega,rfl,rfl,by rw [hmt,<- Bool.or_assoc,<- hb,ht]; rfl⟩
   ·have hd2:=of_decide_eq_false hd2
    have hjl:j=(namT (l.take k)).length:=by first | omega | (simp at hol2; omega)
    rw [hjl,List.take_of_length_le (Nat.le_refl _)] at hb
    refine ZAA (fun h3=>?_) (fun h3=>?_)
    ·rw [Bool.not_eq_true'] at h3
     rw [h3] at hb
     have hb:=(Bool.or_eq_false_iff.1 hb.symm)
     rw [if_pos ⟨bne_eq_false_iff_eq.1 hb.1,hb.2⟩] at hnk
     refine ⟨k,_,rfl,ZBA k1,?_⟩
     refine Acc.app (n:=0) (i:=ti9) (es:=es) (.own _ _ _ q0 q1) (Nat.zero_le _) (List.cons_ne_nil _ _) ?_ ?_ (fun t9 e9 tk9 z0 z1 z2 z3=>?_)
     ·show ((es:List (List AV)).length+1)*16<=_; omega
     ·show (es:List (List AV)).length+1<=_; omega
     intro c hc
     rw [IntWalk.i64_in _ (by omega)] at hc
     obtain rfl:c=((k+1:Nat):Int):=by omega
     refine ⟨g - 1,by omega,k+1,_,by omega,rfl,?_⟩
     rw [hnk,<- ZGt,hes]
     exact .own _ _ _ (Nat.zero_le _) z1
    ·rw [Bool.not_eq_false'] at h3
     rw [h3] at hb
     rw [if_neg (fun h=>by rw [h.1,h.2] at hb; cases hb)] at hnk
     intro c hc
     rw [IntWalk.i64_in _ (by omega)] at hc
     obtain rfl:c=((k+1:Nat):Int):=by omega
     refine ⟨g - 1,by omega,k+1,_,by omega,rfl,?_⟩
     rw [hnk,hes]
     exact (.own _ _ _ q0 q1)
  ·have hd:=of_decide_eq_false hd
   have hkl:k=l.length:=by omega
   rw [hkl,List.take_of_length_le (Nat.le_refl _)] at hes
   show resX _ _ (.sl .no 1 (strL (namT l)))
   rw [hes]
   exact .inl (.inl ⟨rfl,rfl⟩)
end
end Go.Proofs.YticbonkojpabnaaGreatDoor
