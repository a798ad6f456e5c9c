/- Templates: their texts, and names, by the program and by the document; the laws' rows of parts. No statement of its own. -/
import Derived.Test.YticbonkojpabnaaGreatDoorSTmC
import Derived.Test.YticbonkojpabnaaGreatDoorSCo
set_option linter.unusedSimpArgs false
set_option linter.unusedVariables false
set_option maxRecDepth 100000
namespace Go.Proofs.YticbonkojpabnaaGreatDoor
open Go.RowKit
theorem ZMd (l m:List Prt) (h1:l.length<=1099511627776) (h2:m.length<=1099511627776):ZAC Tryz.prog 106 [.sl .no 2 (prtL l),.sl .no 2 (prtL m)] (.b (decide (l=m))) []:=by
 have el:=ZBg l
 have em:=ZBg m
 refine ZAC.of rfl (ZAB.of_vc T_ok mixed Tryz.func106 rfl Tryz.call106 ?_)
 refine ZAA (fun hd=>?_) (fun hd=>?_)
 ·have hd:¬ ((prtL l).length:Int)=(prtL m).length:=by simpa using hd
  exact retb (decide_eq_false (fun e=>by subst e; omega)).symm
 ·have hd:((prtL l).length:Int)=(prtL m).length:=by simpa using hd
  refine ZAF [5] (fun g vals st'=>∃ k:Nat,k+g=l.length/\vals=[.i k]/\∀ j,j<k->l[j]? = m[j]?) l.length rfl ⟨0,by omega,rfl,fun j h=>absurd h (by omega)⟩ ?_
  rintro g vals st' ⟨k,hk,rfl,ha⟩
  refine ZAA (fun hd2=>?_) (fun hd2=>?_)
  ·have hd2:=of_decide_eq_true hd2
   have k1:k<l.length:=by omega
   have k2:k<m.length:=by omega
   refine .x (by kernel_rfl) ?_
   refine ⟨k,_,rfl,ZBA k1,?_⟩
   refine ⟨k,_,rfl,ZBA k2,?_⟩
   refine ⟨by kernel_rfl,fun q hq=>?_⟩
   have hq:q=true ↔ l[k].1=m[k].1/\l[k].2=m[k].2/\True:=hq
   cases q with
   | false =>
    refine retb (decide_eq_false (fun e=>?_)).symm
    subst e
    have:=hq.2 ⟨rfl,rfl,trivial⟩
    cases this
   | true =>
    obtain ⟨e1,e2,_⟩:=hq.1 rfl
    intro c hc
    rw [IntWalk.i64_in _ (by omega)] at hc
    obtain rfl:c=((k+1:Nat):Int):=by omega
    refine ⟨g - 1,by omega,k+1,by omega,rfl,fun j hj=>?_⟩
    by_cases hjk:j=k
    ·subst hjk; rw [List.getElem?_eq_getElem k1,List.getElem?_eq_getElem k2]; exact congrArg some (Prod.ext e1 e2)
    ·exact ha j (by omega)
  ·have hd2:=of_decide_eq_false hd2
   refine retb (decide_eq_true (List.ext_getElem? fun j=>?_)).symm
   by_cases hj:j<k
   ·exact ha j hj
   ·rw [List.getElem?_eq_none (by omega),List.getElem?_eq_none (by omega)]
theorem ZJQ (l m:List Prt) (h1:l.length<=1099511627776) (h2:m.length<=1099511627776):ZAC Tryz.prog 119 [.sl .no 2 (prtL l),.sl .no 2 (prtL m)] (.b (decide (l=m))) []:=by
 have el:=ZBg l
 have em:=ZBg m
 refine ZAC.of rfl (ZAB.of_vc T_ok mixed Tryz.func119 rfl Tryz.call119 ?_)
 refine ZAA (fun hd=>?_) (fun hd=>?_)
 ·have hd:¬ ((prtL l).length:Int)=(prtL m).length:=by simpa using hd
  exact retb (decide_eq_false (fun e=>by subst e; omega)).symm
 ·have hd:((prtL l).length:Int)=(prtL m).length:=by simpa using hd
  refine ZAF [13] (fun g vals st'=>∃ k:Nat,k+g=l.length/\vals=[.i k]/\∀ j,j<k->l[j]? = m[j]?) l.length rfl ⟨0,by omega,rfl,fun j h=>absurd h (by omega)⟩ ?_
  rintro g vals st' ⟨k,hk,rfl,ha⟩
  refine ZAA (fun hd2=>?_) (fun hd2=>?_)
  ·have hd2:=of_decide_eq_true hd2
   have k1:k<l.length:=by omega
   have k2:k<m.length:=by omega
   refine .x (by kernel_rfl) ?_
   refine ⟨k,_,rfl,ZBA k1,?_⟩
   refine ⟨k,_,rfl,ZBA k2,?_⟩
   refine ⟨by kernel_rfl,fun q hq=>?_⟩
   have hq:q=true ↔ l[k].1=m[k].1/\l[k].2=m[k].2/\True:=hq
   cases q with
   | false =>
    refine retb (decide_eq_false (fun e=>?_)).symm
    subst e
    have:=hq.2 ⟨rfl,rfl,trivial⟩
    cases this
   | true =>
    obtain ⟨e1,e2,_⟩:=hq.1 rfl
    intro c hc
    rw [IntWalk.i64_in _ (by omega)] at hc
    obtain rfl:c=((k+1:Nat):Int):=by omega
    refine ⟨g - 1,by omega,k+1,by omega,rfl,fun j hj=>?_⟩
    by_cases hjk:j=k
    ·subst hjk; rw [List.getElem?_eq_getElem k1,List.getElem?_eq_getElem k2]; exact congrArg some (Prod.ext e1 e2)
    ·exact ha j (by omega)
  ·have hd2:=of_decide_eq_false hd2
   refine retb (decide_eq_true (List.ext_getElem? fun j=>?_)).symm
   by_cases hj:j<k
   ·exact ha j hj
   ·rw [List.getElem?_eq_none (by omega),List.getElem?_eq_none (by omega)]
section
attribute [local irreducible] ZAn
theorem names_p (l:List Prt) (hl:l.length<=1000000):ZAC Tryz.prog 174 [.sl .no 2 (prtL l)] (.sl .no 1 (strL (namT l))) []:=by
 have hmx:maxLen=9223372036854775807:=rfl
 have el:=ZBg l
 refine ZAC.ofX rfl ?_
 refine ZAB.of_vc T_ok mixed Tryz.func174 rfl Tryz.call174 ?_
 refine ZAF [3,8] (fun g vals st'=>∃ (k:Nat) (a:AV),k+g=l.length/\vals=[a,.i k]/\Acc 0 st'.tk 1 a (strL (namT (l.take k)))) l.length rfl ⟨0,_,by omega,rfl,.nil⟩ ?_
 rintro g vals st1 ⟨k,a,hk,rfl,hA⟩
 have hnl:=ZFD l k (by omega)
 have hsl:=ZAH (namT (l.take k))
 generalize hes:strL (namT (l.take k))=es at hA hsl
 cases hA with
 | nil =>
  refine ZAA (fun hd=>?_) (fun hd=>?_)
  ·have hd:=of_decide_eq_true hd
   have k1:k<l.length:=by omega
   have hnk:=ZEE k1
   have hcon:=ZDN (namT (l.take k)) l[k].2 (by omega)
   rw [hes] at hcon
   refine ⟨k,_,rfl,ZBA k1,?_⟩
   refine ⟨_,ZAK _ _,?_⟩
   refine ⟨_,ZAL _ _ _,?_⟩
   refine ZAA (fun h2=>?_) (fun h2=>?_)
   ·have h2:l[k].1=2:=beq_iff_eq.1 h2
    refine ⟨_,ZAL _ _ _,?_⟩
    refine .w (args':=[.sl .no 1 [],.s l[k].2]) rfl ⟨.inr ⟨rfl,1,rfl⟩,.inl (.inl ⟨rfl,rfl⟩),trivial⟩ hcon ?_
    refine ZAA (fun h3=>?_) (fun h3=>?_)
    ·rw [Bool.not_eq_true'] at h3
     rw [if_pos ⟨h2,h3⟩] at hnk
     refine ⟨_,ZAL _ _ _,?_⟩
     refine Acc.app (n:=0) (i:=ti9) (es:=[]) .nil (Nat.zero_le _) (List.cons_ne_nil _ _) ?_ ?_ (fun t9 e9 tk9 z0 z1 z2 z3=>?_)
     ·show (([]:List (List AV)).length+1)*16<=_; omega
     ·show ([]:List (List AV)).length+1<=_; omega
     intro c hc
     rw [IntWalk.i64_in _ (by omega)] at hc
     obtain rfl:c=((k+1:Nat):Int):=by omega
     refine ⟨g - 1,by omega,k+1,_,by omega,rfl,?_⟩
     rw [hnk,<- ZGt,hes]
     exact .own _ _ _ (Nat.zero_le _) z1
    ·rw [Bool.not_eq_false'] at h3
     rw [if_neg (fun h=>by rw [h.2] at h3; cases h3)] at hnk
     intro c hc
     rw [IntWalk.i64_in _ (by omega)] at hc
     obtain rfl:c=((k+1:Nat):Int):=by omega
     refine ⟨g - 1,by omega,k+1,_,by omega,rfl,?_⟩
     rw [hnk,hes]
     exact .nil
   ·have h2:l[k].1≠2:=beq_eq_false_iff_ne.1 h2
    rw [if_neg (fun h=>h2 h.1)] at hnk
    intro c hc
    rw [IntWalk.i64_in _ (by omega)] at hc
    obtain rfl:c=((k+1:Nat):Int):=by omega
    refine ⟨g - 1,by omega,k+1,_,by omega,rfl,?_⟩
    rw [hnk,hes]
    exact .nil
  ·have hd:=of_decide_eq_false hd
   have hkl:k=l.length:=by omega
   rw [hkl,List.take_of_length_le (Nat.le_refl _)] at hes
   show resX _ _ (.sl .no 1 (strL (namT l)))
   rw [hes]
   exact .inl (.inr (.inl ⟨rfl,1,rfl⟩))
 | own t e es q0 q1 =>
  refine ZAA (fun hd=>?_) (fun hd=>?_)
  ·have hd:=of_decide_eq_true hd
   have k1:k<l.length:=by omega
   have hnk:=ZEE k1
   have hcon:=ZDN (namT (l.take k)) l[k].2 (by omega)
   rw [hes] at hcon
   refine ⟨k,_,rfl,ZBA k1,?_⟩
   refine ⟨_,ZAK _ _,?_⟩
   refine ⟨_,ZAL _ _ _,?_⟩
   refine ZAA (fun h2=>?_) (fun h2=>?_)
   ·have h2:l[k].1=2:=beq_iff_eq.1 h2
    refine ⟨_,ZAL _ _ _,?_⟩
    refine .p rfl hcon ?_
    refine ZAA (fun h3=>?_) (fun h3=>?_)
    ·rw [Bool.not_eq_true'] at h3
     rw [if_pos ⟨h2,h3⟩] at hnk
     refine ⟨_,ZAL _ _ _,?_⟩
     refine Acc.app (n:=0) (i:=ti9) (es:=es) (.own _ _ _ q0 q1) (Nat.zero_le _) (List.cons_ne_nil _ _) ?_ ?_ (fun t9 e9 tk9 z0 z1 z2 z3=>?_)
     ·show ((es:List (List AV)).length+1)*16<=_; omega
     ·show (es:List (List AV)).length+1<=_; omega
     intro c hc
     rw [IntWalk.i64_in _ (by omega)] at hc
     obtain rfl:c=((k+1:Nat):Int):=by omega
     refine ⟨g - 1,by omega,k+1,_,by omega,rfl,?_⟩
     rw [hnk,<- ZGt,hes]
     exact .own _ _ _ (Nat.zero_le _) z1
    ·rw [Bool.not_eq_false'] at h3
     rw [if_neg (fun h=>by rw [h.2] at h3; cases h3)] at hnk
     intro c hc
     rw [IntWalk.i64_in _ (by omega)] at hc
     obtain rfl:c=((k+1:Nat):Int):=by omega
     refine ⟨g - 1,by omega,k+1,_,by omega,rfl,?_⟩
     rw [hnk,hes]
     exact (.own _ _ _ q0 q1)
   ·have h2:l[k].1≠2:=beq_eq_false_iff_ne.1 h2
    rw [if_neg (fun h=>h2 h.1)] at hnk
    intro c hc
    rw [IntWalk.i64_in _ (by omega)] at hc
    obtain rfl:c=((k+1:Nat):Int):=by omega
    refine ⟨g - 1,by omega,k+1,_,by omega,rfl,?_⟩
    rw [hnk,hes]
    exact (.own _ _ _ q0 q1)
  ·have hd:=of_decide_eq_false hd
   have hkl:k=l.length:=by omega
   rw [hkl,List.take_of_length_le (Nat.le_refl _)] at hes
   show resX _ _ (.sl .no 1 (strL (namT l)))
   rw [hes]
   exact .inl (.inl ⟨rfl,rfl⟩)
end
def pcs (p:Prt):List ByteArray:=if p.1=1 then [escB p.2] else if p.1=2 then [⟨#[36,123]⟩,p.2,⟨#[125]⟩] else if p.1=3 then [⟨#[36,123,64]⟩,p.2,⟨#[125]⟩] else []
theorem pcs_1 {p:Prt} (h:p.1=1):strL (pcs p)=[[.s (escB p.2)]]:=by unfold pcs; rw [if_pos h]; rfl
theorem pcs_2 {p:Prt} (h:p.1=2):strL (pcs p)=[[.s ⟨#[36,123]⟩],[.s p.2],[.s ⟨#[125]⟩]]:=by unfold pcs; rw [if_neg (by omega),if_pos h]; rfl
theorem pcs_3 {p:Prt} (h:p.1=3):strL (pcs p)=[[.s ⟨#[36,123,64]⟩],[.s p.2],[.s ⟨#[125]⟩]]:=by unfold pcs; rw [if_neg (by omega),if_neg (by omega),if_pos h]; rfl
theorem pcs_0 {p:Prt} (h1:p.1≠1) (h2:p.1≠2) (h3:p.1≠3):pcs p=[]:=by unfold pcs; rw [if_neg h1,if_neg h2,if_neg h3]
theorem ZDX {l:List Prt} {k:Nat} (h:k<l.length):(l.take (k+1)).flatMap pcs=(l.take k).flatMap pcs++pcs l[k]:=by rw [List.take_succ_eq_append_getElem h,List.flatMap_append]; simp
theorem ZAh (a b:List ByteArray):strL (a++b)=strL a++strL b:=by simp [strL]
theorem ZJZ (l:List Prt):∀ k,k<=l.length->((l.take k).flatMap pcs).length<=3*k
 | 0,_=>by simp
 | k+1,h=>by
  have ih:=ZJZ l k (by omega)
  rw [ZDX (by omega),List.length_append]
  have:(pcs l[k]).length<=3:=by
   unfold pcs
   repeat' split
   all_goals simp
  omega
theorem ZDJ (l:List ByteArray) (x:ByteArray):ZBU ⟨#[]⟩ (l++[x])=ZBU ⟨#[]⟩ l++x:=by
 by_cases h:l=[]
 ·subst h
  rw [List.nil_append,ZCH,ZFB,ZLt]
 ·rw [ZH3 _ _ _ h,ZHo]
theorem joinE_app (a b:List ByteArray):ZBU ⟨#[]⟩ (a++b)=ZBU ⟨#[]⟩ a++ZBU ⟨#[]⟩ b:=by
 induction b generalizing a with
 | nil=>rw [List.append_nil,ZFB,ZHo]
 | cons x r ih =>
  have e:a++x::r=(a++[x])++r:=by simp
  rw [e,ih,ZDJ]
  have e2:x::r=[x]++r:=rfl
  rw [e2,ih [x],ZCH,ByteArray.append_assoc]
theorem join_pcs (p:Prt):ZBU ⟨#[]⟩ (pcs p)=wr1 p:=by
 unfold pcs wr1
 split
 ·exact ZCH _ _
 ·split
  ·rw [show [(⟨#[36,123]⟩:ByteArray),p.2,⟨#[125]⟩]=([⟨#[36,123]⟩]++[p.2])++[⟨#[125]⟩] from rfl,ZDJ,ZDJ,ZCH]
  ·split
   ·rw [show [(⟨#[36,123,64]⟩:ByteArray),p.2,⟨#[125]⟩]=([⟨#[36,123,64]⟩]++[p.2])++[⟨#[125]⟩] from rfl,ZDJ,ZDJ,ZCH]
   ·exact ZFB _
theorem ZJJ (l:List Prt):ZBU ⟨#[]⟩ (l.flatMap pcs)=wrL l:=by
 induction l with
 | nil=>exact ZFB _
 | cons p r ih=>rw [List.flatMap_cons,joinE_app,join_pcs,ih,ZMK]
theorem ZKc (s:ByteArray) (hs:s.size<=1000000):ZAC Tryz.prog 137 [.s s,.s ⟨#[36]⟩,.s ⟨#[36,36]⟩] (.s (escB s)) [] :=
 ZAC.of_lits #[.string s,.string ⟨#[36]⟩,.string ⟨#[36,36]⟩] (.inl rfl) rfl Tryz.call137 fun w hw=>by
  obtain ⟨m,hm⟩:=hw.max
  have hc:=Lib.countB_mul_le ⟨#[36]⟩ (by decide) s.size s (Nat.le_refl _)
  have h1:(⟨#[36]⟩:ByteArray).size=1:=rfl
  have h2:(⟨#[36,36]⟩:ByteArray).size=2:=rfl
  refine (Tryz.strings_ReplaceAll s ⟨#[36]⟩ ⟨#[36,36]⟩ m w (by omega) hm (by decide) (by rw [h1] at hc; rw [h2]; omega)).mono ?_
  rintro e w' ⟨rfl,hb⟩
  exact ⟨by rw [ZHv],hb⟩
section
attribute [local irreducible] ZAn
set_option maxHeartbeats 1000000 in
theorem ZL6 (l:List Prt) (hl:l.length<=1000) (hz:sumT l<=1000000):ZAC Tryz.prog 96 [.sl .no 2 (prtL l)] (.tup [.s (ZB9 l).1,.i (ZB9 l).2]) []:=by
 have hmx:maxLen=9223372036854775807:=rfl
 have el:=ZBg l
 have hws:=ZEZ l
 have hT:ZB9 l=if (ZAM (wrL l)).2≠0 \/ (ZAM (wrL l)).1≠l then (⟨#[]⟩,2) else (wrL l,0):=rfl
 have hpl:=ZDL (wrL l)
 generalize ZB9 l=Z at hT
 refine ZAC.of rfl (ZAB.of_vc T_ok mixed Tryz.func96 rfl Tryz.call96 ?_)
 refine ZAF [4,12] (fun g vals st'=>∃ (k:Nat) (a:AV),k+g=l.length/\vals=[a,.i k]/\Acc 0 st'.tk 1 a (strL ((l.take k).flatMap pcs))) l.length rfl ⟨0,_,by omega,rfl,.nil⟩ ?_
 rintro g vals st1 ⟨k,a,hk,rfl,hA⟩
 generalize hes:strL ((l.take k).flatMap pcs)=es at hA
 cases hA with
 | nil =>
  refine ZAA (fun hd=>?_) (fun hd=>?_)
  ·have hd:=of_decide_eq_true hd
   have k1:k<l.length:=by omega
   have hmem:=ZFi (List.getElem_mem k1)
   have hes3:([]:List (List AV)).length<=3*k:=by rw [<- hes,ZAH]; exact ZJZ l k (by omega)
   refine ⟨k,_,rfl,ZBA k1,?_⟩
   refine ⟨_,ZAK _ _,?_⟩
   refine ⟨_,ZAL _ _ _,?_⟩
   refine ZAA (fun h1=>?_) (fun h1=>?_)
   ·have h1:l[k].1=1:=beq_iff_eq.1 h1
    refine ⟨_,ZAL _ _ _,?_⟩
    refine .p rfl (ZKc l[k].2 (by omega)) ?_
    refine Acc.app (n:=0) (i:=ti9) (es:=[]) .nil (Nat.zero_le _) (List.cons_ne_nil _ _) ?_ ?_ (fun t9 e9 tk9 z0 z1 z2 z3=>?_)
    ·show (([]:List (List AV)).length+1)*16<=_; omega
    ·show ([]:List (List AV)).length+1<=_; omega
    intro c hc
    rw [IntWalk.i64_in _ (by omega)] at hc
    obtain rfl:c=((k+1:Nat):Int):=by omega
    refine ⟨g - 1,by omega,k+1,_,by omega,rfl,?_⟩
    rw [ZDX k1,ZAh,hes,pcs_1 h1]
    exact .own _ _ _ (Nat.zero_le _) z1
   have h1:l[k].1≠1:=beq_eq_false_iff_ne.1 h1
   refine ZAA (fun h2=>?_) (fun h2=>?_)
   ·have h2:l[k].1=2:=beq_iff_eq.1 h2
    refine ⟨_,ZAL _ _ _,?_⟩
    refine Acc.app (n:=0) (i:=ti9) (es:=[]) .nil (Nat.zero_le _) (List.cons_ne_nil _ _) ?_ ?_ (fun t9 e9 tk9 z0 z1 z2 z3=>?_)
    ·show (([]:List (List AV)).length+3)*16<=_; omega
    ·show ([]:List (List AV)).length+3<=_; omega
    intro c hc
    rw [IntWalk.i64_in _ (by omega)] at hc
    obtain rfl:c=((k+1:Nat):Int):=by omega
    refine ⟨g - 1,by omega,k+1,_,by omega,rfl,?_⟩
    rw [ZDX k1,ZAh,hes,pcs_2 h2]
    exact .own _ _ _ (Nat.zero_le _) z1
   have h2:l[k].1≠2:=beq_eq_false_iff_ne.1 h2
   refine ZAA (fun h3=>?_) (fun h3=>?_)
   ·have h3:l[k].1=3:=beq_iff_eq.1 h3
    refine ⟨_,ZAL _ _ _,?_⟩
    refine Acc.app (n:=0) (i:=ti9) (es:=[]) .nil (Nat.zero_le _) (List.cons_ne_nil _ _) ?_ ?_ (fun t9 e9 tk9 z0 z1 z2 z3=>?_)
    ·show (([]:List (List AV)).length+3)*16<=_; omega
    ·show ([]:List (List AV)).length+3<=_; omega
    intro c hc
    rw [IntWalk.i64_in _ (by omega)] at hc
    obtain rfl:c=((k+1:Nat):Int):=by omega
    refine ⟨g - 1,by omega,k+1,_,by omega,rfl,?_⟩
    rw [ZDX k1,ZAh,hes,pcs_3 h3]
    exact .own _ _ _ (Nat.zero_le _) z1
   have h3:l[k].1≠3:=beq_eq_false_iff_ne.1 h3
   intro c hc
   rw [IntWalk.i64_in _ (by omega)] at hc
   obtain rfl:c=((k+1:Nat):Int):=by omega
   refine ⟨g - 1,by omega,k+1,_,by omega,rfl,?_⟩
   rw [ZDX k1,pcs_0 h1 h2 h3,List.append_nil,hes]
   exact .nil
  ·have hd:=of_decide_eq_false hd
   have hkl:k=l.length:=by omega
   rw [hkl,List.take_of_length_le (Nat.le_refl _)] at hes
   have hjn:=ZF2 ⟨#[]⟩ (l.flatMap pcs) (by have:=ZJZ l l.length (Nat.le_refl _); rw [List.take_of_length_le (Nat.le_refl _)] at this; omega) (by rw [ZJJ]; omega)
   rw [hes,ZJJ] at hjn
   refine .w (args':=[.s ⟨#[]⟩,.sl .no 1 []]) rfl ⟨.inl (.inl ⟨rfl,rfl⟩),.inr ⟨rfl,1,rfl⟩,trivial⟩ hjn ?_
   refine .p rfl (ZIy (wrL l) (by omega)) ?_
   refine ZAA (fun h1=>?_) (fun h1=>?_)
   ·have h1:(ZAM (wrL l)).2≠0:=by
     rw [bne_iff_ne] at h1
     exact h1
    rw [if_pos (.inl h1)] at hT
    rw [hT]
    rfl
   ·have h1:(ZAM (wrL l)).2=0:=bne_eq_false_iff_eq.1 h1
    refine .p rfl (ZJQ _ l (by omega) (by omega)) ?_
    refine ZAA (fun h2=>?_) (fun h2=>?_)
    ·rw [Bool.not_eq_true',decide_eq_false_iff_not] at h2
     rw [if_pos (.inr h2)] at hT
     rw [hT]
     rfl
    ·rw [Bool.not_eq_false',decide_eq_true_eq] at h2
     rw [if_neg (fun h=>h.elim (fun h=>h h1) (fun h=>h h2))] at hT
     rw [hT]
     rfl
 | own t e es q0 q1 =>
  refine ZAA (fun hd=>?_) (fun hd=>?_)
  ·have hd:=of_decide_eq_true hd
   have k1:k<l.length:=by omega
   have hmem:=ZFi (List.getElem_mem k1)
   have hes3:(es:List (List AV)).length<=3*k:=by rw [<- hes,ZAH]; exact ZJZ l k (by omega)
   refine ⟨k,_,rfl,ZBA k1,?_⟩
   refine ⟨_,ZAK _ _,?_⟩
   refine ⟨_,ZAL _ _ _,?_⟩
   refine ZAA (fun h1=>?_) (fun h1=>?_)
   ·have h1:l[k].1=1:=beq_iff_eq.1 h1
    refine ⟨_,ZAL _ _ _,?_⟩
    refine .p rfl (ZKc l[k].2 (by omega)) ?_
    refine Acc.app (n:=0) (i:=ti9) (es:=es) (.own _ _ _ q0 q1) (Nat.zero_le _) (List.cons_ne_nil _ _) ?_ ?_ (fun t9 e9 tk9 z0 z1 z2 z3=>?_)
    ·show ((es:List (List AV)).length+1)*16<=_; omega
    ·show (es:List (List AV)).length+1<=_; omega
    intro c hc
    rw [IntWalk.i64_in _ (by omega)] at hc
    obtain rfl:c=((k+1:Nat):Int):=by omega
    refine ⟨g - 1,by omega,k+1,_,by omega,rfl,?_⟩
    rw [ZDX k1,ZAh,hes,pcs_1 h1]
    exact .own _ _ _ (Nat.zero_le _) z1
   have h1:l[k].1≠1:=beq_eq_false_iff_ne.1 h1
   refine ZAA (fun h2=>?_) (fun h2=>?_)
   ·have h2:l[k].1=2:=beq_iff_eq.1 h2
    refine ⟨_,ZAL _ _ _,?_⟩
    refine Acc.app (n:=0) (i:=ti9) (es:=es) (.own _ _ _ q0 q1) (Nat.zero_le _) (List.cons_ne_nil _ _) ?_ ?_ (fun t9 e9 tk9 z0 z1 z2 z3=>?_)
    ·show ((es:List (List AV)).length+3)*16<=_; omega
    ·show (es:List (List AV)).length+3<=_; omega
    intro c hc
    rw [IntWalk.i64_in _ (by omega)] at hc
    obtain rfl:c=((k+1:Nat):Int):=by omega
    refine ⟨g - 1,by omega,k+1,_,by omega,rfl,?_⟩
    rw [ZDX k1,ZAh,hes,pcs_2 h2]
    exact .own _ _ _ (Nat.zero_le _) z1
   have h2:l[k].1≠2:=beq_eq_false_iff_ne.1 h2
   refine ZAA (fun h3=>?_) (fun h3=>?_)
   ·have h3:l[k].1=3:=beq_iff_eq.1 h3
    refine ⟨_,ZAL _ _ _,?_⟩
    refine Acc.app (n:=0) (i:=ti9) (es:=es) (.own _ _ _ q0 q1) (Nat.zero_le _) (List.cons_ne_nil _ _) ?_ ?_ (fun t9 e9 tk9 z0 z1 z2 z3=>?_)
    ·show ((es:List (List AV)).length+3)*16<=_; omega
    ·show (es:List (List AV)).length+3<=_; omega
    intro c hc
    rw [IntWalk.i64_in _ (by omega)] at hc
    obtain rfl:c=((k+1:Nat):Int):=by omega
    refine ⟨g - 1,by omega,k+1,_,by omega,rfl,?_⟩
    rw [ZDX k1,ZAh,hes,pcs_3 h3]
    exact .own _ _ _ (Nat.zero_le _) z1
   have h3:l[k].1≠3:=beq_eq_false_iff_ne.1 h3
   intro c hc
   rw [IntWalk.i64_in _ (by omega)] at hc
   obtain rfl:c=((k+1:Nat):Int):=by omega
   refine ⟨g - 1,by omega,k+1,_,by omega,rfl,?_⟩
   rw [ZDX k1,pcs_0 h1 h2 h3,List.append_nil,hes]
   exact (.own _ _ _ q0 q1)
  ·have hd:=of_decide_eq_false hd
   have hkl:k=l.length:=by omega
   rw [hkl,List.take_of_length_le (Nat.le_refl _)] at hes
   have hjn:=ZF2 ⟨#[]⟩ (l.flatMap pcs) (by have:=ZJZ l l.length (Nat.le_refl _); rw [List.take_of_length_le (Nat.le_refl _)] at this; omega) (by rw [ZJJ]; omega)
   rw [hes,ZJJ] at hjn
   refine .p rfl hjn ?_
   refine .p rfl (ZIy (wrL l) (by omega)) ?_
   refine ZAA (fun h1=>?_) (fun h1=>?_)
   ·have h1:(ZAM (wrL l)).2≠0:=by
     rw [bne_iff_ne] at h1
     exact h1
    rw [if_pos (.inl h1)] at hT
    rw [hT]
    rfl
   ·have h1:(ZAM (wrL l)).2=0:=bne_eq_false_iff_eq.1 h1
    refine .p rfl (ZJQ _ l (by omega) (by omega)) ?_
    refine ZAA (fun h2=>?_) (fun h2=>?_)
    ·rw [Bool.not_eq_true',decide_eq_false_iff_not] at h2
     rw [if_pos (.inr h2)] at hT
     rw [hT]
     rfl
    ·rw [Bool.not_eq_false',decide_eq_true_eq] at h2
     rw [if_neg (fun h=>h.elim (fun h=>h h1) (fun h=>h h2))] at hT
     rw [hT]
     rfl
end
end Go.Proofs.YticbonkojpabnaaGreatDoor
