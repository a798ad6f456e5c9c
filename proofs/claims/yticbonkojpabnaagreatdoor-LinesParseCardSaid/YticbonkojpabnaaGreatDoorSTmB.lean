/- Templates: the document's reading. No statement of its own. -/
import Derived.Test.YticbonkojpabnaaGreatDoorSTmA
import Derived.Test.YticbonkojpabnaaGreatDoorSTmQ
set_option linter.unusedSimpArgs false
set_option linter.unusedVariables false
set_option maxRecDepth 100000
namespace Go.Proofs.YticbonkojpabnaaGreatDoor
open Go.RowKit
theorem lo_sml (n:Int) (h0:0<=n) (h1:n<=255):inI loS n=smlI n:=by
 have:∀ m:Nat,m<256->inI loS (m:Int)=smlI (m:Int):=by decide +kernel
 obtain ⟨m,rfl⟩:=Int.eq_ofNat_of_zero_le h0
 exact this m (by omega)
def oneR (t:ByteArray):Prt × Nat:=match oneT t 0 with
 | none=>((0,⟨#[]⟩),0)
 | some x=>x
set_option maxHeartbeats 9000000 in
theorem one31_p (t:ByteArray) (h0:0<t.size) (hs:t.size<=1099511627776):ZAC Tryz.prog 144 [.s t] (.tup [.agg (prtC (oneR t).1),.i (oneR t).2]) []:=by
 have hmx:maxLen=9223372036854775807:=rfl
 have hl:=ZCR nbrI t 0 (Nat.zero_le _)
 rw [Nat.zero_add] at hl
 have hZ:oneR t=match oneT t 0 with
  | none=>((0,⟨#[]⟩),0)
  | some x=>x:=rfl
 have hO:oneT t 0=(if atB t 0 36=false then
   (if h:0<t.size then (if valI (t[0].toNat:Int)=true then some ((1,t.extract 0 1),1) else none) else none)
  else if atB t 1 36=true then some ((1,⟨#[36]⟩),2)
  else if tw nbrI t 0=t.size \/ tw nbrI t 0<3 \/ atB t 1 123=false then none
  else if atB t 2 64=true then
   (if tokB (t.extract 3 (tw nbrI t 0))=true then some ((3,t.extract 3 (tw nbrI t 0)),tw nbrI t 0+1) else none)
  else (if allI smlI (t.extract 2 (tw nbrI t 0))=true then some ((2,t.extract 2 (tw nbrI t 0)),tw nbrI t 0+1) else none)):=by
  unfold oneT
  simp only [Nat.zero_add]
 generalize oneR t=Z at hZ
 rw [hO,ZAj h0] at hZ
 clear hO
 refine ZAC.of rfl (ZAB.of_vc T_ok mixed Tryz.func144 rfl Tryz.call144 ?_)
 refine ⟨0,h0,rfl,?_⟩
 refine ZAA (fun h1=>?_) (fun h1=>?_)
 ·have h1:((t[0].toNat:Int) == 36)=false:=by rw [bne,Bool.not_eq_true'] at h1; exact h1
  rw [h1,if_pos rfl,dif_pos h0] at hZ
  refine ⟨0,h0,rfl,?_⟩
  refine .p rfl (ZFg _ (by omega) (by have:=t[0].toNat_lt; omega)) ?_
  refine ZAA (fun h2=>?_) (fun h2=>?_)
  ·rw [Bool.not_eq_true'] at h2
   rw [if_neg (by rw [h2]; decide)] at hZ
   refine ⟨_,rfl,?_⟩
   refine ⟨_,rfl,?_⟩
   subst hZ
   rfl
  ·rw [Bool.not_eq_false'] at h2
   rw [if_pos h2] at hZ
   refine ⟨1,rfl,Nat.zero_le _,h0,?_⟩
   refine ⟨_,rfl,?_⟩
   refine ⟨_,rfl,?_⟩
   subst hZ
   rfl
 ·have h1:((t[0].toNat:Int) == 36)=true:=by rw [bne,Bool.not_eq_false'] at h1; exact h1
  rw [h1,if_neg (by decide)] at hZ
  refine ZAA (fun h2=>?_) (fun h2=>?_)
  ·have h2:(t.size:Int) > 1:=of_decide_eq_true h2
   have k1:1<t.size:=by omega
   refine ⟨1,k1,rfl,?_⟩
   refine ZAA (fun h3=>?_) (fun h3=>?_)
   ·have h1x:atB t 1 36=true:=by rw [ZAj k1]; exact h3
    rw [if_pos h1x] at hZ
    refine ⟨_,rfl,?_⟩
    refine ⟨_,rfl,?_⟩
    subst hZ
    rfl
   ·have h1x:atB t 1 36=false:=by rw [ZAj k1]; exact h3
    rw [h1x,if_neg (by decide)] at hZ
    refine ZE5 0 [4] (fun g vals st'=>∃ m:Nat,m+g=(t).size/\0<=m/\vals=[.i m]/\st'=⟨[[.i 0,.s ⟨#[]⟩]],[]⟩/\∀ j (hj:j<(t).size),0<=j->j<m->nbrI ((t)[j].toNat:Int)=true) ((t).size - (0)) (fun vals st'=>vals=[.i (0+tw nbrI (t) (0):Nat)]/\st'=⟨[[.i 0,.s ⟨#[]⟩]],[]⟩) rfl ⟨0,by omega,Nat.le_refl _,rfl,rfl,fun j _ h1 h2=>absurd h2 (by omega)⟩ ?_ ?_
    ·rintro g vals st' ⟨m,hm,hm1,rfl,rfl,hall⟩
     refine ZAA (fun hd=>?_) (fun hd=>?_)
     ·have hd:=of_decide_eq_true hd
      have m1:m<(t).size:=by omega
      refine ⟨m,m1,rfl,?_⟩
      refine ZAA (fun h1=>?_) (fun h1=>?_)
      ·intro c hc
       rw [IntWalk.i64_in _ (by omega)] at hc
       obtain rfl:c=((m+1:Nat):Int):=by omega
       refine ⟨g - 1,by omega,m+1,by omega,by omega,rfl,rfl,fun j hj h0 hjm=>?_⟩
       by_cases e:j=m
       ·subst e; exact h1
       ·exact hall j hj h0 (by omega)
      ·exact ⟨congrArg (fun x:Nat=>[AV.i (x:Int)]) (ZDc hall hm1 (by omega) (fun _=>h1)).symm,rfl⟩
     ·have hd:=of_decide_eq_false hd
      exact ⟨congrArg (fun x:Nat=>[AV.i (x:Int)]) (ZDc hall hm1 (by omega) (fun h=>absurd h (by omega))).symm,rfl⟩
    rintro vals st' ⟨rfl,rfl⟩
    generalize hE:tw nbrI t 0=E at *
    rw [Nat.zero_add] at *
    refine ZAA (fun h3=>?_) (fun h3=>?_)
    ·have h3:(E:Int)=t.size:=beq_iff_eq.1 h3
     rw [if_pos (.inl (by omega))] at hZ
     refine ⟨_,rfl,?_⟩
     refine ⟨_,rfl,?_⟩
     subst hZ
     rfl
    have h3:(E:Int)≠t.size:=beq_eq_false_iff_ne.1 h3
    refine ZAA (fun h4=>?_) (fun h4=>?_)
    ·have h4:(E:Int)<3:=of_decide_eq_true h4
     rw [if_pos (.inr (.inl (by omega)))] at hZ
     refine ⟨_,rfl,?_⟩
     refine ⟨_,rfl,?_⟩
     subst hZ
     rfl
    have h4:¬ (E:Int)<3:=of_decide_eq_false h4
    have l1:1<t.size:=by omega
    refine ⟨1,l1,rfl,?_⟩
    refine ZAA (fun h5=>?_) (fun h5=>?_)
    ·have h5:atB t 1 123=false:=by rw [ZAj l1]; rw [bne,Bool.not_eq_true'] at h5; exact h5
     rw [if_pos (.inr (.inr h5))] at hZ
     refine ⟨_,rfl,?_⟩
     refine ⟨_,rfl,?_⟩
     subst hZ
     rfl
    have h5:atB t 1 123=true:=by rw [ZAj l1]; rw [bne,Bool.not_eq_false'] at h5; exact h5
    rw [if_neg (fun h=>h.elim (fun h=>by omega) (fun h=>h.elim (fun h=>by omega) (fun h=>by rw [h5] at h; cases h)))] at hZ
    refine ⟨E,rfl,2,rfl,by omega,by omega,?_⟩
    have hNz:(t.extract 2 E).size=E - 2:=ZBb t 2 E (by omega)
    have hN0:atB (t.extract 2 E) 0 64=atB t 2 64:=by
     rw [ZAj (by omega),ZAj (by omega),ByteArray.getElem_extract]
    have hN1:(t.extract 2 E).extract 1 (t.extract 2 E).size=t.extract 3 E:=by
     rw [hNz]
     refine inL ?_
     rw [exL,exL,exL,List.take_of_length_le (by rw [List.length_drop,List.length_take]; omega),List.drop_drop]
    generalize t.extract 2 E=N at *
    have n0:0<N.size:=by omega
    refine ⟨0,n0,rfl,?_⟩
    refine ZAA (fun h6=>?_) (fun h6=>?_)
    ·have h6:atB t 2 64=true:=by rw [<- hN0,ZAj n0]; exact h6
     rw [if_pos h6] at hZ
     refine ⟨1,rfl,by omega,Nat.le_refl _,?_⟩
     refine .p rfl (ZEV _ (by rw [ZBb _ _ _ (Nat.le_refl _)]; omega)) ?_
     refine ZAA (fun h7=>?_) (fun h7=>?_)
     ·rw [hN1,Bool.not_eq_true'] at h7
      rw [if_neg (by rw [h7]; decide)] at hZ
      refine ⟨_,rfl,?_⟩
      refine ⟨_,rfl,?_⟩
      subst hZ
      rfl
     ·rw [hN1,Bool.not_eq_false'] at h7
      rw [if_pos h7] at hZ
      refine ⟨1,rfl,by omega,Nat.le_refl _,?_⟩
      intro c hc
      rw [IntWalk.i64_in _ (by omega)] at hc
      obtain rfl:c=((E+1:Nat):Int):=by omega
      refine ⟨_,rfl,?_⟩
      refine ⟨_,rfl,?_⟩
      subst hZ
      show (AV.tup [.agg [.i 3,.s (N.extract 1 N.size)],.i ((E+1:Nat):Int)])=_
      rw [hN1]
      rfl
    ·have h6:atB t 2 64=false:=by rw [<- hN0,ZAj n0]; exact h6
     rw [if_neg (by rw [h6]; decide)] at hZ
     refine ZAF [6] (fun g vals st'=>∃ k:Nat,k+g=N.size/\vals=[.i k]/\st'=⟨[[.i 0,.s ⟨#[]⟩]],[]⟩/\ARel smlI N k) N.size rfl ⟨0,by omega,rfl,rfl,fun j _ h=>absurd h (by omega)⟩ ?_
     rintro g vals st' ⟨k,hk,rfl,rfl,hr⟩
     refine ZAA (fun hd=>?_) (fun hd=>?_)
     ·have hd:=of_decide_eq_true hd
      have k1:k<N.size:=by omega
      refine ⟨k,k1,rfl,?_⟩
      have hin:=in1_p (N[k].toNat:Int) loS (by decide)
      rw [lo_sml _ (by omega) (by have:=N[k].toNat_lt; omega)] at hin
      refine .p rfl hin ?_
      refine ZAA (fun h2=>?_) (fun h2=>?_)
      ·rw [Bool.not_eq_true'] at h2
       rw [if_neg (by rw [ZB4 k1 h2]; decide)] at hZ
       refine ⟨_,rfl,?_⟩
       refine ⟨_,rfl,?_⟩
       subst hZ
       rfl
      ·rw [Bool.not_eq_false'] at h2
       intro c hc
       rw [IntWalk.i64_in _ (by omega)] at hc
       obtain rfl:c=((k+1:Nat):Int):=by omega
       refine ⟨g - 1,by omega,k+1,by omega,rfl,rfl,fun j hj hjk=>?_⟩
       by_cases e:j=k
       ·subst e; exact h2
       ·exact hr j hj (by omega)
     ·have hd:=of_decide_eq_false hd
      rw [if_pos (ZB1 (fun j hj=>hr j hj (by omega)))] at hZ
      intro c hc
      rw [IntWalk.i64_in _ (by omega)] at hc
      obtain rfl:c=((E+1:Nat):Int):=by omega
      refine ⟨_,rfl,?_⟩
      refine ⟨_,rfl,?_⟩
      subst hZ
      rfl
  ·have h2:¬ (t.size:Int) > 1:=of_decide_eq_false h2
   have h1x:atB t 1 36=false:=ZCY (by omega) _
   rw [h1x,if_neg (by decide)] at hZ
   refine ZE5 0 [4] (fun g vals st'=>∃ m:Nat,m+g=(t).size/\0<=m/\vals=[.i m]/\st'=⟨[[.i 0,.s ⟨#[]⟩]],[]⟩/\∀ j (hj:j<(t).size),0<=j->j<m->nbrI ((t)[j].toNat:Int)=true) ((t).size - (0)) (fun vals st'=>vals=[.i (0+tw nbrI (t) (0):Nat)]/\st'=⟨[[.i 0,.s ⟨#[]⟩]],[]⟩) rfl ⟨0,by omega,Nat.le_refl _,rfl,rfl,fun j _ h1 h2=>absurd h2 (by omega)⟩ ?_ ?_
   ·rintro g vals st' ⟨m,hm,hm1,rfl,rfl,hall⟩
    refine ZAA (fun hd=>?_) (fun hd=>?_)
    ·have hd:=of_decide_eq_true hd
     have m1:m<(t).size:=by omega
     refine ⟨m,m1,rfl,?_⟩
     refine ZAA (fun h1=>?_) (fun h1=>?_)
     ·intro c hc
      rw [IntWalk.i64_in _ (by omega)] at hc
      obtain rfl:c=((m+1:Nat):Int):=by omega
      refine ⟨g - 1,by omega,m+1,by omega,by omega,rfl,rfl,fun j hj h0 hjm=>?_⟩
      by_cases e:j=m
      ·subst e; exact h1
      ·exact hall j hj h0 (by omega)
     ·exact ⟨congrArg (fun x:Nat=>[AV.i (x:Int)]) (ZDc hall hm1 (by omega) (fun _=>h1)).symm,rfl⟩
    ·have hd:=of_decide_eq_false hd
     exact ⟨congrArg (fun x:Nat=>[AV.i (x:Int)]) (ZDc hall hm1 (by omega) (fun h=>absurd h (by omega))).symm,rfl⟩
   rintro vals st' ⟨rfl,rfl⟩
   generalize hE:tw nbrI t 0=E at *
   rw [Nat.zero_add] at *
   refine ZAA (fun h3=>?_) (fun h3=>?_)
   ·have h3:(E:Int)=t.size:=beq_iff_eq.1 h3
    rw [if_pos (.inl (by omega))] at hZ
    refine ⟨_,rfl,?_⟩
    refine ⟨_,rfl,?_⟩
    subst hZ
    rfl
   have h3:(E:Int)≠t.size:=beq_eq_false_iff_ne.1 h3
   refine ZAA (fun h4=>?_) (fun h4=>?_)
   ·have h4:(E:Int)<3:=of_decide_eq_true h4
    rw [if_pos (.inr (.inl (by omega)))] at hZ
    refine ⟨_,rfl,?_⟩
    refine ⟨_,rfl,?_⟩
    subst hZ
    rfl
   have h4:¬ (E:Int)<3:=of_decide_eq_false h4
   have l1:1<t.size:=by omega
   refine ⟨1,l1,rfl,?_⟩
   refine ZAA (fun h5=>?_) (fun h5=>?_)
   ·have h5:atB t 1 123=false:=by rw [ZAj l1]; rw [bne,Bool.not_eq_true'] at h5; exact h5
    rw [if_pos (.inr (.inr h5))] at hZ
    refine ⟨_,rfl,?_⟩
    refine ⟨_,rfl,?_⟩
    subst hZ
    rfl
   have h5:atB t 1 123=true:=by rw [ZAj l1]; rw [bne,Bool.not_eq_false'] at h5; exact h5
   rw [if_neg (fun h=>h.elim (fun h=>by omega) (fun h=>h.elim (fun h=>by omega) (fun h=>by rw [h5] at h; cases h)))] at hZ
   refine ⟨E,rfl,2,rfl,by omega,by omega,?_⟩
   have hNz:(t.extract 2 E).size=E - 2:=ZBb t 2 E (by omega)
   have hN0:atB (t.extract 2 E) 0 64=atB t 2 64:=by
    rw [ZAj (by omega),ZAj (by omega),ByteArray.getElem_extract]
   have hN1:(t.extract 2 E).extract 1 (t.extract 2 E).size=t.extract 3 E:=by
    rw [hNz]
    refine inL ?_
    rw [exL,exL,exL,List.take_of_length_le (by rw [List.length_drop,List.length_take]; omega),List.drop_drop]
   generalize t.extract 2 E=N at *
   have n0:0<N.size:=by omega
   refine ⟨0,n0,rfl,?_⟩
   refine ZAA (fun h6=>?_) (fun h6=>?_)
   ·have h6:atB t 2 64=true:=by rw [<- hN0,ZAj n0]; exact h6
    rw [if_pos h6] at hZ
    refine ⟨1,rfl,by omega,Nat.le_refl _,?_⟩
    refine .p rfl (ZEV _ (by rw [ZBb _ _ _ (Nat.le_refl _)]; omega)) ?_
    refine ZAA (fun h7=>?_) (fun h7=>?_)
    ·rw [hN1,Bool.not_eq_true'] at h7
     rw [if_neg (by rw [h7]; decide)] at hZ
     refine ⟨_,rfl,?_⟩
     refine ⟨_,rfl,?_⟩
     subst hZ
     rfl
    ·rw [hN1,Bool.not_eq_false'] at h7
     rw [if_pos h7] at hZ
     refine ⟨1,rfl,by omega,Nat.le_refl _,?_⟩
     intro c hc
     rw [IntWalk.i64_in _ (by omega)] at hc
     obtain rfl:c=((E+1:Nat):Int):=by omega
     refine ⟨_,rfl,?_⟩
     refine ⟨_,rfl,?_⟩
     subst hZ
     show (AV.tup [.agg [.i 3,.s (N.extract 1 N.size)],.i ((E+1:Nat):Int)])=_
     rw [hN1]
     rfl
   ·have h6:atB t 2 64=false:=by rw [<- hN0,ZAj n0]; exact h6
    rw [if_neg (by rw [h6]; decide)] at hZ
    refine ZAF [6] (fun g vals st'=>∃ k:Nat,k+g=N.size/\vals=[.i k]/\st'=⟨[[.i 0,.s ⟨#[]⟩]],[]⟩/\ARel smlI N k) N.size rfl ⟨0,by omega,rfl,rfl,fun j _ h=>absurd h (by omega)⟩ ?_
    rintro g vals st' ⟨k,hk,rfl,rfl,hr⟩
    refine ZAA (fun hd=>?_) (fun hd=>?_)
    ·have hd:=of_decide_eq_true hd
     have k1:k<N.size:=by omega
     refine ⟨k,k1,rfl,?_⟩
     have hin:=in1_p (N[k].toNat:Int) loS (by decide)
     rw [lo_sml _ (by omega) (by have:=N[k].toNat_lt; omega)] at hin
     refine .p rfl hin ?_
     refine ZAA (fun h2=>?_) (fun h2=>?_)
     ·rw [Bool.not_eq_true'] at h2
      rw [if_neg (by rw [ZB4 k1 h2]; decide)] at hZ
      refine ⟨_,rfl,?_⟩
      refine ⟨_,rfl,?_⟩
      subst hZ
      rfl
     ·rw [Bool.not_eq_false'] at h2
      intro c hc
      rw [IntWalk.i64_in _ (by omega)] at hc
      obtain rfl:c=((k+1:Nat):Int):=by omega
      refine ⟨g - 1,by omega,k+1,by omega,rfl,rfl,fun j hj hjk=>?_⟩
      by_cases e:j=k
      ·subst e; exact h2
      ·exact hr j hj (by omega)
    ·have hd:=of_decide_eq_false hd
     rw [if_pos (ZB1 (fun j hj=>hr j hj (by omega)))] at hZ
     intro c hc
     rw [IntWalk.i64_in _ (by omega)] at hc
     obtain rfl:c=((E+1:Nat):Int):=by omega
     refine ⟨_,rfl,?_⟩
     refine ⟨_,rfl,?_⟩
     subst hZ
     rfl
end Go.Proofs.YticbonkojpabnaaGreatDoor
