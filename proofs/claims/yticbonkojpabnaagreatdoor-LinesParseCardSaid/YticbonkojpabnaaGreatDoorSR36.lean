/- Lines of rules, as the document reads them. No statement of its own. -/
import Derived.Test.YticbonkojpabnaaGreatDoorSRpz
import Derived.Test.YticbonkojpabnaaGreatDoorSRwy
import Derived.Test.YticbonkojpabnaaGreatDoorSRuR
import Derived.Test.YticbonkojpabnaaGreatDoorSWo
import Derived.Test.YticbonkojpabnaaGreatDoorSTmC
import Derived.Test.YticbonkojpabnaaGreatDoorSRuF
set_option linter.unusedSimpArgs false
set_option linter.unusedVariables false
set_option maxRecDepth 100000
namespace Go.Proofs.YticbonkojpabnaaGreatDoor
open Go.RowKit
def wdL (l:List Wd):List (List AV):=l.map fun w=>[AV.s w.1,AV.b w.2]
theorem ZIe (l:List Wd):(wdL l).length=l.length:=by simp [wdL]
theorem ZIs (l:List Wd) (w:Wd):wdL l++[[.s w.1,.b w.2]]=wdL (l++[w]):=by simp [wdL]
theorem Acc.argW {n:Nat} {tk:List Nat} {sz:Nat} {a:AV} {es:List (List AV)} (h:Acc n tk sz a es):argW a (.sl .no sz es):=by
 cases h with
 | nil=>exact .inr ⟨rfl,sz,rfl⟩
 | own t e es h1 h2=>exact .inl (.inl ⟨rfl,rfl⟩)
attribute [local irreducible] ZAn
/-- what is known at the head of the words' loop -/
def WInv (s:ByteArray) (acc:List Wd) (i:Nat):Prop :=
 (match gapS s i with
 | none=>(acc,false)
 | some j=>(acc++(ZAV s j).1,(ZAV s j).2))=ZBB s
theorem WInv.start (s:ByteArray):WInv s [] 0:=by
 unfold WInv
 have:gapS s 0=some (tw blkI s 0):=by unfold gapS; rw [if_neg (fun hh=>hh.2.1 rfl),Nat.zero_add]
 rw [this]
 rfl
theorem WInv.next {s:ByteArray} {acc:List Wd} {i j e:Nat} {t:ByteArray} (h:WInv s acc i) (hg:gapS s i=some j) (hj:j<s.size) (hw:ZB8 s j=some (t,e)):WInv s (acc++[(t,atB s j 34)]) e:=by
 unfold WInv at h ⊢
 rw [hg] at h
 simp only at h
 rw [<- h]
 cases hg2:gapS s e with
 | none=>rw [ZB5 hj hw hg2]
 | some j2 =>
  rw [ZA0 hj hw hg2]
  simp
theorem ZCO {s:ByteArray} {m:Nat} (hm:m<=s.size):ZDO (s.extract m s.size)=match ZB8 s m with
  | none=>(⟨#[]⟩,0)
  | some (v,j)=>(v,((j - m:Nat):Int)):=by
 unfold ZDO
 rw [cut_word s m hm]
 cases ZB8 s m with
 | none=>rfl
 | some x=>rfl
set_option maxHeartbeats 1000000 in
theorem words33_p (s:ByteArray) (hs:s.size<=1000000):ZAC Tryz.prog 156 [.s s] (.tup [.sl .no 2 (wdL (ZBB s).1),.b (ZBB s).2]) []:=by
 have hmx:maxLen=9223372036854775807:=rfl
 refine ZAC.ofG rfl ?_
 refine ZAB.of_vc T_ok mixed Tryz.func156 rfl Tryz.call156 ?_
 refine ZAF [4,5] (fun g vals st'=>∃ (i:Nat) (a:AV) (acc:List Wd),i+g=s.size/\vals=[a,.i i]/\acc.length<=i/\Acc 0 st'.tk 2 a (wdL acc)/\WInv s acc i) s.size rfl ⟨0,_,[],by omega,rfl,Nat.le_refl _,.nil,WInv.start s⟩ ?_
 rintro g vals st1 ⟨i,a,acc,hg,rfl,hal,hA,hW⟩
 have hi:i<=s.size:=by omega
 have hl1:=ZCR blkI s i hi
 have hlen:=ZIe acc
 generalize hes:wdL acc=es at hA hlen
 cases hA with
 | nil =>
  refine ZE5 2 [5] (fun g vals st'=>∃ m:Nat,m+g=(s).size/\i<=m/\vals=[.i m]/\st'=st1/\∀ j (hj:j<(s).size),i<=j->j<m->blkI ((s)[j].toNat:Int)=true) ((s).size - (i)) (fun vals st'=>vals=[.i (i+tw blkI (s) (i):Nat)]/\st'=st1) rfl ⟨i,by omega,Nat.le_refl _,rfl,rfl,fun j _ h1 h2=>absurd h2 (by omega)⟩ ?_ ?_
  ·rintro g vals st' ⟨m,hm,hm1,rfl,rfl,hall⟩
   refine ZAA (fun hd=>?_) (fun hd=>?_)
   ·have hd:=of_decide_eq_true hd
    have m1:m<(s).size:=by omega
    refine ⟨m,m1,rfl,?_⟩
    refine .p rfl ((fun n _ _=>ZE3 n) _ (by omega) (by have:=(s)[m].toNat_lt; omega)) ?_
    refine ZAA (fun h1=>?_) (fun h1=>?_)
    ·intro c hc
     rw [IntWalk.i64_in _ (by omega)] at hc
     obtain rfl:c=((m+1:Nat):Int):=by omega
     refine ⟨g - 1,by omega,m+1,by omega,by omega,rfl,rfl,fun j hj h0 hjm=>?_⟩
     by_cases e:j=m
     ·subst e; exact h1
     ·exact hall j hj h0 (by omega)
    ·exact ⟨congrArg (fun x:Nat=>[AV.i (x:Int)]) (ZDc hall hm1 (by omega) (fun _=>h1)).symm,rfl⟩
   ·have hd:=of_decide_eq_false hd
    exact ⟨congrArg (fun x:Nat=>[AV.i (x:Int)]) (ZDc hall hm1 (by omega) (fun h=>absurd h (by omega))).symm,rfl⟩
  rintro vals st' ⟨rfl,rfl⟩
  refine ZAA (fun h1=>?_) (fun h1=>?_)
  ·have h1:i+tw blkI s i=s.size:=by have:=beq_iff_eq.1 h1; omega
   have hg:gapS s i=some (i+tw blkI s i):=by unfold gapS; rw [if_neg (by omega)]
   unfold WInv at hW
   rw [hg,h1] at hW
   simp only [ZBt (Nat.le_refl s.size),List.append_nil] at hW
   rw [<- hW]
   show resV _ (.tup [.sl .no 2 (wdL acc),_])
   rw [hes]
   exact .inr ⟨_,_,rfl,rfl,.inr ⟨rfl,2,rfl⟩,.inl (.inl ⟨rfl,rfl⟩),trivial⟩
  have h1:i+tw blkI s i<s.size:=by have:=beq_eq_false_iff_ne.1 h1; omega
  have bad:(acc,false)=ZBB s->resV (.tup [.nilS,.b false]) (.tup [.sl .no 2 (wdL (ZBB s).1),.b (ZBB s).2]):=fun hb=>by
   rw [<- hb]
   show resV _ (.tup [.sl .no 2 (wdL acc),_])
   rw [hes]
   exact .inr ⟨_,_,rfl,rfl,.inr ⟨rfl,2,rfl⟩,.inl (.inl ⟨rfl,rfl⟩),trivial⟩
  have goon:¬ (tw blkI s i=0/\i≠0)->gapS s i=some (i+tw blkI s i):=fun hc=>by unfold gapS; rw [if_neg (fun hh=>hc ⟨hh.1,hh.2.1⟩)]
  have gap0:tw blkI s i=0/\i≠0->(acc,false)=ZBB s:=fun hb=>by
   have hg:gapS s i=none:=by unfold gapS; rw [if_pos ⟨hb.1,hb.2,by omega⟩]
   unfold WInv at hW
   rw [hg] at hW
   exact hW
  refine ZAA (fun h2=>?_) (fun h2=>?_)
  ·have h2:tw blkI s i=0:=by have:=beq_iff_eq.1 h2; omega
   refine ZAA (fun h3=>?_) (fun h3=>?_)
   ·have h3:=of_decide_eq_true h3
    exact bad (gap0 ⟨h2,by omega⟩)
   ·have h3:=of_decide_eq_false h3
    have hg:=goon (fun hh=>by omega)
    refine ⟨_,rfl,by omega,Nat.le_refl _,?_⟩
    refine .p rfl (ZGa _ (by rw [ByteArray.size_extract]; omega)) ?_
    cases hw:ZB8 s (i+tw blkI s i) with
    | none =>
     have hr:ZDO (s.extract (i+tw blkI s i) s.size)=(⟨#[]⟩,0):=by rw [ZCO (by omega),hw]
     rw [hr]
     refine bad ?_
     unfold WInv at hW
     rw [hg] at hW
     simp only [ZBX h1 hw,List.append_nil] at hW
     exact hW
    | some x =>
     obtain ⟨v,e⟩:=x
     have hle:=ZDT (by omega) hw
     have hr:ZDO (s.extract (i+tw blkI s i) s.size)=(v,((e - (i+tw blkI s i):Nat):Int)):=by rw [ZCO (by omega),hw]
     rw [hr]
     refine ZAA (fun h4=>?_) (fun h4=>?_)
     ·have h4:=beq_iff_eq.1 h4
      omega
     ·refine ⟨_,h1,rfl,?_⟩
      refine Acc.app (n:=0) (i:=ZNb) (es:=[]) .nil (Nat.zero_le _) (List.cons_ne_nil _ _) ?_ ?_ (fun t9 e9 tk9 z0 z1 z2 z3=>?_)
      ·show (([]:List (List AV)).length+1)*24<=_; omega
      ·show ([]:List (List AV)).length+1<=_; omega
      intro c hc
      rw [IntWalk.i64_in _ (by omega)] at hc
      obtain rfl:c=((e:Nat):Int):=by omega
      refine ⟨s.size - e,by omega,e,_,acc++[(v,atB s (i+tw blkI s i) 34)],by omega,rfl,by simp; omega,?_,hW.next hg h1 hw⟩
      rw [<- ZIs,hes,ZAj h1]
      exact .own _ _ _ z0 z1
  ·have h2:tw blkI s i≠0:=by have:=beq_eq_false_iff_ne.1 h2; omega
   have hg:=goon (fun hh=>h2 hh.1)
   refine ⟨_,rfl,by omega,Nat.le_refl _,?_⟩
   refine .p rfl (ZGa _ (by rw [ByteArray.size_extract]; omega)) ?_
   cases hw:ZB8 s (i+tw blkI s i) with
   | none =>
    have hr:ZDO (s.extract (i+tw blkI s i) s.size)=(⟨#[]⟩,0):=by rw [ZCO (by omega),hw]
    rw [hr]
    refine bad ?_
    unfold WInv at hW
    rw [hg] at hW
    simp only [ZBX h1 hw,List.append_nil] at hW
    exact hW
   | some x =>
    obtain ⟨v,e⟩:=x
    have hle:=ZDT (by omega) hw
    have hr:ZDO (s.extract (i+tw blkI s i) s.size)=(v,((e - (i+tw blkI s i):Nat):Int)):=by rw [ZCO (by omega),hw]
    rw [hr]
    refine ZAA (fun h4=>?_) (fun h4=>?_)
    ·have h4:=beq_iff_eq.1 h4
     omega
    ·refine ⟨_,h1,rfl,?_⟩
     refine Acc.app (n:=0) (i:=ZNb) (es:=[]) .nil (Nat.zero_le _) (List.cons_ne_nil _ _) ?_ ?_ (fun t9 e9 tk9 z0 z1 z2 z3=>?_)
     ·show (([]:List (List AV)).length+1)*24<=_; omega
     ·show ([]:List (List AV)).length+1<=_; omega
     intro c hc
     rw [IntWalk.i64_in _ (by omega)] at hc
     obtain rfl:c=((e:Nat):Int):=by omega
     refine ⟨s.size - e,by omega,e,_,acc++[(v,atB s (i+tw blkI s i) 34)],by omega,rfl,by simp; omega,?_,hW.next hg h1 hw⟩
     rw [<- ZIs,hes,ZAj h1]
     exact .own _ _ _ z0 z1
 | own t0 e0 es q0 q1 =>
  refine ZE5 2 [5] (fun g vals st'=>∃ m:Nat,m+g=(s).size/\i<=m/\vals=[.i m]/\st'=st1/\∀ j (hj:j<(s).size),i<=j->j<m->blkI ((s)[j].toNat:Int)=true) ((s).size - (i)) (fun vals st'=>vals=[.i (i+tw blkI (s) (i):Nat)]/\st'=st1) rfl ⟨i,by omega,Nat.le_refl _,rfl,rfl,fun j _ h1 h2=>absurd h2 (by omega)⟩ ?_ ?_
  ·rintro g vals st' ⟨m,hm,hm1,rfl,rfl,hall⟩
   refine ZAA (fun hd=>?_) (fun hd=>?_)
   ·have hd:=of_decide_eq_true hd
    have m1:m<(s).size:=by omega
    refine ⟨m,m1,rfl,?_⟩
    refine .p rfl ((fun n _ _=>ZE3 n) _ (by omega) (by have:=(s)[m].toNat_lt; omega)) ?_
    refine ZAA (fun h1=>?_) (fun h1=>?_)
    ·intro c hc
     rw [IntWalk.i64_in _ (by omega)] at hc
     obtain rfl:c=((m+1:Nat):Int):=by omega
     refine ⟨g - 1,by omega,m+1,by omega,by omega,rfl,rfl,fun j hj h0 hjm=>?_⟩
     by_cases e:j=m
     ·subst e; exact h1
     ·exact hall j hj h0 (by omega)
    ·exact ⟨congrArg (fun x:Nat=>[AV.i (x:Int)]) (ZDc hall hm1 (by omega) (fun _=>h1)).symm,rfl⟩
   ·have hd:=of_decide_eq_false hd
    exact ⟨congrArg (fun x:Nat=>[AV.i (x:Int)]) (ZDc hall hm1 (by omega) (fun h=>absurd h (by omega))).symm,rfl⟩
  rintro vals st' ⟨rfl,rfl⟩
  refine ZAA (fun h1=>?_) (fun h1=>?_)
  ·have h1:i+tw blkI s i=s.size:=by have:=beq_iff_eq.1 h1; omega
   have hg:gapS s i=some (i+tw blkI s i):=by unfold gapS; rw [if_neg (by omega)]
   unfold WInv at hW
   rw [hg,h1] at hW
   simp only [ZBt (Nat.le_refl s.size),List.append_nil] at hW
   rw [<- hW]
   show resV _ (.tup [.sl .no 2 (wdL acc),_])
   rw [hes]
   exact .inr ⟨_,_,rfl,rfl,.inl (.inl ⟨rfl,rfl⟩),.inl (.inl ⟨rfl,rfl⟩),trivial⟩
  have h1:i+tw blkI s i<s.size:=by have:=beq_eq_false_iff_ne.1 h1; omega
  have bad:(acc,false)=ZBB s->resV (.tup [(.sl (.own t0 e0) 2 es),.b false]) (.tup [.sl .no 2 (wdL (ZBB s).1),.b (ZBB s).2]):=fun hb=>by
   rw [<- hb]
   show resV _ (.tup [.sl .no 2 (wdL acc),_])
   rw [hes]
   exact .inr ⟨_,_,rfl,rfl,.inl (.inl ⟨rfl,rfl⟩),.inl (.inl ⟨rfl,rfl⟩),trivial⟩
  have goon:¬ (tw blkI s i=0/\i≠0)->gapS s i=some (i+tw blkI s i):=fun hc=>by unfold gapS; rw [if_neg (fun hh=>hc ⟨hh.1,hh.2.1⟩)]
  have gap0:tw blkI s i=0/\i≠0->(acc,false)=ZBB s:=fun hb=>by
   have hg:gapS s i=none:=by unfold gapS; rw [if_pos ⟨hb.1,hb.2,by omega⟩]
   unfold WInv at hW
   rw [hg] at hW
   exact hW
  refine ZAA (fun h2=>?_) (fun h2=>?_)
  ·have h2:tw blkI s i=0:=by have:=beq_iff_eq.1 h2; omega
   refine ZAA (fun h3=>?_) (fun h3=>?_)
   ·have h3:=of_decide_eq_true h3
    exact bad (gap0 ⟨h2,by omega⟩)
   ·have h3:=of_decide_eq_false h3
    have hg:=goon (fun hh=>by omega)
    refine ⟨_,rfl,by omega,Nat.le_refl _,?_⟩
    refine .p rfl (ZGa _ (by rw [ByteArray.size_extract]; omega)) ?_
    cases hw:ZB8 s (i+tw blkI s i) with
    | none =>
     have hr:ZDO (s.extract (i+tw blkI s i) s.size)=(⟨#[]⟩,0):=by rw [ZCO (by omega),hw]
     rw [hr]
     refine bad ?_
     unfold WInv at hW
     rw [hg] at hW
     simp only [ZBX h1 hw,List.append_nil] at hW
     exact hW
    | some x =>
     obtain ⟨v,e⟩:=x
     have hle:=ZDT (by omega) hw
     have hr:ZDO (s.extract (i+tw blkI s i) s.size)=(v,((e - (i+tw blkI s i):Nat):Int)):=by rw [ZCO (by omega),hw]
     rw [hr]
     refine ZAA (fun h4=>?_) (fun h4=>?_)
     ·have h4:=beq_iff_eq.1 h4
      omega
     ·refine ⟨_,h1,rfl,?_⟩
      refine Acc.app (n:=0) (i:=ZNb) (es:=es) (.own _ _ _ q0 q1) (Nat.zero_le _) (List.cons_ne_nil _ _) ?_ ?_ (fun t9 e9 tk9 z0 z1 z2 z3=>?_)
      ·show ((es:List (List AV)).length+1)*24<=_; omega
      ·show (es:List (List AV)).length+1<=_; omega
      intro c hc
      rw [IntWalk.i64_in _ (by omega)] at hc
      obtain rfl:c=((e:Nat):Int):=by omega
      refine ⟨s.size - e,by omega,e,_,acc++[(v,atB s (i+tw blkI s i) 34)],by omega,rfl,by simp; omega,?_,hW.next hg h1 hw⟩
      rw [<- ZIs,hes,ZAj h1]
      exact .own _ _ _ z0 z1
  ·have h2:tw blkI s i≠0:=by have:=beq_eq_false_iff_ne.1 h2; omega
   have hg:=goon (fun hh=>h2 hh.1)
   refine ⟨_,rfl,by omega,Nat.le_refl _,?_⟩
   refine .p rfl (ZGa _ (by rw [ByteArray.size_extract]; omega)) ?_
   cases hw:ZB8 s (i+tw blkI s i) with
   | none =>
    have hr:ZDO (s.extract (i+tw blkI s i) s.size)=(⟨#[]⟩,0):=by rw [ZCO (by omega),hw]
    rw [hr]
    refine bad ?_
    unfold WInv at hW
    rw [hg] at hW
    simp only [ZBX h1 hw,List.append_nil] at hW
    exact hW
   | some x =>
    obtain ⟨v,e⟩:=x
    have hle:=ZDT (by omega) hw
    have hr:ZDO (s.extract (i+tw blkI s i) s.size)=(v,((e - (i+tw blkI s i):Nat):Int)):=by rw [ZCO (by omega),hw]
    rw [hr]
    refine ZAA (fun h4=>?_) (fun h4=>?_)
    ·have h4:=beq_iff_eq.1 h4
     omega
    ·refine ⟨_,h1,rfl,?_⟩
     refine Acc.app (n:=0) (i:=ZNb) (es:=es) (.own _ _ _ q0 q1) (Nat.zero_le _) (List.cons_ne_nil _ _) ?_ ?_ (fun t9 e9 tk9 z0 z1 z2 z3=>?_)
     ·show ((es:List (List AV)).length+1)*24<=_; omega
     ·show (es:List (List AV)).length+1<=_; omega
     intro c hc
     rw [IntWalk.i64_in _ (by omega)] at hc
     obtain rfl:c=((e:Nat):Int):=by omega
     refine ⟨s.size - e,by omega,e,_,acc++[(v,atB s (i+tw blkI s i) 34)],by omega,rfl,by simp; omega,?_,hW.next hg h1 hw⟩
     rw [<- ZIs,hes,ZAj h1]
     exact .own _ _ _ z0 z1
def ZCv (l:List Wd) (want:ByteArray):Bool:=decide (l.map (fun w=>w.2)=want.data.toList.map fun b=>((b.toNat:Int) == 118))
theorem shape33_p (l:List Wd) (want:ByteArray) (hl:l.length<=1000000) (hw:want.size<=1000):ZAC Tryz.prog 199 [.sl .no 2 (wdL l),.s want] (.b (ZCv l want)) []:=by
 have el:=ZIe l
 have wl:=blen want
 refine ZAC.of rfl (ZAB.of_vc T_ok mixed Tryz.func199 rfl Tryz.call199 ?_)
 refine ZAA (fun h0=>?_) (fun h0=>?_)
 ·have h0:l.length≠want.size:=by
   have:((wdL l).length:Int)≠want.size:=by simpa using h0
   omega
  refine retb (decide_eq_false (fun e=>h0 ?_)).symm
  have:=congrArg List.length e
  simp only [List.length_map] at this
  omega
 have h0:l.length=want.size:=by
  have:((wdL l).length:Int)=want.size:=by simpa using h0
  omega
 refine ZAF [5] (fun g vals st'=>∃ k:Nat,k+g=want.size/\vals=[.i k]/\∀ j (hj:j<l.length) (hj2:j<want.size),j<k->l[j].2=((want[j].toNat:Int) == 118)) want.size rfl ⟨0,by omega,rfl,fun j _ _ h=>absurd h (by omega)⟩ ?_
 rintro g vals st1 ⟨k,hk,rfl,ha⟩
 refine ZAA (fun hd=>?_) (fun hd=>?_)
 ·have hd:=of_decide_eq_true hd
  have k1:k<want.size:=by omega
  have k2:k<l.length:=by omega
  have hat:(wdL l)[k]? = some [.s l[k].1,.b l[k].2]:=by simp [wdL,k2]
  refine .e (by kernel_rfl) ?_
  refine ⟨k,_,rfl,hat,?_⟩
  refine ⟨k,k1,rfl,?_⟩
  refine ZAA (fun h2=>?_) (fun h2=>?_)
  ·have h2:l[k].2≠((want[k].toNat:Int) == 118):=by simpa using h2
   refine retb (decide_eq_false (fun e=>h2 ?_)).symm
   have e2:=congrArg (fun x=>x[k]?) e
   simp only [List.getElem?_map,List.getElem?_eq_getElem k2,List.getElem?_eq_getElem (show k<want.data.toList.length by omega),Option.map_some,Option.some.injEq] at e2
   exact e2
  ·have h2:l[k].2=((want[k].toNat:Int) == 118):=by simpa using h2
   intro c hc
   rw [IntWalk.i64_in _ (by omega)] at hc
   obtain rfl:c=((k+1:Nat):Int):=by omega
   refine ⟨g - 1,by omega,k+1,by omega,rfl,fun j hj hj2 hjk=>?_⟩
   by_cases e:j=k
   ·subst e; exact h2
   ·exact ha j hj hj2 (by omega)
 ·have hd:=of_decide_eq_false hd
  refine retb (decide_eq_true ?_).symm
  apply List.ext_getElem?
  intro j
  by_cases hj:j<l.length
  ·simp only [List.getElem?_map,List.getElem?_eq_getElem hj,List.getElem?_eq_getElem (show j<want.data.toList.length by omega),Option.map_some,Option.some.injEq]
   exact ha j hj (by omega) (by omega)
  ·rw [List.getElem?_eq_none (by simp; omega),List.getElem?_eq_none (by simp; omega)]
/-- a rule, of the words behind its guard -/
def tl2 (sd:Int) (g:Gd) (l:List Wd):Option (Rl × Bool):=match l with
 | (w,false)::r=>ZBa sd g w r
 | _=>none
def actR (sd:Int) (g:Gd) (l:List Wd) (ok:Bool):Rl × Int:=if ok=true then outR (tl2 sd g l) else (ZBw,2)
def ZJY (sd:Int) (g:Gd):Rl:=⟨sd,g.1,g.2.1,g.2.2,0,⟨#[]⟩,⟨#[]⟩,[]⟩
def kNNV:ByteArray:=⟨#[110,110,118]⟩
def kNN:ByteArray:=⟨#[110,110]⟩
def kNNN:ByteArray:=⟨#[110,110,110]⟩
theorem ZLq (l:List Wd):ZCv l kNNV=true ↔ ∃ a b c,l=[(a,false),(b,false),(c,true)]:=by
 unfold ZCv
 rw [decide_eq_true_eq]
 constructor
 ·intro h
  have hl:=congrArg List.length h
  rw [List.length_map,List.length_map] at hl
  have hl:l.length=3:=hl
  match l,h,hl with
  | [(a,q),(b,q2),(c,q3)],h,_ =>
   have h:[q,q2,q3]=[false,false,true]:=h
   simp at h
   obtain ⟨rfl,rfl,rfl⟩:=h
   exact ⟨a,b,c,rfl⟩
 ·rintro ⟨a,b,c,rfl⟩
  rfl
theorem nn_iff (l:List Wd):ZCv l kNN=true ↔ ∃ a b,l=[(a,false),(b,false)]:=by
 unfold ZCv
 rw [decide_eq_true_eq]
 constructor
 ·intro h
  have hl:=congrArg List.length h
  rw [List.length_map,List.length_map] at hl
  have hl:l.length=2:=hl
  match l,h,hl with
  | [(a,q),(b,q2)],h,_ =>
   have h:[q,q2]=[false,false]:=h
   simp at h
   obtain ⟨rfl,rfl⟩:=h
   exact ⟨a,b,rfl⟩
 ·rintro ⟨a,b,rfl⟩
  rfl
theorem nnn_iff (l:List Wd):ZCv l kNNN=true ↔ ∃ a b c,l=[(a,false),(b,false),(c,false)]:=by
 unfold ZCv
 rw [decide_eq_true_eq]
 constructor
 ·intro h
  have hl:=congrArg List.length h
  rw [List.length_map,List.length_map] at hl
  have hl:l.length=3:=hl
  match l,h,hl with
  | [(a,q),(b,q2),(c,q3)],h,_ =>
   have h:[q,q2,q3]=[false,false,false]:=h
   simp at h
   obtain ⟨rfl,rfl,rfl⟩:=h
   exact ⟨a,b,c,rfl⟩
 ·rintro ⟨a,b,c,rfl⟩
  rfl
theorem ZKR {sd:Int} {g:Gd} {a b:ByteArray} {q2:Bool} {r:List Wd} {x:Rl × Bool} (ha:a=kSet \/ a=kAdd) (h:ZBa sd g a ((b,q2)::r)=some x):ZCv ((a,false)::(b,q2)::r) kNNV=true:=by
 refine (ZLq _).2 ?_
 have set:∀ z,setL z r=none \/ ∃ c l,r=(c,true)::l/\∃ y,setL z r=some (y,l):=fun z=>by
  match r with
  | []=>exact .inl rfl
  | (c,false)::l=>exact .inl rfl
  | (c,true)::l =>
   by_cases e:(ZAM c).2=0 \/ (ZAM c).2=3
   ·exact .inr ⟨c,l,rfl,_,by simp only [setL,ZCw,ZCJ]; rw [if_pos e]⟩
   ·exact .inl (by simp only [setL,ZCw,ZCJ]; rw [if_neg e])
 cases q2 with
 | true=>cases h
 | false =>
  simp only [ZBa,ZA7] at h
  have hact:∃ z,actL a r=setL z r:=by
   rcases ha with rfl | rfl
   ·exact ⟨1,by unfold actL; rw [if_pos rfl]⟩
   ·exact ⟨2,by unfold actL; rw [if_neg (by decide +kernel),if_pos rfl]⟩
  obtain ⟨z,hz⟩:=hact
  rw [hz] at h
  rcases set z with hs | ⟨c,l,rfl,y,hs⟩
  ·rw [hs] at h; cases h
  ·rw [hs] at h
   obtain ⟨z,tz,ps,bb⟩:=y
   simp only at h
   split at h
   ·cases h
   ·rename_i hl
    have hl:l=[]:=Decidable.byContradiction hl
    subst hl
    exact ⟨a,b,c,rfl⟩
theorem rem_shape {sd:Int} {g:Gd} {b:ByteArray} {q2:Bool} {r:List Wd} {x:Rl × Bool} (h:ZBa sd g kRem ((b,q2)::r)=some x):ZCv ((kRem,false)::(b,q2)::r) kNN=true:=by
 refine (nn_iff _).2 ?_
 cases q2 with
 | true=>cases h
 | false =>
  simp only [ZBa,ZA7] at h
  have hact:actL kRem r=some ((3,⟨#[]⟩,[],false),r):=by
   unfold actL
   rw [if_neg (by decide +kernel),if_neg (by decide +kernel),if_pos rfl]
  rw [hact] at h
  simp only at h
  split at h
  ·cases h
  ·rename_i hl
   have hl:r=[]:=Decidable.byContradiction hl
   subst hl
   exact ⟨kRem,b,rfl⟩
theorem ren_shape {sd:Int} {g:Gd} {b:ByteArray} {q2:Bool} {r:List Wd} {x:Rl × Bool} (h:ZBa sd g kRen ((b,q2)::r)=some x):ZCv ((kRen,false)::(b,q2)::r) kNNN=true:=by
 refine (nnn_iff _).2 ?_
 cases q2 with
 | true=>cases h
 | false =>
  simp only [ZBa,ZA7] at h
  have hact:actL kRen r=renL r:=by
   unfold actL
   rw [if_neg (by decide +kernel),if_neg (by decide +kernel),if_neg (by decide +kernel),if_pos rfl]
  rw [hact] at h
  match r,h with
  | (c,false)::l,h =>
   simp only [renL,ZA7] at h
   split at h
   ·cases h
   ·rename_i hl
    have hl:l=[]:=Decidable.byContradiction hl
    subst hl
    exact ⟨kRen,b,c,rfl⟩
theorem other_act {sd:Int} {g:Gd} {a:ByteArray} {l:List Wd} (h1:a≠kSet) (h2:a≠kAdd) (h3:a≠kRem) (h4:a≠kRen):ZBa sd g a l=none:=by
 unfold ZBa
 cases ZA7 l with
 | none=>rfl
 | some x =>
  have:actL a x.2=none:=by
   unfold actL
   rw [if_neg h1,if_neg h2,if_neg h3,if_neg h4]
  simp only [this]
theorem parseT_or (s:ByteArray):(ZAM s).2=0 \/ (ZAM s).2=2 \/ (ZAM s).2=3:=by
 unfold ZAM
 split
 ·exact .inr (.inl rfl)
 ·split
  ·exact .inr (.inr rfl)
  ·exact .inl rfl
theorem retV {us vs:List AV} {r:AV} (h:r=.tup us) (hw:ZCW us vs):resV r (.tup vs):=.inr ⟨us,vs,h,rfl,hw⟩
def finR (x:Rl):Rl × Int:=if ZAO x=0 then (x,0) else (ZBw,9)
theorem ZIb (x:Rl):outR (some (x,false))=finR x:=by
 unfold outR finR
 simp only [Bool.false_eq_true,if_false]
 split
 ·rfl
 ·rename_i h
  rcases ZHI x with h2 | h2
  ·exact absurd h2 h
  ·rw [h2]
theorem ZME {sd:Int} {g:Gd} {a b c:ByteArray} {z:Int} (haz:a=kSet/\z=1 \/ a=kAdd/\z=2):actR sd g [(a,false),(b,false),(c,true)] true =
  if (ZAM c).2=2 then (ZBw,2) else if (ZAM c).2≠0 then (ZBw,(ZAM c).2) else finR ⟨sd,g.1,g.2.1,g.2.2,z,b,⟨#[]⟩,(ZAM c).1⟩:=by
 have n1:kAdd≠kSet:=by decide +kernel
 unfold actR
 rw [if_pos rfl]
 rcases parseT_or c with h | h | h <;> rcases haz with ⟨rfl,rfl⟩ | ⟨rfl,rfl⟩
 ·simp [tl2,ZBa,ZA7,actL,setL,ZCw,ZCJ,h,ZIb]
 ·simp [tl2,ZBa,ZA7,actL,setL,ZCw,ZCJ,h,n1,ZIb]
 ·simp [tl2,ZBa,ZA7,actL,setL,ZCw,ZCJ,h,outR]
 ·simp [tl2,ZBa,ZA7,actL,setL,ZCw,ZCJ,h,n1,outR]
 ·simp [tl2,ZBa,ZA7,actL,setL,ZCw,ZCJ,h,outR]
 ·simp [tl2,ZBa,ZA7,actL,setL,ZCw,ZCJ,h,n1,outR]
theorem actR_rem {sd:Int} {g:Gd} {b:ByteArray}:actR sd g [(kRem,false),(b,false)] true=finR ⟨sd,g.1,g.2.1,g.2.2,3,b,⟨#[]⟩,[]⟩:=by
 have n2:kRem≠kSet:=by decide +kernel
 have n3:kRem≠kAdd:=by decide +kernel
 unfold actR
 rw [if_pos rfl]
 simp [tl2,ZBa,ZA7,actL,n2,n3,ZIb]
theorem actR_ren {sd:Int} {g:Gd} {b c:ByteArray}:actR sd g [(kRen,false),(b,false),(c,false)] true=finR ⟨sd,g.1,g.2.1,g.2.2,4,b,c,[]⟩:=by
 have n4:kRen≠kSet:=by decide +kernel
 have n5:kRen≠kAdd:=by decide +kernel
 have n6:kRen≠kRem:=by decide +kernel
 unfold actR
 rw [if_pos rfl]
 simp [tl2,ZBa,ZA7,actL,renL,n4,n5,n6,ZIb]
set_option maxHeartbeats 1000000 in
theorem ZD8 (sd:Int) (g:Gd) (l:List Wd) (ok:Bool) (hl:l.length<=100000) (hz:∀ w∈l,w.1.size<=100000) (h1:g.2.1.size<=100000) (h2:g.2.2.size<=100000) :
  ZAC Tryz.prog 157 [(ZJY sd g).av,.sl .no 2 (wdL l),.b ok] (.tup [(actR sd g l ok).1.av,.i (actR sd g l ok).2]) []:=by
 have bad:tl2 sd g l=none->actR sd g l ok=(ZBw,2):=fun h=>by
  unfold actR
  split
  ·rw [h]; rfl
  ·rfl
 have hok:ok=false->actR sd g l ok=(ZBw,2):=fun h=>by
  unfold actR
  rw [if_neg (by rw [h]; decide)]
 have hwl:=ZIe l
 obtain ⟨gk,ga,gb⟩:=g
 have h1:ga.size<=100000:=h1
 have h2:gb.size<=100000:=h2
 match l,hl,hz,bad,hok,hwl with
 | [],_,_,bad,_,_ =>
  rw [bad rfl]
  show ZAC _ _ [.agg [.i sd,.i gk,.s ga,.s gb,.i 0,.s ⟨#[]⟩,.s ⟨#[]⟩,.sl .no 2 []],.sl .no 2 [],.b ok] _ _
  refine ZAC.ofG rfl ?_
  refine ZAB.of_vc T_ok mixed Tryz.func157 rfl Tryz.call157 ?_
  refine ⟨_,rfl,?_⟩
  refine ⟨_,rfl,?_⟩
  refine retV rfl ?_
  exact ⟨.inl (.inr ⟨_,_,rfl,rfl,.inl ⟨rfl,rfl⟩,.inl ⟨rfl,rfl⟩,.inl ⟨rfl,rfl⟩,.inl ⟨rfl,rfl⟩,.inl ⟨rfl,rfl⟩,.inl ⟨rfl,rfl⟩,.inl ⟨rfl,rfl⟩,.inr ⟨rfl,2,rfl⟩,trivial⟩),.inl (.inl ⟨rfl,rfl⟩),trivial⟩
 | [(w,q)],_,_,bad,_,_ =>
  rw [bad (by cases q <;> rfl)]
  show ZAC _ _ [.agg [.i sd,.i gk,.s ga,.s gb,.i 0,.s ⟨#[]⟩,.s ⟨#[]⟩,.sl .no 2 []],.sl .no 2 [[.s w,.b q]],.b ok] _ _
  refine ZAC.ofG rfl ?_
  refine ZAB.of_vc T_ok mixed Tryz.func157 rfl Tryz.call157 ?_
  refine ⟨_,rfl,?_⟩
  refine ⟨_,rfl,?_⟩
  refine retV rfl ?_
  exact ⟨.inl (.inr ⟨_,_,rfl,rfl,.inl ⟨rfl,rfl⟩,.inl ⟨rfl,rfl⟩,.inl ⟨rfl,rfl⟩,.inl ⟨rfl,rfl⟩,.inl ⟨rfl,rfl⟩,.inl ⟨rfl,rfl⟩,.inl ⟨rfl,rfl⟩,.inr ⟨rfl,2,rfl⟩,trivial⟩),.inl (.inl ⟨rfl,rfl⟩),trivial⟩
 | (a,q)::(b,q2)::r,hl,hz,bad,hok,hwl =>
  have hb:b.size<=100000:=hz (b,q2) (by simp)
  show ZAC _ _ [.agg [.i sd,.i gk,.s ga,.s gb,.i 0,.s ⟨#[]⟩,.s ⟨#[]⟩,.sl .no 2 []],.sl .no 2 (wdL ((a,q)::(b,q2)::r)),.b ok] _ _
  have hsp:=shape33_p ((a,q)::(b,q2)::r)
  have hll:((a,q)::(b,q2)::r).length=r.length+2:=rfl
  refine ZAC.ofG rfl ?_
  refine ZAB.of_vc T_ok mixed Tryz.func157 rfl Tryz.call157 ?_
  refine ZAA (fun hd=>?_) (fun hd=>?_)
  rotate_left
  ·have hd:=of_decide_eq_false hd
   omega
  refine ⟨0,_,rfl,rfl,?_⟩
  cases q with
  | true =>
   rw [bad rfl]
   refine ⟨_,rfl,?_⟩
   refine ⟨_,rfl,?_⟩
   refine retV rfl ?_
   exact ⟨.inl (.inr ⟨_,_,rfl,rfl,.inl ⟨rfl,rfl⟩,.inl ⟨rfl,rfl⟩,.inl ⟨rfl,rfl⟩,.inl ⟨rfl,rfl⟩,.inl ⟨rfl,rfl⟩,.inl ⟨rfl,rfl⟩,.inl ⟨rfl,rfl⟩,.inr ⟨rfl,2,rfl⟩,trivial⟩),.inl (.inl ⟨rfl,rfl⟩),trivial⟩
  | false =>
   refine ⟨1,_,rfl,rfl,?_⟩
   refine ⟨_,rfl,?_⟩
   refine ⟨0,_,rfl,rfl,?_⟩
   intro t1 ht1
   cases t1 with
   | true =>
    obtain rfl:a=kSet:=ht1.1 rfl
    refine ⟨_,rfl,?_⟩
    refine ⟨0,_,rfl,rfl,?_⟩
    intro t2 ht2
    cases t2 with
    | true=>exact absurd (ht2.1 rfl) (by decide +kernel)
    | false =>
    refine .p rfl (hsp kNNV (by omega) (by decide)) ?_
    cases hsh:ZCv ((kSet,false)::(b,q2)::r) kNNV with
    | false =>
     rw [bad (by
      show ZBa sd (gk,ga,gb) kSet ((b,q2)::r)=none
      cases ht:ZBa sd (gk,ga,gb) kSet ((b,q2)::r) with
      | none=>rfl
      | some x=>rw [ZKR (.inl rfl) ht] at hsh; cases hsh)]
     refine ⟨_,rfl,?_⟩
     refine ⟨_,rfl,?_⟩
     refine retV rfl ?_
     exact ⟨.inl (.inr ⟨_,_,rfl,rfl,.inl ⟨rfl,rfl⟩,.inl ⟨rfl,rfl⟩,.inl ⟨rfl,rfl⟩,.inl ⟨rfl,rfl⟩,.inl ⟨rfl,rfl⟩,.inl ⟨rfl,rfl⟩,.inl ⟨rfl,rfl⟩,.inr ⟨rfl,2,rfl⟩,trivial⟩),.inl (.inl ⟨rfl,rfl⟩),trivial⟩
    | true =>
     obtain ⟨_,_,c,e9⟩:=(ZLq _).1 hsh
     simp only [List.cons.injEq,Prod.mk.injEq] at e9
     obtain ⟨-,⟨-,rfl⟩,rfl⟩:=e9
     have hc:c.size<=100000:=hz (c,true) (by simp)
     have hpl:=ZDL c
     refine ⟨2,_,rfl,rfl,?_⟩
     refine .p rfl (ZG5 c (by omega)) ?_
     refine ⟨_,rfl,?_⟩
     cases ok with
     | false =>
      rw [hok rfl]
      refine ZAA (fun e2=>?_) (fun e2=>?_)
      iterate 2
       ·skip
        refine ⟨_,rfl,?_⟩
        refine ⟨_,rfl,?_⟩
        refine retV rfl ?_
        exact ⟨.inl (.inr ⟨_,_,rfl,rfl,.inl ⟨rfl,rfl⟩,.inl ⟨rfl,rfl⟩,.inl ⟨rfl,rfl⟩,.inl ⟨rfl,rfl⟩,.inl ⟨rfl,rfl⟩,.inl ⟨rfl,rfl⟩,.inl ⟨rfl,rfl⟩,.inr ⟨rfl,2,rfl⟩,trivial⟩),.inl (.inl ⟨rfl,rfl⟩),trivial⟩
     | true =>
      rw [ZME (z:=1) (.inl ⟨rfl,rfl⟩)]
      refine ZAA (fun e2=>?_) (fun e2=>?_)
      ·have e2:(ZAM c).2=2:=beq_iff_eq.1 e2
       rw [if_pos e2]
       refine ⟨_,rfl,?_⟩
       refine ⟨_,rfl,?_⟩
       refine retV rfl ?_
       exact ⟨.inl (.inr ⟨_,_,rfl,rfl,.inl ⟨rfl,rfl⟩,.inl ⟨rfl,rfl⟩,.inl ⟨rfl,rfl⟩,.inl ⟨rfl,rfl⟩,.inl ⟨rfl,rfl⟩,.inl ⟨rfl,rfl⟩,.inl ⟨rfl,rfl⟩,.inr ⟨rfl,2,rfl⟩,trivial⟩),.inl (.inl ⟨rfl,rfl⟩),trivial⟩
      have e2:(ZAM c).2≠2:=beq_eq_false_iff_ne.1 e2
      rw [if_neg e2]
      refine ZAA (fun e3=>?_) (fun e3=>?_)
      ·have e3:(ZAM c).2≠0:=by simpa using e3
       rw [if_pos e3]
       refine ⟨_,rfl,?_⟩
       refine ⟨_,rfl,?_⟩
       refine retV rfl ?_
       exact ⟨.inl (.inr ⟨_,_,rfl,rfl,.inl ⟨rfl,rfl⟩,.inl ⟨rfl,rfl⟩,.inl ⟨rfl,rfl⟩,.inl ⟨rfl,rfl⟩,.inl ⟨rfl,rfl⟩,.inl ⟨rfl,rfl⟩,.inl ⟨rfl,rfl⟩,.inr ⟨rfl,2,rfl⟩,trivial⟩),.inl (.inl ⟨rfl,rfl⟩),trivial⟩
      have e3:(ZAM c).2=0:=by simpa using e3
      rw [if_neg (fun h=>h e3)]
      refine ⟨_,rfl,?_⟩
      refine .p rfl (ZDK (⟨sd,gk,ga,gb,1,b,⟨#[]⟩,(ZAM c).1⟩:Rl) ⟨h1,h2,hb,by show 0<=100000; omega,by show (ZAM c).1.length<=1000; omega,by show sumT (ZAM c).1<=1000000; omega⟩) ?_
      refine ZAA (fun e5=>?_) (fun e5=>?_)
      ·have e5:ZAO (⟨sd,gk,ga,gb,1,b,⟨#[]⟩,(ZAM c).1⟩:Rl)≠0:=by simpa using e5
       have e6:finR (⟨sd,gk,ga,gb,1,b,⟨#[]⟩,(ZAM c).1⟩:Rl)=(ZBw,9):=by unfold finR; rw [if_neg e5]
       rw [e6]
       refine ⟨_,rfl,?_⟩
       refine ⟨_,rfl,?_⟩
       refine retV rfl ?_
       exact ⟨.inl (.inr ⟨_,_,rfl,rfl,.inl ⟨rfl,rfl⟩,.inl ⟨rfl,rfl⟩,.inl ⟨rfl,rfl⟩,.inl ⟨rfl,rfl⟩,.inl ⟨rfl,rfl⟩,.inl ⟨rfl,rfl⟩,.inl ⟨rfl,rfl⟩,.inr ⟨rfl,2,rfl⟩,trivial⟩),.inl (.inl ⟨rfl,rfl⟩),trivial⟩
      ·have e5:ZAO (⟨sd,gk,ga,gb,1,b,⟨#[]⟩,(ZAM c).1⟩:Rl)=0:=by simpa using e5
       have e6:finR (⟨sd,gk,ga,gb,1,b,⟨#[]⟩,(ZAM c).1⟩:Rl)=((⟨sd,gk,ga,gb,1,b,⟨#[]⟩,(ZAM c).1⟩:Rl),0):=by unfold finR; rw [if_pos e5]
       rw [e6]
       iterate 3 refine ⟨_,rfl,?_⟩
       refine retV rfl ?_
       exact ⟨.inl (.inl ⟨rfl,rfl⟩),.inl (.inl ⟨rfl,rfl⟩),trivial⟩
   | false =>
    have n1:a≠kSet:=fun e=>by cases ht1.2 e
    intro t2 ht2
    cases t2 with
    | true =>
     obtain rfl:a=kAdd:=ht2.1 rfl
     refine ⟨_,rfl,?_⟩
     refine ⟨0,_,rfl,rfl,?_⟩
     intro t3 ht3
     cases t3 with
     | false=>cases ht3.2 rfl
     | true =>
     refine ⟨_,rfl,?_⟩
     refine .p rfl (hsp kNNV (by omega) (by decide)) ?_
     cases hsh:ZCv ((kAdd,false)::(b,q2)::r) kNNV with
     | false =>
      rw [bad (by
       show ZBa sd (gk,ga,gb) kAdd ((b,q2)::r)=none
       cases ht:ZBa sd (gk,ga,gb) kAdd ((b,q2)::r) with
       | none=>rfl
       | some x=>rw [ZKR (.inr rfl) ht] at hsh; cases hsh)]
      refine ⟨_,rfl,?_⟩
      refine ⟨_,rfl,?_⟩
      refine retV rfl ?_
      exact ⟨.inl (.inr ⟨_,_,rfl,rfl,.inl ⟨rfl,rfl⟩,.inl ⟨rfl,rfl⟩,.inl ⟨rfl,rfl⟩,.inl ⟨rfl,rfl⟩,.inl ⟨rfl,rfl⟩,.inl ⟨rfl,rfl⟩,.inl ⟨rfl,rfl⟩,.inr ⟨rfl,2,rfl⟩,trivial⟩),.inl (.inl ⟨rfl,rfl⟩),trivial⟩
     | true =>
      obtain ⟨_,_,c,e9⟩:=(ZLq _).1 hsh
      simp only [List.cons.injEq,Prod.mk.injEq] at e9
      obtain ⟨-,⟨-,rfl⟩,rfl⟩:=e9
      have hc:c.size<=100000:=hz (c,true) (by simp)
      have hpl:=ZDL c
      refine ⟨2,_,rfl,rfl,?_⟩
      refine .p rfl (ZG5 c (by omega)) ?_
      refine ⟨_,rfl,?_⟩
      cases ok with
      | false =>
       rw [hok rfl]
       refine ZAA (fun e2=>?_) (fun e2=>?_)
       iterate 2
        ·skip
         refine ⟨_,rfl,?_⟩
         refine ⟨_,rfl,?_⟩
         refine retV rfl ?_
         exact ⟨.inl (.inr ⟨_,_,rfl,rfl,.inl ⟨rfl,rfl⟩,.inl ⟨rfl,rfl⟩,.inl ⟨rfl,rfl⟩,.inl ⟨rfl,rfl⟩,.inl ⟨rfl,rfl⟩,.inl ⟨rfl,rfl⟩,.inl ⟨rfl,rfl⟩,.inr ⟨rfl,2,rfl⟩,trivial⟩),.inl (.inl ⟨rfl,rfl⟩),trivial⟩
      | true =>
       rw [ZME (z:=2) (.inr ⟨rfl,rfl⟩)]
       refine ZAA (fun e2=>?_) (fun e2=>?_)
       ·have e2:(ZAM c).2=2:=beq_iff_eq.1 e2
        rw [if_pos e2]
        refine ⟨_,rfl,?_⟩
        refine ⟨_,rfl,?_⟩
        refine retV rfl ?_
        exact ⟨.inl (.inr ⟨_,_,rfl,rfl,.inl ⟨rfl,rfl⟩,.inl ⟨rfl,rfl⟩,.inl ⟨rfl,rfl⟩,.inl ⟨rfl,rfl⟩,.inl ⟨rfl,rfl⟩,.inl ⟨rfl,rfl⟩,.inl ⟨rfl,rfl⟩,.inr ⟨rfl,2,rfl⟩,trivial⟩),.inl (.inl ⟨rfl,rfl⟩),trivial⟩
       have e2:(ZAM c).2≠2:=beq_eq_false_iff_ne.1 e2
       rw [if_neg e2]
       refine ZAA (fun e3=>?_) (fun e3=>?_)
       ·have e3:(ZAM c).2≠0:=by simpa using e3
        rw [if_pos e3]
        refine ⟨_,rfl,?_⟩
        refine ⟨_,rfl,?_⟩
        refine retV rfl ?_
        exact ⟨.inl (.inr ⟨_,_,rfl,rfl,.inl ⟨rfl,rfl⟩,.inl ⟨rfl,rfl⟩,.inl ⟨rfl,rfl⟩,.inl ⟨rfl,rfl⟩,.inl ⟨rfl,rfl⟩,.inl ⟨rfl,rfl⟩,.inl ⟨rfl,rfl⟩,.inr ⟨rfl,2,rfl⟩,trivial⟩),.inl (.inl ⟨rfl,rfl⟩),trivial⟩
       have e3:(ZAM c).2=0:=by simpa using e3
       rw [if_neg (fun h=>h e3)]
       refine ⟨_,rfl,?_⟩
       refine .p rfl (ZDK (⟨sd,gk,ga,gb,2,b,⟨#[]⟩,(ZAM c).1⟩:Rl) ⟨h1,h2,hb,by show 0<=100000; omega,by show (ZAM c).1.length<=1000; omega,by show sumT (ZAM c).1<=1000000; omega⟩) ?_
       refine ZAA (fun e5=>?_) (fun e5=>?_)
       ·have e5:ZAO (⟨sd,gk,ga,gb,2,b,⟨#[]⟩,(ZAM c).1⟩:Rl)≠0:=by simpa using e5
        have e6:finR (⟨sd,gk,ga,gb,2,b,⟨#[]⟩,(ZAM c).1⟩:Rl)=(ZBw,9):=by unfold finR; rw [if_neg e5]
        rw [e6]
        refine ⟨_,rfl,?_⟩
        refine ⟨_,rfl,?_⟩
        refine retV rfl ?_
        exact ⟨.inl (.inr ⟨_,_,rfl,rfl,.inl ⟨rfl,rfl⟩,.inl ⟨rfl,rfl⟩,.inl ⟨rfl,rfl⟩,.inl ⟨rfl,rfl⟩,.inl ⟨rfl,rfl⟩,.inl ⟨rfl,rfl⟩,.inl ⟨rfl,rfl⟩,.inr ⟨rfl,2,rfl⟩,trivial⟩),.inl (.inl ⟨rfl,rfl⟩),trivial⟩
       ·have e5:ZAO (⟨sd,gk,ga,gb,2,b,⟨#[]⟩,(ZAM c).1⟩:Rl)=0:=by simpa using e5
        have e6:finR (⟨sd,gk,ga,gb,2,b,⟨#[]⟩,(ZAM c).1⟩:Rl)=((⟨sd,gk,ga,gb,2,b,⟨#[]⟩,(ZAM c).1⟩:Rl),0):=by unfold finR; rw [if_pos e5]
        rw [e6]
        iterate 3 refine ⟨_,rfl,?_⟩
        refine retV rfl ?_
        exact ⟨.inl (.inl ⟨rfl,rfl⟩),.inl (.inl ⟨rfl,rfl⟩),trivial⟩
    | false =>
     have n2:a≠kAdd:=fun e=>by cases ht2.2 e
     intro t3 ht3
     cases t3 with
     | true =>
      obtain rfl:a=kRem:=ht3.1 rfl
      refine ⟨_,rfl,?_⟩
      refine .p rfl (hsp kNN (by omega) (by decide)) ?_
      cases hsh:ZCv ((kRem,false)::(b,q2)::r) kNN with
      | false =>
       rw [bad (by
        show ZBa sd (gk,ga,gb) kRem ((b,q2)::r)=none
        cases ht:ZBa sd (gk,ga,gb) kRem ((b,q2)::r) with
        | none=>rfl
        | some x=>rw [rem_shape ht] at hsh; cases hsh)]
       refine ⟨_,rfl,?_⟩
       refine ⟨_,rfl,?_⟩
       refine retV rfl ?_
       exact ⟨.inl (.inr ⟨_,_,rfl,rfl,.inl ⟨rfl,rfl⟩,.inl ⟨rfl,rfl⟩,.inl ⟨rfl,rfl⟩,.inl ⟨rfl,rfl⟩,.inl ⟨rfl,rfl⟩,.inl ⟨rfl,rfl⟩,.inl ⟨rfl,rfl⟩,.inr ⟨rfl,2,rfl⟩,trivial⟩),.inl (.inl ⟨rfl,rfl⟩),trivial⟩
      | true =>
       obtain ⟨_,_,e9⟩:=(nn_iff _).1 hsh
       simp only [List.cons.injEq,Prod.mk.injEq] at e9
       obtain ⟨-,⟨-,rfl⟩,rfl⟩:=e9
       cases ok with
       | false =>
        rw [hok rfl]
        refine ⟨_,rfl,?_⟩
        refine ⟨_,rfl,?_⟩
        refine retV rfl ?_
        exact ⟨.inl (.inr ⟨_,_,rfl,rfl,.inl ⟨rfl,rfl⟩,.inl ⟨rfl,rfl⟩,.inl ⟨rfl,rfl⟩,.inl ⟨rfl,rfl⟩,.inl ⟨rfl,rfl⟩,.inl ⟨rfl,rfl⟩,.inl ⟨rfl,rfl⟩,.inr ⟨rfl,2,rfl⟩,trivial⟩),.inl (.inl ⟨rfl,rfl⟩),trivial⟩
       | true =>
        rw [actR_rem]
        refine ⟨_,rfl,?_⟩
        refine .p rfl (ZDK (⟨sd,gk,ga,gb,3,b,⟨#[]⟩,[]⟩:Rl) ⟨h1,h2,hb,by show 0<=100000; omega,by show 0<=1000; omega,by show 0<=1000000; omega⟩) ?_
        refine ZAA (fun e5=>?_) (fun e5=>?_)
        ·have e5:ZAO (⟨sd,gk,ga,gb,3,b,⟨#[]⟩,[]⟩:Rl)≠0:=by simpa using e5
         have e6:finR (⟨sd,gk,ga,gb,3,b,⟨#[]⟩,[]⟩:Rl)=(ZBw,9):=by unfold finR; rw [if_neg e5]
         rw [e6]
         refine ⟨_,rfl,?_⟩
         refine ⟨_,rfl,?_⟩
         refine retV rfl ?_
         exact ⟨.inl (.inr ⟨_,_,rfl,rfl,.inl ⟨rfl,rfl⟩,.inl ⟨rfl,rfl⟩,.inl ⟨rfl,rfl⟩,.inl ⟨rfl,rfl⟩,.inl ⟨rfl,rfl⟩,.inl ⟨rfl,rfl⟩,.inl ⟨rfl,rfl⟩,.inr ⟨rfl,2,rfl⟩,trivial⟩),.inl (.inl ⟨rfl,rfl⟩),trivial⟩
        ·have e5:ZAO (⟨sd,gk,ga,gb,3,b,⟨#[]⟩,[]⟩:Rl)=0:=by simpa using e5
         have e6:finR (⟨sd,gk,ga,gb,3,b,⟨#[]⟩,[]⟩:Rl)=((⟨sd,gk,ga,gb,3,b,⟨#[]⟩,[]⟩:Rl),0):=by unfold finR; rw [if_pos e5]
         rw [e6]
         iterate 3 refine ⟨_,rfl,?_⟩
         refine retV rfl ?_
         exact ⟨.inl (.inl ⟨rfl,rfl⟩),.inl (.inl ⟨rfl,rfl⟩),trivial⟩
     | false =>
      have n3:a≠kRem:=fun e=>by cases ht3.2 e
      intro t4 ht4
      cases t4 with
      | true =>
       obtain rfl:a=kRen:=ht4.1 rfl
       refine ⟨_,rfl,?_⟩
       refine .p rfl (hsp kNNN (by omega) (by decide)) ?_
       cases hsh:ZCv ((kRen,false)::(b,q2)::r) kNNN with
       | false =>
        rw [bad (by
         show ZBa sd (gk,ga,gb) kRen ((b,q2)::r)=none
         cases ht:ZBa sd (gk,ga,gb) kRen ((b,q2)::r) with
         | none=>rfl
         | some x=>rw [ren_shape ht] at hsh; cases hsh)]
        refine ⟨_,rfl,?_⟩
        refine ⟨_,rfl,?_⟩
        refine retV rfl ?_
        exact ⟨.inl (.inr ⟨_,_,rfl,rfl,.inl ⟨rfl,rfl⟩,.inl ⟨rfl,rfl⟩,.inl ⟨rfl,rfl⟩,.inl ⟨rfl,rfl⟩,.inl ⟨rfl,rfl⟩,.inl ⟨rfl,rfl⟩,.inl ⟨rfl,rfl⟩,.inr ⟨rfl,2,rfl⟩,trivial⟩),.inl (.inl ⟨rfl,rfl⟩),trivial⟩
       | true =>
        obtain ⟨_,_,c,e9⟩:=(nnn_iff _).1 hsh
        simp only [List.cons.injEq,Prod.mk.injEq] at e9
        obtain ⟨-,⟨-,rfl⟩,rfl⟩:=e9
        have hc:c.size<=100000:=hz (c,false) (by simp)
        refine ⟨2,_,rfl,rfl,?_⟩
        refine ⟨_,rfl,?_⟩
        cases ok with
        | false =>
         rw [hok rfl]
         refine ⟨_,rfl,?_⟩
         refine ⟨_,rfl,?_⟩
         refine retV rfl ?_
         exact ⟨.inl (.inr ⟨_,_,rfl,rfl,.inl ⟨rfl,rfl⟩,.inl ⟨rfl,rfl⟩,.inl ⟨rfl,rfl⟩,.inl ⟨rfl,rfl⟩,.inl ⟨rfl,rfl⟩,.inl ⟨rfl,rfl⟩,.inl ⟨rfl,rfl⟩,.inr ⟨rfl,2,rfl⟩,trivial⟩),.inl (.inl ⟨rfl,rfl⟩),trivial⟩
        | true =>
         rw [actR_ren]
         refine ⟨_,rfl,?_⟩
         refine .p rfl (ZDK (⟨sd,gk,ga,gb,4,b,c,[]⟩:Rl) ⟨h1,h2,hb,hc,by show 0<=1000; omega,by show 0<=1000000; omega⟩) ?_
         refine ZAA (fun e5=>?_) (fun e5=>?_)
         ·have e5:ZAO (⟨sd,gk,ga,gb,4,b,c,[]⟩:Rl)≠0:=by simpa using e5
          have e6:finR (⟨sd,gk,ga,gb,4,b,c,[]⟩:Rl)=(ZBw,9):=by unfold finR; rw [if_neg e5]
          rw [e6]
          refine ⟨_,rfl,?_⟩
          refine ⟨_,rfl,?_⟩
          refine retV rfl ?_
          exact ⟨.inl (.inr ⟨_,_,rfl,rfl,.inl ⟨rfl,rfl⟩,.inl ⟨rfl,rfl⟩,.inl ⟨rfl,rfl⟩,.inl ⟨rfl,rfl⟩,.inl ⟨rfl,rfl⟩,.inl ⟨rfl,rfl⟩,.inl ⟨rfl,rfl⟩,.inr ⟨rfl,2,rfl⟩,trivial⟩),.inl (.inl ⟨rfl,rfl⟩),trivial⟩
         ·have e5:ZAO (⟨sd,gk,ga,gb,4,b,c,[]⟩:Rl)=0:=by simpa using e5
          have e6:finR (⟨sd,gk,ga,gb,4,b,c,[]⟩:Rl)=((⟨sd,gk,ga,gb,4,b,c,[]⟩:Rl),0):=by unfold finR; rw [if_pos e5]
          rw [e6]
          iterate 3 refine ⟨_,rfl,?_⟩
          refine retV rfl ?_
          exact ⟨.inl (.inl ⟨rfl,rfl⟩),.inl (.inl ⟨rfl,rfl⟩),trivial⟩
      | false =>
       have n4:a≠kRen:=fun e=>by cases ht4.2 e
       rw [bad (other_act n1 n2 n3 n4)]
       refine ⟨_,rfl,?_⟩
       refine ⟨_,rfl,?_⟩
       refine retV rfl ?_
       exact ⟨.inl (.inr ⟨_,_,rfl,rfl,.inl ⟨rfl,rfl⟩,.inl ⟨rfl,rfl⟩,.inl ⟨rfl,rfl⟩,.inl ⟨rfl,rfl⟩,.inl ⟨rfl,rfl⟩,.inl ⟨rfl,rfl⟩,.inl ⟨rfl,rfl⟩,.inr ⟨rfl,2,rfl⟩,trivial⟩),.inl (.inl ⟨rfl,rfl⟩),trivial⟩
theorem ZNO {s t:ByteArray} {k e:Nat} (hk:k<=s.size) (h:ZB8 s k=some (t,e)):t.size<=s.size:=by
 by_cases h0:tw tokI s k=0
 ·rw [ZEH h0] at h
  cases hf:ZAw s k with
  | none=>rw [hf] at h; cases h
  | some x =>
   rw [hf] at h
   obtain ⟨v,i⟩:=x
   cases h
   unfold ZAw at hf
   split at hf
   ·have:=ZCo _ _ _ _ _ rfl hf
    show (List.toArray v).size<=_
    rw [List.size_toArray]
    have h9:([]:List UInt8).length=0:=rfl
    omega
   ·cases hf
 ·rw [ZEC h0] at h
  cases h
  rw [ByteArray.size_extract]
  omega
theorem ZNa {s:ByteArray}:∀ (z k:Nat),s.size - k=z->k<=s.size->(ZAV s k).1.length<=z/\∀ w∈(ZAV s k).1,w.1.size<=s.size:=by
 intro z
 induction z using Nat.strongRecOn with
 | _ z ih =>
  intro k hz hk
  by_cases hlt:k<s.size
  ·cases hs:ZB8 s k with
   | none=>rw [ZBX hlt hs]; exact ⟨Nat.zero_le _,fun w hw=>by cases hw⟩
   | some x =>
    obtain ⟨t,e⟩:=x
    have l1:=ZDT hk hs
    have h1:=ZNO hk hs
    cases hg:gapS s e with
    | none =>
     rw [ZB5 hlt hs hg]
     refine ⟨by show 1<=z; omega,fun w hw=>?_⟩
     simp at hw
     subst hw
     exact h1
    | some j =>
     have l2:=ZFx l1.2 hg
     rw [ZA0 hlt hs hg]
     obtain ⟨i1,i2⟩:=ih (s.size - j) (by omega) j rfl l2.2
     refine ⟨by rw [List.length_cons]; omega,fun w hw=>?_⟩
     rcases List.mem_cons.1 hw with hw | hw
     ·subst hw; exact h1
     ·exact i2 w hw
  ·rw [ZBt (by omega)]
   exact ⟨Nat.zero_le _,fun w hw=>by cases hw⟩
theorem ZLP (s:ByteArray):(ZBB s).1.length<=s.size/\∀ w∈(ZBB s).1,w.1.size<=s.size:=by
 have:=ZCR blkI s 0 (Nat.zero_le _)
 obtain ⟨h1,h2⟩:=ZNa (s:=s) _ (tw blkI s 0) rfl (by omega)
 exact ⟨by unfold ZBB; omega,h2⟩
def ZKN (l:List Wd) (ok:Bool):Rl × Int:=if ok=true then outR (ZEc l) else (ZBw,2)
theorem ZCe {l:List Wd} {ok:Bool} (h:ZEc l=none):ZKN l ok=(ZBw,2):=by
 unfold ZKN
 split
 ·rw [h]; rfl
 ·rfl
def gd0:Gd:=(0,⟨#[]⟩,⟨#[]⟩)
theorem ruleL_bad {a:ByteArray} {l:List Wd} (h1:a≠kReq) (h2:a≠kRes):ZEc ((a,false)::l)=none:=by
 unfold ZEc ZE0
 simp [ZA7,h1,h2]
theorem side_is {a:ByteArray} {sd:Int} (h:a=kReq/\sd=1 \/ a=kRes/\sd=2) (l:List Wd):ZE0 ((a,false)::l)=some (sd,l):=by
 have n1:kRes≠kReq:=by decide +kernel
 rcases h with ⟨rfl,rfl⟩ | ⟨rfl,rfl⟩
 ·simp [ZE0,ZA7]
 ·simp [ZE0,ZA7,n1]
theorem ZJx {a w:ByteArray} {sd:Int} {r:List Wd} {ok:Bool} (h:a=kReq/\sd=1 \/ a=kRes/\sd=2) (hw:w≠kIf):ZKN ((a,false)::(w,false)::r) ok=actR sd gd0 ((w,false)::r) ok:=by
 unfold ZKN actR ZEc
 rw [side_is h]
 simp only [ZA7]
 rw [if_neg hw]
 rfl
theorem tl2_nameL {sd:Int} {g:Gd} {l:List Wd}:(match ZA7 l with | none=>none | some (w,k)=>ZBa sd g w k)=tl2 sd g l:=by
 match l with
 | []=>rfl
 | (w,true)::r=>rfl
 | (w,false)::r=>rfl
theorem ZMG {a:ByteArray} {sd:Int} {r:List Wd} {ok:Bool} (h:a=kReq/\sd=1 \/ a=kRes/\sd=2):ZKN ((a,false)::(kIf,false)::r) ok=match ZBD r with
  | none=>(ZBw,2)
  | some (g,k)=>actR sd g k ok:=by
 have e:ZEc ((a,false)::(kIf,false)::r)=match ZBD r with
   | none=>none
   | some (g,k)=>tl2 sd g k:=by
  unfold ZEc
  rw [side_is h]
  simp only [ZA7,if_true]
  cases ZBD r with
  | none=>rfl
  | some x=>exact tl2_nameL
 unfold ZKN actR
 rw [e]
 cases ZBD r with
 | none=>split <;> rfl
 | some x=>rfl
theorem ZIN {n:ByteArray} {r:List Wd}:ZBD ((kHas,false)::(n,false)::r)=some ((1,n,⟨#[]⟩),r):=by simp [ZBD,ZA7]
theorem ZGP {n:ByteArray} {r:List Wd}:ZBD ((ZA8,false)::(n,false)::r)=some ((2,n,⟨#[]⟩),r):=by
 have n1:ZA8≠kHas:=by decide +kernel
 simp [ZBD,ZA7,n1]
theorem ZJu {n v:ByteArray} {q:Bool} {r:List Wd}:ZBD ((kIs,false)::(n,false)::(v,q)::r)=if q=true then some ((3,n,v),r) else none:=by
 have n2:kIs≠kHas:=by decide +kernel
 have n3:kIs≠ZA8:=by decide +kernel
 cases q <;> simp [ZBD,ZA7,ZCJ,n2,n3]
theorem ZGQ {w n:ByteArray} {r:List Wd} (h1:w≠kHas) (h2:w≠ZA8) (h3:w≠kIs):ZBD ((w,false)::(n,false)::r)=none:=by simp [ZBD,ZA7,h1,h2,h3]
theorem ZCt (l:List Wd) (n:Nat):((wdL l).drop n).take ((wdL l).length - n)=wdL (l.drop n):=by
 rw [List.take_of_length_le (by simp)]
 unfold wdL
 rw [List.map_drop]
theorem ZKl {x:Wd} {r i:List Wd} {sd:Int} (h:ZE0 (x::r)=some (sd,i)):i=r:=by
 obtain ⟨a,q⟩:=x
 cases q with
 | true=>cases h
 | false =>
  unfold ZE0 at h
  simp only [ZA7] at h
  split at h
  ·cases h; rfl
  ·split at h
   ·cases h; rfl
   ·cases h
theorem ZGz {l:List Wd} (h:l.length<3):ZEc l=none:=by
 match l,h with
 | [],_=>rfl
 | x::r,h =>
  unfold ZEc
  cases hs:ZE0 (x::r) with
  | none=>rfl
  | some y =>
   obtain ⟨sd,i⟩:=y
   obtain rfl:=ZKl hs
   match i,h with
   | [],_=>rfl
   | [(w,true)],_=>rfl
   | [(w,false)],_ =>
    simp only [ZA7]
    split <;> rfl
theorem ZDR {c:Wd} {r:List Wd} {sd:Int} {ok:Bool} (h:r.length<2):(match ZBD (c::r) with | none=>(ZBw,2) | some (g,k)=>actR sd g k ok)=(ZBw,2):=by
 have key:∀ g k,ZBD (c::r)=some (g,k)->k=[]:=by
  intro g k hg
  obtain ⟨w,q⟩:=c
  cases q with
  | true=>cases hg
  | false =>
   match r,h with
   | [],_=>cases hg
   | [(n,true)],_=>cases hg
   | [(n,false)],_ =>
    unfold ZBD at hg
    simp only [ZA7,ZCJ] at hg
    split at hg
    ·cases hg; rfl
    ·split at hg
     ·cases hg; rfl
     ·split at hg
      ·cases hg
      ·cases hg
 cases hg:ZBD (c::r) with
 | none=>rfl
 | some x =>
  obtain ⟨g,k⟩:=x
  obtain rfl:=key g k hg
  show actR sd g [] ok=_
  unfold actR
  split <;> rfl
set_option maxHeartbeats 1000000 in
theorem ZJw (s:ByteArray) (hs:s.size<=100000):ZAC Tryz.prog 122 [.s s] (.tup [(ZAT s).1.av,.i (ZAT s).2]) []:=by
 have hW:=words33_p s (by omega)
 obtain ⟨z1,z2⟩:=ZLP s
 rw [ZMF]
 show ZAC _ _ _ (.tup [(ZKN (ZBB s).1 (ZBB s).2).1.av,.i (ZKN (ZBB s).1 (ZBB s).2).2]) []
 generalize (ZBB s).1=l at *
 generalize (ZBB s).2=ok at *
 have hwl:=ZIe l
 refine ZAC.ofG rfl ?_
 refine ZAB.of_vc T_ok mixed Tryz.func122 rfl Tryz.call122 ?_
 refine .p rfl hW ?_
 refine ⟨_,rfl,?_⟩
 match l,z1,z2,hwl with
 | [],_,_,_ =>
  rw [ZCe rfl]
  refine ⟨_,rfl,?_⟩
  refine ⟨_,rfl,?_⟩
  refine retV rfl ?_
  exact ⟨.inl (.inr ⟨_,_,rfl,rfl,.inl ⟨rfl,rfl⟩,.inl ⟨rfl,rfl⟩,.inl ⟨rfl,rfl⟩,.inl ⟨rfl,rfl⟩,.inl ⟨rfl,rfl⟩,.inl ⟨rfl,rfl⟩,.inl ⟨rfl,rfl⟩,.inr ⟨rfl,2,rfl⟩,trivial⟩),.inl (.inl ⟨rfl,rfl⟩),trivial⟩
 | [x],_,_,_ =>
  rw [ZCe (ZGz (by show 1<3; omega))]
  refine ⟨_,rfl,?_⟩
  refine ⟨_,rfl,?_⟩
  refine retV rfl ?_
  exact ⟨.inl (.inr ⟨_,_,rfl,rfl,.inl ⟨rfl,rfl⟩,.inl ⟨rfl,rfl⟩,.inl ⟨rfl,rfl⟩,.inl ⟨rfl,rfl⟩,.inl ⟨rfl,rfl⟩,.inl ⟨rfl,rfl⟩,.inl ⟨rfl,rfl⟩,.inr ⟨rfl,2,rfl⟩,trivial⟩),.inl (.inl ⟨rfl,rfl⟩),trivial⟩
 | [x,y],_,_,_ =>
  rw [ZCe (ZGz (by show 2<3; omega))]
  refine ⟨_,rfl,?_⟩
  refine ⟨_,rfl,?_⟩
  refine retV rfl ?_
  exact ⟨.inl (.inr ⟨_,_,rfl,rfl,.inl ⟨rfl,rfl⟩,.inl ⟨rfl,rfl⟩,.inl ⟨rfl,rfl⟩,.inl ⟨rfl,rfl⟩,.inl ⟨rfl,rfl⟩,.inl ⟨rfl,rfl⟩,.inl ⟨rfl,rfl⟩,.inr ⟨rfl,2,rfl⟩,trivial⟩),.inl (.inl ⟨rfl,rfl⟩),trivial⟩
 | (a,q1)::(w,q2)::(c,q3)::r,z1,z2,hwl =>
  refine ⟨0,_,rfl,rfl,?_⟩
  cases q1 with
  | true =>
   rw [ZCe rfl]
   refine ⟨_,rfl,?_⟩
   refine ⟨_,rfl,?_⟩
   refine retV rfl ?_
   exact ⟨.inl (.inr ⟨_,_,rfl,rfl,.inl ⟨rfl,rfl⟩,.inl ⟨rfl,rfl⟩,.inl ⟨rfl,rfl⟩,.inl ⟨rfl,rfl⟩,.inl ⟨rfl,rfl⟩,.inl ⟨rfl,rfl⟩,.inl ⟨rfl,rfl⟩,.inr ⟨rfl,2,rfl⟩,trivial⟩),.inl (.inl ⟨rfl,rfl⟩),trivial⟩
  | false =>
  refine ⟨1,_,rfl,rfl,?_⟩
  cases q2 with
  | true =>
   have e9:ZEc ((a,false)::(w,true)::(c,q3)::r)=none:=by
    unfold ZEc
    cases hs9:ZE0 ((a,false)::(w,true)::(c,q3)::r) with
    | none=>rfl
    | some y =>
     obtain ⟨sd,i⟩:=y
     obtain rfl:=ZKl hs9
     rfl
   rw [ZCe e9]
   refine ⟨_,rfl,?_⟩
   refine ⟨_,rfl,?_⟩
   refine retV rfl ?_
   exact ⟨.inl (.inr ⟨_,_,rfl,rfl,.inl ⟨rfl,rfl⟩,.inl ⟨rfl,rfl⟩,.inl ⟨rfl,rfl⟩,.inl ⟨rfl,rfl⟩,.inl ⟨rfl,rfl⟩,.inl ⟨rfl,rfl⟩,.inl ⟨rfl,rfl⟩,.inr ⟨rfl,2,rfl⟩,trivial⟩),.inl (.inl ⟨rfl,rfl⟩),trivial⟩
  | false =>
  refine ⟨0,_,rfl,rfl,?_⟩
  intro t1 ht1
  cases t1 with
  | true =>
   obtain rfl:a=kReq:=ht1.1 rfl
   refine ⟨_,rfl,?_⟩
   refine ⟨1,rfl,by simp only [List.length_cons] at hwl; omega,Nat.le_refl _,?_⟩
   refine ⟨1,_,rfl,rfl,?_⟩
   intro t3 ht3
   cases t3 with
   | false =>
    have n3:w≠kIf:=fun e=>by cases ht3.2 e
    rw [ZJx (.inl ⟨rfl,rfl⟩) n3]
    refine ⟨_,rfl,?_⟩
    refine .w (args':=[(ZJY 1 gd0).av,.sl .no 2 (wdL ((w,false)::(c,q3)::r)),.b ok]) rfl ⟨.inl (.inr ⟨_,_,rfl,rfl,⟨.inl ⟨rfl,rfl⟩,.inl ⟨rfl,rfl⟩,.inl ⟨rfl,rfl⟩,.inl ⟨rfl,rfl⟩,.inl ⟨rfl,rfl⟩,.inl ⟨rfl,rfl⟩,.inl ⟨rfl,rfl⟩,.inr ⟨rfl,2,rfl⟩,trivial⟩⟩),.inl (.inl ⟨congrArg (AV.sl .no 2) (ZCt ((kReq,false)::(w,false)::(c,q3)::r) 1).symm,rfl⟩),.inl (.inl ⟨rfl,rfl⟩),trivial⟩ (ZD8 1 gd0 ((w,false)::(c,q3)::r) ok (by simp only [List.length_cons] at z1 ⊢; omega) (fun w9 hw9=>Nat.le_trans (z2 w9 (List.mem_of_mem_drop (i:=1) hw9)) hs) (by exact Nat.zero_le _) (by exact Nat.zero_le _)) ?_
    refine ⟨_,rfl,?_⟩
    refine ⟨_,rfl,?_⟩
    refine retV rfl ?_
    exact ⟨.inl (.inl ⟨rfl,rfl⟩),.inl (.inl ⟨rfl,rfl⟩),trivial⟩
   | true =>
   obtain rfl:w=kIf:=ht3.1 rfl
   rw [ZMG (.inl ⟨rfl,rfl⟩)]
   match r,z1,z2,hwl with
   | [],_,_,_ =>
    rw [ZDR (by show 0<2; omega)]
    refine ⟨_,rfl,?_⟩
    refine ⟨_,rfl,?_⟩
    refine retV rfl ?_
    exact ⟨.inl (.inr ⟨_,_,rfl,rfl,.inl ⟨rfl,rfl⟩,.inl ⟨rfl,rfl⟩,.inl ⟨rfl,rfl⟩,.inl ⟨rfl,rfl⟩,.inl ⟨rfl,rfl⟩,.inl ⟨rfl,rfl⟩,.inl ⟨rfl,rfl⟩,.inr ⟨rfl,2,rfl⟩,trivial⟩),.inl (.inl ⟨rfl,rfl⟩),trivial⟩
   | [_],_,_,_ =>
    rw [ZDR (by show 1<2; omega)]
    refine ⟨_,rfl,?_⟩
    refine ⟨_,rfl,?_⟩
    refine retV rfl ?_
    exact ⟨.inl (.inr ⟨_,_,rfl,rfl,.inl ⟨rfl,rfl⟩,.inl ⟨rfl,rfl⟩,.inl ⟨rfl,rfl⟩,.inl ⟨rfl,rfl⟩,.inl ⟨rfl,rfl⟩,.inl ⟨rfl,rfl⟩,.inl ⟨rfl,rfl⟩,.inr ⟨rfl,2,rfl⟩,trivial⟩),.inl (.inl ⟨rfl,rfl⟩),trivial⟩
   | (n,qn)::(v,qv)::r,z1,z2,hwl =>
   have hn:n.size<=s.size:=z2 (n,qn) (by simp)
   have hv:v.size<=s.size:=z2 (v,qv) (by simp)
   refine ⟨2,_,rfl,rfl,?_⟩
   cases q3 with
   | true =>
    have e9:ZBD ((c,true)::(n,qn)::(v,qv)::r)=none:=rfl
    simp only [e9]
    refine ⟨_,rfl,?_⟩
    refine ⟨_,rfl,?_⟩
    refine retV rfl ?_
    exact ⟨.inl (.inr ⟨_,_,rfl,rfl,.inl ⟨rfl,rfl⟩,.inl ⟨rfl,rfl⟩,.inl ⟨rfl,rfl⟩,.inl ⟨rfl,rfl⟩,.inl ⟨rfl,rfl⟩,.inl ⟨rfl,rfl⟩,.inl ⟨rfl,rfl⟩,.inr ⟨rfl,2,rfl⟩,trivial⟩),.inl (.inl ⟨rfl,rfl⟩),trivial⟩
   | false =>
   refine ⟨3,_,rfl,rfl,?_⟩
   cases qn with
   | true =>
    have e9:ZBD ((c,false)::(n,true)::(v,qv)::r)=none:=rfl
    simp only [e9]
    refine ⟨_,rfl,?_⟩
    refine ⟨_,rfl,?_⟩
    refine retV rfl ?_
    exact ⟨.inl (.inr ⟨_,_,rfl,rfl,.inl ⟨rfl,rfl⟩,.inl ⟨rfl,rfl⟩,.inl ⟨rfl,rfl⟩,.inl ⟨rfl,rfl⟩,.inl ⟨rfl,rfl⟩,.inl ⟨rfl,rfl⟩,.inl ⟨rfl,rfl⟩,.inr ⟨rfl,2,rfl⟩,trivial⟩),.inl (.inl ⟨rfl,rfl⟩),trivial⟩
   | false =>
   refine ⟨3,_,rfl,rfl,?_⟩
   refine ⟨_,rfl,?_⟩
   refine ⟨4,rfl,by simp only [List.length_cons] at hwl; omega,Nat.le_refl _,?_⟩
   refine ⟨2,_,rfl,rfl,?_⟩
   intro t4 ht4
   cases t4 with
   | true =>
    obtain rfl:c=kHas:=ht4.1 rfl
    rw [ZIN]
    refine ⟨_,rfl,?_⟩
    refine ⟨_,rfl,?_⟩
    refine .w (args':=[(ZJY 1 (1,n,⟨#[]⟩)).av,.sl .no 2 (wdL ((v,qv)::r)),.b ok]) rfl ⟨.inl (.inr ⟨_,_,rfl,rfl,⟨.inl ⟨rfl,rfl⟩,.inl ⟨rfl,rfl⟩,.inl ⟨rfl,rfl⟩,.inl ⟨rfl,rfl⟩,.inl ⟨rfl,rfl⟩,.inl ⟨rfl,rfl⟩,.inl ⟨rfl,rfl⟩,.inr ⟨rfl,2,rfl⟩,trivial⟩⟩),.inl (.inl ⟨congrArg (AV.sl .no 2) (ZCt ((kReq,false)::(kIf,false)::(kHas,false)::(n,false)::(v,qv)::r) 4).symm,rfl⟩),.inl (.inl ⟨rfl,rfl⟩),trivial⟩ (ZD8 1 (1,n,⟨#[]⟩) ((v,qv)::r) ok (by simp only [List.length_cons] at z1 ⊢; omega) (fun w9 hw9=>Nat.le_trans (z2 w9 (List.mem_of_mem_drop (i:=4) hw9)) hs) (by exact Nat.le_trans hn hs) (by exact Nat.zero_le _)) ?_
    refine ⟨_,rfl,?_⟩
    refine ⟨_,rfl,?_⟩
    refine retV rfl ?_
    exact ⟨.inl (.inl ⟨rfl,rfl⟩),.inl (.inl ⟨rfl,rfl⟩),trivial⟩
   | false =>
   have n4:c≠kHas:=fun e=>by cases ht4.2 e
   intro t5 ht5
   cases t5 with
   | true =>
    obtain rfl:c=ZA8:=ht5.1 rfl
    rw [ZGP]
    refine ⟨_,rfl,?_⟩
    refine ⟨_,rfl,?_⟩
    refine .w (args':=[(ZJY 1 (2,n,⟨#[]⟩)).av,.sl .no 2 (wdL ((v,qv)::r)),.b ok]) rfl ⟨.inl (.inr ⟨_,_,rfl,rfl,⟨.inl ⟨rfl,rfl⟩,.inl ⟨rfl,rfl⟩,.inl ⟨rfl,rfl⟩,.inl ⟨rfl,rfl⟩,.inl ⟨rfl,rfl⟩,.inl ⟨rfl,rfl⟩,.inl ⟨rfl,rfl⟩,.inr ⟨rfl,2,rfl⟩,trivial⟩⟩),.inl (.inl ⟨congrArg (AV.sl .no 2) (ZCt ((kReq,false)::(kIf,false)::(ZA8,false)::(n,false)::(v,qv)::r) 4).symm,rfl⟩),.inl (.inl ⟨rfl,rfl⟩),trivial⟩ (ZD8 1 (2,n,⟨#[]⟩) ((v,qv)::r) ok (by simp only [List.length_cons] at z1 ⊢; omega) (fun w9 hw9=>Nat.le_trans (z2 w9 (List.mem_of_mem_drop (i:=4) hw9)) hs) (by exact Nat.le_trans hn hs) (by exact Nat.zero_le _)) ?_
    refine ⟨_,rfl,?_⟩
    refine ⟨_,rfl,?_⟩
    refine retV rfl ?_
    exact ⟨.inl (.inl ⟨rfl,rfl⟩),.inl (.inl ⟨rfl,rfl⟩),trivial⟩
   | false =>
   have n5:c≠ZA8:=fun e=>by cases ht5.2 e
   intro t6 ht6
   cases t6 with
   | true =>
    obtain rfl:c=kIs:=ht6.1 rfl
    rw [ZJu]
    refine ⟨4,_,rfl,rfl,?_⟩
    cases qv with
    | false =>
     refine ⟨_,rfl,?_⟩
     refine ⟨_,rfl,?_⟩
     refine retV rfl ?_
     exact ⟨.inl (.inr ⟨_,_,rfl,rfl,.inl ⟨rfl,rfl⟩,.inl ⟨rfl,rfl⟩,.inl ⟨rfl,rfl⟩,.inl ⟨rfl,rfl⟩,.inl ⟨rfl,rfl⟩,.inl ⟨rfl,rfl⟩,.inl ⟨rfl,rfl⟩,.inr ⟨rfl,2,rfl⟩,trivial⟩),.inl (.inl ⟨rfl,rfl⟩),trivial⟩
    | true =>
    refine ⟨_,rfl,?_⟩
    refine ⟨4,_,rfl,rfl,?_⟩
    refine ⟨_,rfl,?_⟩
    refine ⟨5,rfl,by simp only [List.length_cons] at hwl; omega,Nat.le_refl _,?_⟩
    refine ⟨_,rfl,?_⟩
    refine .w (args':=[(ZJY 1 (3,n,v)).av,.sl .no 2 (wdL r),.b ok]) rfl ⟨.inl (.inr ⟨_,_,rfl,rfl,⟨.inl ⟨rfl,rfl⟩,.inl ⟨rfl,rfl⟩,.inl ⟨rfl,rfl⟩,.inl ⟨rfl,rfl⟩,.inl ⟨rfl,rfl⟩,.inl ⟨rfl,rfl⟩,.inl ⟨rfl,rfl⟩,.inr ⟨rfl,2,rfl⟩,trivial⟩⟩),.inl (.inl ⟨congrArg (AV.sl .no 2) (ZCt ((kReq,false)::(kIf,false)::(kIs,false)::(n,false)::(v,true)::r) 5).symm,rfl⟩),.inl (.inl ⟨rfl,rfl⟩),trivial⟩ (ZD8 1 (3,n,v) r ok (by simp only [List.length_cons] at z1 ⊢; omega) (fun w9 hw9=>Nat.le_trans (z2 w9 (List.mem_of_mem_drop (i:=5) hw9)) hs) (by exact Nat.le_trans hn hs) (by exact Nat.le_trans hv hs)) ?_
    refine ⟨_,rfl,?_⟩
    refine ⟨_,rfl,?_⟩
    refine retV rfl ?_
    exact ⟨.inl (.inl ⟨rfl,rfl⟩),.inl (.inl ⟨rfl,rfl⟩),trivial⟩
   | false =>
   have n6:c≠kIs:=fun e=>by cases ht6.2 e
   rw [ZGQ n4 n5 n6]
   refine ⟨_,rfl,?_⟩
   refine ⟨_,rfl,?_⟩
   refine retV rfl ?_
   exact ⟨.inl (.inr ⟨_,_,rfl,rfl,.inl ⟨rfl,rfl⟩,.inl ⟨rfl,rfl⟩,.inl ⟨rfl,rfl⟩,.inl ⟨rfl,rfl⟩,.inl ⟨rfl,rfl⟩,.inl ⟨rfl,rfl⟩,.inl ⟨rfl,rfl⟩,.inr ⟨rfl,2,rfl⟩,trivial⟩),.inl (.inl ⟨rfl,rfl⟩),trivial⟩
  | false =>
  have n1:a≠kReq:=fun e=>by cases ht1.2 e
  intro t2 ht2
  cases t2 with
  | true =>
   obtain rfl:a=kRes:=ht2.1 rfl
   refine ⟨_,rfl,?_⟩
   refine ⟨1,rfl,by simp only [List.length_cons] at hwl; omega,Nat.le_refl _,?_⟩
   refine ⟨1,_,rfl,rfl,?_⟩
   intro t3 ht3
   cases t3 with
   | false =>
    have n3:w≠kIf:=fun e=>by cases ht3.2 e
    rw [ZJx (.inr ⟨rfl,rfl⟩) n3]
    refine ⟨_,rfl,?_⟩
    refine .w (args':=[(ZJY 2 gd0).av,.sl .no 2 (wdL ((w,false)::(c,q3)::r)),.b ok]) rfl ⟨.inl (.inr ⟨_,_,rfl,rfl,⟨.inl ⟨rfl,rfl⟩,.inl ⟨rfl,rfl⟩,.inl ⟨rfl,rfl⟩,.inl ⟨rfl,rfl⟩,.inl ⟨rfl,rfl⟩,.inl ⟨rfl,rfl⟩,.inl ⟨rfl,rfl⟩,.inr ⟨rfl,2,rfl⟩,trivial⟩⟩),.inl (.inl ⟨congrArg (AV.sl .no 2) (ZCt ((kRes,false)::(w,false)::(c,q3)::r) 1).symm,rfl⟩),.inl (.inl ⟨rfl,rfl⟩),trivial⟩ (ZD8 2 gd0 ((w,false)::(c,q3)::r) ok (by simp only [List.length_cons] at z1 ⊢; omega) (fun w9 hw9=>Nat.le_trans (z2 w9 (List.mem_of_mem_drop (i:=1) hw9)) hs) (by exact Nat.zero_le _) (by exact Nat.zero_le _)) ?_
    refine ⟨_,rfl,?_⟩
    refine ⟨_,rfl,?_⟩
    refine retV rfl ?_
    exact ⟨.inl (.inl ⟨rfl,rfl⟩),.inl (.inl ⟨rfl,rfl⟩),trivial⟩
   | true =>
   obtain rfl:w=kIf:=ht3.1 rfl
   rw [ZMG (.inr ⟨rfl,rfl⟩)]
   match r,z1,z2,hwl with
   | [],_,_,_ =>
    rw [ZDR (by show 0<2; omega)]
    refine ⟨_,rfl,?_⟩
    refine ⟨_,rfl,?_⟩
    refine retV rfl ?_
    exact ⟨.inl (.inr ⟨_,_,rfl,rfl,.inl ⟨rfl,rfl⟩,.inl ⟨rfl,rfl⟩,.inl ⟨rfl,rfl⟩,.inl ⟨rfl,rfl⟩,.inl ⟨rfl,rfl⟩,.inl ⟨rfl,rfl⟩,.inl ⟨rfl,rfl⟩,.inr ⟨rfl,2,rfl⟩,trivial⟩),.inl (.inl ⟨rfl,rfl⟩),trivial⟩
   | [_],_,_,_ =>
    rw [ZDR (by show 1<2; omega)]
    refine ⟨_,rfl,?_⟩
    refine ⟨_,rfl,?_⟩
    refine retV rfl ?_
    exact ⟨.inl (.inr ⟨_,_,rfl,rfl,.inl ⟨rfl,rfl⟩,.inl ⟨rfl,rfl⟩,.inl ⟨rfl,rfl⟩,.inl ⟨rfl,rfl⟩,.inl ⟨rfl,rfl⟩,.inl ⟨rfl,rfl⟩,.inl ⟨rfl,rfl⟩,.inr ⟨rfl,2,rfl⟩,trivial⟩),.inl (.inl ⟨rfl,rfl⟩),trivial⟩
   | (n,qn)::(v,qv)::r,z1,z2,hwl =>
   have hn:n.size<=s.size:=z2 (n,qn) (by simp)
   have hv:v.size<=s.size:=z2 (v,qv) (by simp)
   refine ⟨2,_,rfl,rfl,?_⟩
   cases q3 with
   | true =>
    have e9:ZBD ((c,true)::(n,qn)::(v,qv)::r)=none:=rfl
    simp only [e9]
    refine ⟨_,rfl,?_⟩
    refine ⟨_,rfl,?_⟩
    refine retV rfl ?_
    exact ⟨.inl (.inr ⟨_,_,rfl,rfl,.inl ⟨rfl,rfl⟩,.inl ⟨rfl,rfl⟩,.inl ⟨rfl,rfl⟩,.inl ⟨rfl,rfl⟩,.inl ⟨rfl,rfl⟩,.inl ⟨rfl,rfl⟩,.inl ⟨rfl,rfl⟩,.inr ⟨rfl,2,rfl⟩,trivial⟩),.inl (.inl ⟨rfl,rfl⟩),trivial⟩
   | false =>
   refine ⟨3,_,rfl,rfl,?_⟩
   cases qn with
   | true =>
    have e9:ZBD ((c,false)::(n,true)::(v,qv)::r)=none:=rfl
    simp only [e9]
    refine ⟨_,rfl,?_⟩
    refine ⟨_,rfl,?_⟩
    refine retV rfl ?_
    exact ⟨.inl (.inr ⟨_,_,rfl,rfl,.inl ⟨rfl,rfl⟩,.inl ⟨rfl,rfl⟩,.inl ⟨rfl,rfl⟩,.inl ⟨rfl,rfl⟩,.inl ⟨rfl,rfl⟩,.inl ⟨rfl,rfl⟩,.inl ⟨rfl,rfl⟩,.inr ⟨rfl,2,rfl⟩,trivial⟩),.inl (.inl ⟨rfl,rfl⟩),trivial⟩
   | false =>
   refine ⟨3,_,rfl,rfl,?_⟩
   refine ⟨_,rfl,?_⟩
   refine ⟨4,rfl,by simp only [List.length_cons] at hwl; omega,Nat.le_refl _,?_⟩
   refine ⟨2,_,rfl,rfl,?_⟩
   intro t4 ht4
   cases t4 with
   | true =>
    obtain rfl:c=kHas:=ht4.1 rfl
    rw [ZIN]
    refine ⟨_,rfl,?_⟩
    refine ⟨_,rfl,?_⟩
    refine .w (args':=[(ZJY 2 (1,n,⟨#[]⟩)).av,.sl .no 2 (wdL ((v,qv)::r)),.b ok]) rfl ⟨.inl (.inr ⟨_,_,rfl,rfl,⟨.inl ⟨rfl,rfl⟩,.inl ⟨rfl,rfl⟩,.inl ⟨rfl,rfl⟩,.inl ⟨rfl,rfl⟩,.inl ⟨rfl,rfl⟩,.inl ⟨rfl,rfl⟩,.inl ⟨rfl,rfl⟩,.inr ⟨rfl,2,rfl⟩,trivial⟩⟩),.inl (.inl ⟨congrArg (AV.sl .no 2) (ZCt ((kRes,false)::(kIf,false)::(kHas,false)::(n,false)::(v,qv)::r) 4).symm,rfl⟩),.inl (.inl ⟨rfl,rfl⟩),trivial⟩ (ZD8 2 (1,n,⟨#[]⟩) ((v,qv)::r) ok (by simp only [List.length_cons] at z1 ⊢; omega) (fun w9 hw9=>Nat.le_trans (z2 w9 (List.mem_of_mem_drop (i:=4) hw9)) hs) (by exact Nat.le_trans hn hs) (by exact Nat.zero_le _)) ?_
    refine ⟨_,rfl,?_⟩
    refine ⟨_,rfl,?_⟩
    refine retV rfl ?_
    exact ⟨.inl (.inl ⟨rfl,rfl⟩),.inl (.inl ⟨rfl,rfl⟩),trivial⟩
   | false =>
   have n4:c≠kHas:=fun e=>by cases ht4.2 e
   intro t5 ht5
   cases t5 with
   | true =>
    obtain rfl:c=ZA8:=ht5.1 rfl
    rw [ZGP]
    refine ⟨_,rfl,?_⟩
    refine ⟨_,rfl,?_⟩
    refine .w (args':=[(ZJY 2 (2,n,⟨#[]⟩)).av,.sl .no 2 (wdL ((v,qv)::r)),.b ok]) rfl ⟨.inl (.inr ⟨_,_,rfl,rfl,⟨.inl ⟨rfl,rfl⟩,.inl ⟨rfl,rfl⟩,.inl ⟨rfl,rfl⟩,.inl ⟨rfl,rfl⟩,.inl ⟨rfl,rfl⟩,.inl ⟨rfl,rfl⟩,.inl ⟨rfl,rfl⟩,.inr ⟨rfl,2,rfl⟩,trivial⟩⟩),.inl (.inl ⟨congrArg (AV.sl .no 2) (ZCt ((kRes,false)::(kIf,false)::(ZA8,false)::(n,false)::(v,qv)::r) 4).symm,rfl⟩),.inl (.inl ⟨rfl,rfl⟩),trivial⟩ (ZD8 2 (2,n,⟨#[]⟩) ((v,qv)::r) ok (by simp only [List.length_cons] at z1 ⊢; omega) (fun w9 hw9=>Nat.le_trans (z2 w9 (List.mem_of_mem_drop (i:=4) hw9)) hs) (by exact Nat.le_trans hn hs) (by exact Nat.zero_le _)) ?_
    refine ⟨_,rfl,?_⟩
    refine ⟨_,rfl,?_⟩
    refine retV rfl ?_
    exact ⟨.inl (.inl ⟨rfl,rfl⟩),.inl (.inl ⟨rfl,rfl⟩),trivial⟩
   | false =>
   have n5:c≠ZA8:=fun e=>by cases ht5.2 e
   intro t6 ht6
   cases t6 with
   | true =>
    obtain rfl:c=kIs:=ht6.1 rfl
    rw [ZJu]
    refine ⟨4,_,rfl,rfl,?_⟩
    cases qv with
    | false =>
     refine ⟨_,rfl,?_⟩
     refine ⟨_,rfl,?_⟩
     refine retV rfl ?_
     exact ⟨.inl (.inr ⟨_,_,rfl,rfl,.inl ⟨rfl,rfl⟩,.inl ⟨rfl,rfl⟩,.inl ⟨rfl,rfl⟩,.inl ⟨rfl,rfl⟩,.inl ⟨rfl,rfl⟩,.inl ⟨rfl,rfl⟩,.inl ⟨rfl,rfl⟩,.inr ⟨rfl,2,rfl⟩,trivial⟩),.inl (.inl ⟨rfl,rfl⟩),trivial⟩
    | true =>
    refine ⟨_,rfl,?_⟩
    refine ⟨4,_,rfl,rfl,?_⟩
    refine ⟨_,rfl,?_⟩
    refine ⟨5,rfl,by simp only [List.length_cons] at hwl; omega,Nat.le_refl _,?_⟩
    refine ⟨_,rfl,?_⟩
    refine .w (args':=[(ZJY 2 (3,n,v)).av,.sl .no 2 (wdL r),.b ok]) rfl ⟨.inl (.inr ⟨_,_,rfl,rfl,⟨.inl ⟨rfl,rfl⟩,.inl ⟨rfl,rfl⟩,.inl ⟨rfl,rfl⟩,.inl ⟨rfl,rfl⟩,.inl ⟨rfl,rfl⟩,.inl ⟨rfl,rfl⟩,.inl ⟨rfl,rfl⟩,.inr ⟨rfl,2,rfl⟩,trivial⟩⟩),.inl (.inl ⟨congrArg (AV.sl .no 2) (ZCt ((kRes,false)::(kIf,false)::(kIs,false)::(n,false)::(v,true)::r) 5).symm,rfl⟩),.inl (.inl ⟨rfl,rfl⟩),trivial⟩ (ZD8 2 (3,n,v) r ok (by simp only [List.length_cons] at z1 ⊢; omega) (fun w9 hw9=>Nat.le_trans (z2 w9 (List.mem_of_mem_drop (i:=5) hw9)) hs) (by exact Nat.le_trans hn hs) (by exact Nat.le_trans hv hs)) ?_
    refine ⟨_,rfl,?_⟩
    refine ⟨_,rfl,?_⟩
    refine retV rfl ?_
    exact ⟨.inl (.inl ⟨rfl,rfl⟩),.inl (.inl ⟨rfl,rfl⟩),trivial⟩
   | false =>
   have n6:c≠kIs:=fun e=>by cases ht6.2 e
   rw [ZGQ n4 n5 n6]
   refine ⟨_,rfl,?_⟩
   refine ⟨_,rfl,?_⟩
   refine retV rfl ?_
   exact ⟨.inl (.inr ⟨_,_,rfl,rfl,.inl ⟨rfl,rfl⟩,.inl ⟨rfl,rfl⟩,.inl ⟨rfl,rfl⟩,.inl ⟨rfl,rfl⟩,.inl ⟨rfl,rfl⟩,.inl ⟨rfl,rfl⟩,.inl ⟨rfl,rfl⟩,.inr ⟨rfl,2,rfl⟩,trivial⟩),.inl (.inl ⟨rfl,rfl⟩),trivial⟩
  | false =>
  have n2:a≠kRes:=fun e=>by cases ht2.2 e
  rw [ZCe (ruleL_bad n1 n2)]
  refine ⟨_,rfl,?_⟩
  refine ⟨_,rfl,?_⟩
  refine retV rfl ?_
  exact ⟨.inl (.inr ⟨_,_,rfl,rfl,.inl ⟨rfl,rfl⟩,.inl ⟨rfl,rfl⟩,.inl ⟨rfl,rfl⟩,.inl ⟨rfl,rfl⟩,.inl ⟨rfl,rfl⟩,.inl ⟨rfl,rfl⟩,.inl ⟨rfl,rfl⟩,.inr ⟨rfl,2,rfl⟩,trivial⟩),.inl (.inl ⟨rfl,rfl⟩),trivial⟩
theorem ZJX:ZBw.Ok:=⟨Nat.zero_le _,Nat.zero_le _,Nat.zero_le _,Nat.zero_le _,Nat.zero_le _,Nat.zero_le _⟩
theorem ZE8 {s:ByteArray} (hs:s.size<=100000):(ZAT s).1.Ok:=by
 unfold ZAT
 cases h:ZDa s with
 | none=>exact ZJX
 | some y =>
  obtain ⟨x,b⟩:=y
  have:=ZIf hs h
  simp only
  split
  ·exact ZJX
  ·split
   ·exact this
   ·exact ZJX
theorem ZCq {s:ByteArray} (h:(ZAT s).2=0):ZAO (ZAT s).1=0:=by
 unfold ZAT at h ⊢
 cases hr:ZDa s with
 | none=>rw [hr] at h; cases h
 | some y =>
  obtain ⟨x,b⟩:=y
  rw [hr] at h
  simp only at h ⊢
  split at h
  ·cases h
  ·rename_i hb
   rw [if_neg hb]
   split at h
   ·rename_i hc; rw [if_pos hc]; exact hc
   ·rename_i hc; exact absurd h hc
end Go.Proofs.YticbonkojpabnaaGreatDoor
