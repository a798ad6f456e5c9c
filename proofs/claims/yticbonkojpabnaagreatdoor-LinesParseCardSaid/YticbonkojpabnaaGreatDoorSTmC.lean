/- Templates: the document's reading of all parts; names, rows of parts. No statement of its own. -/
import Derived.Test.YticbonkojpabnaaGreatDoorSTmB
set_option linter.unusedSimpArgs false
set_option linter.unusedVariables false
set_option maxRecDepth 100000
namespace Go.Proofs.YticbonkojpabnaaGreatDoor
open Go.RowKit
theorem ZKW {s:ByteArray} {k j:Nat} {p:Prt} (ho:oneT s k=some (p,j)):p.2.size<=j - k:=by
 have ez:∀ a b,(s.extract a b).size<=b - a:=fun a b=>by rw [ByteArray.size_extract]; omega
 unfold oneT at ho
 repeat' split at ho
 all_goals first
  | (cases ho; done)
  | (cases ho; first | (show 1<=_; omega) | (refine Nat.le_trans (ez _ _) ?_; omega))
theorem ZFM (q:Prt):putT [] q=[q]:=by
 obtain ⟨q1,q2⟩:=q
 unfold putT
 split
 ·rename_i h
  have h:q1=1:=h
  subst h
  rfl
 ·rfl
theorem ZMb (acc:List Prt) (p:Prt):sumT (putT acc p)=sumT acc+p.2.size:=by
 unfold putT
 split
 ·exact ZId _ _
 ·simp [sumT]
section
attribute [local irreducible] ZAn
set_option maxHeartbeats 2000000 in
theorem ZG5 (s:ByteArray) (hs:s.size<=1099511627776):ZAC Tryz.prog 105 [.s s] (.tup [.sl .no 2 (prtL (ZAM s).1),.i (ZAM s).2]) []:=by
 have hmx:maxLen=9223372036854775807:=rfl
 have hP:ZAM s=match tpW s 0 [] with
  | none=>([],2)
  | some l=>if 32<l.length then ([],3) else (l,0):=rfl
 generalize ZAM s=Z0 at hP
 refine ZAC.ofX rfl ?_
 refine ZAB.of_vc T_ok mixed Tryz.func105 rfl Tryz.call105 ?_
 refine ZAF [0,4] (fun g vals st'=>∃ k T a acc,vals=[.s T,a]/\T=s.extract k s.size/\k<=s.size/\k+g=s.size/\((a=.nilS/\acc=[]) \/ ∃ p cap,a=.hs p 0 (prtL acc).length cap 2/\RwS st' p cap 2 (prtL acc))/\tpW s 0 []=tpW s k acc/\acc.length<=k/\sumT acc<=k) s.size rfl ⟨0,s,_,[],rfl,(ext_all s).symm,Nat.zero_le _,by omega,.inl ⟨rfl,rfl⟩,rfl,Nat.le_refl _,Nat.le_refl _⟩ ?_
 rintro g vals st1 ⟨k,T,a,acc,rfl,hT,hk,hkg,hA,hX,hl,hz0⟩
 have hTz:T.size+k=s.size:=by rw [hT,ZJA]; omega
 have el:=ZBg acc
 rcases hA with ⟨rfl,rfl⟩ | ⟨p,cap,rfl,hw⟩
 ·skip
  intro t ht
  cases t with
  | false =>
   have hz:T.size=0:=(ZAi _).1 (ht.1 rfl)
   rw [hX,ZHV (by omega)] at hP
   simp only at hP
   rw [if_neg (by decide)] at hP
   subst hP
   exact ZDV
  | true =>
   have hz:0<T.size:=Nat.pos_of_ne_zero fun e=>by have:=ht.2 ((ZAi _).2 e); cases this
   have h1:=one31_p T hz (by omega)
   have hc:=cut_one s k (by omega)
   rw [<- hT] at hc
   have hZ:oneR T=match oneT T 0 with
    | none=>((0,⟨#[]⟩),0)
    | some x=>x:=rfl
   rw [hc] at hZ
   generalize oneR T=Z at h1 hZ
   refine .p rfl h1 ?_
   refine ⟨_,ZAK _ _,?_⟩
   cases ho:oneT s k with
   | none =>
    rw [ho] at hZ
    have hZ:Z=((0,⟨#[]⟩),0):=hZ
    subst hZ
    rw [hX,ZDb (by omega) ho] at hP
    simp only at hP
    subst hP
    exact ZDV
   | some x =>
    obtain ⟨q,j⟩:=x
    obtain ⟨j1,j2⟩:=ZG9 ho
    rw [ho] at hZ
    have hZ:Z=(q,j - k):=hZ
    subst hZ
    have hq:=ZKW ho
    refine ZAA (fun h2=>?_) (fun h2=>?_)
    ·have h2:((j - k:Nat):Int)=0:=beq_iff_eq.1 h2
     omega
    refine ⟨j - k,rfl,by omega,Nat.le_refl _,?_⟩
    have hU:T.extract (j - k) T.size=s.extract j s.size:=by rw [hT,ZLf]; congr 1; omega
    generalize T.extract (j - k) T.size=U at *
    have hgo:=hX.trans (ZCs (by omega) ho)
    have hpl':=ZJL (([]:List Prt)) q
    have hps:=ZMb (([]:List Prt)) q
    intro c hc
    have hc:c=-1:=by rw [hc]; exact IntWalk.i64_in _ (by decide)
    refine ⟨_,ZAL _ _ _,?_⟩
    refine ZAA (fun hk=>?_) (fun hk=>?_)
    ·refine ZAA (fun hk2=>?_) (fun hk2=>?_)
     ·have hk2:c >= 0:=of_decide_eq_true hk2
      omega
     ·skip
      refine ⟨_,ZAL _ _ _,?_⟩
      refine HR.app (n:=0) (i:=ZFa) .nil rfl rfl (List.cons_ne_nil _ _) (ZBo [q]) (by show 1*24<=140737488355328; decide) (by show 1<=9223372036854775807; decide) (Nat.zero_le _) (fun p' cap' S4 hw hm hp hlt4=>?_)
      exact ⟨s.size - j,by omega,j,U,_,[q],rfl,hU,j2,by omega,.inr ⟨p',cap',rfl,hw⟩,hgo.trans (by rw [ZFM]),by simp; omega,by rw [ZFM] at hps; omega⟩
    ·skip
     refine ⟨_,ZAL _ _ _,?_⟩
     refine HR.app (n:=0) (i:=ZFa) .nil rfl rfl (List.cons_ne_nil _ _) (ZBo [q]) (by show 1*24<=140737488355328; decide) (by show 1<=9223372036854775807; decide) (Nat.zero_le _) (fun p' cap' S4 hw hm hp hlt4=>?_)
     exact ⟨s.size - j,by omega,j,U,_,[q],rfl,hU,j2,by omega,.inr ⟨p',cap',rfl,hw⟩,hgo.trans (by rw [ZFM]),by simp; omega,by rw [ZFM] at hps; omega⟩
 ·obtain ⟨⟨zs,hp,hzs⟩,_,_⟩:=id hw
  have hel:=ZBo acc
  have el1:∀ e∈prtL acc,e.length=2:=fun e he=>(hel e he).1
  intro t ht
  cases t with
  | false =>
   have hz:T.size=0:=(ZAi _).1 (ht.1 rfl)
   rw [hX,ZHV (by omega)] at hP
   simp only at hP
   refine ZAA (fun hd2=>?_) (fun hd2=>?_)
   ·have hd2:((prtL acc).length:Int) > 32:=of_decide_eq_true hd2
    rw [if_pos (by omega)] at hP
    subst hP
    exact ZDV
   ·have hd2:¬ ((prtL acc).length:Int) > 32:=of_decide_eq_false hd2
    rw [if_neg (by omega)] at hP
    subst hP
    show resX st1 (.tup [.hs p 0 (prtL acc).length cap 2,.i 0]) _
    exact ZIq (.hs _ _ _ hw)
  | true =>
   have hz:0<T.size:=Nat.pos_of_ne_zero fun e=>by have:=ht.2 ((ZAi _).2 e); cases this
   have h1:=one31_p T hz (by omega)
   have hc:=cut_one s k (by omega)
   rw [<- hT] at hc
   have hZ:oneR T=match oneT T 0 with
    | none=>((0,⟨#[]⟩),0)
    | some x=>x:=rfl
   rw [hc] at hZ
   generalize oneR T=Z at h1 hZ
   refine .p rfl h1 ?_
   refine ⟨_,ZAK _ _,?_⟩
   cases ho:oneT s k with
   | none =>
    rw [ho] at hZ
    have hZ:Z=((0,⟨#[]⟩),0):=hZ
    subst hZ
    rw [hX,ZDb (by omega) ho] at hP
    simp only at hP
    subst hP
    exact ZDV
   | some x =>
    obtain ⟨q,j⟩:=x
    obtain ⟨j1,j2⟩:=ZG9 ho
    rw [ho] at hZ
    have hZ:Z=(q,j - k):=hZ
    subst hZ
    have hq:=ZKW ho
    refine ZAA (fun h2=>?_) (fun h2=>?_)
    ·have h2:((j - k:Nat):Int)=0:=beq_iff_eq.1 h2
     omega
    refine ⟨j - k,rfl,by omega,Nat.le_refl _,?_⟩
    have hU:T.extract (j - k) T.size=s.extract j s.size:=by rw [hT,ZLf]; congr 1; omega
    generalize T.extract (j - k) T.size=U at *
    have hgo:=hX.trans (ZCs (by omega) ho)
    have hpl':=ZJL (acc) q
    have hps:=ZMb (acc) q
    have hpl:=ZBC hp
    have hp2:((st1.heap++[[AV.i 0,.s ⟨#[]⟩]]).set st1.heap.length [.i q.1,.s q.2])[p]? = some ((prtL acc).flatten++zs):=ZBe (by omega) (ap hp)
    have hw2:RwS ⟨(st1.heap++[[AV.i 0,.s ⟨#[]⟩]]).set st1.heap.length [.i q.1,.s q.2],st1.tk⟩ p cap 2 (prtL acc):=hw.keep fun cs hcs=>ZBe (by omega) (ap hcs)
    intro c hc
    have hc:c=((prtL acc).length:Int) - 1:=by rw [hc]; exact IntWalk.i64_in _ (by omega)
    refine ⟨_,ZAL _ _ _,?_⟩
    refine ZAA (fun hk=>?_) (fun hk=>?_)
    ·have hk:q.1=1:=beq_iff_eq.1 hk
     refine ZAA (fun hk2=>?_) (fun hk2=>?_)
     ·have hk2:c >= 0:=of_decide_eq_true hk2
      have hlt:acc.length - 1<acc.length:=by omega
      have hlt2:acc.length - 1<(prtL acc).length:=by omega
      have hg:=ZBA hlt
      have hg2:(prtL acc)[acc.length - 1]=[.i acc[acc.length - 1].1,.s acc[acc.length - 1].2]:=by
       rw [List.getElem?_eq_getElem hlt2] at hg
       exact Option.some.inj hg
      have hlast:acc[acc.length - 1]? = some acc[acc.length - 1]:=List.getElem?_eq_getElem hlt
      have hc0:((prtL acc).flatten++zs)[0+(acc.length - 1)*2+0]? = some (.i acc[acc.length - 1].1):=by
       have:=ZDx (zs:=zs) el1 hlt2 (j:=0) (by omega)
       rw [hg2] at this
       rw [Nat.zero_add]
       exact this
      have hc1:((prtL acc).flatten++zs)[0+(acc.length - 1)*2+1]? = some (.s acc[acc.length - 1].2):=by
       have:=ZDx (zs:=zs) el1 hlt2 (j:=1) (by omega)
       rw [hg2] at this
       rw [Nat.zero_add]
       exact this
      refine ⟨acc.length - 1,by omega,by omega,?_⟩
      refine ⟨_,hp2,ld1 rfl hc0 ?_⟩
      refine ZAA (fun hk3=>?_) (fun hk3=>?_)
      ·have hk3:acc[acc.length - 1].1=1:=beq_iff_eq.1 hk3
       have hput:putT acc q=mrgT acc q.2:=by unfold putT; rw [if_pos hk]
       have e2:(prtL acc).set (acc.length - 1) (([AV.i acc[acc.length - 1].1,.s acc[acc.length - 1].2]).set 1 (.s (acc[acc.length - 1].2++q.2)))=prtL (mrgT acc q.2):=by
        rw [ZEK hlast hk3,<- ZL1]
        congr 1
        rw [hk3]
        rfl
       have e4:=ZKU (zs:=zs) el1 hlt2 (j:=1) (by omega) (.s (acc[acc.length - 1].2++q.2))
       rw [hg2,e2] at e4
       have e3:(prtL acc).length=(prtL (mrgT acc q.2)).length:=by rw [<- e2,List.length_set]
       refine .x (by kernel_rfl) ?_
       refine ⟨acc.length - 1,by omega,by omega,?_⟩
       refine ⟨_,hp2,ld1 rfl hc1 ?_⟩
       refine ⟨_,ZAL _ _ _,?_⟩
       refine ⟨by have:=ZFi (List.getElem_mem hlt); show acc[acc.length - 1].2.size+q.2.size<=maxLen; omega,?_⟩
       refine ⟨acc.length - 1,by omega,by omega,?_⟩
       refine ⟨_,hp2,st1' rfl (List.getElem?_eq_some_iff.1 hc1).1 e4 ?_⟩
       refine ⟨s.size - j,by omega,j,U,_,mrgT acc q.2,rfl,hU,j2,by omega,.inr ⟨p,cap,congrArg (fun n=>AV.hs p 0 n cap 2) e3,⟨zs,ZAY hp2,by rw [<- e3]; exact hzs⟩,ZBo _,by rw [<- e3]; exact hw.hn⟩,hgo.trans (by rw [hput]),by rw [hput] at hpl'; omega,by rw [hput] at hps; omega⟩
      ·have hk3:acc[acc.length - 1].1≠1:=beq_eq_false_iff_ne.1 hk3
       have hput:putT acc q=acc++[q]:=by
        unfold putT
        rw [if_pos hk,ZGs (fun r hr=>by rw [hlast] at hr; cases hr; exact hk3)]
        obtain ⟨q1,q2⟩:=q
        have hk:q1=1:=hk
        rw [hk]
       refine ⟨_,ZAL _ _ _,?_⟩
       refine HR.app (n:=0) (i:=ZFa) (.hs p cap _ hw2) rfl rfl (List.cons_ne_nil _ _) (ZBo [q]) (by show ((prtL acc).length+1)*24<=_; omega) (by show (prtL acc).length+1<=_; omega) (Nat.zero_le _) (fun p' cap' S4 hw hm hp hlt4=>?_)
       have e1:(prtL acc).length+1=(prtL (acc++[q])).length:=by rw [<- ZBh,List.length_append]; rfl
       refine ⟨s.size - j,by omega,j,U,_,acc++[q],rfl,hU,j2,by omega,.inr ⟨p',cap',congrArg (fun n=>AV.hs p' 0 n cap' 2) e1,by rw [<- ZBh]; exact hw⟩,hgo.trans (by rw [hput]),by simp; omega,by rw [hput] at hps; omega⟩
     ·have hk2:¬ c >= 0:=of_decide_eq_false hk2
      have h0:acc=[]:=List.eq_nil_of_length_eq_zero (by omega)
      have hput:putT acc q=acc++[q]:=by rw [h0]; exact ZFM q
      refine ⟨_,ZAL _ _ _,?_⟩
      refine HR.app (n:=0) (i:=ZFa) (.hs p cap _ hw2) rfl rfl (List.cons_ne_nil _ _) (ZBo [q]) (by show ((prtL acc).length+1)*24<=_; omega) (by show (prtL acc).length+1<=_; omega) (Nat.zero_le _) (fun p' cap' S4 hw hm hp hlt4=>?_)
      have e1:(prtL acc).length+1=(prtL (acc++[q])).length:=by rw [<- ZBh,List.length_append]; rfl
      refine ⟨s.size - j,by omega,j,U,_,acc++[q],rfl,hU,j2,by omega,.inr ⟨p',cap',congrArg (fun n=>AV.hs p' 0 n cap' 2) e1,by rw [<- ZBh]; exact hw⟩,hgo.trans (by rw [hput]),by simp; omega,by rw [hput] at hps; omega⟩
    ·have hk:q.1≠1:=beq_eq_false_iff_ne.1 hk
     have hput:putT acc q=acc++[q]:=by unfold putT; rw [if_neg hk]
     refine ⟨_,ZAL _ _ _,?_⟩
     refine HR.app (n:=0) (i:=ZFa) (.hs p cap _ hw2) rfl rfl (List.cons_ne_nil _ _) (ZBo [q]) (by show ((prtL acc).length+1)*24<=_; omega) (by show (prtL acc).length+1<=_; omega) (Nat.zero_le _) (fun p' cap' S4 hw hm hp hlt4=>?_)
     have e1:(prtL acc).length+1=(prtL (acc++[q])).length:=by rw [<- ZBh,List.length_append]; rfl
     refine ⟨s.size - j,by omega,j,U,_,acc++[q],rfl,hU,j2,by omega,.inr ⟨p',cap',congrArg (fun n=>AV.hs p' 0 n cap' 2) e1,by rw [<- ZBh]; exact hw⟩,hgo.trans (by rw [hput]),by simp; omega,by rw [hput] at hps; omega⟩
end
end Go.Proofs.YticbonkojpabnaaGreatDoor
