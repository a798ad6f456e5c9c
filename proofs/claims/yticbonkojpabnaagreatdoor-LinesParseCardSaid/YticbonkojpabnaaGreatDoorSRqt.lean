/- Lines of rules, written by the program. No statement of its own. -/
import Derived.Test.YticbonkojpabnaaGreatDoorSVnw
import Derived.Test.YticbonkojpabnaaGreatDoorSRkq
import Derived.Test.YticbonkojpabnaaGreatDoorSVq
import Derived.Test.YticbonkojpabnaaGreatDoorSR36
import Derived.Test.YticbonkojpabnaaGreatDoorSTmE
set_option linter.unusedSimpArgs false
set_option linter.unusedVariables false
set_option maxRecDepth 100000
namespace Go.Proofs.YticbonkojpabnaaGreatDoor
open Go.RowKit
theorem ZK7 (l:List ByteArray):∀ e∈strL l,e.length=1/\e.all AV.flat=true:=fun e he=>by
 unfold strL at he
 obtain ⟨x,_,rfl⟩:=List.mem_map.1 he
 exact ⟨rfl,rfl⟩
theorem HR.formW {st:St} {sz:Nat} {a:AV} {r:Option Nat} {es:List (List AV)} (h:HR st sz a r es):(a=.nilS/\r=none) \/ (a=.sl .tight sz []/\r=none) \/ ∃ p cap n,a=.hs p 0 n cap sz/\r=some p:=by
 cases h with
 | nil=>exact .inl ⟨rfl,rfl⟩
 | tight=>exact .inr (.inl ⟨rfl,rfl⟩)
 | hs p cap es h=>exact .inr (.inr ⟨p,cap,_,rfl,rfl⟩)
/-- a writer's words -/
def WB (st:St) (b:Nat) (r:Option Nat) (l:List ByteArray):Prop:=∃ a,st.heap[b]? = some [a]/\HR st 1 a r (strL l)/\r≠some b
/-- what a writer's call turns: the writer, and its row -/
structure WgS (st:St) (b:Nat) (r:Option Nat) (st':St) (r':Option Nat):Prop where
 mv:Mv 0 (fun q=>q=b \/ some q=r) st st'
 nw:r'=r \/ ∃ p,r'=some p/\st.heap.length<=p
theorem WgS.refl (st:St) (b:Nat) (r:Option Nat):WgS st b r st r:=⟨.refl (Nat.zero_le _),.inl rfl⟩
theorem WgS.trans {st st1 st2:St} {b:Nat} {r r1 r2:Option Nat} (h:WgS st b r st1 r1) (k:WgS st1 b r1 st2 r2):WgS st b r st2 r2:=by
 refine ⟨h.mv.trans k.mv fun q hq hd=>?_,?_⟩
 ·rcases hd with hd | hd
  ·exact .inl hd
  ·rcases h.nw with e | ⟨p,e,hp⟩
   ·exact .inr (by rw [<- e]; exact hd)
   ·rw [e] at hd
    have:=Option.some.inj hd
    omega
 ·rcases k.nw with e | ⟨p,e,hp⟩
  ·rw [e]; exact h.nw
  ·exact .inr ⟨p,e,Nat.le_trans h.mv.len hp⟩
theorem WB.mv {n:Nat} {C:Nat->Prop} {a b:St} {p:Nat} {r:Option Nat} {l:List ByteArray} (h:WB a p r l) (m:Mv n C a b) (h1:¬ C p) (h2:∀ q,r=some q->¬ C q):WB b p r l:=by
 obtain ⟨x,e1,e2,e3⟩:=h
 exact ⟨x,m.at' e1 h1,e2.mv m h2,e3⟩
theorem WB.lt {st:St} {b:Nat} {r:Option Nat} {l:List ByteArray} (h:WB st b r l):b<st.heap.length:=ZBC h.choose_spec.1
theorem WB.rlt {st:St} {b p:Nat} {l:List ByteArray} (h:WB st b (some p) l):p<st.heap.length:=h.choose_spec.2.1.lt
section
variable {st:St} {R:AV->St->Prop} {b:Nat} {r:Option Nat}
attribute [local irreducible] ZAn
theorem ZJ8 {tg:Tk} (l ys:List ByteArray) (hl:l.length+ys.length<=1000000) (hy:ys≠[]) (hb:WB st b r l) (h:∀ r' st',WB st' b r' (l++ys)->WgS st b r st' r'->R (.tup []) st'):ZAB Tryz.prog 94 [.ptr b 0,.sl tg 1 (strL ys)] st R:=by
 have hmx:maxLen=9223372036854775807:=rfl
 obtain ⟨a,hba,hR,hrb⟩:=hb
 have el:=ZAH l
 have ey:=ZAH ys
 have hbl:=ZBC hba
 rcases hR.formW with ⟨rfl,rfl⟩ | ⟨rfl,rfl⟩ | ⟨p0,c0,n0,rfl,rfl⟩
 iterate 3
  ·skip
   refine ZAB.of_vc T_ok mixed Tryz.func94 rfl Tryz.call94 ?_
   refine ⟨_,hba,?_⟩
   refine HR.app (n:=0) (i:=ti9) hR rfl rfl (fun e=>hy (by unfold strL at e; exact List.map_eq_nil_iff.1 e)) (ZK7 ys) ?_ ?_ (Nat.zero_le _) (fun p cap st' q0 q1 q2 q3=>?_)
   ·show ((strL l).length+(strL ys).length)*16<=_; omega
   ·show (strL l).length+(strL ys).length<=_; omega
   have hb':=q1.at' hba (fun e=>hrb e.symm)
   have hpb:p≠b:=fun e=>(q2.elim (fun e'=>hrb (by rw [<- e',e])) (fun e'=>by omega))
   refine ⟨_,hb',?_⟩
   refine h (some p) _ ⟨_,ZAY hb',?_,fun e=>hpb (Option.some.inj e)⟩ ⟨(q1.wide fun q _ e=>.inr e).set (p:=b) (fun _=>.inl rfl) _,?_⟩
   ·have:=HR.hs (st:=⟨st'.heap.set b [.hs p 0 ((strL l).length+(strL ys).length) cap 1],st'.tk⟩) p cap _ (q0.keep fun cs h=>ZBe (fun e=>hpb e.symm) h)
    rw [List.length_append,<- ZAh] at this
    exact this
   ·rcases q2 with e | e
    ·exact .inl e
    ·exact .inr ⟨p,rfl,e⟩
theorem value34_p (s:ByteArray) (hs:s.size<=1099511627776):ZAC Tryz.prog 136 [.s s] (.tup [.s (ZA1 s).1,.i (ZA1 s).2]) []:=by
 have h:=quote_p s hs
 refine ZAC.of rfl (ZAB.of_vc T_ok mixed Tryz.func136 rfl Tryz.call136 ?_)
 refine .p rfl h ?_
 rfl
theorem ZHS (l:List ByteArray) (s:ByteArray) (hs:s.size<=1099511627776) (hl:l.length+1<=1000000) (hb:WB st b r l) (h:∀ r' st',WB st' b r' (l++[(ZA1 s).1])->WgS st b r st' r'->R (.tup []) st'):ZAB Tryz.prog 95 [.ptr b 0,.s s] st R:=by
 refine ZAB.of_vc T_ok mixed Tryz.func95 rfl Tryz.call95 ?_
 refine .p rfl (value34_p s hs) ?_
 exact .s (ZJ8 l [(ZA1 s).1] hl (List.cons_ne_nil _ _) hb h)
/-- a step on: what is there besides is kept -/
theorem WB.on {st st':St} {x:List AV} {l:List ByteArray} (hb:WB st b r l):WB ⟨st.heap++[x],st.tk⟩ b r l:=hb.mv (((Mv.refl (n:=0) (C:=fun _=>False) (Nat.zero_le _))).alloc x) (fun h=>h) (fun _ _ h=>h)
/-- behind a variable of one's own -/
theorem WgS.own {st st':St} {x:List AV} {r':Option Nat} (hr:∀ p,r=some p->p<st.heap.length) (h:WgS ⟨st.heap++[x],st.tk⟩ b r st' r') (hbl:b<st.heap.length):WgS st b r st' r':=by
 refine ⟨((Mv.refl (n:=0) (C:=fun q=>q=b \/ some q=r) (Nat.zero_le _)).alloc x).trans h.mv fun q hq hd=>hd,?_⟩
 rcases h.nw with e | ⟨p,e,hp⟩
 ·exact .inl e
 ·exact .inr ⟨p,e,by simp at hp; omega⟩
theorem ZJv (l:List ByteArray) (k:Int) (ga gb:ByteArray) (hk:k=0 \/ k=1 \/ k=2 \/ k=3/\(ZA1 gb).1=ZBi gb) (hs:gb.size<=1099511627776) (hl:l.length<=1000) (hb:WB st b r l) (h:∀ r' st',WB st' b r' (l++(ZBI k ga gb).map wdB)->WgS st b r st' r'->R (.tup []) st') :
  ZAB Tryz.prog 58 [.ptr b 0,.agg [.i k,.s ga,.s gb]] st R:=by
 have hbl:=hb.lt
 have hrl:∀ p,r=some p->p<st.heap.length:=fun p e=>by subst e; exact hb.rlt
 have hb2:=fun x=>WB.on (st':=st) (x:=x) hb
 rcases hk with rfl | rfl | rfl | ⟨rfl,hq⟩
 ·refine ZAB.of_vc T_ok mixed Tryz.func58 rfl Tryz.call58 ?_
  refine ⟨_,ZAK _ _,?_⟩
  refine h r _ ?_ (WgS.own hrl (.refl _ _ _) hbl)
  rw [show (ZBI 0 ga gb).map wdB=[] from rfl,List.append_nil]
  exact hb2 _
 ·refine ZAB.of_vc T_ok mixed Tryz.func58 rfl Tryz.call58 ?_
  refine ⟨_,ZAK _ _,?_⟩
  refine ⟨_,ZAK _ _,?_⟩
  refine .s (ZJ8 l [kIf,kHas,ga] (by show l.length+3<=_; omega) (List.cons_ne_nil _ _) (hb2 _) fun r' st' h1 h2=>?_)
  exact h r' st' h1 (WgS.own hrl h2 hbl)
 ·refine ZAB.of_vc T_ok mixed Tryz.func58 rfl Tryz.call58 ?_
  refine ⟨_,ZAK _ _,?_⟩
  refine ⟨_,ZAK _ _,?_⟩
  refine .s (ZJ8 l [kIf,ZA8,ga] (by show l.length+3<=_; omega) (List.cons_ne_nil _ _) (hb2 _) fun r' st' h1 h2=>?_)
  exact h r' st' h1 (WgS.own hrl h2 hbl)
 ·refine ZAB.of_vc T_ok mixed Tryz.func58 rfl Tryz.call58 ?_
  refine ⟨_,ZAK _ _,?_⟩
  refine ⟨_,ZAK _ _,?_⟩
  refine .s (ZJ8 l [kIf,kIs,ga] (by show l.length+3<=_; omega) (List.cons_ne_nil _ _) (hb2 _) fun r' st' h1 h2=>?_)
  have hne:¬ (st.heap.length=b \/ some st.heap.length=r):=fun e=>by
   rcases e with e | e
   ·omega
   ·have:=hrl _ e.symm
    omega
  have hat:=h2.mv.at' (ZAK st.heap _) hne
  refine ⟨_,hat,?_⟩
  refine .s (ZHS _ gb hs (by show (l++[kIf,kIs,ga]).length+1<=_; simp; omega) h1 fun r2 st2 h3 h4=>?_)
  refine h r2 st2 ?_ (WgS.own hrl (h2.trans h4) hbl)
  rw [hq] at h3
  have e:l++[kIf,kIs,ga]++[ZBi gb]=l++(ZBI 3 ga gb).map wdB:=by rw [List.append_assoc]; rfl
  rw [<- e]
  exact h3
end
section
variable {st:St} {R:AV->St->Prop} {b:Nat} {r:Option Nat}
theorem act34_a (l:List ByteArray) (sd gk ac:Int) (ga gb nm un:ByteArray) (ps:List Prt) (hac:(ac=1 \/ ac=2)/\ZB9 ps=(wrL ps,0)/\ZA1 (wrL ps)=(ZBi (wrL ps),0) \/ ac=3 \/ ac=4) (h1:ps.length<=1000) (h2:sumT ps<=1000000) (hl:l.length<=1000) (hb:WB st b r l)
  (h:∀ r' st',WB st' b r' (l++((kwA ac,false)::ZCL ⟨sd,gk,ga,gb,ac,nm,un,ps⟩).map wdB)->WgS st b r st' r'->R (.tup []) st'):ZAB Tryz.prog 59 [.ptr b 0,.agg [.i sd,.i gk,.s ga,.s gb,.i ac,.s nm,.s un,.sl .no 2 (prtL ps)]] st R:=by
 have hbl:=hb.lt
 have hrl:∀ p,r=some p->p<st.heap.length:=fun p e=>by subst e; exact hb.rlt
 have hb2:=fun x=>WB.on (st':=st) (x:=x) hb
 have htx:=ZL6 ps h1 h2
 have hwz:=ZEZ ps
 rcases hac with ⟨hac,ht,hq⟩ | rfl | rfl
 ·rw [ht] at htx
  rcases hac with rfl | rfl
  ·skip
   refine ZAB.of_vc T_ok mixed Tryz.func59 rfl Tryz.call59 ?_
   refine ⟨_,ZAK _ _,?_⟩
   refine ⟨_,ZAK _ _,?_⟩
   refine .s (ZJ8 l [kSet,nm] (by show l.length+2<=_; omega) (List.cons_ne_nil _ _) (hb2 _) fun r' st' h1 h2=>?_)
   have hne:¬ (st.heap.length=b \/ some st.heap.length=r):=fun e=>by
    rcases e with e | e
    ·omega
    ·have:=hrl _ e.symm
     omega
   have hat:=h2.mv.at' (ZAK st.heap _) hne
   refine ⟨_,hat,?_⟩
   refine .p rfl htx ?_
   refine .s (ZHS _ (wrL ps) (by omega) (by show (l++[kSet,nm]).length+1<=_; simp; omega) h1 fun r2 st2 h3 h4=>?_)
   refine h r2 st2 ?_ (WgS.own hrl (h2.trans h4) hbl)
   rw [hq] at h3
   have e:l++[kSet,nm]++[ZBi (wrL ps)]=l++((kwA 1,false)::ZCL ⟨sd,gk,ga,gb,1,nm,un,ps⟩).map wdB:=by rw [List.append_assoc]; rfl
   rw [<- e]
   exact h3
  ·skip
   refine ZAB.of_vc T_ok mixed Tryz.func59 rfl Tryz.call59 ?_
   refine ⟨_,ZAK _ _,?_⟩
   refine ⟨_,ZAK _ _,?_⟩
   refine .s (ZJ8 l [kAdd,nm] (by show l.length+2<=_; omega) (List.cons_ne_nil _ _) (hb2 _) fun r' st' h1 h2=>?_)
   have hne:¬ (st.heap.length=b \/ some st.heap.length=r):=fun e=>by
    rcases e with e | e
    ·omega
    ·have:=hrl _ e.symm
     omega
   have hat:=h2.mv.at' (ZAK st.heap _) hne
   refine ⟨_,hat,?_⟩
   refine .p rfl htx ?_
   refine .s (ZHS _ (wrL ps) (by omega) (by show (l++[kAdd,nm]).length+1<=_; simp; omega) h1 fun r2 st2 h3 h4=>?_)
   refine h r2 st2 ?_ (WgS.own hrl (h2.trans h4) hbl)
   rw [hq] at h3
   have e:l++[kAdd,nm]++[ZBi (wrL ps)]=l++((kwA 2,false)::ZCL ⟨sd,gk,ga,gb,2,nm,un,ps⟩).map wdB:=by rw [List.append_assoc]; rfl
   rw [<- e]
   exact h3
 ·skip
  refine ZAB.of_vc T_ok mixed Tryz.func59 rfl Tryz.call59 ?_
  refine ⟨_,ZAK _ _,?_⟩
  refine ⟨_,ZAK _ _,?_⟩
  refine .s (ZJ8 l [kRem,nm] (by show l.length+2<=_; omega) (List.cons_ne_nil _ _) (hb2 _) fun r' st' h1 h2=>?_)
  exact h r' st' h1 (WgS.own hrl h2 hbl)
 ·skip
  refine ZAB.of_vc T_ok mixed Tryz.func59 rfl Tryz.call59 ?_
  iterate 3 refine ⟨_,ZAK _ _,?_⟩
  refine .s (ZJ8 l [kRen,nm,un] (by show l.length+3<=_; omega) (List.cons_ne_nil _ _) (hb2 _) fun r' st' h1 h2=>?_)
  exact h r' st' h1 (WgS.own hrl h2 hbl)
end
/-- what a rule that may be says of its line -/
theorem ZMM {r:Rl} (h:ZAO r=0):(r.gk=0 \/ r.gk=1 \/ r.gk=2 \/ r.gk=3/\ZA1 r.gb=(ZBi r.gb,0))/\((r.ac=1 \/ r.ac=2)/\ZB9 r.ps=(wrL r.ps,0)/\ZA1 (wrL r.ps)=(ZBi (wrL r.ps),0) \/ r.ac=3 \/ r.ac=4):=by
 obtain ⟨h1,h2,h3,h4⟩:=ZCM h
 have q:∀ s:ByteArray,allI valI s=true->ZA1 s=(ZBi s,0):=fun s h=>by unfold ZA1; rw [if_pos h]
 constructor
 ·unfold ZBK at h2
  split at h2
  ·rename_i e; exact .inl e
  ·split at h2
   ·rename_i e
    rcases e with e | e
    ·exact .inr (.inl e)
    ·exact .inr (.inr (.inl e))
   ·split at h2
    ·rename_i e
     rw [decide_eq_true_eq] at h2
     exact .inr (.inr (.inr ⟨e,q _ (ZMa h2).2.1⟩))
    ·cases h2
 ·by_cases hac:r.ac=1 \/ r.ac=2
  ·have ht:=ZEW (ZFR h4 hac).2
   exact .inl ⟨hac,ht.2,q _ (ZH4 (by rw [ht.1]; simp))⟩
  ·unfold actB at h4
   rw [if_neg hac] at h4
   split at h4
   ·rename_i e; exact .inr (.inl e)
   ·split at h4
    ·rename_i e; exact .inr (.inr e)
    ·cases h4
theorem ZDW {r:Rl} (h:ZAO r=0):ZIo r=(ZAx r,0):=by unfold ZIo; rw [if_pos h]
theorem ZGW {r:Rl} (h:ZAO r≠0):ZIo r=(⟨#[]⟩,ZAO r):=by unfold ZIo; rw [if_neg h]
set_option maxHeartbeats 1000000 in
theorem rtext_p (r:Rl) (hr:r.Ok):ZAC Tryz.prog 31 [r.av] (.tup [.s (ZIo r).1,.i (ZIo r).2]) []:=by
 have hc:=ZD7 r hr
 by_cases h0:ZAO r=0
 ·rw [ZDW h0]
  rw [h0] at hc
  obtain ⟨hgk,hac⟩:=ZMM h0
  have hsd:=(ZCM h0).1
  have hj:=ZF2 spB ((ZDA r).map wdB) (by
   rw [List.length_map]
   unfold ZDA ZCp ZBI ZCL
   repeat' split
   all_goals simp) (by have:=ZIJ r; have:=hr.ga; have:=hr.gb; have:=hr.nm; have:=hr.un; have:=hr.pl; have:=hr.pz; show (ZAx r).size<=_; omega)
  have hgl:(ZBI r.gk r.ga r.gb).length<=4:=by
   unfold ZBI
   repeat' split
   all_goals simp
  obtain ⟨sd,gk,ga,gb,ac,nm,un,ps⟩:=r
  have hgk2:gk=0 \/ gk=1 \/ gk=2 \/ gk=3/\(ZA1 gb).1=ZBi gb:=by
   rcases hgk with e | e | e | ⟨e,e2⟩
   ·exact .inl e
   ·exact .inr (.inl e)
   ·exact .inr (.inr (.inl e))
   ·have e2:ZA1 gb=(ZBi gb,0):=e2
    exact .inr (.inr (.inr ⟨e,by rw [e2]⟩))
  have hac2:(ac=1 \/ ac=2)/\ZB9 ps=(wrL ps,0)/\ZA1 (wrL ps)=(ZBi (wrL ps),0) \/ ac=3 \/ ac=4:=hac
  have hpl:ps.length<=1000:=hr.pl
  have hpz:sumT ps<=1000000:=hr.pz
  have hgb:gb.size<=100000:=hr.gb
  have hgl:(ZBI gk ga gb).length<=4:=hgl
  have hsd:sd=1 \/ sd=2:=hsd
  clear h0 hr hgk hac
  show ZAC _ _ [.agg [.i sd,.i gk,.s ga,.s gb,.i ac,.s nm,.s un,.sl .no 2 (prtL ps)]] _ _
  refine ZAC.of rfl (ZAW.bare ?_)
  rcases hsd with rfl | rfl
  ·refine ZAW.of_vcY (bv:=true) (esc:=fun _=>false) T_ok mixed Tryz.func31 rfl Tryz.call31 ?_
   refine ⟨_,rfl,?_⟩
   refine .p rfl hc ?_
   refine ⟨by show 1<2; omega,?_⟩
   refine ⟨_,rfl,?_⟩
   refine ⟨_,rfl,?_⟩
   refine .s (ZJv [kReq] gk ga gb hgk2 (by omega) (by show 1<=_; omega) ⟨.hs 1 0 1 1 1,rfl,.hs 1 1 [[.s kReq]] ⟨⟨[],rfl,rfl⟩,fun e he=>by rw [List.mem_singleton.1 he]; exact ⟨rfl,rfl⟩,Nat.le_refl _⟩,fun e=>by have e9:(1:Nat)=2:=Option.some.inj e; cases e9⟩ fun r1 st1 h1 h2=>?_)
   have hat:=h2.mv.at' (q:=0) rfl (fun e=>by rcases e with e | e <;> cases e)
   refine ⟨_,hat,?_⟩
   refine .s (act34_a ([kReq]++(ZBI gk ga gb).map wdB) 1 gk ac ga gb nm un ps hac2 hpl hpz (by rw [List.length_append,List.length_map]; show 1+_<=_; omega) h1 fun r2 st2 h3 h4=>?_)
   have hW:([kReq]++(ZBI gk ga gb).map wdB)++((kwA ac,false)::ZCL ⟨1,gk,ga,gb,ac,nm,un,ps⟩).map wdB=(ZDA ⟨1,gk,ga,gb,ac,nm,un,ps⟩).map wdB:=by
    simp only [ZDA,ZCp,List.map_cons,List.map_append,List.cons_append,List.nil_append]
    rfl
   rw [hW] at h3
   obtain ⟨a,hba,hR,hrb⟩:=h3
   have hz:=HR.frz hR (by unfold ZDA; exact List.cons_ne_nil _ _)
   rcases hR.formW with ⟨rfl,rfl⟩ | ⟨rfl,rfl⟩ | ⟨p0,c0,n0,rfl,rfl⟩
   ·cases hR
   ·cases hR
   refine ⟨_,hba,?_⟩
   refine .s (ZAB.frz (args':=[.s spB,.sl .no 1 (strL ((ZDA ⟨1,gk,ga,gb,ac,nm,un,ps⟩).map wdB))]) ⟨.inr (.inl ⟨rfl,rfl⟩),hz,trivial⟩ rfl hj ?_)
   rfl
  ·refine ZAW.of_vcY (bv:=true) (esc:=fun _=>false) T_ok mixed Tryz.func31 rfl Tryz.call31 ?_
   refine ⟨_,rfl,?_⟩
   refine .p rfl hc ?_
   refine ⟨by show 1<2; omega,?_⟩
   refine ⟨_,rfl,?_⟩
   refine ⟨_,rfl,?_⟩
   refine ⟨0,rfl,by decide,?_⟩
   refine ⟨_,rfl,?_⟩
   refine ⟨_,rfl,?_⟩
   refine .s (ZJv [kRes] gk ga gb hgk2 (by omega) (by show 1<=_; omega) ⟨.hs 1 0 1 1 1,rfl,.hs 1 1 [[.s kRes]] ⟨⟨[],rfl,rfl⟩,fun e he=>by rw [List.mem_singleton.1 he]; exact ⟨rfl,rfl⟩,Nat.le_refl _⟩,fun e=>by have e9:(1:Nat)=2:=Option.some.inj e; cases e9⟩ fun r1 st1 h1 h2=>?_)
   have hat:=h2.mv.at' (q:=0) rfl (fun e=>by rcases e with e | e <;> cases e)
   refine ⟨_,hat,?_⟩
   refine .s (act34_a ([kRes]++(ZBI gk ga gb).map wdB) 2 gk ac ga gb nm un ps hac2 hpl hpz (by rw [List.length_append,List.length_map]; show 1+_<=_; omega) h1 fun r2 st2 h3 h4=>?_)
   have hW:([kRes]++(ZBI gk ga gb).map wdB)++((kwA ac,false)::ZCL ⟨2,gk,ga,gb,ac,nm,un,ps⟩).map wdB=(ZDA ⟨2,gk,ga,gb,ac,nm,un,ps⟩).map wdB:=by
    simp only [ZDA,ZCp,List.map_cons,List.map_append,List.cons_append,List.nil_append]
    rfl
   rw [hW] at h3
   obtain ⟨a,hba,hR,hrb⟩:=h3
   have hz:=HR.frz hR (by unfold ZDA; exact List.cons_ne_nil _ _)
   rcases hR.formW with ⟨rfl,rfl⟩ | ⟨rfl,rfl⟩ | ⟨p0,c0,n0,rfl,rfl⟩
   ·cases hR
   ·cases hR
   refine ⟨_,hba,?_⟩
   refine .s (ZAB.frz (args':=[.s spB,.sl .no 1 (strL ((ZDA ⟨2,gk,ga,gb,ac,nm,un,ps⟩).map wdB))]) ⟨.inr (.inl ⟨rfl,rfl⟩),hz,trivial⟩ rfl hj ?_)
   rfl
 ·rw [ZGW h0]
  have h9:=(ZHI r).resolve_left h0
  rw [h9] at hc ⊢
  clear hr h0 h9
  obtain ⟨sd,gk,ga,gb,ac,nm,un,ps⟩:=r
  show ZAC _ _ [.agg [.i sd,.i gk,.s ga,.s gb,.i ac,.s nm,.s un,.sl .no 2 (prtL ps)]] _ _
  refine ZAC.of rfl (ZAB.of_vc T_ok mixed Tryz.func31 rfl Tryz.call31 ?_)
  refine ⟨_,rfl,?_⟩
  refine .p rfl hc ?_
  rfl
theorem ZAl (l:List UInt8):(⟨l.toArray⟩:ByteArray).size=l.length:=by
 show l.toArray.size=_
 rw [List.size_toArray]
theorem ZJP (l:List UInt8):(⟨l.toArray⟩:ByteArray).data.toList=l:=by
 show l.toArray.toList=l
 rw [List.toList_toArray]
theorem ZC7 (r:Rl):(ZAx r).data.toList=prtW (ZDd r.sd,false)++lnL ((ZCp r).map fun x=>([32],x)):=by
 unfold ZAx ZDA
 rw [List.map_cons,ZF4]
set_option maxHeartbeats 1000000 in
theorem ZIP (r:Rl) (hr:r.Ok):ZAC Tryz.prog 36 [r.av] (.tup [.s (ZIo r).1,.i (ZIo r).2]) []:=by
 have hmx:maxLen=9223372036854775807:=rfl
 have hc:=ZDK r hr
 by_cases h0:ZAO r=0
 ·rw [ZDW h0]
  rw [h0] at hc
  obtain ⟨hgk,hac⟩:=ZMM h0
  have hsd:=(ZCM h0).1
  have hqg:=ZMr r.gb (by have:=hr.gb; omega)
  have htx:=ZKX r.ps hr.pl hr.pz
  have hwz:=ZEZ r.ps
  have hqt:=fun s:ByteArray=>ZMr s
  have z1:=hr.ga
  have z2:=hr.gb
  have z3:=hr.nm
  have z4:=hr.un
  have z5:=hr.pl
  have z6:=hr.pz
  have z7:=ZGw r.gb
  have z8:=ZGw (ZB9 r.ps).1
  have z9:(ZB9 r.ps).1.size<=3000000:=by
   unfold ZB9
   split
   ·exact Nat.zero_le _
   ·show (wrL r.ps).size<=_; omega
  obtain ⟨sd,gk,ga,gb,ac,nm,un,ps⟩:=r
  have hgk2:gk=0 \/ gk=1 \/ gk=2 \/ gk=3/\ZA1 gb=(ZBi gb,0):=hgk
  have hac2:(ac=1 \/ ac=2)/\ZB9 ps=(wrL ps,0)/\ZA1 (wrL ps)=(ZBi (wrL ps),0) \/ ac=3 \/ ac=4:=hac
  have z1:ga.size<=100000:=z1
  have z2:gb.size<=100000:=z2
  have z3:nm.size<=100000:=z3
  have z4:un.size<=100000:=z4
  have z7:(ZA1 gb).1.size<=2*gb.size+2:=z7
  have z8:(ZA1 (ZB9 ps).1).1.size<=2*(ZB9 ps).1.size+2:=z8
  have z9:(ZB9 ps).1.size<=3000000:=z9
  clear h0 hr hgk hac
  show ZAC _ _ [.agg [.i sd,.i gk,.s ga,.s gb,.i ac,.s nm,.s un,.sl .no 2 (prtL ps)]] _ _
  refine ZAC.of rfl ?_
  have hsd:sd=1 \/ sd=2:=hsd
  rcases hsd with rfl | rfl
  iterate 2
   ·skip
    refine ZAB.of_vc T_ok mixed Tryz.func36 rfl Tryz.call36 ?_
    refine ⟨_,rfl,?_⟩
    refine .p rfl hc ?_
    refine ⟨_,rfl,?_⟩
    refine ⟨_,rfl,?_⟩
    refine .p rfl hqg ?_
    rcases hgk2 with rfl | rfl | rfl | ⟨rfl,hg⟩
    ·refine ⟨_,rfl,?_⟩
     refine ⟨_,rfl,?_⟩
     refine .p rfl htx ?_
     refine .p rfl (hqt _ (by omega)) ?_
     rcases hac2 with ⟨rfl | rfl,ht,hq⟩ | rfl | rfl
     iterate 2
      ·refine ⟨_,rfl,?_⟩
       refine ⟨by simp only [ZAD,ZAl,List.length_cons,List.length_nil]; omega,?_⟩
       refine ⟨_,rfl,?_⟩
       iterate 3 refine ⟨by simp only [ZAD,ZAl,List.length_cons,List.length_nil]; omega,?_⟩
       refine congrArg (fun x=>AV.tup [AV.s x,AV.i 0]) (inL ?_)
       show _=(ZAx _).data.toList
       rw [ZC7]
       simp only [ht,hq,ZAp,ZAp,ZJP,ZBW,ZCp,ZBI,kwA,ZCL,ZDd,lnL,prtW,kReq,kRes,kIf,kHas,ZA8,kIs,kSet,kAdd,kRem,kRen,List.map_cons,List.map_nil,List.cons_append,List.nil_append,List.append_nil,List.append_assoc,if_true,if_false,Bool.false_eq_true,true_or,or_true,false_or,or_false,Int.reduceEq,reduceIte,List.singleton_append]
     ·refine ⟨_,rfl,?_⟩
      refine ⟨by simp only [ZAD,ZAl,List.length_cons,List.length_nil]; omega,?_⟩
      refine ⟨_,rfl,?_⟩
      refine ⟨by simp only [ZAD,ZAl,List.length_cons,List.length_nil]; omega,?_⟩
      refine congrArg (fun x=>AV.tup [AV.s x,AV.i 0]) (inL ?_)
      show _=(ZAx _).data.toList
      rw [ZC7]
      simp only [ZAp,ZAp,ZJP,ZBW,ZCp,ZBI,kwA,ZCL,ZDd,lnL,prtW,kReq,kRes,kIf,kHas,ZA8,kIs,kSet,kAdd,kRem,kRen,List.map_cons,List.map_nil,List.cons_append,List.nil_append,List.append_nil,List.append_assoc,if_true,if_false,Bool.false_eq_true,true_or,or_true,false_or,or_false,Int.reduceEq,reduceIte,List.singleton_append]
     ·refine ⟨_,rfl,?_⟩
      refine ⟨by simp only [ZAD,ZAl,List.length_cons,List.length_nil]; omega,?_⟩
      refine ⟨_,rfl,?_⟩
      refine ⟨by simp only [ZAD,ZAl,List.length_cons,List.length_nil]; omega,?_⟩
      refine ⟨by simp only [ZAD,ZAl,List.length_cons,List.length_nil]; omega,?_⟩
      refine ⟨_,rfl,?_⟩
      refine ⟨by simp only [ZAD,ZAl,List.length_cons,List.length_nil]; omega,?_⟩
      refine congrArg (fun x=>AV.tup [AV.s x,AV.i 0]) (inL ?_)
      show _=(ZAx _).data.toList
      rw [ZC7]
      simp only [ZAp,ZAp,ZJP,ZBW,ZCp,ZBI,kwA,ZCL,ZDd,lnL,prtW,kReq,kRes,kIf,kHas,ZA8,kIs,kSet,kAdd,kRem,kRen,List.map_cons,List.map_nil,List.cons_append,List.nil_append,List.append_nil,List.append_assoc,if_true,if_false,Bool.false_eq_true,true_or,or_true,false_or,or_false,Int.reduceEq,reduceIte,List.singleton_append]
    iterate 2
     ·refine ⟨_,rfl,?_⟩
      refine ⟨by simp only [ZAD,ZAl,List.length_cons,List.length_nil]; omega,?_⟩
      refine ⟨_,rfl,?_⟩
      refine ⟨by simp only [ZAD,ZAl,List.length_cons,List.length_nil]; omega,?_⟩
      refine ⟨by simp only [ZAD,ZAl,List.length_cons,List.length_nil]; omega,?_⟩
      refine ⟨_,rfl,?_⟩
      refine .p rfl htx ?_
      refine .p rfl (hqt _ (by omega)) ?_
      rcases hac2 with ⟨rfl | rfl,ht,hq⟩ | rfl | rfl
      iterate 2
       ·refine ⟨_,rfl,?_⟩
        refine ⟨by simp only [ZAD,ZAl,List.length_cons,List.length_nil]; omega,?_⟩
        refine ⟨_,rfl,?_⟩
        iterate 3 refine ⟨by simp only [ZAD,ZAl,List.length_cons,List.length_nil]; omega,?_⟩
        refine congrArg (fun x=>AV.tup [AV.s x,AV.i 0]) (inL ?_)
        show _=(ZAx _).data.toList
        rw [ZC7]
        simp only [ht,hq,ZAp,ZAp,ZJP,ZBW,ZCp,ZBI,kwA,ZCL,ZDd,lnL,prtW,kReq,kRes,kIf,kHas,ZA8,kIs,kSet,kAdd,kRem,kRen,List.map_cons,List.map_nil,List.cons_append,List.nil_append,List.append_nil,List.append_assoc,if_true,if_false,Bool.false_eq_true,true_or,or_true,false_or,or_false,Int.reduceEq,reduceIte,List.singleton_append]
      ·refine ⟨_,rfl,?_⟩
       refine ⟨by simp only [ZAD,ZAl,List.length_cons,List.length_nil]; omega,?_⟩
       refine ⟨_,rfl,?_⟩
       refine ⟨by simp only [ZAD,ZAl,List.length_cons,List.length_nil]; omega,?_⟩
       refine congrArg (fun x=>AV.tup [AV.s x,AV.i 0]) (inL ?_)
       show _=(ZAx _).data.toList
       rw [ZC7]
       simp only [ZAp,ZAp,ZJP,ZBW,ZCp,ZBI,kwA,ZCL,ZDd,lnL,prtW,kReq,kRes,kIf,kHas,ZA8,kIs,kSet,kAdd,kRem,kRen,List.map_cons,List.map_nil,List.cons_append,List.nil_append,List.append_nil,List.append_assoc,if_true,if_false,Bool.false_eq_true,true_or,or_true,false_or,or_false,Int.reduceEq,reduceIte,List.singleton_append]
      ·refine ⟨_,rfl,?_⟩
       refine ⟨by simp only [ZAD,ZAl,List.length_cons,List.length_nil]; omega,?_⟩
       refine ⟨_,rfl,?_⟩
       refine ⟨by simp only [ZAD,ZAl,List.length_cons,List.length_nil]; omega,?_⟩
       refine ⟨by simp only [ZAD,ZAl,List.length_cons,List.length_nil]; omega,?_⟩
       refine ⟨_,rfl,?_⟩
       refine ⟨by simp only [ZAD,ZAl,List.length_cons,List.length_nil]; omega,?_⟩
       refine congrArg (fun x=>AV.tup [AV.s x,AV.i 0]) (inL ?_)
       show _=(ZAx _).data.toList
       rw [ZC7]
       simp only [ZAp,ZAp,ZJP,ZBW,ZCp,ZBI,kwA,ZCL,ZDd,lnL,prtW,kReq,kRes,kIf,kHas,ZA8,kIs,kSet,kAdd,kRem,kRen,List.map_cons,List.map_nil,List.cons_append,List.nil_append,List.append_nil,List.append_assoc,if_true,if_false,Bool.false_eq_true,true_or,or_true,false_or,or_false,Int.reduceEq,reduceIte,List.singleton_append]
    ·refine ⟨_,rfl,?_⟩
     refine ⟨by simp only [ZAD,ZAl,List.length_cons,List.length_nil]; omega,?_⟩
     refine ⟨_,rfl,?_⟩
     iterate 4 refine ⟨by simp only [ZAD,ZAl,List.length_cons,List.length_nil]; omega,?_⟩
     refine ⟨_,rfl,?_⟩
     refine .p rfl htx ?_
     refine .p rfl (hqt _ (by omega)) ?_
     rcases hac2 with ⟨rfl | rfl,ht,hq⟩ | rfl | rfl
     iterate 2
      ·refine ⟨_,rfl,?_⟩
       refine ⟨by simp only [ZAD,ZAl,List.length_cons,List.length_nil]; omega,?_⟩
       refine ⟨_,rfl,?_⟩
       iterate 3 refine ⟨by simp only [ZAD,ZAl,List.length_cons,List.length_nil]; omega,?_⟩
       refine congrArg (fun x=>AV.tup [AV.s x,AV.i 0]) (inL ?_)
       show _=(ZAx _).data.toList
       rw [ZC7]
       simp only [ht,hq,hg,ZAp,ZJP,ZBW,ZCp,ZBI,kwA,ZCL,ZDd,lnL,prtW,kReq,kRes,kIf,kHas,ZA8,kIs,kSet,kAdd,kRem,kRen,List.map_cons,List.map_nil,List.cons_append,List.nil_append,List.append_nil,List.append_assoc,if_true,if_false,Bool.false_eq_true,true_or,or_true,false_or,or_false,Int.reduceEq,reduceIte,List.singleton_append]
     ·refine ⟨_,rfl,?_⟩
      refine ⟨by simp only [ZAD,ZAl,List.length_cons,List.length_nil]; omega,?_⟩
      refine ⟨_,rfl,?_⟩
      refine ⟨by simp only [ZAD,ZAl,List.length_cons,List.length_nil]; omega,?_⟩
      refine congrArg (fun x=>AV.tup [AV.s x,AV.i 0]) (inL ?_)
      show _=(ZAx _).data.toList
      rw [ZC7]
      simp only [hg,ZAp,ZJP,ZBW,ZCp,ZBI,kwA,ZCL,ZDd,lnL,prtW,kReq,kRes,kIf,kHas,ZA8,kIs,kSet,kAdd,kRem,kRen,List.map_cons,List.map_nil,List.cons_append,List.nil_append,List.append_nil,List.append_assoc,if_true,if_false,Bool.false_eq_true,true_or,or_true,false_or,or_false,Int.reduceEq,reduceIte,List.singleton_append]
     ·refine ⟨_,rfl,?_⟩
      refine ⟨by simp only [ZAD,ZAl,List.length_cons,List.length_nil]; omega,?_⟩
      refine ⟨_,rfl,?_⟩
      refine ⟨by simp only [ZAD,ZAl,List.length_cons,List.length_nil]; omega,?_⟩
      refine ⟨by simp only [ZAD,ZAl,List.length_cons,List.length_nil]; omega,?_⟩
      refine ⟨_,rfl,?_⟩
      refine ⟨by simp only [ZAD,ZAl,List.length_cons,List.length_nil]; omega,?_⟩
      refine congrArg (fun x=>AV.tup [AV.s x,AV.i 0]) (inL ?_)
      show _=(ZAx _).data.toList
      rw [ZC7]
      simp only [hg,ZAp,ZJP,ZBW,ZCp,ZBI,kwA,ZCL,ZDd,lnL,prtW,kReq,kRes,kIf,kHas,ZA8,kIs,kSet,kAdd,kRem,kRen,List.map_cons,List.map_nil,List.cons_append,List.nil_append,List.append_nil,List.append_assoc,if_true,if_false,Bool.false_eq_true,true_or,or_true,false_or,or_false,Int.reduceEq,reduceIte,List.singleton_append]
 ·rw [ZGW h0]
  have h9:=(ZHI r).resolve_left h0
  rw [h9] at hc ⊢
  clear hr h0 h9
  obtain ⟨sd,gk,ga,gb,ac,nm,un,ps⟩:=r
  show ZAC _ _ [.agg [.i sd,.i gk,.s ga,.s gb,.i ac,.s nm,.s un,.sl .no 2 (prtL ps)]] _ _
  refine ZAC.of rfl (ZAB.of_vc T_ok mixed Tryz.func36 rfl Tryz.call36 ?_)
  refine ⟨_,rfl,?_⟩
  refine .p rfl hc ?_
  rfl
structure Rl.In (r:Rl) (n:Nat):Prop where
 ga:r.ga.size<=n
 gb:r.gb.size<=n
 nm:r.nm.size<=n
 un:r.un.size<=n
 pl:r.ps.length<=32
 pz:sumT r.ps<=n
theorem Rl.In.text {r:Rl} {n:Nat} (h:r.In n):(ZAx r).size<=400+9*n:=by
 have:=ZIJ r
 have:=h.ga
 have:=h.gb
 have:=h.nm
 have:=h.un
 have:=h.pl
 have:=h.pz
 omega
end Go.Proofs.YticbonkojpabnaaGreatDoor
