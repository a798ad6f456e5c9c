/- The parser's lines ahead of the rules. No statement of its own. -/
import Derived.Test.YticbonkojpabnaaGreatDoorSLnd
import Derived.Test.YticbonkojpabnaaGreatDoorSLna
set_option linter.unusedSimpArgs false
set_option linter.unusedVariables false
set_option maxRecDepth 100000
namespace Go.Proofs.YticbonkojpabnaaGreatDoor
open Go.RowKit
section
theorem Acc.cellW {n:Nat} {tk:List Nat} {sz:Nat} {a:AV} {es:List (List AV)} (h:Acc n tk sz a es):ZCV a (.sl .no sz es):=by
 cases h with
 | nil=>exact .inr ⟨rfl,sz,rfl⟩
 | own t e es hn ht=>exact .inl ⟨rfl,rfl⟩
/-- a row of the parser's: nothing before its stage comes, still growing up to its stage -/
def RowI (tk:List Nat) (sz:Nat) (a:AV) (es:List (List AV)) (lo hi l:Nat):Prop:=(l<lo->a=.nilS/\es=[])/\(l<=hi->Acc 0 tk sz a es)/\ZCV a (.sl .no sz es)
section
variable {tk tk':List Nat} {sz lo hi l l':Nat} {a:AV} {es:List (List AV)}
theorem RowI.mono (h:RowI tk sz a es lo hi l) (hl:l<=l'):RowI tk sz a es lo hi l':=⟨fun q=>h.1 (by omega),fun q=>h.2.1 (by omega),h.2.2⟩
theorem RowI.past (h:RowI tk sz a es lo hi l) (h1:hi<l') (h2:lo<=l'):RowI tk' sz a es lo hi l':=⟨fun q=>by omega,fun q=>by omega,h.2.2⟩
theorem RowI.zero:RowI tk sz .nilS [] lo hi l:=⟨fun _=>⟨rfl,rfl⟩,fun _=>.nil,Acc.cellW (n:=0) (tk:=[]) .nil⟩
theorem RowI.early (h:RowI tk sz a es lo hi l) (hl:l<lo):RowI tk' sz a es lo hi l':=by
 obtain ⟨rfl,rfl⟩:=h.1 hl
 exact .zero
theorem RowI.here (h:Acc 0 tk sz a es) (hl:lo<=l):RowI tk sz a es lo hi l:=⟨fun q=>by omega,fun _=>h,h.cellW⟩
end
def Scr.cellsP (s:Scr) (a1 a2 a3 a4:AV) (nx:Nat):List AV:=[.s s.ec,.s s.eh,.s s.es,.s s.eb,a1,a2,.i s.ch,.i s.cc,.i s.cq,a3,.s s.cl,.s s.up,.b s.ce,.b s.ue,a4,.i nx]
def PJ (st:St) (p:Nat) (s:Scr) (l nx:Nat):Prop:=∃ a1 a2 a3 a4,st.heap[p]? = some (s.cellsP a1 a2 a3 a4 nx)/\RowI st.tk 2 a1 (fldL s.doms) 2 2 l/\RowI st.tk 2 a2 (fldL s.locs) 3 3 l/\RowI st.tk 8 a3 (rlL s.rules) 5 5 l/\RowI st.tk 2 a4 (evL s.evs) 10 10 l
/-- a store of cells that need not be looked at -/
theorem lkI {l l':List AV} {K:List AV->Prop} (hc:l=l') (h:K l'):ZDr l K:=ZAQ.2 (hc ▸ h)
theorem mvS (st:St) (p:Nat) (cs:List AV) (tk:List Nat):Mv 0 (·=p) st ⟨st.heap.set p cs,tk⟩ :=
 ⟨by simp,fun q _ hc=>List.getElem?_set_ne (fun e=>hc e.symm),Nat.zero_le _,fun t ht=>by omega⟩
theorem mvA (st:St) (p:Nat) (z c:List AV) (tk:List Nat):Mv 0 (·=p) st ⟨(st.heap++[z]).set st.heap.length c,tk⟩ :=
 ⟨by simp,fun q hq _=>(List.getElem?_set_ne (by omega)).trans (List.getElem?_append_left hq),Nat.zero_le _,fun t ht=>by omega⟩
theorem mvAS (st:St) (p:Nat) (z c cs:List AV) (tk:List Nat):Mv 0 (·=p) st ⟨((st.heap++[z]).set st.heap.length c).set p cs,tk⟩ :=
 (mvA st p z c tk).trans (mvS ⟨_,tk⟩ p cs tk) (fun _ _ e=>e)
theorem wd4_no (l:List ByteArray):wd4 (l,false)=none:=by
 unfold wd4; split
 ·rename_i e; cases e
 ·rfl
theorem wd1_no (f:ByteArray->Ln) (l:List ByteArray):wd1 f (l,false)=none:=by
 unfold wd1; split
 ·rename_i e; cases e
 ·rfl
theorem ZKQ (f:ByteArray->ByteArray->Ln) (x w:ByteArray):wd2 f (ZAu x w 2)=if (ZHK x w).2=true then some (f (ZHK x w).1.1 (ZHK x w).1.2) else none:=by
 unfold ZHK wd2 swapE
 split
 ·rename_i h; rw [h]; rfl
 ·rename_i h
  split
  ·rename_i a b e; exact absurd e (h a b)
  ·rfl
section
variable {st:St} {R:AV->St->Prop} {p l nx:Nat} {s:Scr}
theorem headE_a (x:ByteArray) (hI:PJ st p s l nx) (hf:ZCU l 0=true) (hx:x.size<=4000000000)
  (h1:∀ y,lnK 0 x=some y->∀ st',Mv 0 (·=p) st st'->PJ st' p (apL s y) 1 nx->R (.b true) st') (h2:lnK 0 x=none->∀ st',Mv 0 (·=p) st st'->R (.b false) st') :
  ZAB Tryz.prog 72 [.ptr p 0,.i 0,.s x] st R:=by
 have hw:=ZI5 x envW 4 (by decide) (by omega)
 have hT:=ZCi (s:=x) (w:=envW) (n:=4)
 have e1:lnK 0 x=wd4 (ZAu x envW 4):=rfl
 rw [e1] at h1 h2
 clear e1
 generalize ZAu x envW 4=W at *
 obtain ⟨L,ok⟩:=W
 obtain ⟨a1,a2,a3,a4,hp,i1,i2,i3,i4⟩:=hI
 unfold Scr.cellsP at hp
 have hl0:l=0:=beq_iff_eq.1 hf
 subst hl0
 cases ok
 ·refine ZAB.of_vc T_ok mixed Tryz.func72 rfl Tryz.call72 ?_
  refine .p rfl hw ?_
  exact h2 (wd4_no L) st (.refl (Nat.zero_le _))
 ·have h4:L.length=4:=(hT rfl).2
  match L,h4 with
  | [a,b,c,d],_ =>
   refine ZAB.of_vc T_ok mixed Tryz.func72 rfl Tryz.call72 ?_
   refine .p rfl hw ?_
   refine .e (by kernel_rfl) ?_
   refine ⟨0,_,rfl,rfl,?_⟩
   refine ⟨1,_,rfl,rfl,?_⟩
   refine ⟨2,_,rfl,rfl,?_⟩
   refine ⟨3,_,rfl,rfl,?_⟩
   obtain ⟨rfl,ed⟩:=i1.1 (by decide)
   obtain ⟨rfl,el⟩:=i2.1 (by decide)
   refine ⟨_,hp,lkI (l':=(apL s (.env a b c d)).cellsP .nilS .nilS a3 a4 nx) rfl ?_⟩
   exact h1 (.env a b c d) rfl ⟨st.heap.set p ((apL s (.env a b c d)).cellsP .nilS .nilS a3 a4 nx),st.tk⟩ (mvS _ _ _ _) ⟨.nilS,.nilS,a3,a4,ZAY hp,i1.mono (by decide),i2.mono (by decide),i3.mono (by decide),i4.mono (by decide)⟩
theorem headC_a (x:ByteArray) (hI:PJ st p s l nx) (hf:ZCU l 3=true) (hx:x.size<=4000000000)
  (h1:∀ y,lnK 3 x=some y->∀ st',Mv 0 (·=p) st st'->PJ st' p (apL s y) 4 nx->R (.b true) st') (h2:lnK 3 x=none->∀ st',Mv 0 (·=p) st st'->R (.b false) st') :
  ZAB Tryz.prog 72 [.ptr p 0,.i 3,.s x] st R:=by
 have hw:=caps_p x hx
 have e1:lnK 3 x=ZHc x:=rfl
 rw [e1] at h1 h2
 unfold ZHc at h1 h2
 clear e1
 generalize ZHx x=V at *
 obtain ⟨a1,a2,a3,a4,hp,i1,i2,i3,i4⟩:=hI
 unfold Scr.cellsP at hp
 have hl0:l<=3:=by
  have hf:(l == 1 || l == 2 || l == 3)=true:=hf
  simp only [Bool.or_eq_true,beq_iff_eq] at hf
  omega
 have hpl:=ZBC hp
 have hn:∀ z c:List AV,((st.heap++[z]).set st.heap.length c)[p]? = some [.s s.ec,.s s.eh,.s s.es,.s s.eb,a1,a2,.i s.ch,.i s.cc,.i s.cq,a3,.s s.cl,.s s.up,.b s.ce,.b s.ue,a4,.i nx]:=fun z c=>ZBe (n:=p) (by omega) (ap hp)
 cases V with
 | none =>
  refine ZAB.of_vc T_ok mixed Tryz.func72 rfl Tryz.call72 ?_
  refine .p rfl hw ?_
  refine ⟨_,ZAK _ _,?_⟩
  refine ⟨_,ZAL _ _ _,?_⟩
  refine ⟨_,hn _ _,lkI (l':=(apL s (.caps 0 0 0)).cellsP a1 a2 a3 a4 nx) rfl ?_⟩
  exact h2 rfl ⟨((st.heap++[[AV.i 0,.i 0,.i 0]]).set st.heap.length [AV.i 0,.i 0,.i 0]).set p ((apL s (.caps 0 0 0)).cellsP a1 a2 a3 a4 nx),st.tk⟩ (mvAS _ _ _ _ _ _)
 | some v =>
  obtain ⟨h,c,q⟩:=v
  refine ZAB.of_vc T_ok mixed Tryz.func72 rfl Tryz.call72 ?_
  refine .p rfl hw ?_
  refine ⟨_,ZAK _ _,?_⟩
  refine ⟨_,ZAL _ _ _,?_⟩
  refine ⟨_,hn _ _,lkI (l':=(apL s (.caps h c q)).cellsP a1 a2 a3 a4 nx) rfl ?_⟩
  have hj:PJ ⟨((st.heap++[[AV.i 0,.i 0,.i 0]]).set st.heap.length [AV.i h,.i c,.i q]).set p ((apL s (.caps h c q)).cellsP a1 a2 a3 a4 nx),st.tk⟩ p (apL s (.caps h c q)) 4 nx:=⟨a1,a2,a3,a4,ZAY (hn _ _),i1.mono (by omega),i2.mono (by omega),i3.mono (by omega),i4.mono (by omega)⟩
  have:=h1 (.caps h c q) rfl _ (mvAS _ _ _ _ _ _) hj
  clear h1 h2 hj
  exact this
end
end
section
theorem ZDP (l:List Swp) (a b:ByteArray):fldL l++[[.s a,.s b]]=fldL (l++[(a,b)]):=by simp [fldL]
section
attribute [local irreducible] ZAn
variable {st:St} {R:AV->St->Prop} {p l nx:Nat} {s:Scr}
theorem headD_a (x:ByteArray) (hI:PJ st p s l nx) (hf:ZCU l 1=true) (hx:x.size<=4000000000) (hl:s.doms.length<=1000000000)
  (h1:∀ y,lnK 1 x=some y->∀ st',Mv 0 (·=p) st st'->PJ st' p (apL s y) 2 nx->R (.b true) st') (h2:lnK 1 x=none->∀ st',Mv 0 (·=p) st st'->R (.b false) st') :
  ZAB Tryz.prog 72 [.ptr p 0,.i 1,.s x] st R:=by
 have hmx:maxLen=9223372036854775807:=rfl
 have hw:=swap_p x domW (by omega)
 have e1:lnK 1 x=wd2 .dom (ZAu x domW 2):=rfl
 rw [e1,ZKQ] at h1 h2
 clear e1
 generalize ZHK x domW=V at *
 obtain ⟨⟨u,v⟩,ok⟩:=V
 obtain ⟨a1,a2,a3,a4,hp,i1,i2,i3,i4⟩:=hI
 unfold Scr.cellsP at hp
 have hl0:1<=l/\l<=2:=by
  have hf:(l == 1 || l == 2)=true:=hf
  simp only [Bool.or_eq_true,beq_iff_eq] at hf
  omega
 have hpl:=ZBC hp
 have hA:=i1.2.1 hl0.2
 have hn:∀ z c:List AV,((st.heap++[z]).set st.heap.length c)[p]? = some [.s s.ec,.s s.eh,.s s.es,.s s.eb,a1,a2,.i s.ch,.i s.cc,.i s.cq,a3,.s s.cl,.s s.up,.b s.ce,.b s.ue,a4,.i nx]:=fun z c=>ZBe (n:=p) (by omega) (ap hp)
 rcases hA.form with rfl | ⟨t,e,rfl⟩
 iterate 2
  ·skip
   refine ZAB.of_vc T_ok mixed Tryz.func72 rfl Tryz.call72 ?_
   refine .p rfl hw ?_
   refine ⟨_,ZAK _ _,?_⟩
   refine .e (by kernel_rfl) ?_
   refine ⟨_,hn _ _,?_⟩
   refine ⟨_,ZAL _ _ _,?_⟩
   refine Acc.app (n:=0) (i:=ti97) hA (Nat.zero_le _) (List.cons_ne_nil _ _) ?_ ?_ (fun t1 e1 tk1 q0 q1 q2 q3=>?_)
   ·show ((fldL s.doms).length+1)*32<=_; rw [ZA5]; omega
   ·show (fldL s.doms).length+1<=_; rw [ZA5]; omega
   refine ⟨_,hn _ _,lkI (l':=(apL s (.dom u v)).cellsP (.sl (.own t1 e1) 2 (fldL s.doms++[[.s u,.s v]])) a2 a3 a4 nx) rfl ?_⟩
   cases ok
   ·exact h2 rfl _ (mvAS st p _ _ _ tk1)
   ·have hrow:Acc 0 tk1 2 (.sl (.own t1 e1) 2 (fldL s.doms++[[.s u,.s v]])) (fldL (s.doms++[(u,v)])):=by rw [<- ZDP]; exact .own _ _ _ q0 q1
    exact h1 _ rfl _ (mvAS st p [.s ⟨#[]⟩,.s ⟨#[]⟩] [.s u,.s v] ((apL s (.dom u v)).cellsP (.sl (.own t1 e1) 2 (fldL s.doms++[[.s u,.s v]])) a2 a3 a4 nx) tk1) ⟨_,a2,a3,a4,ZAY (hn _ _),.here hrow (by decide),i2.early (by omega),i3.early (by omega),i4.early (by omega)⟩
theorem headP_a (x:ByteArray) (hI:PJ st p s l nx) (hf:ZCU l 2=true) (hx:x.size<=4000000000) (hl:s.locs.length<=1000000000)
  (h1:∀ y,lnK 2 x=some y->∀ st',Mv 0 (·=p) st st'->PJ st' p (apL s y) 3 nx->R (.b true) st') (h2:lnK 2 x=none->∀ st',Mv 0 (·=p) st st'->R (.b false) st') :
  ZAB Tryz.prog 72 [.ptr p 0,.i 2,.s x] st R:=by
 have hmx:maxLen=9223372036854775807:=rfl
 have hw:=swap_p x plcW (by omega)
 have e1:lnK 2 x=wd2 .plc (ZAu x plcW 2):=rfl
 rw [e1,ZKQ] at h1 h2
 clear e1
 generalize ZHK x plcW=V at *
 obtain ⟨⟨u,v⟩,ok⟩:=V
 obtain ⟨a1,a2,a3,a4,hp,i1,i2,i3,i4⟩:=hI
 unfold Scr.cellsP at hp
 have hl0:1<=l/\l<=3:=by
  have hf:(l == 1 || l == 2 || l == 3)=true:=hf
  simp only [Bool.or_eq_true,beq_iff_eq] at hf
  omega
 have hpl:=ZBC hp
 have hA:=i2.2.1 hl0.2
 have hn:∀ z c:List AV,((st.heap++[z]).set st.heap.length c)[p]? = some [.s s.ec,.s s.eh,.s s.es,.s s.eb,a1,a2,.i s.ch,.i s.cc,.i s.cq,a3,.s s.cl,.s s.up,.b s.ce,.b s.ue,a4,.i nx]:=fun z c=>ZBe (n:=p) (by omega) (ap hp)
 rcases hA.form with rfl | ⟨t,e,rfl⟩
 iterate 2
  ·skip
   refine ZAB.of_vc T_ok mixed Tryz.func72 rfl Tryz.call72 ?_
   refine .p rfl hw ?_
   refine ⟨_,ZAK _ _,?_⟩
   refine .e (by kernel_rfl) ?_
   refine ⟨_,hn _ _,?_⟩
   refine ⟨_,ZAL _ _ _,?_⟩
   refine Acc.app (n:=0) (i:=ti97) hA (Nat.zero_le _) (List.cons_ne_nil _ _) ?_ ?_ (fun t1 e1 tk1 q0 q1 q2 q3=>?_)
   ·show ((fldL s.locs).length+1)*32<=_; rw [ZA5]; omega
   ·show (fldL s.locs).length+1<=_; rw [ZA5]; omega
   refine ⟨_,hn _ _,lkI (l':=(apL s (.plc u v)).cellsP a1 (.sl (.own t1 e1) 2 (fldL s.locs++[[.s u,.s v]])) a3 a4 nx) rfl ?_⟩
   cases ok
   ·exact h2 rfl _ (mvAS st p _ _ _ tk1)
   ·have hrow:Acc 0 tk1 2 (.sl (.own t1 e1) 2 (fldL s.locs++[[.s u,.s v]])) (fldL (s.locs++[(u,v)])):=by rw [<- ZDP]; exact .own _ _ _ q0 q1
    exact h1 _ rfl _ (mvAS st p [.s ⟨#[]⟩,.s ⟨#[]⟩] [.s u,.s v] ((apL s (.plc u v)).cellsP a1 (.sl (.own t1 e1) 2 (fldL s.locs++[[.s u,.s v]])) a3 a4 nx) tk1) ⟨a1,_,a3,a4,ZAY (hn _ _),i1.past (by decide) (by decide),.here hrow (by decide),i3.early (by omega),i4.early (by omega)⟩
end
end
section
section
attribute [local irreducible] ZAn
variable {st:St} {R:AV->St->Prop} {p l nx:Nat} {s:Scr}
theorem prule_a (x:ByteArray) (hI:PJ st p s l nx) (hf:ZCU l 4=true) (hx:x.size<=100000) (hl:s.rules.length<=1000000000)
  (h1:∀ y,ZDe (ZAm x rulP)=some y->∀ st',Mv 0 (·=p) st st'->PJ st' p (apL s y) 5 nx->R (.b true) st') (h2:ZDe (ZAm x rulP)=none->∀ st',Mv 0 (·=p) st st'->R (.b false) st') :
  ZAB Tryz.prog 74 [.ptr p 0,.s x] st R:=by
 have hmx:maxLen=9223372036854775807:=rfl
 have ht:=ZGO x rulP
 have hts:(ZAm x rulP).size<=100000:=by
  have:(ZAm x rulP).data.toList.length<=x.data.toList.length:=by
   show (List.toArray _).toList.length<=_
   rw [List.toList_toArray]
   unfold Lib.trimPrefix
   split
   ·rw [List.length_drop]; omega
   ·omega
  rw [blen,blen] at this
  omega
 change ZAC _ _ _ (.s (ZAm x rulP)) [] at ht
 generalize ZAm x rulP=t at *
 have hw:=parseP_p t hts
 have hok:=ZE8 hts
 have hck:=@ZCq t
 obtain ⟨a1,a2,a3,a4,hp,i1,i2,i3,i4⟩:=hI
 unfold Scr.cellsP at hp
 have hl0:4<=l/\l<=5:=by
  have hf:(l == 4 || l == 5)=true:=hf
  simp only [Bool.or_eq_true,beq_iff_eq] at hf
  omega
 have hpl:=ZBC hp
 have hA:=i3.2.1 hl0.2
 have hn:∀ z c:List AV,((st.heap++[z]).set st.heap.length c)[p]? = some [.s s.ec,.s s.eh,.s s.es,.s s.eb,a1,a2,.i s.ch,.i s.cc,.i s.cq,a3,.s s.cl,.s s.up,.b s.ce,.b s.ue,a4,.i nx]:=fun z c=>ZBe (n:=p) (by omega) (ap hp)
 by_cases he:(ZAT t).2=0
 ·have hck:=hck he
  obtain ⟨r,hr⟩:∃ r,ZAT t=(r,0):=⟨_,Prod.ext rfl he⟩
  have hX:ZAT t=(r,0):=hr
  rw [hr] at hw hok hck
  have hx2:=rtext_p r hok
  have hT1:(ZIo r).1=ZAx r:=by rw [ZDW hck]
  rcases hA.form with rfl | ⟨t,e,rfl⟩
  iterate 2
   ·skip
    refine ZAB.of_vc T_ok mixed Tryz.func74 rfl Tryz.call74 ?_
    refine .p rfl ht ?_
    refine .p rfl hw ?_
    refine ⟨_,ZAK _ _,?_⟩
    refine .e (by kernel_rfl) ?_
    refine ⟨_,hn _ _,?_⟩
    refine ⟨_,ZAL _ _ _,?_⟩
    refine Acc.app (n:=0) (i:=ti78) hA (Nat.zero_le _) (List.cons_ne_nil _ _) ?_ ?_ (fun t1 e1 tk1 q0 q1 q2 q3=>?_)
    ·show ((rlL s.rules).length+1)*112<=_; rw [ZBk]; omega
    ·show (rlL s.rules).length+1<=_; rw [ZBk]; omega
    refine ⟨_,hn _ _,lkI (l':=(apL s (.rule r)).cellsP a1 a2 (.sl (.own t1 e1) 8 (rlL s.rules++[r.cs])) a4 nx) rfl ?_⟩
    have hrow:Acc 0 tk1 8 (.sl (.own t1 e1) 8 (rlL s.rules++[r.cs])) (rlL (s.rules++[r])):=by rw [<- ZFb]; exact .own _ _ _ q0 q1
    refine ⟨_,(List.getElem?_set_ne (by omega)).trans (ZAL _ _ _),?_⟩
    refine .p rfl hx2 ?_
    intro q hq
    cases hqq:q
    ·refine h2 ?_ _ (mvAS st p zc r.cs ((apL s (.rule r)).cellsP a1 a2 (.sl (.own t1 e1) 8 (rlL s.rules++[r.cs])) a4 nx) tk1)
     unfold ZDe
     rw [if_neg (fun h=>by have:=hq.2 (by rw [hT1]; rw [hX] at h; exact h.2); rw [hqq] at this; cases this)]
    ·refine h1 (.rule r) ?_ _ (mvAS st p zc r.cs ((apL s (.rule r)).cellsP a1 a2 (.sl (.own t1 e1) 8 (rlL s.rules++[r.cs])) a4 nx) tk1) ⟨a1,a2,_,a4,ZAY (hn _ _),i1.past (by decide) (by decide),i2.past (by decide) (by decide),.here hrow (by decide),i4.early (by omega)⟩
     have e:=hq.1 hqq
     rw [hT1] at e
     unfold ZDe
     rw [hX]
     exact if_pos ⟨rfl,e⟩
 ·have hno:ZDe t=none:=by
   unfold ZDe
   rw [if_neg (fun h=>he h.1)]
  generalize ZAT t=X at *
  obtain ⟨r,e⟩:=X
  refine ZAB.of_vc T_ok mixed Tryz.func74 rfl Tryz.call74 ?_
  refine .p rfl ht ?_
  refine .p rfl hw ?_
  refine ⟨_,ZAK _ _,?_⟩
  refine ZAA (fun h=>?_) (fun h=>?_)
  ·exact h2 hno _ (((Mv.refl (Nat.zero_le _)).alloc _).set (fun q=>absurd q (Nat.lt_irrefl _)) _)
  ·exact absurd (bne_eq_false_iff_eq.1 h) he
end
end
section
section
attribute [local irreducible] ZAn
variable {st:St} {R:AV->St->Prop} {p l nx:Nat} {s:Scr}
theorem tailC_a (x:ByteArray) (hI:PJ st p s l nx) (hf:ZCU l 5=true) (hx:x.size<=4000000000)
  (h1:∀ y,lnK 5 x=some y->∀ st',Mv 0 (·=p) st st'->PJ st' p (apL s y) 6 nx->R (.b true) st') (h2:lnK 5 x=none->∀ st',Mv 0 (·=p) st st'->R (.b false) st') :
  ZAB Tryz.prog 75 [.ptr p 0,.i 5,.s x] st R:=by
 have hw:=ZI5 x cliW 1 (by decide) (by omega)
 have hT:=ZCi (s:=x) (w:=cliW) (n:=1)
 have e1:lnK 5 x=wd1 .cli (ZAu x cliW 1):=rfl
 rw [e1] at h1 h2
 clear e1
 generalize ZAu x cliW 1=W at *
 obtain ⟨L,ok⟩:=W
 obtain ⟨a1,a2,a3,a4,hp,i1,i2,i3,i4⟩:=hI
 unfold Scr.cellsP at hp
 have hl0:4<=l/\l<=5:=by
  have hf:(l == 4 || l == 5)=true:=hf
  simp only [Bool.or_eq_true,beq_iff_eq] at hf
  omega
 cases ok
 ·refine ZAB.of_vc T_ok mixed Tryz.func75 rfl Tryz.call75 ?_
  refine .p rfl hw ?_
  exact h2 (wd1_no _ L) st (.refl (Nat.zero_le _))
 ·have h4:L.length=1:=(hT rfl).2
  match L,h4 with
  | [a],_ =>
   refine ZAB.of_vc T_ok mixed Tryz.func75 rfl Tryz.call75 ?_
   refine .p rfl hw ?_
   refine ⟨0,_,rfl,rfl,?_⟩
   refine ⟨_,hp,lkI (l':=(apL s (.cli a)).cellsP a1 a2 a3 a4 nx) rfl ?_⟩
   exact h1 (.cli a) rfl _ (mvS st p _ st.tk) ⟨a1,a2,a3,a4,ZAY hp,i1.mono (by omega),i2.mono (by omega),i3.mono (by omega),i4.mono (by omega)⟩
theorem tailU_a (x:ByteArray) (hI:PJ st p s l nx) (hf:ZCU l 6=true) (hx:x.size<=4000000000)
  (h1:∀ y,lnK 6 x=some y->∀ st',Mv 0 (·=p) st st'->PJ st' p (apL s y) 7 nx->R (.b true) st') (h2:lnK 6 x=none->∀ st',Mv 0 (·=p) st st'->R (.b false) st') :
  ZAB Tryz.prog 75 [.ptr p 0,.i 6,.s x] st R:=by
 have hw:=ZI5 x upsW 1 (by decide) (by omega)
 have hT:=ZCi (s:=x) (w:=upsW) (n:=1)
 have e1:lnK 6 x=wd1 .ups (ZAu x upsW 1):=rfl
 rw [e1] at h1 h2
 clear e1
 generalize ZAu x upsW 1=W at *
 obtain ⟨L,ok⟩:=W
 obtain ⟨a1,a2,a3,a4,hp,i1,i2,i3,i4⟩:=hI
 unfold Scr.cellsP at hp
 have hl0:l=6:=beq_iff_eq.1 hf
 subst hl0
 cases ok
 ·refine ZAB.of_vc T_ok mixed Tryz.func75 rfl Tryz.call75 ?_
  refine .p rfl hw ?_
  exact h2 (wd1_no _ L) st (.refl (Nat.zero_le _))
 ·have h4:L.length=1:=(hT rfl).2
  match L,h4 with
  | [a],_ =>
   refine ZAB.of_vc T_ok mixed Tryz.func75 rfl Tryz.call75 ?_
   refine .p rfl hw ?_
   refine ⟨0,_,rfl,rfl,?_⟩
   refine ⟨_,hp,lkI (l':=(apL s (.ups a)).cellsP a1 a2 a3 a4 nx) rfl ?_⟩
   exact h1 (.ups a) rfl _ (mvS st p _ st.tk) ⟨a1,a2,a3,a4,ZAY hp,i1.mono (by omega),i2.mono (by omega),i3.mono (by omega),i4.mono (by omega)⟩
theorem tail7_a (x:ByteArray) (hI:PJ st p s l nx) (hf:ZCU l 7=true)
  (h1:∀ st',Mv 0 (·=p) st st'->PJ st' p (apL s .ce) 8 nx->R (.b true) st') :
  ZAB Tryz.prog 75 [.ptr p 0,.i 7,.s x] st R:=by
 obtain ⟨a1,a2,a3,a4,hp,i1,i2,i3,i4⟩:=hI
 unfold Scr.cellsP at hp
 have hl0:l<=7:=by
  have hf:(decide (7<=l) && decide (l<8))=true:=hf
  simp only [Bool.and_eq_true,decide_eq_true_eq] at hf
  omega
 refine ZAB.of_vc T_ok mixed Tryz.func75 rfl Tryz.call75 ?_
 refine ⟨_,hp,lkI (l':=(apL s .ce).cellsP a1 a2 a3 a4 nx) rfl ?_⟩
 exact h1 _ (mvS st p _ st.tk) ⟨a1,a2,a3,a4,ZAY hp,i1.mono (by omega),i2.mono (by omega),i3.mono (by omega),i4.mono (by omega)⟩
theorem tail8_a (x:ByteArray) (hI:PJ st p s l nx) (hf:ZCU l 8=true)
  (h1:∀ st',Mv 0 (·=p) st st'->PJ st' p (apL s .ue) 9 nx->R (.b true) st') :
  ZAB Tryz.prog 75 [.ptr p 0,.i 8,.s x] st R:=by
 obtain ⟨a1,a2,a3,a4,hp,i1,i2,i3,i4⟩:=hI
 unfold Scr.cellsP at hp
 have hl0:l<=8:=by
  have hf:(decide (7<=l) && decide (l<9))=true:=hf
  simp only [Bool.and_eq_true,decide_eq_true_eq] at hf
  omega
 refine ZAB.of_vc T_ok mixed Tryz.func75 rfl Tryz.call75 ?_
 refine ⟨_,hp,lkI (l':=(apL s .ue).cellsP a1 a2 a3 a4 nx) rfl ?_⟩
 exact h1 _ (mvS st p _ st.tk) ⟨a1,a2,a3,a4,ZAY hp,i1.mono (by omega),i2.mono (by omega),i3.mono (by omega),i4.mono (by omega)⟩
theorem tail9_a (x:ByteArray) (hI:PJ st p s l nx) (hf:ZCU l 9=true) (hl9:l<=10) (hx:x.size<=4000000000) (hl:s.evs.length<=1000000000)
  (h1:∀ y,lnK 9 x=some y->∀ st',Mv 0 (·=p) st st'->PJ st' p (apL s y) 10 nx->R (.b true) st') (h2:lnK 9 x=none->∀ st',Mv 0 (·=p) st st'->R (.b false) st') :
  ZAB Tryz.prog 75 [.ptr p 0,.i 9,.s x] st R:=by
 have hmx:maxLen=9223372036854775807:=rfl
 have ht:=ZGO x evtP
 have hh:=ZEs x evtP
 have hts:(ZAm x evtP).size<=x.size:=by
  have:(ZAm x evtP).data.toList.length<=x.data.toList.length:=by
   show (List.toArray _).toList.length<=_
   rw [List.toList_toArray]
   unfold Lib.trimPrefix
   split
   ·rw [List.length_drop]; omega
   ·omega
  rw [blen,blen] at this
  omega
 have e1:lnK 9 x=if begB x evtP=true then evO (ZAm x evtP) else none:=rfl
 rw [e1] at h1 h2
 unfold evO at h1 h2
 clear e1
 change ZAC _ _ _ (.s (ZAm x evtP)) [] at ht
 change ZAC _ _ _ (.b (begB x evtP)) [] at hh
 generalize begB x evtP=B at *
 generalize ZAm x evtP=t at *
 have hw:=evParse_p t (by omega)
 generalize evP t=V at *
 obtain ⟨a1,a2,a3,a4,hp,i1,i2,i3,i4⟩:=hI
 unfold Scr.cellsP at hp
 have hl0:7<=l:=of_decide_eq_true hf
 have hpl:=ZBC hp
 have hA:=i4.2.1 hl9
 have hn:∀ z c:List AV,((st.heap++[z]).set st.heap.length c)[p]? = some [.s s.ec,.s s.eh,.s s.es,.s s.eb,a1,a2,.i s.ch,.i s.cc,.i s.cq,a3,.s s.cl,.s s.up,.b s.ce,.b s.ue,a4,.i nx]:=fun z c=>ZBe (n:=p) (by omega) (ap hp)
 cases V with
 | none =>
  rcases hA.form with rfl | ⟨t,e,rfl⟩
  iterate 2
   ·skip
    refine ZAB.of_vc T_ok mixed Tryz.func75 rfl Tryz.call75 ?_
    refine .p rfl ht ?_
    refine .p rfl hw ?_
    refine ⟨_,ZAK _ _,?_⟩
    refine .e (by kernel_rfl) ?_
    refine ⟨_,hn _ _,?_⟩
    refine ⟨_,ZAL _ _ _,?_⟩
    refine Acc.app (n:=0) (i:=ti88) hA (Nat.zero_le _) (List.cons_ne_nil _ _) ?_ ?_ (fun t1 e1 tk1 q0 q1 q2 q3=>?_)
    ·show ((evL s.evs).length+1)*16<=_; rw [ZBN]; omega
    ·show (evL s.evs).length+1<=_; rw [ZBN]; omega
    refine ⟨_,hn _ _,lkI (l':=(apL s (.ev 0 0)).cellsP a1 a2 a3 (.sl (.own t1 e1) 2 (evL s.evs++[evR none])) nx) rfl ?_⟩
    have hmv:=mvAS st p [.i 0,.i 0] (evR none) ((apL s (.ev 0 0)).cellsP a1 a2 a3 (.sl (.own t1 e1) 2 (evL s.evs++[evR none])) nx) tk1
    exact h2 (by cases B <;> rfl) _ hmv
 | some v =>
  obtain ⟨kk,nn⟩:=v
  rcases hA.form with rfl | ⟨t,e,rfl⟩
  iterate 2
   ·skip
    refine ZAB.of_vc T_ok mixed Tryz.func75 rfl Tryz.call75 ?_
    refine .p rfl ht ?_
    refine .p rfl hw ?_
    refine ⟨_,ZAK _ _,?_⟩
    refine .e (by kernel_rfl) ?_
    refine ⟨_,hn _ _,?_⟩
    refine ⟨_,ZAL _ _ _,?_⟩
    refine Acc.app (n:=0) (i:=ti88) hA (Nat.zero_le _) (List.cons_ne_nil _ _) ?_ ?_ (fun t1 e1 tk1 q0 q1 q2 q3=>?_)
    ·show ((evL s.evs).length+1)*16<=_; rw [ZBN]; omega
    ·show (evL s.evs).length+1<=_; rw [ZBN]; omega
    refine ⟨_,hn _ _,lkI (l':=(apL s (.ev 0 0)).cellsP a1 a2 a3 (.sl (.own t1 e1) 2 (evL s.evs++[evR (some (kk,nn))])) nx) rfl ?_⟩
    have hmv:=mvAS st p [.i 0,.i 0] (evR (some (kk,nn))) ((apL s (.ev 0 0)).cellsP a1 a2 a3 (.sl (.own t1 e1) 2 (evL s.evs++[evR (some (kk,nn))])) nx) tk1
    skip
    refine .p rfl hh ?_
    cases B
    ·exact h2 rfl _ hmv
    ·refine h1 (.ev kk nn) rfl _ hmv ⟨a1,a2,a3,_,ZAY (hn _ _),i1.past (by decide) (by decide),i2.past (by decide) (by decide),i3.past (by decide) (by decide),.here ?_ (by decide)⟩
     show Acc 0 tk1 2 _ (evL (s.evs++[(kk,nn)]))
     rw [<- ZFJ]
     exact .own _ _ _ q0 q1
end
end
section
theorem nextB_le:∀ l:_root_.Fin 11,ZCN l.1<=10:=by decide +kernel
theorem kindF_k (x:ByteArray):∃ k:Nat,k<=9/\(ZBq x).1=(k:Int):=by
 obtain ⟨h1,h2⟩:=kind_le x
 exact ⟨(ZBq x).1.toNat,by omega,by omega⟩
theorem stepO_yes {s:Scr} {l k:Nat} {x:ByteArray} {y:Ln} (hk:ZBq x=((k:Int),true)) (hf:ZCU l k=true) (h:lnK k x=some y):ZDG (s,l) x=some (apL s y,k+1):=by
 have hp:ZEa x=some y:=by unfold ZEa; rw [hk]; exact h
 have hr:=(ZMl hp).2.2
 rw [hk] at hr
 have hr:y.rank=k:=by have:=congrArg Prod.fst hr; have this:(k:Int)=(y.rank:Int):=this; omega
 unfold ZDG
 rw [hp]
 show ZBu (s,l) y=_
 unfold ZBu
 rw [hr,if_pos hf]
theorem stepO_no {s:Scr} {l k:Nat} {x:ByteArray} (hk:ZBq x=((k:Int),true)) (h:lnK k x=none):ZDG (s,l) x=none:=by
 have hp:ZEa x=none:=by unfold ZEa; rw [hk]; exact h
 unfold ZDG
 rw [hp]
theorem ZM9 {s:Scr} {l k:Nat} {x:ByteArray} (hk:ZBq x=((k:Int),true)) (h:ZCU l k=false):ZDG (s,l) x=none:=by
 cases hp:ZEa x with
 | none=>unfold ZDG; rw [hp]
 | some y =>
  have hr:=(ZMl hp).2.2
  rw [hk] at hr
  have hr:y.rank=k:=by have:=congrArg Prod.fst hr; have this:(k:Int)=(y.rank:Int):=this; omega
  unfold ZDG
  rw [hp]
  show ZBu (s,l) y=_
  unfold ZBu
  rw [hr,if_neg (by show ¬ ZCU l k=true; rw [h]; decide)]
theorem ZNL {s:Scr} {l:Nat} {x:ByteArray} (hk:(ZBq x).2=false):ZDG (s,l) x=none:=by
 have hp:ZEa x=none:=by unfold ZEa; rw [hk]; rfl
 unfold ZDG
 rw [hp]
def ZF7 (s:Scr):Nat:=s.doms.length+s.locs.length+s.rules.length+s.evs.length
theorem lens_ap (s:Scr) (y:Ln):ZF7 (apL s y)<=ZF7 s+1:=by
 cases y <;> simp only [apL,ZF7,List.length_append,List.length_singleton] <;> omega
theorem mvP (st:St) (p:Nat):Mv 0 (·=p) st st:=.refl (Nat.zero_le _)
section
attribute [local irreducible] ZAn
variable {st:St} {R:AV->St->Prop} {p l:Nat} {s:Scr}
theorem line_a (x:ByteArray) (hI:PJ st p s l (ZCN l)) (hl10:l<=10) (hx:x.size<=100000) (hl:ZF7 s<=1000000000)
  (h1:∀ s' l',ZDG (s,l) x=some (s',l')->∀ st',Mv 0 (·=p) st st'->PJ st' p s' l' (ZCN l')->R (.b true) st') (h2:ZDG (s,l) x=none->∀ st',Mv 0 (·=p) st st'->R (.b false) st') :
  ZAB Tryz.prog 39 [.ptr p 0,.s x] st R:=by
 have hk:=kinds_p x (by omega)
 obtain ⟨k,hk9,hk1⟩:=kindF_k x
 unfold ZF7 at hl
 have hI0:=hI
 obtain ⟨a1,a2,a3,a4,hp,i1,i2,i3,i4⟩:=hI
 unfold Scr.cellsP at hp
 have hnx:=nextB_le ⟨l,by omega⟩
 cases hok:(ZBq x).2 with
 | false =>
  have hn:ZDG (s,l) x=none:=ZNL hok
  rw [hok,hk1] at hk
  refine ZAB.of_vc T_ok mixed Tryz.func39 rfl Tryz.call39 ?_
  refine .p rfl hk ?_
  exact h2 hn st (.refl (Nat.zero_le _))
 | true =>
  have hkf:ZBq x=((k:Int),true):=Prod.ext hk1 hok
  rw [hkf] at hk
  cases hf:ZCU l k with
  | false =>
   have hm:mayB (ZCN l) k=false:=(ZMx ⟨l,by omega⟩ ⟨k,by omega⟩).trans hf
   refine ZAB.of_vc T_ok mixed Tryz.func39 rfl Tryz.call39 ?_
   refine .p rfl hk ?_
   refine .s (ZHn (ZCN l) k hnx hk9 hp ?_)
   rw [hm]
   exact h2 (ZM9 hkf hf) st (.refl (Nat.zero_le _))
  | true =>
   have hm:mayB (ZCN l) k=true:=(ZMx ⟨l,by omega⟩ ⟨k,by omega⟩).trans hf
   have hon:=once_p k hk9
   have hpl:=ZBC hp
   have hs:∀ {a b:St},Mv 0 (·=p) a b->a=⟨st.heap.set p (s.cellsP a1 a2 a3 a4 (ZCN (k+1))),st.tk⟩->Mv 0 (·=p) st b:=fun {a b} h e=>by
    subst e
    exact (mvS st p _ st.tk).trans h (fun q _ e=>e)
   have hJ:PJ ⟨st.heap.set p (s.cellsP a1 a2 a3 a4 (ZCN (k+1))),st.tk⟩ p s l (ZCN (k+1)):=⟨a1,a2,a3,a4,ZAY hp,i1,i2,i3,i4⟩
   have g1:∀ y,lnK k x=some y->∀ st',Mv 0 (·=p) ⟨st.heap.set p (s.cellsP a1 a2 a3 a4 (ZCN (k+1))),st.tk⟩ st'->PJ st' p (apL s y) (k+1) (ZCN (k+1))->R (.b true) st':=fun y hy st' m hj=>h1 _ _ (stepO_yes hkf hf hy) st' (hs m rfl) hj
   have g2:lnK k x=none->∀ st',Mv 0 (·=p) ⟨st.heap.set p (s.cellsP a1 a2 a3 a4 (ZCN (k+1))),st.tk⟩ st'->R (.b false) st':=fun hy st' m=>h2 (stepO_no hkf hy) st' (hs m rfl)
   clear h1 h2
   obtain rfl | rfl | rfl | rfl | rfl | rfl | rfl | rfl | rfl | rfl:k=0 \/ k=1 \/ k=2 \/ k=3 \/ k=4 \/ k=5 \/ k=6 \/ k=7 \/ k=8 \/ k=9:=by omega
   ·skip
    refine ZAB.of_vc T_ok mixed Tryz.func39 rfl Tryz.call39 ?_
    refine .p rfl hk ?_
    refine .s (ZHn (ZCN l) _ hnx hk9 hp ?_)
    rw [hm]
    refine ⟨_,hp,lkI (l':=s.cellsP a1 a2 a3 a4 0) rfl ?_⟩
    refine .p rfl hon ?_
    refine ⟨_,ZAY hp,?_⟩
    intro c hc
    obtain rfl:c=((0:Nat):Int)+1:=hc.trans (by decide)
    refine ⟨_,ZAY hp,lkI (l':=s.cellsP a1 a2 a3 a4 (0+1)) rfl ?_⟩
    rw [show ((st.heap.set p (s.cellsP a1 a2 a3 a4 0)).set p (s.cellsP a1 a2 a3 a4 (0+1)))=st.heap.set p (s.cellsP a1 a2 a3 a4 (0+1)) from List.set_set ..]
    exact .s (headE_a x hJ hf (by omega) g1 g2)
   ·skip
    refine ZAB.of_vc T_ok mixed Tryz.func39 rfl Tryz.call39 ?_
    refine .p rfl hk ?_
    refine .s (ZHn (ZCN l) _ hnx hk9 hp ?_)
    rw [hm]
    refine ⟨_,hp,lkI (l':=s.cellsP a1 a2 a3 a4 1) rfl ?_⟩
    refine .p rfl hon ?_
    exact .s (headD_a x hJ hf (by omega) (by omega) g1 g2)
   ·skip
    refine ZAB.of_vc T_ok mixed Tryz.func39 rfl Tryz.call39 ?_
    refine .p rfl hk ?_
    refine .s (ZHn (ZCN l) _ hnx hk9 hp ?_)
    rw [hm]
    refine ⟨_,hp,lkI (l':=s.cellsP a1 a2 a3 a4 2) rfl ?_⟩
    refine .p rfl hon ?_
    exact .s (headP_a x hJ hf (by omega) (by omega) g1 g2)
   ·skip
    refine ZAB.of_vc T_ok mixed Tryz.func39 rfl Tryz.call39 ?_
    refine .p rfl hk ?_
    refine .s (ZHn (ZCN l) _ hnx hk9 hp ?_)
    rw [hm]
    refine ⟨_,hp,lkI (l':=s.cellsP a1 a2 a3 a4 3) rfl ?_⟩
    refine .p rfl hon ?_
    refine ⟨_,ZAY hp,?_⟩
    intro c hc
    obtain rfl:c=((3:Nat):Int)+1:=hc.trans (by decide)
    refine ⟨_,ZAY hp,lkI (l':=s.cellsP a1 a2 a3 a4 (3+1)) rfl ?_⟩
    rw [show ((st.heap.set p (s.cellsP a1 a2 a3 a4 3)).set p (s.cellsP a1 a2 a3 a4 (3+1)))=st.heap.set p (s.cellsP a1 a2 a3 a4 (3+1)) from List.set_set ..]
    exact .s (headC_a x hJ hf (by omega) g1 g2)
   ·skip
    refine ZAB.of_vc T_ok mixed Tryz.func39 rfl Tryz.call39 ?_
    refine .p rfl hk ?_
    refine .s (ZHn (ZCN l) _ hnx hk9 hp ?_)
    rw [hm]
    refine ⟨_,hp,lkI (l':=s.cellsP a1 a2 a3 a4 4) rfl ?_⟩
    refine .p rfl hon ?_
    have hh:=ZEs x rulP
    have e4:lnK 4 x=if begB x rulP=true then ZDe (ZAm x rulP) else none:=rfl
    rw [e4] at g1 g2
    change ZAC _ _ _ (.b (begB x rulP)) [] at hh
    cases hB:begB x rulP with
    | false =>
     rw [hB] at hh g1 g2
     refine .p rfl hh ?_
     exact g2 rfl _ (mvP _ _)
    | true =>
     rw [hB] at hh g1 g2
     refine .p rfl hh ?_
     exact .s (prule_a x hJ hf hx (by omega) g1 g2)
   ·skip
    refine ZAB.of_vc T_ok mixed Tryz.func39 rfl Tryz.call39 ?_
    refine .p rfl hk ?_
    refine .s (ZHn (ZCN l) _ hnx hk9 hp ?_)
    rw [hm]
    refine ⟨_,hp,lkI (l':=s.cellsP a1 a2 a3 a4 5) rfl ?_⟩
    refine .p rfl hon ?_
    refine ⟨_,ZAY hp,?_⟩
    intro c hc
    obtain rfl:c=((5:Nat):Int)+1:=hc.trans (by decide)
    refine ⟨_,ZAY hp,lkI (l':=s.cellsP a1 a2 a3 a4 (5+1)) rfl ?_⟩
    rw [show ((st.heap.set p (s.cellsP a1 a2 a3 a4 5)).set p (s.cellsP a1 a2 a3 a4 (5+1)))=st.heap.set p (s.cellsP a1 a2 a3 a4 (5+1)) from List.set_set ..]
    exact .s (tailC_a x hJ hf (by omega) g1 g2)
   ·skip
    refine ZAB.of_vc T_ok mixed Tryz.func39 rfl Tryz.call39 ?_
    refine .p rfl hk ?_
    refine .s (ZHn (ZCN l) _ hnx hk9 hp ?_)
    rw [hm]
    refine ⟨_,hp,lkI (l':=s.cellsP a1 a2 a3 a4 6) rfl ?_⟩
    refine .p rfl hon ?_
    refine ⟨_,ZAY hp,?_⟩
    intro c hc
    obtain rfl:c=((6:Nat):Int)+1:=hc.trans (by decide)
    refine ⟨_,ZAY hp,lkI (l':=s.cellsP a1 a2 a3 a4 (6+1)) rfl ?_⟩
    rw [show ((st.heap.set p (s.cellsP a1 a2 a3 a4 6)).set p (s.cellsP a1 a2 a3 a4 (6+1)))=st.heap.set p (s.cellsP a1 a2 a3 a4 (6+1)) from List.set_set ..]
    exact .s (tailU_a x hJ hf (by omega) g1 g2)
   ·skip
    refine ZAB.of_vc T_ok mixed Tryz.func39 rfl Tryz.call39 ?_
    refine .p rfl hk ?_
    refine .s (ZHn (ZCN l) _ hnx hk9 hp ?_)
    rw [hm]
    refine ⟨_,hp,lkI (l':=s.cellsP a1 a2 a3 a4 7) rfl ?_⟩
    refine .p rfl hon ?_
    refine ⟨_,ZAY hp,?_⟩
    intro c hc
    obtain rfl:c=((7:Nat):Int)+1:=hc.trans (by decide)
    refine ⟨_,ZAY hp,lkI (l':=s.cellsP a1 a2 a3 a4 (7+1)) rfl ?_⟩
    rw [show ((st.heap.set p (s.cellsP a1 a2 a3 a4 7)).set p (s.cellsP a1 a2 a3 a4 (7+1)))=st.heap.set p (s.cellsP a1 a2 a3 a4 (7+1)) from List.set_set ..]
    exact .s (tail7_a x hJ hf (g1 .ce rfl))
   ·skip
    refine ZAB.of_vc T_ok mixed Tryz.func39 rfl Tryz.call39 ?_
    refine .p rfl hk ?_
    refine .s (ZHn (ZCN l) _ hnx hk9 hp ?_)
    rw [hm]
    refine ⟨_,hp,lkI (l':=s.cellsP a1 a2 a3 a4 8) rfl ?_⟩
    refine .p rfl hon ?_
    refine ⟨_,ZAY hp,?_⟩
    intro c hc
    obtain rfl:c=((8:Nat):Int)+1:=hc.trans (by decide)
    refine ⟨_,ZAY hp,lkI (l':=s.cellsP a1 a2 a3 a4 (8+1)) rfl ?_⟩
    rw [show ((st.heap.set p (s.cellsP a1 a2 a3 a4 8)).set p (s.cellsP a1 a2 a3 a4 (8+1)))=st.heap.set p (s.cellsP a1 a2 a3 a4 (8+1)) from List.set_set ..]
    exact .s (tail8_a x hJ hf (g1 .ue rfl))
   ·skip
    refine ZAB.of_vc T_ok mixed Tryz.func39 rfl Tryz.call39 ?_
    refine .p rfl hk ?_
    refine .s (ZHn (ZCN l) _ hnx hk9 hp ?_)
    rw [hm]
    refine ⟨_,hp,lkI (l':=s.cellsP a1 a2 a3 a4 9) rfl ?_⟩
    refine .p rfl hon ?_
    exact .s (tail9_a x hJ hf hl10 (by omega) (by omega) g1 g2)
end
end
section
theorem ZM5 {a:AV} {sz:Nat} {es:List (List AV)} (h:ZCV a (.sl .no sz es)):(∃ t,a=.sl t sz es) \/ a=.nilS:=by
 rcases h with ⟨h,_⟩ | ⟨h,_⟩
 ·cases a with
  | sl t z l =>
   have h:AV.sl .no sz es=.sl .no z l:=h
   cases h
   exact .inl ⟨t,rfl⟩
  | _=>cases h
 ·exact .inr h
theorem ZER {a:AV} {sz:Nat} {es:List (List AV)} (h:ZCV a (.sl .no sz es)):a.cell=true:=by
 rcases ZM5 h with ⟨t,rfl⟩ | rfl <;> rfl
theorem boolI {x:Bool} {Q:Prop} (h:x=true) (hQ:Q):(match (generalizing:=false) x with | true=>Q | false=>False):=by subst h; exact hQ
theorem ZAP {cs cs':List AV} (h:ZCr cs cs'):argW (.agg cs) (.agg cs'):=.inl (.inr ⟨cs,cs',rfl,rfl,h⟩)
theorem ZAR (n:Int):argW (.i n) (.i n):=.inl (.inl ⟨rfl,rfl⟩)
theorem nextB_7:∀ l:_root_.Fin 11,(ZCN l.1<=6 ↔ l.1<7):=by decide +kernel
theorem ZCl {tk:List Nat} {s:Scr} {l:Nat} {a1 a2 a3 a4:AV} (i1:RowI tk 2 a1 (fldL s.doms) 2 2 l) (i2:RowI tk 2 a2 (fldL s.locs) 3 3 l) (i3:RowI tk 8 a3 (rlL s.rules) 5 5 l) (i4:RowI tk 2 a4 (evL s.evs) 10 10 l) :
  ZCr [.s s.ec,.s s.eh,.s s.es,.s s.eb,a1,a2,.i s.ch,.i s.cc,.i s.cq,a3,.s s.cl,.s s.up,.b s.ce,.b s.ue,a4] s.cells :=
 ⟨.inl ⟨rfl,rfl⟩,.inl ⟨rfl,rfl⟩,.inl ⟨rfl,rfl⟩,.inl ⟨rfl,rfl⟩,i1.2.2,i2.2.2,.inl ⟨rfl,rfl⟩,.inl ⟨rfl,rfl⟩,.inl ⟨rfl,rfl⟩,i3.2.2,.inl ⟨rfl,rfl⟩,.inl ⟨rfl,rfl⟩,.inl ⟨rfl,rfl⟩,.inl ⟨rfl,rfl⟩,i4.2.2,trivial⟩
section
attribute [local irreducible] ZAn
set_option maxHeartbeats 1000000 in
theorem parse_p (t:ByteArray) (ht:t.size<=4194304) (hL:∀ x∈linesB t,x.size<=100000):ZAC Tryz.prog 14 [.s t] (.tup [(ZCd t).1.av,.i (ZCd t).2.1,.i (ZCd t).2.2]) []:=by
 have hmx:maxLen=9223372036854775807:=rfl
 have hsp:=split_p t (by omega)
 have hP:runS (linesB t) 0 s0 0=ZCd t:=by unfold ZCd; rw [if_neg (by omega)]
 have hll:=linesB_len t
 have hne:linesB t≠[]:=by
  unfold linesB
  intro e
  exact ZHE 10 t.data.toList (List.map_eq_nil_iff.1 e)
 generalize ZCd t=P at *
 generalize linesB t=L at *
 have el:=ZAH L
 obtain ⟨r,n,e⟩:=P
 have hpos:0<L.length:=List.length_pos_iff.2 hne
 refine ZAC.ofG rfl ?_
 refine ZAB.of_vc T_ok mixed Tryz.func14 rfl Tryz.call14 ?_
 refine ZAA (fun h0=>?_) (fun h0=>?_)
 ·have h0:=of_decide_eq_true h0
  omega
 refine .p rfl hsp ?_
 intro c hc
 rw [IntWalk.i64_in _ (by omega)] at hc
 obtain rfl:c=((L.length - 1:Nat):Int):=by omega
 refine ⟨L.length - 1,rfl,Nat.zero_le _,by omega,?_⟩
 have ed:((strL L).drop 0).take (L.length - 1 - 0)=strL (L.take (L.length - 1)):=by
  rw [List.drop_zero,Nat.sub_zero]
  unfold strL
  rw [List.map_take]
 rw [ed]
 have et:=ZAH (L.take (L.length - 1))
 have et2:(L.take (L.length - 1)).length=L.length - 1:=by rw [List.length_take]; omega
 rw [et2] at et
 refine ZAF [23] (fun g vals st'=>∃ (k:Nat) (s:Scr) (l:Nat),k+g=L.length - 1/\vals=[.i k]/\st'.heap[0]? = some [.s ⟨#[]⟩,.s ⟨#[]⟩,.s ⟨#[]⟩,.s ⟨#[]⟩,.nilS,.nilS,.i 0,.i 0,.i 0,.nilS,.s ⟨#[]⟩,.s ⟨#[]⟩,.b false,.b false,.nilS]/\PJ st' 1 s l (ZCN l)/\l<=10/\ZF7 s<=k/\runS (L.drop k) k s l=(r,n,e)) (L.length - 1) rfl ⟨0,s0,0,by omega,rfl,rfl,⟨.nilS,.nilS,.nilS,.nilS,rfl,.zero,.zero,.zero,.zero⟩,by decide,by decide,hP⟩ ?_
 rintro g vals st' ⟨k,s,l,hk,rfl,hz,hI,hl,hlen,hr⟩
 refine ZAA (fun hd=>?_) (fun hd=>?_)
 ·have hd:=of_decide_eq_true hd
  have k1:k<L.length - 1:=by omega
  have k2:k<L.length:=by omega
  rw [List.drop_eq_getElem_cons k2,ZD2 (by intro e; have:=congrArg List.length e; rw [List.length_drop] at this; simp at this; omega)] at hr
  refine ⟨k,_,rfl,ZAS (by omega),?_⟩
  refine .s (line_a _ hI hl ?_ (by omega) (fun s' l' hs st2 m2 hI2=>?_) (fun hs st2 m2=>?_))
  ·rw [List.getElem_take]; exact hL _ (List.getElem_mem k2)
  ·rw [List.getElem_take] at hs
   rw [hs] at hr
   intro c hc
   rw [IntWalk.i64_in _ (by omega)] at hc
   obtain rfl:c=((k+1:Nat):Int):=by omega
   have hsl:ZF7 s'<=ZF7 s+1/\l'<=10:=by
    unfold ZDG at hs
    split at hs
    ·cases hs
    ·rename_i y hy
     unfold ZBu at hs
     split at hs
     ·cases hs; exact ⟨lens_ap s y,ZK3 y⟩
     ·cases hs
   exact ⟨g - 1,by omega,k+1,s',l',by omega,rfl,m2.at' hz (fun e=>by cases e),hI2,hsl.2,by omega,hr⟩
  ·rw [List.getElem_take] at hs
   rw [hs] at hr
   intro c hc
   rw [IntWalk.i64_in _ (by omega)] at hc
   obtain rfl:c=((k+1:Nat):Int):=by omega
   cases hr
   refine ⟨_,m2.at' hz (fun e=>by cases e),?_⟩
   refine ⟨_,ZAY (m2.at' hz (fun e=>by cases e)),?_⟩
   exact retV rfl ⟨ZAP (ZCl (tk:=[]) (s:=s0) (l:=0) .zero .zero .zero .zero),ZAR _,ZAR _,trivial⟩
 ·have hd:=of_decide_eq_false hd
  obtain rfl:k=L.length - 1:=by omega
  have k2:L.length - 1<L.length:=by omega
  rw [List.drop_eq_getElem_cons k2,List.drop_of_length_le (by omega)] at hr
  obtain ⟨a1,a2,a3,a4,hp,i1,i2,i3,i4⟩:=hI
  unfold Scr.cellsP at hp
  have h7:ZCN l<=6 ↔ l<7:=nextB_7 ⟨l,by omega⟩
  intro c hc
  rw [IntWalk.i64_in _ (by omega)] at hc
  obtain rfl:c=((L.length - 1:Nat):Int):=by omega
  refine ⟨L.length - 1,_,rfl,ZAS k2,?_⟩
  generalize L[L.length - 1]=X at *
  have hr:(if X=e0/\7<=l then (s,(0:Int),(0:Int)) else (s0,((L.length - 1+1:Nat):Int),2))=(r,n,e):=hr
  intro q hq
  have hll1:((L.length - 1+1:Nat):Int)=((strL L).length:Int):=by omega
  cases hqq:q
  ·have he:X=e0:=hq.1 hqq
   refine ⟨_,hp,?_⟩
   refine ZAA (fun h6=>?_) (fun h6=>?_)
   ·have h6:=of_decide_eq_true h6
    rw [if_neg (by rintro ⟨_,h⟩; have:=h7.1 (by omega); omega)] at hr
    cases hr
    refine ⟨_,hz,?_⟩
    refine ⟨_,ZAY hz,?_⟩
    rw [hll1]
    exact retV rfl ⟨ZAP (ZCl (tk:=[]) (s:=s0) (l:=0) .zero .zero .zero .zero),ZAR _,ZAR _,trivial⟩
   ·have h6:=of_decide_eq_false h6
    rw [if_pos ⟨he,by have:=mt h7.2; omega⟩] at hr
    cases hr
    have hcw:=ZCl (s:=r) i1 i2 i3 i4
    have hz2:(st'.heap.set 0 [.s r.ec,.s r.eh,.s r.es,.s r.eb,a1,a2,.i r.ch,.i r.cc,.i r.cq,a3,.s r.cl,.s r.up,.b r.ce,.b r.ue,a4])[0]? = some [.s r.ec,.s r.eh,.s r.es,.s r.eb,a1,a2,.i r.ch,.i r.cc,.i r.cq,a3,.s r.cl,.s r.up,.b r.ce,.b r.ue,a4]:=ZAY hz
    have hcl:((AV.agg [.s r.ec,.s r.eh,.s r.es,.s r.eb,a1,a2,.i r.ch,.i r.cc,.i r.cq,a3,.s r.cl,.s r.up,.b r.ce,.b r.ue,a4]).sized && decide ((AV.agg [.s r.ec,.s r.eh,.s r.es,.s r.eb,a1,a2,.i r.ch,.i r.cc,.i r.cq,a3,.s r.cl,.s r.up,.b r.ce,.b r.ue,a4]).cells.length=15) && (AV.agg [.s r.ec,.s r.eh,.s r.es,.s r.eb,a1,a2,.i r.ch,.i r.cc,.i r.cq,a3,.s r.cl,.s r.up,.b r.ce,.b r.ue,a4]).cells.all AV.cell)=true:=by
     have c1:=ZER i1.2.2
     have c2:=ZER i2.2.2
     have c3:=ZER i3.2.2
     have c4:=ZER i4.2.2
     show (true && (true && (true && (true && (true && (a1.cell && (a2.cell && (true && (true && (true && (a3.cell && (true && (true && (true && (true && (a4.cell && true))))))))))))))))=true
     rw [c1,c2,c3,c4]
     rfl
    refine ⟨_,hp,lkI (l':=[.s r.ec,.s r.eh,.s r.es,.s r.eb,a1,a2,.i r.ch,.i r.cc,.i r.cq,a3,.s r.cl,.s r.up,.b r.ce,.b r.ue,a4]) rfl ?_⟩
    refine boolI hcl ?_
    refine ⟨_,hz,lkI (l':=[.s r.ec,.s r.eh,.s r.es,.s r.eb,a1,a2,.i r.ch,.i r.cc,.i r.cq,a3,.s r.cl,.s r.up,.b r.ce,.b r.ue,a4]) rfl ?_⟩
    refine ⟨_,hz2,lkI (l':=[.s r.ec,.s r.eh,.s r.es,.s r.eb,a1,a2,.i r.ch,.i r.cc,.i r.cq,a3,.s r.cl,.s r.up,.b r.ce,.b r.ue,a4]) rfl ?_⟩
    exact retV rfl ⟨ZAP hcw,ZAR _,ZAR _,trivial⟩
  ·have he:¬ X=e0:=fun e=>by have:=hq.2 e; rw [hqq] at this; cases this
   rw [if_neg (fun h=>he h.1)] at hr
   cases hr
   refine ⟨_,hz,?_⟩
   refine ⟨_,ZAY hz,?_⟩
   rw [hll1]
   exact retV rfl ⟨ZAP (ZCl (tk:=[]) (s:=s0) (l:=0) .zero .zero .zero .zero),ZAR _,ZAR _,trivial⟩
end
end
section
def l47:ByteArray:=⟨#[101,110,118,32,34,34,32,34,34,32,34,34,32,34,34,10,99,97,112,115,32,48,32,48,32,48,10,99,108,105,101,110,116,32,34,34,10,117,112,115,116,114,101,97,109,32,34,34,10]⟩
theorem num_0:(numT 0).data.toList=[48]:=by
 rw [ZFd]
 unfold Lib.itoa
 rw [if_neg (by decide)]
 show Lib.decDigits 0=_
 rw [Lib.decDigits,dif_pos (by decide)]
 rfl
theorem pr_s0:prB s0=l47.data.toList:=by
 rw [prB_eq]
 show rowL envW [e0,e0,e0,e0]++[10]++(swpL domW []++(swpL plcW []++(ZEd 0 0 0++[10]++(rulB []++linesOf (ZFY s0)))))=_
 unfold ZEd
 rw [num_0]
 kernel_rfl
theorem s0_in:s0.In:=⟨by decide,by decide,by decide⟩
theorem print_s0:ZAv s0=(l47,0):=by
 rw [ZDS (s:=s0) rfl rfl (by rw [pr_s0]; decide),pr_s0]
 rfl
theorem read_l47:ZCd l47=(s0,0,0):=ZLo (s:=s0) rfl rfl s0_in pr_s0.symm (by decide)
theorem s0_sz:s0.Sz where
 ec:=by decide
 eh:=by decide
 es:=by decide
 eb:=by decide
 dl:=by decide
 dz:=fun x hx=>by cases hx
 ll:=by decide
 lz:=fun x hx=>by cases hx
 inn:=s0_in
 rl:=by decide
 rok:=fun x hx=>by cases hx
 cl:=by decide
 up:=by decide
 el:=by decide
 tot:=by rw [pr_s0]; decide
theorem code_crlf:ZAo ⟨#[13,10]⟩=⟨#[34,37,48,68,37,48,65,34]⟩:=by decide +kernel
theorem zeroW:ZCW [.agg [.s ⟨#[]⟩,.s ⟨#[]⟩,.s ⟨#[]⟩,.s ⟨#[]⟩,.nilS,.nilS,.i 0,.i 0,.i 0,.nilS,.s ⟨#[]⟩,.s ⟨#[]⟩,.b false,.b false,.nilS]] [s0.av]:=⟨ZAP (ZCl (tk:=[]) (s:=s0) (l:=0) .zero .zero .zero .zero),trivial⟩
theorem ZJ3:ZAC Tryz.prog 6 [] (.b true) []:=by
 have h1:=print_p s0 s0_sz
 rw [print_s0] at h1
 have h2:=parse_p l47 (by decide) (fun x hx=>Nat.le_trans (linesB_size hx) (by decide))
 rw [read_l47] at h2
 have h3:=code_p ⟨#[13,10]⟩ (by decide)
 rw [code_crlf] at h3
 refine ZAC.of rfl (ZAB.of_vc T_ok mixed Tryz.func6 rfl Tryz.call6 ?_)
 refine .w rfl zeroW h1 ?_
 refine .p rfl h2 ?_
 refine ⟨_,rfl,?_⟩
 refine .p rfl h3 ?_
 intro q hq
 obtain rfl:q=true:=hq.2 rfl
 intro q hq
 obtain rfl:q=true:=hq.2 rfl
 refine ⟨_,rfl,?_⟩
 intro q hq
 obtain rfl:q=true:=hq.2 rfl
 rfl
end
end Go.Proofs.YticbonkojpabnaaGreatDoor
