/- A pure function's result where it is a row that was written in place; rows of elements as a variable's cells, read, written, appended to. No statement of its own. -/
import Derived.Test.YticbonkojpabnaaGreatDoorSSa
set_option linter.unusedSimpArgs false
set_option linter.unusedVariables false
set_option maxRecDepth 100000
namespace Go.Proofs.YticbonkojpabnaaGreatDoor
open Go.RowKit
def resC (st:St) (a' a:AV):Prop:=(a'.strip=a/\a.dat=true) \/ (a'=.nilS/\∃ sz,a=.sl .no sz []) \/ ∃ p lo n cap sz cs es,a'=.hs p lo n cap sz/\st.heap[p]? = some cs/\Seen cs lo n sz es/\a=.sl .no sz es
def ZNX (st:St):List AV->List AV->Prop
 | [],[]=>True
 | a'::r',a::r=>resC st a' a/\ZNX st r' r
 | _,_=>False
def resX (st:St) (r' r:AV):Prop:=resC st r' r \/ ∃ us vs,r'=.tup us/\r=.tup vs/\ZNX st us vs
theorem resC.dat {st:St} {a:AV} (h:a.dat=true) (h2:a.strip=a):resC st a a:=.inl ⟨h2,h⟩
theorem AV.dat_of_flat {a:AV} (h:a.flat=true):a.dat=true:=by
 cases a with
 | agg cs=>cases h
 | _=>exact h
section
variable {base:Nat} {J:Nat->Nat->Prop} {w0:World} {st:St} {μ:Nat->Nat} {σ:Nat->Tkt} {w w':World} {P:Program}
theorem resC.at (hok:Ok base J w0 st μ σ w) {a' a:AV} {v:Value} (h:At base J st μ σ w a' v) (hc:resC st a' a):At base J ⟨[],[]⟩ (fun _=>0) (fun _=>⟨0,0,0⟩) w a v:=by
 have hi:∀ g x,Im base J st μ σ g x->g<w.heap.size->Im base J ⟨[],[]⟩ (fun _=>0) (fun _=>⟨0,0,0⟩) g x:=fun g x hi _=>⟨hi.1,fun p hp=>by simp at hp,fun t e ht=>by simp at ht⟩
 rcases hc with ⟨rfl,hd⟩ | ⟨rfl,sz,rfl⟩ | ⟨p,lo,n,cap,sz,cs,es,rfl,hcs,hseen,rfl⟩
 ·exact h.strip.dat hi hd
 ·rw [h.of_lit]
  exact .sl0 sz none 0 (Nat.zero_le _)
 ·cases h with
  | hs _ _ _ _ _ hp hnc hm =>
   obtain rfl:=hseen.len
   obtain ⟨us,hrow,hcell⟩:=hseen.row hok hcs
   have hrow':Row base J ⟨[],[]⟩ (fun _=>0) (fun _=>⟨0,0,0⟩) w sz es us:=⟨hrow.len,hrow.el,fun k e j a he ha=>by
    obtain ⟨u,h1,h2⟩:=hrow.at' k e j a he ha
    exact ⟨u,h1,h2.dat hi (AV.dat_of_flat (List.all_eq_true.1 (hrow.el k e he).2 a (List.mem_of_getElem? ha)))⟩⟩
   have hb:=(hok.mu_lt hp).1
   exact hrow'.sl .no (μ p) lo cap hnc hm (fun j u hu=>⟨⟨fun hlt=>by omega,fun q hq=>by simp at hq,fun t e ht=>by simp at ht⟩,hcell j u hu⟩) (fun h=>by cases h) (fun i e h=>by cases h)
theorem ZNX.at (hok:Ok base J w0 st μ σ w):∀ {us vs:List AV},ZNX st us vs->us.length=vs.length/\∀ (j:Nat) a v,vs[j]? = some a->(∀ b,us[j]? = some b->At base J st μ σ w b v)->At base J ⟨[],[]⟩ (fun _=>0) (fun _=>⟨0,0,0⟩) w a v
 | [],[],_=>⟨rfl,fun j a v h=>by simp at h⟩
 | b::us,a::vs,h=>by
  obtain ⟨h1,h2⟩:=h
  obtain ⟨i1,i2⟩:=ZNX.at hok h2
  refine ⟨by simp [i1],fun j x v hx hu=>?_⟩
  cases j with
  | zero =>
   simp at hx
   subst hx
   exact resC.at hok (hu b rfl) h1
  | succ j=>exact i2 j x v (by simpa using hx) (fun b hb=>hu b (by simpa using hb))
 | [],_::_,h=>h.elim
 | _::_,[],h=>h.elim
/-- a pure function, some of whose results may be rows that it wrote in place, or nil -/
theorem ZAC.ofX {f:FuncId} {args:List AV} {r0:AV} (hd:r0.datR=true) (h:ZAB P f args ⟨[],[]⟩ fun r' st'=>resX st' r' r0):ZAC P f args r0 []:=by
 refine ⟨AV.res_of_datR hd,h.1,fun J w vs hw hl ha=>?_⟩
 refine (h.2 w.heap.size J w (fun _=>0) (fun _=>⟨0,0,0⟩) w vs (Ok.none J _ _ w hw) hl ha).mono ?_
 rintro e w' ⟨v,r',st',μ',σ',rfl,hR,hok,hx,hat⟩
 refine ⟨v,fun _=>⟨0,0,0⟩,rfl,⟨hok.bs,hok.below,fun p cs h=>by simp at h,fun p q h=>by simp at h,fun t e h=>by simp at h⟩,?_⟩
 rcases hR with hR | ⟨us,vs',rfl,rfl,hcs⟩
 ·exact resC.at hok hat hR
 ·obtain ⟨i1,i2⟩:=ZNX.at hok hcs
  cases hat with
  | tup cs zs e1 hr =>
   refine .tup _ zs (by omega) fun j a u hja hju=>i2 j a u hja (fun b hb=>hr j b u hb hju)
end

section
variable {sz:Nat} {es ys:List (List AV)} {zs:List AV}
theorem ZDh (h:∀ e∈es,e.length=sz):es.flatten.length=es.length*sz:=ZEJ fun k e he=>h e (List.mem_of_getElem? he)
theorem ZDx (h:∀ e∈es,e.length=sz) {k j:Nat} (hk:k<es.length) (hj:j<sz):(es.flatten++zs)[k*sz+j]? = es[k][j]?:=by
 have hl:=ZDh h
 have:=ZH2 (sz:=sz) hk hj
 rw [List.getElem?_append_left (by omega)]
 exact ZFF (fun k e he=>h e (List.mem_of_getElem? he)) k j _ (List.getElem?_eq_getElem hk) hj
theorem ZHh (h:∀ e∈es,e.length=sz/\e.all AV.flat=true):Seen (es.flatten++zs) 0 es.length sz es:=by
 refine ⟨rfl,fun k e he=>h e (List.mem_of_getElem? he),fun k e j a he ha=>?_⟩
 have hk:=(List.getElem?_eq_some_iff.1 he).1
 have hj:=(List.getElem?_eq_some_iff.1 ha).1
 have hl:=(h e (List.mem_of_getElem? he)).1
 rw [Nat.zero_add,ZDx (fun e he=>(h e he).1) hk (by omega)]
 rw [List.getElem?_eq_getElem hk] at he
 cases he
 exact ha
theorem rows_setE (h:∀ e∈es,e.length=sz) {k:Nat} (hk:k<es.length) {e':List AV} (he:e'.length=sz):ZBL (es.flatten++zs) (0+k*sz) e'=(es.set k e').flatten++zs:=by
 have hl:=ZDh h
 have h2:∀ e∈es.set k e',e.length=sz:=fun e hm=>by
  rcases List.mem_or_eq_of_mem_set hm with hm | rfl
  ·exact h e hm
  ·exact he
 have hl2:=ZDh h2
 rw [List.length_set] at hl2
 have hlt:k*sz+sz<=es.length*sz:=by rw [<- Nat.succ_mul]; exact Nat.mul_le_mul_right _ hk
 apply List.ext_getElem?
 intro q
 rw [ZB7 _ _ _ _ (by rw [List.length_append]; omega)]
 by_cases hq:q<es.length*sz
 ·obtain ⟨h1,h3,h4⟩:=ZDD hq
  have r2:=ZDx (zs:=zs) h2 (k:=q / sz) (j:=q % sz) (by rw [List.length_set]; exact h1) h3
  rw [h4] at r2
  rw [r2]
  by_cases e:q / sz=k
  ·have hqk:q=k*sz+q % sz:=by rw [<- e]; exact h4.symm
   rw [if_pos (by omega),show q - (0+k*sz)=q % sz by omega]
   simp [e]
  ·have hne:¬ (0+k*sz<=q/\q<0+k*sz+e'.length):=by
    rintro ⟨a1,a2⟩
    have:q / sz=k:=by
     have hz:0<sz:=by omega
     apply Nat.div_eq_of_lt_le
     ·omega
     ·rw [Nat.add_mul]; omega
    exact e this
   rw [if_neg hne]
   have r1:=ZDx (zs:=zs) h (k:=q / sz) (j:=q % sz) h1 h3
   rw [h4] at r1
   rw [r1,List.getElem_set_ne (Ne.symm e)]
 ·rw [if_neg (by omega),List.getElem?_append_right (by omega),List.getElem?_append_right (by omega),hl,hl2]
theorem ZKU (h:∀ e∈es,e.length=sz) {k j:Nat} (hk:k<es.length) (hj:j<sz) (v:AV):(es.flatten++zs).set (0+k*sz+j) v=(es.set k (es[k].set j v)).flatten++zs:=by
 have hl:=ZDh h
 have hlk:=h es[k] (List.getElem_mem hk)
 have hlt:=ZH2 (sz:=sz) hk hj
 rw [<- rows_setE h hk (e':=es[k].set j v) (by rw [List.length_set]; exact hlk)]
 have hlt2:k*sz+sz<=es.length*sz:=by rw [<- Nat.succ_mul]; exact Nat.mul_le_mul_right _ hk
 apply List.ext_getElem?
 intro q
 rw [ZB7 _ _ _ _ (by rw [List.length_append,List.length_set]; omega),List.getElem?_set,List.length_set,hlk]
 by_cases hq:0+k*sz+j=q
 ·subst hq
  rw [if_pos rfl,if_pos (by rw [List.length_append]; omega),if_pos (by omega),show 0+k*sz+j - (0+k*sz)=j by omega,List.getElem?_set_self (by omega)]
 ·rw [if_neg hq]
  by_cases hin:0+k*sz<=q/\q<0+k*sz+sz
  ·rw [if_pos hin,List.getElem?_set_ne (by omega)]
   have:=ZDx (zs:=zs) h hk (j:=q - (0+k*sz)) (by omega)
   rw [<- this]
   congr 1
   omega
  ·rw [if_neg hin]
theorem rows_app (h:∀ e∈es,e.length=sz) (hy:∀ e∈ys,e.length=sz) (hz:ys.length*sz<=zs.length):ZBL (es.flatten++zs) (0+es.length*sz) ys.flatten=(es++ys).flatten++zs.drop (ys.length*sz):=by
 have hl:=ZDh h
 have hl2:=ZDh hy
 apply List.ext_getElem?
 intro q
 rw [ZB7 _ _ _ _ (by rw [List.length_append]; omega),List.flatten_append,List.append_assoc]
 by_cases h1:q<es.length*sz
 ·rw [if_neg (by omega),List.getElem?_append_left (by omega),List.getElem?_append_left (by omega)]
 ·by_cases h2:q<es.length*sz+ys.length*sz
  ·rw [if_pos (by omega),List.getElem?_append_right (by omega),List.getElem?_append_left (by omega),hl,Nat.zero_add]
  ·rw [if_neg (by omega),List.getElem?_append_right (by omega),List.getElem?_append_right (by omega),List.getElem?_append_right (by omega),List.getElem?_drop,hl,hl2]
   congr 1
   omega
end

/-- a cell, loaded; a cell, written -/
theorem ld1 {i:TI} {cs:List AV} {off:Nat} {c:AV} {K:AV->Prop} (hd:ZII i.desc=false) (h:cs[off]? = some c) (hK:K c):ldA i cs off K:=by
 unfold ldA
 rw [hd,h]
 exact hK
theorem st1 {cs:List AV} {o n:Nat} {v:AV} {L:List AV->Prop} (hn:n=1) (h:o+1<=cs.length) (hL:L (cs.set o v)):(match decide (o+n<=cs.length) with | true=>ZDr (ZBL cs o [v]) L | false=>False):=by
 subst hn
 rw [decide_eq_true h]
 exact ZAQ.2 hL
theorem st1' {cs cs':List AV} {o n:Nat} {v:AV} {L:List AV->Prop} (hn:n=1) (h:o+1<=cs.length) (hc:cs.set o v=cs') (hL:L cs'):(match decide (o+n<=cs.length) with | true=>ZDr (ZBL cs o [v]) L | false=>False):=st1 hn h (hc ▸ hL)
/-- a variable whose cells are these elements, and others behind -/
structure RwS (st:St) (p cap sz:Nat) (es:List (List AV)):Prop where
 ex:∃ zs,st.heap[p]? = some (es.flatten++zs)/\es.length*sz+zs.length=cap*sz
 el:∀ e∈es,e.length=sz/\e.all AV.flat=true
 hn:es.length<=cap
inductive HR (st:St) (sz:Nat):AV->Option Nat->List (List AV)->Prop
 | nil:HR st sz .nilS none []
 | tight:HR st sz (.sl .tight sz []) none []
 | hs (p cap:Nat) (es:List (List AV)) (h:RwS st p cap sz es):HR st sz (.hs p 0 es.length cap sz) (some p) es
theorem RwS.mv {n:Nat} {C:Nat->Prop} {a b:St} {p cap sz:Nat} {es:List (List AV)} (h:RwS a p cap sz es) (m:Mv n C a b) (hc:¬ C p):RwS b p cap sz es:=by
 obtain ⟨⟨zs,h1,h2⟩,h3,h4⟩:=h
 exact ⟨⟨zs,m.at' h1 hc,h2⟩,h3,h4⟩
theorem RwS.keep {a b:St} {p cap sz:Nat} {es:List (List AV)} (h:RwS a p cap sz es) (m:∀ cs,a.heap[p]? = some cs->b.heap[p]? = some cs):RwS b p cap sz es:=by
 obtain ⟨⟨zs,h1,h2⟩,h3,h4⟩:=h
 exact ⟨⟨zs,m _ h1,h2⟩,h3,h4⟩
theorem HR.mv {n:Nat} {C:Nat->Prop} {a b:St} {x:AV} {r:Option Nat} {sz:Nat} {es:List (List AV)} (h:HR a sz x r es) (m:Mv n C a b) (hc:∀ p,r=some p->¬ C p):HR b sz x r es:=by
 cases h with
 | nil=>exact .nil
 | tight=>exact .tight
 | hs p cap es h=>exact .hs _ _ _ (h.mv m (hc p rfl))
theorem HR.keep {a b:St} {x:AV} {r:Option Nat} {sz:Nat} {es:List (List AV)} (h:HR a sz x r es) (m:∀ p cs,r=some p->a.heap[p]? = some cs->b.heap[p]? = some cs):HR b sz x r es:=by
 cases h with
 | nil=>exact .nil
 | tight=>exact .tight
 | hs p cap es h=>exact .hs _ _ _ (h.keep fun cs=>m p cs rfl)
theorem HR.lt {a:St} {x:AV} {p sz:Nat} {es:List (List AV)} (h:HR a sz x (some p) es):p<a.heap.length:=by
 cases h with
 | hs p cap es h =>
  obtain ⟨⟨zs,h1,_⟩,_,_⟩:=h
  exact (List.getElem?_eq_some_iff.1 h1).1
theorem HR.app {n:Nat} {r:Option Nat} {st:St} {i:TI} {a:AV} {es ys:List (List AV)} {tg:Tk} {K:AV->St->Prop} (h:HR st i.size a r es) (hz:i.zero.all Value.oneCell'=true) (hzl:i.zero.length=i.size) (hy:ys≠[]) (hyl:∀ e∈ys,e.length=i.size/\e.all AV.flat=true)
  (hb:(es.length+ys.length)*i.bytes<=140737488355328) (hm:es.length+ys.length<=maxLen) (hn:n<=st.tk.length)
  (hK:∀ p cap st',RwS st' p cap i.size (es++ys)->Mv n (fun q=>some q=r) st st'->(some p=r \/ st.heap.length<=p)->p<st'.heap.length->K (.hs p 0 (es.length+ys.length) cap i.size) st'):ZAn i a (.sl tg i.size ys) st K:=by
 have hyl1:∀ e∈ys,e.length=i.size:=fun e he=>(hyl e he).1
 have fresh:∀ (es:List (List AV)) x,(∀ e∈es,e.length=i.size/\e.all AV.flat=true)->RwS ⟨st.heap++[(es++ys).flatten++ZBx i.zero x],st.tk⟩ st.heap.length (es.length+ys.length+x) i.size (es++ys):=fun es x he=>by
  refine ⟨⟨ZBx i.zero x,by simp,?_⟩,fun e hm=>?_,by rw [List.length_append]; omega⟩
  ·rw [ZBd,hzl,List.length_append,<- Nat.add_mul]
  ·rcases List.mem_append.1 hm with hm | hm
   ·exact he e hm
   ·exact hyl e hm
 have mvF:∀ x,Mv n (fun q=>some q=r) st ⟨st.heap++[x],st.tk⟩:=fun x=>(Mv.refl hn).alloc x
 unfold ZAn srcA
 simp only [decide_true]
 cases h with
 | nil =>
  refine ⟨fun e=>absurd e hy,fun _=>⟨by simpa using hb,by simpa using hm,.inr ⟨hz,fun x hx=>?_⟩⟩⟩
  have:=hK st.heap.length (0+ys.length+x) _ (by simpa using fresh [] x (fun e he=>by simp at he)) (mvF _) (.inr (Nat.le_refl _)) (by simp)
  simpa using this
 | tight =>
  simp only [hz,decide_true,Bool.and_self]
  refine ⟨fun e=>absurd e hy,fun _=>⟨by simpa using hb,by simpa using hm,.inr (fun x hx=>?_)⟩⟩
  have:=hK st.heap.length (0+ys.length+x) _ (by simpa using fresh [] x (fun e he=>by simp at he)) (mvF _) (.inr (Nat.le_refl _)) (by simp)
  simpa using this
 | hs p cap es h =>
  obtain ⟨⟨zs,h1,h2⟩,h3,h4⟩:=h
  simp only [hz,decide_true,Bool.and_self]
  have hp:=(List.getElem?_eq_some_iff.1 h1).1
  have h31:∀ e∈es,e.length=i.size:=fun e he=>(h3 e he).1
  have hl:=ZDh h31
  refine ⟨fun e=>absurd e hy,fun _=>⟨hb,hm,_,es,h1,ZHh h3,fun hroom=>?_,fun hno x hx=>?_⟩⟩
  ·have hcap:(es.length+ys.length)*i.size<=cap*i.size:=Nat.mul_le_mul_right _ hroom
   rw [Nat.add_mul] at hcap
   refine ⟨by rw [List.length_append,hl,Nat.add_mul]; omega,?_⟩
   rw [rows_app h31 hyl1 (by omega)]
   refine hK p cap _ ⟨⟨_,List.getElem?_set_self hp,?_⟩,fun e hm=>?_,by simpa using hroom⟩ ((Mv.refl (C:=fun q=>some q=some p) hn).set (p:=p) (fun _=>rfl) _) (.inl rfl) (by simpa using hp)
   ·rw [List.length_append,List.length_drop,Nat.add_mul]; omega
   ·rcases List.mem_append.1 hm with hm | hm
    ·exact h3 e hm
    ·exact hyl e hm
  ·exact hK st.heap.length _ _ (fresh es x h3) (mvF _) (.inr (Nat.le_refl _)) (by simp)
end Go.Proofs.YticbonkojpabnaaGreatDoor
