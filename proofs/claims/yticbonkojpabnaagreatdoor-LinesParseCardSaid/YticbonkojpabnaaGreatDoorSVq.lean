/- Calls that may end in a panic: the walk of the functions that make them. No statement of its own. -/
import Derived.Test.YticbonkojpabnaaGreatDoorSVz
set_option linter.unusedSimpArgs false
set_option linter.unusedVariables false
set_option maxRecDepth 100000
namespace Go.Proofs.YticbonkojpabnaaGreatDoor
open Go.RowKit
section
variable (P:Program) (T:Tab) (bv:Bool) (esc:Nat->Bool)
/-- a call that may end in a panic -/
def ZAW (f:FuncId) (args:List AV) (st:St) (R:AV->St->Prop) (X:List PanicEntry->St->Prop):Prop :=
 (∀ (zs:Array Value) (w:World),(callFunc f zs).run P w=.ok (.enter f zs) w)/\∀ (base:Nat) (J:Nat->Nat->Prop) (w0:World) (μ:Nat->Nat) (σ:Nat->Tkt) (w:World) (vs:Array Value),
  Ok base J w0 st μ σ w->args.length=vs.size->(∀ (j:Nat) a v,args[j]? = some a->vs[j]? = some v->At base J st μ σ w a v) ->
  Calls P f vs w fun e w'=>(∃ v r st' μ' σ',e=.returned v/\R r st'/\Ok base J w0 st' μ' σ' w'/\Ext base J st μ σ w st' μ' σ' w'/\At base J st' μ' σ' w' r v) \/
   ∃ ch st' μ' σ',e=.panicked ch/\X ch st'/\Ok base J w0 st' μ' σ' w'/\Ext base J st μ σ w st' μ' σ' w'

inductive ZI4 (f:FuncId) (args:List AV) (st:St) (K:AV->St->Prop) (X:List PanicEntry->St->Prop):Prop
 | p {r:AV} (hd:args.all AV.datA=true) (h:ZAC P f (args.map AV.strip) r []) (hk:K r st):ZI4 f args st K X
 | w {args':List AV} {r:AV} (hd:args.all AV.datG=true) (hw:ZCW args args') (h:ZAC P f args' r []) (hk:K r st):ZI4 f args st K X
 | t {args':List AV} {r:AV} {ns:List Nat} (hd:args.all AV.datG=true) (hw:ZCW args args') (h:ZAC P f args' r ns) (hk:K (r.shiftR st.tk.length) ⟨st.heap,st.tk++ns⟩):ZI4 f args st K X
 | s (h:ZAB P f args st K):ZI4 f args st K X
 | x (h:ZAW P f args st K X):ZI4 f args st K X

def ZIH:List AV->Option (List Value)
 | []=>some []
 | .lit v::r=>match ZIH r with
  | some vs=>some (v::vs)
  | none=>none
 | _=>none

def ZJ4 (o:Op) (ρ:Operand->AV) (st:St) (K:AV->St->Prop) (X:List PanicEntry->St->Prop):Prop :=
 match o with
 | .call c=>match c.callee with
  | .value f=>match ρ f with
   | .lit (.func (.func k) us vs)=>ZI4 P k (us.toList.map AV.ofV++(c.args.toList.map ρ)++vs.toList.map AV.ofV) st K X
   | .fn (.func k) us vs=>ZI4 P k (us++(c.args.toList.map ρ)++vs) st K X
   | _=>False
  | .builtin b=>vcOp P T (.call { c with callee:=.builtin b }) ρ st K
  | _=>False
 | .buildSlice t len parts=>match bv with
  | false=>vcOp P T (.buildSlice t len parts) ρ st K
  | true=>match (T t).map TI.desc with
   | some (.slice e)=>match T e with
    | none=>False
    | some i=>match decide (len*i.size<=16777216) && decide (0<i.size) && decide (i.zero.length=i.size) && (i.zero.map AV.lit).all AV.flat with
     | true=>match ZNj i.size (parts.toList.map fun p=>(p.1,ρ p.2)) (List.replicate len (i.zero.map AV.lit)) with
      | some es=>K (.hs st.heap.length 0 len len i.size) ⟨st.heap++[es.flatten],st.tk⟩
      | none=>False
     | false=>False
   | _=>False
 | .panic x=>match ρ x with
  | .lit (.iface t v)=>X [{ v:=.iface t v,recovered:=false }] st
  | _=>False
 | .makeInterface t x=>match (T t).map TI.desc with
  | some (.struct _)=>match ρ x with
   | .agg cs=>match ZIH cs with
    | some vs=>K (.lit (.iface t (.agg vs.toArray))) st
    | none=>False
   | _=>False
  | _=>False
 | o=>vcOp P T o ρ st K

def ZI9 (ops:Array Oper) (o:Oper) (fr:Fr) (st:St) (K:Fr->St->Prop) (X:List PanicEntry->Fr->St->Prop):Prop :=
 ZEg ops o.guard fr (fun fr=>ZJ4 P T bv o.op fr.ev st (fun v st'=>fr.putK o.dst v fun fr'=>K fr' st') (fun ch st'=>X ch fr st')) (fun fr=>fr.putK o.dst .un fun fr'=>K fr' st)
def ZLv (ops:Array Oper):List Oper->Fr->St->(Fr->St->Prop)->(List PanicEntry->Fr->St->Prop)->Prop
 | [],fr,st,K,_=>K fr st
 | o::r,fr,st,K,X=>ZI9 P T bv ops o fr st (fun fr' st'=>ZLv ops r fr' st' K X) X

/-- a piece of code, proved by hand -/
def Sem1 (c:Code) (Q:Exit->Fr->St->Prop) (fr:Fr) (st:St):Prop :=
 ∀ (base:Nat) (J:Nat->Nat->Prop) (w0:World) (μ:Nat->Nat) (σ:Nat->Tkt) (a:Act) (w:World) (D:List Deferred),Ok base J w0 st μ σ w->FrAt base J st μ σ w fr a.tmps->a.defers=D->c.wp P (fun e a' w'=>Rel base J w0 st μ σ w (Q e) a' w' D) a w
def vcY:Code->(Exit->Fr->St->Prop)->Fr->St->Prop
 | .skip,Q,fr,st=>Q .normal fr st
 | .label _,Q,fr,st=>Q .normal fr st
 | .region id ops draw,Q,fr,st=>match esc id with
  | true=>Sem1 P (.region id ops draw) Q fr st
  | false=>match draw with
   | false=>ZLv P T bv ops ops.toList fr st (fun fr' st'=>Q .normal fr' st') (fun ch fr' st'=>Q (.panic ch) fr' st')
   | true=>ZEb P T ops (fun fr' st'=>Q .normal fr' st') fr st
 | .seq a b,Q,fr,st=>vcY a (seqQ (fun fr' st'=>vcY b Q fr' st') Q) fr st
 | .cond c x y,Q,fr,st=>match fr.ev c with | .lit (.bool t)=>cnd t (vcY x Q fr st) (vcY y Q fr st) | _=>False
 | .block id b,Q,fr,st=>vcY b (ZGG id Q) fr st
 | .loop b,Q,fr,st=>ZNS (fun Q' fr' st'=>vcY b Q' fr' st') (ZAq b) Q fr st
 | .exit id,Q,fr,st=>Q (.exit id) fr st
 | .ret,Q,fr,st=>Q .ret fr st
 | _,_,_,_=>False
def retX (fn:Func) (R:AV->St->Prop) (X:List PanicEntry->St->Prop):Exit->Fr->St->Prop
 | .normal,fr,st=>ZFH T fn.results.toList fr st fun vs=>match vs with | [v]=>R v st | vs=>R (.tup vs) st
 | .ret,fr,st=>ZFH T fn.results.toList fr st fun vs=>match vs with | [v]=>R v st | vs=>R (.tup vs) st
 | .panic ch,_,st=>X ch st
 | _,_,_=>False
end

section
variable {base:Nat} {J:Nat->Nat->Prop} {w0:World} {st:St} {μ:Nat->Nat} {σ:Nat->Tkt} {w w':World} {P:Program} {T:Tab} {bv:Bool} {esc:Nat->Bool} {K:AV->St->Prop} {X:List PanicEntry->St->Prop}

def FinX (P:Program) (N:Value->World->Prop) (Z:List PanicEntry->World->Prop):Result Next->Prop
 | .ok (.value v) w'=>N v w'
 | .ok .skip w'=>N undef w'
 | .ok (.enter f args) w'=>Calls P f args w' fun e w''=>(∃ v,e=.returned v/\N v w'') \/ ∃ ch,e=.panicked ch/\Z ch w''
 | .halt (.panic v) w'=>Z [{ v,recovered:=false }] w'
 | _=>False
theorem Fin.x {N:Value->World->Prop} {Z:List PanicEntry->World->Prop} {r:Result Next} (h:Fin P N r):FinX P N Z r:=by
 cases r with
 | halt x w'=>exact h.elim
 | ok n w' =>
  cases n <;> simp only [Fin] at h <;> simp only [FinX]
  case value v=>exact h
  case skip=>exact h
  case enter f args=>exact h.mono fun e w'' hv=>.inl hv
theorem ZM6 {o:Oper} {a:Act} {next:Act->World->Prop} {Q:Exit->Act->World->Prop} {N:Value->World->Prop} {Z:List PanicEntry->World->Prop}
  (h:FinX P N Z ((execOp a.eval o).run P w)) (hn:∀ v w',N v w'->next (a.put o.dst v) w') (hz:∀ ch w',Z ch w'->Q (.panic ch) a w'):o.wp P a w next Q:=by
 unfold Oper.wp
 generalize (execOp a.eval o).run P w=r at h
 cases r with
 | halt x w' =>
  cases x <;> simp only [FinX] at h <;> simp only [Oper.upon]
  exact hz _ _ h
 | ok n w' =>
  cases n <;> simp only [FinX] at h <;> simp only [Oper.upon]
  case value v=>exact hn _ _ h
  case skip=>exact hn _ _ h
  case enter f args =>
   refine h.mono fun e w'' hv=>?_
   rcases hv with ⟨v,he,hv⟩ | ⟨ch,he,hv⟩
   ·subst he; exact hn _ _ hv
   ·subst he; exact hz _ _ hv
/-- where a panic leaves -/
def XX (base:Nat) (J:Nat->Nat->Prop) (w0:World) (st:St) (μ:Nat->Nat) (σ:Nat->Tkt) (w:World) (X:List PanicEntry->St->Prop) (ch:List PanicEntry) (w':World):Prop :=
 ∃ st' μ' σ',X ch st'/\Ok base J w0 st' μ' σ' w'/\Ext base J st μ σ w st' μ' σ' w'

theorem ZI4.split {f:FuncId} {args:List AV} (h:ZI4 P f args st K X):ZFv P f args st K \/ ZAW P f args st K X:=by
 rcases h with ⟨h0,h1,h2⟩ | ⟨h0,h3,h1,h2⟩ | ⟨h0,h3,h1,h2⟩ | h1 | h1
 ·exact .inl (.p h0 h1 h2)
 ·exact .inl (.w h0 h3 h1 h2)
 ·exact .inl (.t h0 h3 h1 h2)
 ·exact .inl (.s h1)
 ·exact .inr h1

theorem ZJr {I:Nat->Nat->Prop} {hl:Nat} {tk:List Nat}:∀ {cs:List AV} {vs:List Value},ZIH cs=some vs->∀ {us:List Value},cs.length=us.length->(∀ (j:Nat) a u,cs[j]? = some a->us[j]? = some u->Rp w I hl μ tk σ a u)->us=vs
 | [],vs,h,us,hl,_=>by
  simp only [ZIH,Option.some.injEq] at h
  subst h
  exact List.eq_nil_of_length_eq_zero hl.symm
 | a::cs,vs,h,us,hl,hr=>by
  cases us with
  | nil=>simp at hl
  | cons u us =>
   cases a with
   | lit v =>
    simp only [ZIH] at h
    split at h
    ·rename_i vs' hvs
     simp only [Option.some.injEq] at h
     subst h
     have h0:=(hr 0 _ u rfl rfl).of_lit
     have e1:=ZJr (us:=us) hvs (by simpa using hl) (fun j a u ha hu=>hr (j+1) a u (by simpa using ha) (by simpa using hu))
     rw [e1,h0]
    ·cases h
   | _=>simp [ZIH] at h

theorem ZHt (hT:T.Ok P) (h:Ok base J w0 st μ σ w) {ρ:Operand->AV} {ρc:Operand->Value} (hρ:∀ x,At base J st μ σ w (ρ x) (ρc x)) {o:Oper} {t:TypeId} {len:Nat} {parts:Array (Nat × Operand)} (ho:o.op=.buildSlice t len parts)
  (hv:ZJ4 P T true (.buildSlice t len parts) ρ st K X):Fin P (NN base J w0 st μ σ w K) ((execOp ρc o).run P w):=by
 simp only [ZJ4] at hv
 split at hv
 ·rename_i e hd
  have hus:=hT.und hd
  split at hv
  ·exact hv.elim
  ·rename_i i hi
   obtain ⟨z,hz,hzc⟩:=hT.zeroV hi w
   split at hv
   ·rename_i hck
    simp only [Bool.and_eq_true] at hck
    obtain ⟨⟨⟨k1,k2⟩,k3⟩,k4⟩:=hck
    have k1:=of_decide_eq_true k1
    have k2:=of_decide_eq_true k2
    have k3:=of_decide_eq_true k3
    split at hv
    ·rename_i es hfill
     have hzsz:z.cells.size=i.size:=by rw [hzc]; simpa using k3
     have hrow0:Row base J st μ σ w i.size (List.replicate len (i.zero.map AV.lit)) ((Array.range (len*i.size)).map (z.cells[· % z.cells.size]!)).toList:=by
      refine ⟨by simp,fun k e he=>?_,fun k e j a he ha=>?_⟩
      ·rw [List.getElem?_replicate] at he
       split at he
       ·cases he
        exact ⟨by simpa using k3,k4⟩
       ·cases he
      ·rw [List.getElem?_replicate] at he
       split at he
       ·rename_i hk
        cases he
        have hj:=(List.getElem?_eq_some_iff.1 ha).1
        simp at hj
        simp only [List.getElem?_map,Option.map_eq_some_iff] at ha
        obtain ⟨y,hy,rfl⟩:=ha
        refine ⟨y,?_,.lit _⟩
        have hlt:=ZH2 hk (show j<i.size by omega)
        have hmod:=(ZHg (k:=k) (show j<i.size by omega)).2
        have hjz:j<z.cells.size:=by omega
        have hget:z.cells[j]! = y:=by
         rw [getElem!_pos z.cells j hjz]
         have:z.cells[j]? = some y:=by rw [hzc]; simpa using hy
         rw [Array.getElem?_eq_getElem hjz] at this
         cases this; rfl
        simp [hlt,hzsz,hmod,hget]
       ·cases he
     obtain ⟨r0,us',r1,r2⟩:=ZEo (base:=base) (J:=J) (st:=st) (μ:=μ) (σ:=σ) (w:=w) k2 (parts.toList.map fun p=>(p.1,ρ p.2)) (parts.toList.map fun p=>(p.1,ρc p.2)) _ es _ (by simp)
      (fun j p q hp hq=>by
        simp only [List.getElem?_map,Option.map_eq_some_iff] at hp hq
        obtain ⟨y,hy,rfl⟩:=hp
        obtain ⟨y',hy',rfl⟩:=hq
        rw [hy] at hy'
        cases hy'
        exact ⟨rfl,hρ _⟩) hrow0 hfill
     have hel:es.length=len:=by rw [r0]; simp
     have hfl:es.flatten.length=es.length*i.size:=ZEJ fun k e he=>(r2.el k e he).1
     obtain ⟨ok',ext'⟩:=h.newVar es.flatten us' e (by rw [hfl,<- r2.len,Array.length_toList]) (fun j a u ha hu=>by
      have hj:=(List.getElem?_eq_some_iff.1 ha).1
      rw [hfl] at hj
      obtain ⟨q1,q2,q3⟩:=ZDD hj
      have he:es[j / i.size]? = some es[j / i.size]:=List.getElem?_eq_getElem q1
      have hlen:=(r2.el _ _ he).1
      have hx:es[j / i.size][j % i.size]? = some es[j / i.size][j % i.size]:=List.getElem?_eq_getElem (by omega)
      have hg:=ZFF (fun k e he=>(r2.el k e he).1) (j / i.size) (j % i.size) _ he q2
      rw [q3,ha] at hg
      have hax:es[j / i.size][j % i.size]? = some a:=hg.symm
      obtain ⟨u',h1,h2⟩:=r2.at' _ _ _ a he hax
      rw [q3,Array.getElem?_toList,hu] at h1
      cases h1
      exact ⟨AV.cell_of_flat (List.all_eq_true.1 (r2.el _ _ he).2 a (List.mem_of_getElem? hax)),rfl,h2⟩)
     have n1:¬ (len*i.size > 2 ^ 24):=by omega
     have hrun:(execOp ρc o).run P w=.ok (.value (.slice (some ⟨w.heap.size,0,none⟩) len len)) (w.alloc (.cells us' e)):=by
      by_cases hl0:len=0
      ·subst hl0
       have hu0:us'.toList=[]:=List.eq_nil_of_length_eq_zero (by rw [r2.len,hel]; simp)
       have e0:∀ f:Nat->Value,(Array.range 0).map f=#[]:=fun f=>by simp [Array.range]
       simp only [Nat.zero_mul,e0] at r1
       simp [execOp,ho,Instr.buildSlice,run_underlying hus,hT.size hi,newRow,e0,r1]
      ·have hne:¬ (len*i.size=0):=by
        rw [Nat.mul_eq_zero]
        omega
       simp only [execOp,ho,Instr.buildSlice,Sem.run_bind,run_underlying hus,Result.andThen_ok,hT.size hi,if_neg n1,if_neg hne,hz,Sem.run_pure]
       simp [r1,newRow]
     rw [hrun]
     have hmx:len<=maxLen:=by
      have h9:len*1<=len*i.size:=Nat.mul_le_mul_left _ k2
      unfold maxLen
      omega
     refine ⟨_,_,_,_,hv,ok',ext',?_⟩
     have:=Rp.hs (w:=w.alloc (.cells us' e)) (I:=Im base J ⟨st.heap++[es.flatten],st.tk⟩ (upd μ st.heap.length w.heap.size) σ) (hl:=st.heap.length+1) (μ:=upd μ st.heap.length w.heap.size) (tk:=st.tk) (σ:=σ) st.heap.length 0 len len i.size (by omega) (Nat.le_refl _) hmx
     rw [ZAg] at this
     simpa [At] using this
    ·exact hv.elim
   ·exact hv.elim
 ·exact hv.elim

theorem ZKG (hT:T.Ok P) (h:Ok base J w0 st μ σ w) {ρ:Operand->AV} {ρc:Operand->Value} (hρ:∀ x,At base J st μ σ w (ρ x) (ρc x)) {k:FuncId} {args:List AV} {vs:Array Value} (c1:args.length=vs.size)
  (c2:∀ (j:Nat) a v,args[j]? = some a->vs[j]? = some v->At base J st μ σ w a v) (hv:ZAW P k args st K X):Calls P k vs w fun e w''=>(∃ v,e=.returned v/\NN base J w0 st μ σ w K v w'') \/ ∃ ch,e=.panicked ch/\XX base J w0 st μ σ w X ch w'':=by
 refine (hv.2 base J w0 μ σ w vs h c1 c2).mono fun e w'' hx=>?_
 rcases hx with ⟨v,r,st',μ',σ',q1,q2,q3,q4,q5⟩ | ⟨ch,st',μ',σ',q1,q2,q3,q4⟩
 ·exact .inl ⟨v,q1,r,st',μ',σ',q2,q3,q4,q5⟩
 ·exact .inr ⟨ch,q1,st',μ',σ',q2,q3,q4⟩

theorem ZLR (hT:T.Ok P) (h:Ok base J w0 st μ σ w) {ρ:Operand->AV} {ρc:Operand->Value} (hρ:∀ x,At base J st μ σ w (ρ x) (ρc x)) {o:Oper}
  (hv:ZJ4 P T bv o.op ρ st K X):FinX P (NN base J w0 st μ σ w K) (XX base J w0 st μ σ w X) ((execOp ρc o).run P w):=by
 cases ho:o.op <;> rw [ho] at hv
 case call c =>
  simp only [ZJ4] at hv
  split at hv
  ·rename_i f hcal
   have hf:=hρ f
   split at hv
   ·rename_i k us vs he
    rcases hv.split with hv | hv
    ·refine (ZEN hT h hρ ho ?_).x
     simp only [vcOp,hcal,he]
     exact hv
    ·rw [he] at hf
     obtain ⟨a1,a2⟩:=ZMt (w:=w) (I:=Im base J st μ σ) (hl:=st.heap.length) (μ:=μ) (tk:=st.tk) (σ:=σ) us
     obtain ⟨b1,b2⟩:=ZMt (w:=w) (I:=Im base J st μ σ) (hl:=st.heap.length) (μ:=μ) (tk:=st.tk) (σ:=σ) vs
     obtain ⟨c1,c2⟩:=ZJW hρ c.args a1 b1 a2 b2
     rw [ZGg ho hcal hf.of_lit hv.1]
     exact ZKG hT h hρ c1 c2 hv
   ·rename_i k us vs he
    rcases hv.split with hv | hv
    ·refine (ZEN hT h hρ ho ?_).x
     simp only [vcOp,hcal,he]
     exact hv
    ·rw [he] at hf
     generalize hg:ρc f=fv at hf
     cases hf with
     | fn f first captured us vs e1 e2 hr1 hr2 =>
      obtain ⟨c1,c2⟩:=ZJW hρ c.args e1 e2 hr1 hr2
      rw [ZGg ho hcal hg hv.1]
      exact ZKG hT h hρ c1 c2 hv
   ·exact hv.elim
  ·rename_i b hcal
   have hc:({ c with callee:=.builtin b }:Call)=c:=by cases c; simp_all
   rw [hc] at hv
   exact (ZEN hT h hρ ho hv).x
  ·exact hv.elim
 case buildSlice t len parts =>
  cases bv with
  | false=>exact (ZDn hT h hρ ho hv).x
  | true=>exact (ZHt hT h hρ ho hv).x
 case panic x =>
  simp only [ZJ4] at hv
  split at hv
  ·rename_i t v he
   have hx:=hρ x
   rw [he] at hx
   have e:(execOp ρc o).run P w=.halt (.panic (.iface t v)) w:=by
    simp [execOp,ho,hx.of_lit,Instr.panic,goPanic]
   rw [e]
   exact ⟨st,μ,σ,hv,h,.refl⟩
  ·exact hv.elim
 case makeInterface t x =>
  simp only [ZJ4] at hv
  split at hv
  ·rename_i fs hd
   have hus:=hT.und hd
   split at hv
   ·rename_i cs he
    have hx:=hρ x
    rw [he] at hx
    split at hv
    ·rename_i vs hvs
     generalize hg:ρc x=xv at hx
     cases hx with
     | agg cs us e1 hr =>
      have:us.toList=vs:=ZJr hvs (by simpa using e1) (fun j a u ha hu=>hr j a u ha (by simpa using hu))
      have e:(execOp ρc o).run P w=.ok (.value (.iface t (.agg vs.toArray))) w:=by
       simp [execOp,ho,hg,Instr.makeInterface,run_underlying hus,<- this]
      rw [e]
      exact NN.same h hv (.lit _)
    ·exact hv.elim
   ·exact hv.elim
  ·exact hv.elim
 all_goals exact (ZID hT h hρ (by rw [ho]; exact hv)).x

theorem ZLC {L:Fr->St->Prop} {Z:List PanicEntry->Fr->St->Prop} {ops:Array Oper} {o:Oper} {fr:Fr} {st:St}:ZI9 P T bv ops o fr st L Z ↔ ZBF ops o.guard fr (ZJ4 P T bv o.op fr.ev st (fun v st'=>L (fr.put o.dst v) st') (fun ch st'=>Z ch fr st')) (L (fr.put o.dst .un) st):=by
 unfold ZI9
 rw [ZEX]
 simp only [Fr.putK_iff]

theorem ZJT (hT:T.Ok P) {ops:Array Oper} {o:Oper} {fr:Fr} {a:Act} {K:Fr->St->Prop} {Z:List PanicEntry->Fr->St->Prop} {Kc:Act->World->Prop} {Q:Exit->Act->World->Prop} (h:Ok base J w0 st μ σ w) (hf:FrAt base J st μ σ w fr a.tmps) {D:List Deferred} (hdf:a.defers=D)
  (hk:∀ a' w',Rel base J w0 st μ σ w K a' w' D->Kc a' w') (hz:∀ ch a' w',Rel base J w0 st μ σ w (Z ch) a' w' D->Q (.panic ch) a' w') (hv:ZI9 P T bv ops o fr st K Z) :
  if Region.wanted o (yielded ops a.tmps) then o.wp P a w Kc Q \/ (o.asks P a w/\LetsOut Q) else Kc (a.put o.dst undef) w:=by
 rcases ZGC hf o rfl (ZLC.1 hv) with ⟨hw,hA⟩ | ⟨hw,hB⟩
 ·rw [if_pos hw]
  refine .inl (ZM6 (ZLR hT h hf.ev hA) (fun v w' hn=>hk _ _ ?_) (fun ch w' hn=>hz _ _ _ ?_))
  ·obtain ⟨r,st',μ',σ',q1,q2,q3,q4⟩:=hn
   exact ⟨_,st',μ',σ',q1,q2,q3,(hf.ext q3).put o.dst q4,by rw [Act.put_defers',hdf]⟩
  ·obtain ⟨st',μ',σ',q1,q2,q3⟩:=hn
   exact ⟨_,st',μ',σ',q1,q2,q3,hf.ext q3,hdf⟩
 ·rw [if_neg (by rw [hw]; decide)]
  exact hk _ _ ⟨_,st,μ,σ,hB,h,.refl,hf.put o.dst (.lit _),by rw [Act.put_defers',hdf]⟩

theorem ZD0 (hT:T.Ok P) {D:List Deferred} {ops:Array Oper} {Q:Exit->Act->World->Prop} {K:Fr->St->Prop} {Z:List PanicEntry->Fr->St->Prop}:∀ (l:List Oper) {st:St} {μ:Nat->Nat} {σ:Nat->Tkt} {w:World} {fr:Fr} {a:Act},Ok base J w0 st μ σ w->FrAt base J st μ σ w fr a.tmps->a.defers=D ->
  (∀ a' w',Rel base J w0 st μ σ w K a' w' D->Q .normal a' w')->(∀ ch a' w',Rel base J w0 st μ σ w (Z ch) a' w' D->Q (.panic ch) a' w')->ZLv P T bv ops l fr st K Z->wpList P ops Q l a w
 | [],st,μ,σ,w,fr,a,h,hf,hd,hk,hz,hv=>hk _ _ ⟨fr,st,μ,σ,hv,h,.refl,hf,hd⟩
 | o::l,st,μ,σ,w,fr,a,h,hf,hd,hk,hz,hv=>by
  unfold wpList
  refine ZJT hT h hf hd (fun a' w' hr=>?_) hz hv
  obtain ⟨fr',st',μ',σ',q1,q2,q3,q4,q5⟩:=hr
  exact ZD0 hT l q2 q4 q5 (fun a'' w'' hr=>hk _ _ (hr.ext q3)) (fun ch a'' w'' hr=>hz _ _ _ (hr.ext q3)) q1

theorem ZG7 (hT:T.Ok P) (hm:P.follows .mixedOrders=true) {D:List Deferred}:∀ (c:Code) (Q:Exit->Fr->St->Prop) (fr:Fr) (st:St) (μ:Nat->Nat) (σ:Nat->Tkt) (a:Act) (w:World),
  vcY P T bv esc c Q fr st->Ok base J w0 st μ σ w->FrAt base J st μ σ w fr a.tmps->a.defers=D->c.wp P (fun e a' w'=>Rel base J w0 st μ σ w (Q e) a' w' D) a w:=by
 intro c
 induction c with
 | skip=>intro Q fr st μ σ a w hv h hf hd; exact wp_skip ⟨fr,st,μ,σ,hv,h,.refl,hf,hd⟩
 | label l=>intro Q fr st μ σ a w hv h hf hd; exact wp_label ⟨fr,st,μ,σ,hv,h,.refl,hf,hd⟩
 | exit id=>intro Q fr st μ σ a w hv h hf hd; exact wp_exit ⟨fr,st,μ,σ,hv,h,.refl,hf,hd⟩
 | ret=>intro Q fr st μ σ a w hv h hf hd; exact wp_ret ⟨fr,st,μ,σ,hv,h,.refl,hf,hd⟩
 | region id ops draw =>
  intro Q fr st μ σ a w hv h hf hd
  simp only [vcY] at hv
  cases he:esc id with
  | true =>
   rw [he] at hv
   exact hv _ _ _ _ _ _ _ _ h hf hd
  | false =>
  rw [he] at hv
  cases draw with
  | false=>exact wp_region_list (ZD0 hT _ h hf hd (fun _ _ hr=>hr) (fun _ _ _ hr=>hr) hv)
  | true =>
   have hany:ZBv P T ops (fun fr' st'=>∃ fr0,Fr.le (dsts ops) fr' fr0/\Q .normal fr0 st') ops.size (Array.replicate ops.size false) fr st:=ZMf hv
   obtain ⟨ok',ext'⟩:=h.step (ZCf w)
   refine wp_region_any hm ?_
   exact ZEx hT _ _ ok' (hf.ext ext') hd (fun _ _ hr=>by
    obtain ⟨fr1,st1,μ1,σ1,⟨fr0,q0,q1⟩,q2,q3,q4,q5⟩:=hr
    exact ⟨fr0,st1,μ1,σ1,q1,q2,ext'.trans q3,q4.le q0,q5⟩) hany
 | seq x y ihx ihy =>
  intro Q fr st μ σ a w hv h hf hd
  refine wp_seq (wp_mono (ihx _ fr st μ σ a w hv h hf hd) fun e a' w' hr=>?_)
  cases e with
  | normal =>
   obtain ⟨fr',st',μ',σ',q1,q2,q3,q4,q5⟩:=hr
   exact wp_mono (ihy _ fr' st' μ' σ' a' w' q1 q2 q4 q5) fun e a'' w'' hr=>hr.ext q3
  | _=>exact hr
 | cond c x y ihx ihy =>
  intro Q fr st μ σ a w hv h hf hd
  simp only [vcY] at hv
  split at hv
  ·rename_i t he
   have hc:=hf.ev c
   rw [he] at hc
   have hc:=hc.of_lit
   cases t
   ·exact wp_cond_false hc (ihy _ fr st μ σ a w hv h hf hd)
   ·exact wp_cond_true hc (ihx _ fr st μ σ a w hv h hf hd)
  ·exact hv.elim
 | block id b ih =>
  intro Q fr st μ σ a w hv h hf hd
  refine wp_block (wp_mono (ih _ fr st μ σ a w hv h hf hd) fun e a' w' hr=>?_)
  cases e with
  | exit id' =>
   show (if id'=id then Rel base J w0 st μ σ w (Q .normal) a' w' D else Rel base J w0 st μ σ w (Q (.exit id')) a' w' D)
   by_cases e:id'=id
   ·rw [if_pos e]
    exact hr.mono fun fr st hq=>by simpa [ZGG,e] using hq
   ·rw [if_neg e]
    exact hr.mono fun fr st hq=>by simpa [ZGG,e] using hq
  | _=>exact hr
 | loop b ih =>
  intro Q fr st μ σ a w hv h hf hd
  obtain ⟨I,⟨g0,fr0,hle,hI⟩,hround⟩:=hv
  intro bf k cs
  have key:∀ g (fr:Fr) (st':St) (μ':Nat->Nat) (σ':Nat->Tkt) (a:Act) (w':World),I g fr st'->Ok base J w0 st' μ' σ' w'->Ext base J st μ σ w st' μ' σ' w'->FrAt base J st' μ' σ' w' fr a.tmps->a.defers=D ->
    ∃ e a' w'',Rel base J w0 st μ σ w (Q e) a' w'' D/\Arrives P (lone (bf.at a (.code b::.inLoop b::k)) cs w') bf k cs e a' w'':=by
   intro g
   induction g using Nat.strongRecOn with
   | _ g ihg =>
    intro fr st' μ' σ' a w' hI h' x' hf' hd'
    obtain ⟨e,a1,w1,hq,harr⟩:=ih _ fr st' μ' σ' a w' (hround g fr st' hI) h' hf' hd' bf (.inLoop b::k) cs
    cases e with
    | normal =>
     obtain ⟨fr1,st1,μ1,σ1,⟨g',fr2,hlt,hle2,hI2⟩,q2,q3,q4,q5⟩:=hq
     obtain ⟨e2,a2,w2,hq2,harr2⟩:=ihg g' hlt fr2 st1 μ1 σ1 a1 w1 hI2 q2 (x'.trans q3) (q4.le hle2) q5
     exact ⟨e2,a2,w2,hq2,.of_steps (Steps.trans harr (.one step_inLoop)) harr2⟩
    | exit id=>exact ⟨_,a1,w1,Rel.ext x' (Rel.le hq),.pass (x:=.inLoop b) rfl (fun _ _=>.inl (by simp)) harr⟩
    | goto l=>exact ⟨_,a1,w1,Rel.ext x' (Rel.le hq),.pass (x:=.inLoop b) rfl (fun _ _=>.inl (by simp)) harr⟩
    | ret=>exact ⟨_,a1,w1,Rel.ext x' (Rel.le hq),.pass (x:=.inLoop b) rfl (fun _ _=>.inl (by simp)) harr⟩
    | panic ch=>exact ⟨_,a1,w1,Rel.ext x' (Rel.le hq),.pass (x:=.inLoop b) rfl (fun _ _=>.inl (by simp)) harr⟩
    | outgrown=>exact ⟨_,a1,w1,Rel.ext x' (Rel.le hq),.pass (x:=.inLoop b) rfl (fun _ _=>.inl (by simp)) harr⟩
  obtain ⟨e,a',w',hq,harr⟩:=key g0 fr0 st μ σ a w hI h .refl (hf.le hle) hd
  exact ⟨e,a',w',hq,.of_steps (.one step_loop) harr⟩
 | _=>intro Q fr st μ σ a w hv; exact hv.elim

/-- a call that may end in a panic, out of its body -/
theorem ZAW.of_vcY (hT:T.Ok P) (hm:P.follows .mixedOrders=true) {f:FuncId} {fn:Func} {c:Code} (hf:P.funcs[f]? = some fn) (hb:fn.body=some c)
  (hcall:∀ zs w,(callFunc f zs).run P w=.ok (.enter f zs) w) {args:List AV} {st:St} {R:AV->St->Prop} {X:List PanicEntry->St->Prop} (hv:frameK fn args fun fr=>vcY P T bv esc c (retX T fn R X) fr st):ZAW P f args st R X:=by
 have hv:=ZIO.1 hv
 refine ⟨hcall,fun base J w0 μ σ w vs h hl ha=>?_⟩
 refine calls_of_wp hf hb (wp_mono (ZG7 hT hm c _ _ st μ σ { tmps:=vs++Array.replicate (fn.ntmps - vs.size) undef,defers:=[] } w hv h ?_ rfl) fun e a' w' hr=>?_)
 ·refine ⟨by simp [ZGy,hl],fun i a v h1 h2=>?_⟩
  simp only [ZGy,List.getElem?_append,hl] at h1
  rw [Array.getElem?_append] at h2
  by_cases hi:i<vs.size
  ·rw [if_pos hi] at h1 h2
   exact ha i a v h1 h2
  ·rw [if_neg hi] at h1 h2
   rw [List.getElem?_replicate] at h1
   rw [Array.getElem?_replicate] at h2
   split at h1
   ·split at h2
    ·cases h1; cases h2; exact .lit _
    ·rename_i q1 q2; exact absurd q1 q2
   ·cases h1
 ·have ret:∀ (e:Exit),(e=.normal \/ e=.ret)->Rel base J w0 st μ σ w (retX T fn R X e) a' w'->a'.defers=[]/\∃ v,(results fn a'.tmps).run P w'=.ok v w'/\((∃ v',∃ r st' μ' σ',Ending.returned v=.returned v'/\R r st'/\Ok base J w0 st' μ' σ' w'/\Ext base J st μ σ w st' μ' σ' w'/\At base J st' μ' σ' w' r v') \/
    ∃ ch st' μ' σ',Ending.returned v=.panicked ch/\X ch st'/\Ok base J w0 st' μ' σ' w'/\Ext base J st μ σ w st' μ' σ' w'):=by
   rintro e he ⟨fr',st',μ',σ',q1,q2,q3,q4,q5⟩
   have q1':ZFH T fn.results.toList fr' st' fun vs=>match vs with | [v]=>R v st' | vs=>R (.tup vs) st':=by
    rcases he with rfl | rfl <;> exact q1
   obtain ⟨v,a,h1,h2,h3⟩:=ZHN hT q2 q4 q1'
   exact ⟨q5,v,h1,.inl ⟨v,a,st',μ',σ',rfl,h2,q2,q3,h3⟩⟩
  cases e with
  | normal=>exact ret _ (.inl rfl) hr
  | ret=>exact ret _ (.inr rfl) hr
  | panic ch =>
   obtain ⟨fr',st',μ',σ',q1,q2,q3,q4,q5⟩:=hr
   exact ⟨q5,.inr ⟨ch,st',μ',σ',rfl,q1,q2,q3⟩⟩
  | _=>obtain ⟨fr',st',μ',σ',q1,_⟩:=hr; exact q1.elim
theorem ZAW.bare {f:FuncId} {args:List AV} {st:St} {R:AV->St->Prop} (h:ZAW P f args st R fun _ _=>False):ZAB P f args st R:=by
 refine ⟨h.1,fun base J w0 μ σ w vs a b c=>(h.2 base J w0 μ σ w vs a b c).mono ?_⟩
 rintro e w' (hx | ⟨ch,st',μ',σ',q1,q2,_⟩)
 ·exact hx
 ·exact q2.elim
end
end Go.Proofs.YticbonkojpabnaaGreatDoor
