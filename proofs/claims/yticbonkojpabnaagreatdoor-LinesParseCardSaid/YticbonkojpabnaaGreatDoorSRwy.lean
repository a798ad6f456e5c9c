/- What rules do, by their words: a map of functions. No statement of its own. -/
import Derived.Test.YticbonkojpabnaaGreatDoorSVq
import Derived.Test.YticbonkojpabnaaGreatDoorSTab
import Derived.Test.YticbonkojpabnaaGreatDoorSRpz
import Derived.Test.YticbonkojpabnaaGreatDoorSFdp
import Derived.Test.YticbonkojpabnaaGreatDoorSTmA
import Derived.Test.YticbonkojpabnaaGreatDoorSRu
import Derived.Recover
set_option linter.unusedSimpArgs false
set_option linter.unusedVariables false
set_option maxRecDepth 100000
namespace Go.Proofs.YticbonkojpabnaaGreatDoor
open Go.RowKit
theorem insM {P:Program} {w:World} {g clock:Nat} {es:Array MapEntry} {k:ByteArray} {v:Value} {mt kt et:TypeId} (hm:P.underlying mt=some (.map kt et)) (hk:P.underlying kt=some .string) (hg:w.heap[g]? = some (.map es clock))
  (hnew:Instr.findNow .string (.string k) es.toList 0=some none) :
  (Instr.mapUpdate mt (.map (some g)) (.string k) v).run P w=.ok () { w with heap:=w.heap.setIfInBounds g (.map (es.push { key:=.string k,val:=v,born:=clock }) (clock+1)) }:=by
 have c1:(Instr.checkKey false 10000 kt (.string k)).run P w=.ok () w:=MapKept.run_checkKey hk (by simp [MapKept.IsKey]) _ _
 simp [Instr.mapUpdate,run_underlying hm,MapKept.run_getObj_map hg,c1,MapKept.run_findKey hk hnew,MapKept.run_setObj_map _ hg,Result.andThen]
theorem mapW_at (w:World) (o:Obj):(w.alloc o).heap[w.heap.size]? = some o:=heap_alloc_new w o
theorem mapW_set (w:World) (o o':Obj):({ w.alloc o with heap:=(w.alloc o).heap.setIfInBounds w.heap.size o' }:World)=w.alloc o':=by
 have e:(w.heap.push o).setIfInBounds w.heap.size o'=w.heap.push o':=by
  apply Array.ext'
  simp
 show World.mk ..=World.mk ..
 simp only [World.alloc,e]
theorem insW {P:Program} {w:World} {clock:Nat} {es:Array MapEntry} {k:ByteArray} {v:Value} {mt kt et:TypeId} (hm:P.underlying mt=some (.map kt et)) (hk:P.underlying kt=some .string)
  (hnew:Instr.findNow .string (.string k) es.toList 0=some none) :
  (Instr.mapUpdate mt (.map (some w.heap.size)) (.string k) v).run P (w.alloc (.map es clock))=.ok () (w.alloc (.map (es.push { key:=.string k,val:=v,born:=clock }) (clock+1))):=by
 rw [insM hm hk (mapW_at w _) hnew,mapW_set]
def fnV (k:Nat):Value:=.func (.func k) #[] #[]
def eSet:MapEntry:={ key:=.string kSet,val:=fnV 231,born:=0 }
def eAdd:MapEntry:={ key:=.string kAdd,val:=fnV 232,born:=1 }
def eRem:MapEntry:={ key:=.string kRem,val:=fnV 233,born:=2 }
def eRen:MapEntry:={ key:=.string kRen,val:=fnV 234,born:=3 }
def ZDC:Array MapEntry:=#[eSet,eAdd,eRem,eRen]
theorem acts_c (w:World):Calls Tryz.prog 192 #[] w fun e w'=>e=.returned (.map (some w.heap.size))/\w'=w.alloc (.map ZDC 4):=by
 have hm:=Tryz.underlying241
 have hk:=Tryz.underlying9
 have i0:∀ v,(Instr.mapUpdate _ (.map (some w.heap.size)) (.string kSet) v).run Tryz.prog (w.alloc (.map #[] 0))=_:=fun v=>insW hm hk rfl
 have i1:∀ v,(Instr.mapUpdate _ (.map (some w.heap.size)) (.string kAdd) v).run Tryz.prog (w.alloc (.map #[eSet] 1))=_:=fun v=>insW hm hk (by kernel_rfl)
 have i2:∀ v,(Instr.mapUpdate _ (.map (some w.heap.size)) (.string kRem) v).run Tryz.prog (w.alloc (.map #[eSet,eAdd] 2))=_:=fun v=>insW hm hk (by kernel_rfl)
 have i3:∀ v,(Instr.mapUpdate _ (.map (some w.heap.size)) (.string kRen) v).run Tryz.prog (w.alloc (.map #[eSet,eAdd,eRem] 3))=_:=fun v=>insW hm hk (by kernel_rfl)
 go_enter Tryz.func192,Tryz.ntmps192
 go_wp2_with fail
 rw [run_makeMap]
 simp only [eSet,eAdd,eRem,eRen,fnV,kSet,kAdd,kRem,kRen,List.push_toArray,List.cons_append,List.nil_append] at i0 i1 i2 i3
 simp only [Result.andThen,Oper.upon]
 go_wp2_with fail
 go_ret
 exact ⟨rfl,rfl⟩
/-- what a word stands for -/
def ActK (word:ByteArray) (k:Nat):Prop:=(word=kSet/\k=231) \/ (word=kAdd/\k=232) \/ (word=kRem/\k=233) \/ (word=kRen/\k=234)
def ActIs (word:ByteArray) (act:Value) (ok:Bool):Prop :=
 (∃ k,ActK word k/\act=fnV k/\ok=true) \/ (word≠kSet/\word≠kAdd/\word≠kRem/\word≠kRen/\act=.nilFunc/\ok=false)
theorem look_c (w:World) (word:ByteArray):∃ act ok,ActIs word act ok/\(Instr.lookup 241 (.map (some w.heap.size)) (.string word) true).run Tryz.prog (w.alloc (.map ZDC 4))=.ok (.tuple #[act,.bool ok]) (w.alloc (.map ZDC 4)):=by
 have hm:=Tryz.underlying241
 have hk:=Tryz.underlying9
 have c1:∀ w':World,(Instr.checkKey false 10000 9 (.string word)).run Tryz.prog w'=.ok () w':=fun w'=>MapKept.run_checkKey hk (by simp [MapKept.IsKey]) _ _
 have hz:∀ w':World,(zeroValue 239).run Tryz.prog w'=.ok .nilFunc w':=fun w'=>by
  have h1:(Tryz.prog.info? 239).map (fun i=>i.zero)=some (some .nilFunc):=by kernel_rfl
  obtain ⟨inf,h2,h3⟩:=Option.map_eq_some_iff.1 h1
  simp [zeroValue,typeInfo,h2,h3]
 have fin:∀ r act ok,Instr.findNow .string (.string word) ZDC.toList 0=some r->(r=none/\act=.nilFunc/\ok=false \/ ∃ i,r=some (i,act)/\ok=true) ->
   (Instr.lookup 241 (.map (some w.heap.size)) (.string word) true).run Tryz.prog (w.alloc (.map ZDC 4))=.ok (.tuple #[act,.bool ok]) (w.alloc (.map ZDC 4)):=by
  intro r act ok hr hc
  have hf:=MapKept.run_findKey (P:=Tryz.prog) (w:=w.alloc (.map ZDC 4)) hk hr
  have hg:=MapKept.run_getObj_map (P:=Tryz.prog) (w:=w.alloc (.map ZDC 4)) (heap_alloc_new w (.map ZDC 4))
  have he:ZDC.isEmpty=false:=rfl
  rcases hc with ⟨rfl,rfl,rfl⟩ | ⟨i,rfl,rfl⟩
  ·simp [Instr.lookup,run_underlying hm,hg,he,c1,hf,hz,Result.andThen]
  ·simp [Instr.lookup,run_underlying hm,hg,he,c1,hf,Result.andThen]
 have nb:∀ {a b:ByteArray},a≠b->(a == b)=false:=fun {a b} h=>by
  cases e:a == b with
  | false=>rfl
  | true=>exact absurd ((MapKept.bytes_beq a b).1 e) h
 by_cases h1:word=kSet
 ·subst h1
  exact ⟨_,_,.inl ⟨_,.inl ⟨rfl,rfl⟩,rfl,rfl⟩,fin (some (0,_)) _ _ (by simp [ZDC,Instr.findNow,Instr.sameNow,eSet]; rfl) (.inr ⟨0,rfl,rfl⟩)⟩
 by_cases h2:word=kAdd
 ·subst h2
  exact ⟨_,_,.inl ⟨_,.inr (.inl ⟨rfl,rfl⟩),rfl,rfl⟩,fin (some (1,_)) _ _ (by simp [ZDC,Instr.findNow,Instr.sameNow,eSet,eAdd,nb h1]; rfl) (.inr ⟨1,rfl,rfl⟩)⟩
 by_cases h3:word=kRem
 ·subst h3
  exact ⟨_,_,.inl ⟨_,.inr (.inr (.inl ⟨rfl,rfl⟩)),rfl,rfl⟩,fin (some (2,_)) _ _ (by simp [ZDC,Instr.findNow,Instr.sameNow,eSet,eAdd,eRem,nb h1,nb h2]; rfl) (.inr ⟨2,rfl,rfl⟩)⟩
 by_cases h4:word=kRen
 ·subst h4
  exact ⟨_,_,.inl ⟨_,.inr (.inr (.inr ⟨rfl,rfl⟩)),rfl,rfl⟩,fin (some (3,_)) _ _ (by simp [ZDC,Instr.findNow,Instr.sameNow,eSet,eAdd,eRem,eRen,nb h1,nb h2,nb h3]; rfl) (.inr ⟨3,rfl,rfl⟩)⟩
 ·exact ⟨_,_,.inr ⟨h1,h2,h3,h4,rfl,rfl⟩,fin none _ _ (by simp [ZDC,Instr.findNow,Instr.sameNow,eSet,eAdd,eRem,eRen,nb h1,nb h2,nb h3,nb h4]) (.inl ⟨rfl,rfl,rfl⟩)⟩
/-- the region that looks a word up -/
theorem ZM1 {bv:Bool} {id:Nat} {ops:Array Oper} {o0 o1 o2:Oper} {rest:List Oper} {d0 d1 d2:Nat} {x:Operand} {c0:Call} {word:ByteArray} {Q:Exit->Fr->St->Prop} {fr:Fr} {st:St}
  (ho:ops.toList=o0::o1::o2::rest) (e0:o0.guard=none/\o0.op=.call c0/\c0.callee=.value (.func 192)/\c0.args=#[]/\o0.dst=some d0) (e1:o1.guard=none/\o1.op=.move x/\o1.dst=some d1)
  (e2:o2.guard=none/\o2.op=.lookup 241 (.tmp d0) (.tmp d1) true/\o2.dst=some d2) (hne:d0≠d1) (hd:(Nat.blt d0 fr.length && Nat.blt d1 fr.length)=true) (hx:(fr.put (some d0) .top).ev x=.s word)
  (hQ:∀ act ok,ActIs word act ok->Fr.putK fr (some d0) .top fun f1=>Fr.putK f1 (some d1) (.s word) fun f2=>Fr.putK f2 (some d2) (.tup [.lit act,.b ok]) fun f3=>ZLv Tryz.prog T bv ops rest f3 st (fun fr' st'=>Q .normal fr' st') (fun ch fr' st'=>Q (.panic ch) fr' st')) :
  Sem1 Tryz.prog (.region id ops false) Q fr st:=by
 intro base J w0 μ σ a w D h hf hdf
 have hd:d0<fr.length/\d1<fr.length:=by
  rw [Bool.and_eq_true,Nat.blt_eq,Nat.blt_eq] at hd
  exact hd
 obtain ⟨g0,p0,q0,r0,s0⟩:=e0
 obtain ⟨g1,p1,s1⟩:=e1
 obtain ⟨g2,p2,s2⟩:=e2
 refine wp_region_list ?_
 rw [ho]
 have wn:∀ (o:Oper) y,o.guard=none->Region.wanted o y=true:=fun o y hg=>by simp [Region.wanted,hg]
 obtain ⟨ok1,ext1⟩:=h.step (ZDk w (.map ZDC 4))
 have hf1:=(hf.ext ext1).put (some d0) (.top (Value.map (some w.heap.size)))
 have hxv:=hf1.ev x
 rw [hx] at hxv
 have hxv:=hxv.of_lit
 have hf2:=hf1.put (a:=a.put (some d0) (Value.map (some w.heap.size))) (some d1) (.lit (Value.string word))
 obtain ⟨act,ok,ha,hrun⟩:=look_c w word
 have hf3:=hf2.put (a:=(a.put (some d0) (Value.map (some w.heap.size))).put (some d1) (Value.string word)) (r:=.tup [.lit act,.b ok]) (v:=.tuple #[act,.bool ok]) (some d2) (.tup _ _ rfl fun j b u hb hu=>by
  match j,hb,hu with
  | 0,hb,hu=>simp at hb hu; subst hb; subst hu; exact .lit _
  | 1,hb,hu=>simp at hb hu; subst hb; subst hu; exact .lit _
  | j+2,hb,hu=>simp at hb)
 have hk:=hQ act ok ha
 simp only [Fr.putK_iff] at hk
 unfold wpList
 rw [if_pos (wn _ _ g0)]
 refine .inl ?_
 unfold Oper.wp
 have er:(execOp a.eval o0).run Tryz.prog w=.ok (.enter 192 #[]) w:=by
  simp [execOp,p0,resolve,q0,r0,Act.eval,Deferred.ofValue,invoke,Tryz.call192]
 rw [er]
 simp only [Oper.upon]
 refine (acts_c w).mono ?_
 rintro e w1 ⟨rfl,rfl⟩
 show wpList _ _ _ _ _ _
 rw [s0]
 unfold wpList
 rw [if_pos (wn _ _ g1)]
 refine .inl ?_
 unfold Oper.wp
 have er:(execOp (a.put (some d0) (Value.map (some w.heap.size))).eval o1).run Tryz.prog (w.alloc (.map ZDC 4))=.ok (.value (.string word)) (w.alloc (.map ZDC 4)):=by
  simp [execOp,p1,hxv]
 rw [er]
 simp only [Oper.upon]
 rw [s1]
 unfold wpList
 rw [if_pos (wn _ _ g2)]
 refine .inl ?_
 unfold Oper.wp
 have v0:((a.put (some d0) (Value.map (some w.heap.size))).put (some d1) (Value.string word)).eval (.tmp d0)=.map (some w.heap.size):=by
  have hl:=hf.1
  simp [Act.eval,Act.put,Array.getD_eq_getD_getElem?,Array.getElem?_setIfInBounds,Ne.symm hne,hne]
  rw [if_pos (by omega)]
  rfl
 have v1:((a.put (some d0) (Value.map (some w.heap.size))).put (some d1) (Value.string word)).eval (.tmp d1)=.string word:=by
  have hl:=hf.1
  simp [Act.eval,Act.put,Array.getD_eq_getD_getElem?,Array.getElem?_setIfInBounds]
  rw [if_pos (by omega)]
  rfl
 have er:(execOp ((a.put (some d0) (Value.map (some w.heap.size))).put (some d1) (Value.string word)).eval o2).run Tryz.prog (w.alloc (.map ZDC 4))=.ok (.value (.tuple #[act,.bool ok])) (w.alloc (.map ZDC 4)):=by
  simp [execOp,p2,v0,v1,hrun]
 rw [er]
 simp only [Oper.upon]
 rw [s2]
 exact ZD0 T_ok rest ok1 hf3 (by simp only [Act.put_defers',hdf]) (fun a' w' hr=>hr.ext ext1) (fun ch a' w' hr=>hr.ext ext1) hk
/-- what a line is given up with -/
def flt (e:Int):List PanicEntry:=[{ v:=.iface 203 (.agg #[.int .i64 e]),recovered:=false }]
section
variable {st:St} {sc rd k n:Nat} {s:ByteArray} {l:AV} {R:AV->St->Prop} {X:List PanicEntry->St->Prop}
theorem ZFL (e:Int) (hX:X (flt e) st):ZAW Tryz.prog 194 [.ptr rd 0,.i e] st R X:=by
 refine ZAW.of_vcY (bv:=false) (esc:=fun _=>false) T_ok mixed Tryz.func194 rfl Tryz.call194 ?_
 exact hX
theorem ZCj (b:Bool) (hR:b=true->R (.tup []) st) (hX:b=false->X (flt 2) st):ZAW Tryz.prog 193 [.ptr rd 0,.b b] st R X:=by
 refine ZAW.of_vcY (bv:=false) (esc:=fun _=>false) T_ok mixed Tryz.func193 rfl Tryz.call193 ?_
 refine ZAA (fun h=>?_) (fun h=>?_)
 ·rw [Bool.not_eq_true'] at h
  refine .x (ZFL 2 (hX h))
 ·rw [Bool.not_eq_false'] at h
  exact hR h
theorem blanks_a (h:Sc st sc s k) (hR:R (.s (s.extract k (k+tw blkI s k))) (st.sc sc s (k+tw blkI s k))):ZAB Tryz.prog 228 [.ptr sc 0] st R:=by
 refine ZAB.of_vc T_ok mixed Tryz.func228 rfl Tryz.call228 ?_
 refine .s (ZLG blk_f h ?_)
 exact hR
/-- the reader's variable -/
theorem gap_x (h:Sc st sc s k) (hr:st.heap[rd]? = some [.ptr sc 0,l]) (hne:rd≠sc) (hn:n<=st.tk.length) (hR:∀ j,gapS s k=some j->∀ st',Mv n (·=sc) st st'->Sc st' sc s j->R (.tup []) st') (hX:gapS s k=none->∀ st',Mv n (·=sc) st st'->X (flt 2) st') :
  ZAW Tryz.prog 188 [.ptr rd 0] st R X:=by
 have hl:=ZCR blkI s k h.le
 have he:=ZBb s k (k+tw blkI s k) hl
 have hG:gapS s k=if tw blkI s k=0/\k≠0/\k<s.size then none else some (k+tw blkI s k):=rfl
 refine ZAW.of_vcY (bv:=false) (esc:=fun _=>false) T_ok mixed Tryz.func188 rfl Tryz.call188 ?_
 refine ⟨_,hr,?_⟩
 refine .s (at_a h ?_)
 refine ⟨_,hr,?_⟩
 refine .s (blanks_a h ?_)
 have hs2:=h.sc (j:=k+tw blkI s k) hl
 have hr2:(st.sc sc s (k+tw blkI s k)).heap[rd]? = some [.ptr sc 0,l]:=(St.sc_ne hne.symm).trans hr
 have m2:Mv n (·=sc) st (st.sc sc s (k+tw blkI s k)):=(Mv.refl (C:=(·=sc)) hn).sc (fun _=>rfl) s _
 intro t ht
 cases t with
 | true =>
  have h1:¬ s.extract k (k+tw blkI s k)=.empty:=fun e=>by have:=ht.2 e; cases this
  refine .x (ZCj true (fun _=>hR _ (by rw [hG,if_neg (fun hh=>h1 ((ZAi _).2 (by rw [he]; omega)))]) _ m2 hs2) (fun e=>by cases e))
 | false =>
  have h1:=(ZAi _).1 (ht.1 rfl)
  rw [he] at h1
  refine ZAA (fun h2=>?_) (fun h2=>?_)
  ·have h2:=beq_iff_eq.1 h2
   refine .x (ZCj true (fun _=>hR _ (by rw [hG,if_neg (fun hh=>hh.2.1 (by omega))]) _ m2 hs2) (fun e=>by cases e))
  ·have h2:=beq_eq_false_iff_ne.1 h2
   refine ⟨_,hr2,?_⟩
   refine .s (ZLF hs2 ?_)
   by_cases h3:s.size<=k+tw blkI s k
   ·rw [decide_eq_true h3]
    refine .x (ZCj true (fun _=>hR _ (by rw [hG,if_neg (fun hh=>by omega)]) _ m2 hs2) (fun e=>by cases e))
   ·rw [decide_eq_false h3]
    refine .x (ZCj false (fun e=>by cases e) (fun _=>hX (by rw [hG,if_pos ⟨by omega,by omega,by omega⟩]) _ m2))
theorem ZGN (h:Sc st sc s k) (hr:st.heap[rd]? = some [.ptr sc 0,l]) (hne:rd≠sc) (hn:n<=st.tk.length) (hR:∀ t j,ZCT s k=some (t,j)->∀ st',Mv n (·=sc) st st'->Sc st' sc s j->R (.s t) st') (hX:ZCT s k=none->∀ st',Mv n (·=sc) st st'->X (flt 2) st') :
  ZAW Tryz.prog 190 [.ptr rd 0] st R X:=by
 have hl:=ZCR tokI s k h.le
 have hG:ZCT s k=if tw tokI s k=0 then none else match gapS s (k+tw tokI s k) with
  | none=>none
  | some j=>some (s.extract k (k+tw tokI s k),j):=rfl
 have hs2:=h.sc (j:=k+tw tokI s k) hl
 have hr2:(st.sc sc s (k+tw tokI s k)).heap[rd]? = some [.ptr sc 0,l]:=(St.sc_ne hne.symm).trans hr
 have m2:Mv n (·=sc) st (st.sc sc s (k+tw tokI s k)):=(Mv.refl (C:=(·=sc)) hn).sc (fun _=>rfl) s _
 refine ZAW.of_vcY (bv:=false) (esc:=fun _=>false) T_ok mixed Tryz.func190 rfl Tryz.call190 ?_
 refine ⟨_,hr,?_⟩
 refine .s (token_a h ?_)
 refine .x (ZCj _ (fun hb=>?_) (fun hb=>?_))
 ·rw [Bool.not_eq_true'] at hb
  rw [if_neg (of_decide_eq_false hb)] at hG
  refine .x (gap_x hs2 hr2 hne m2.tl (fun j hj st' m hs=>?_) (fun hj st' m=>?_))
  ·rw [hj] at hG
   exact hR _ _ hG _ (m2.trans m (fun q _ e=>e)) hs
  ·rw [hj] at hG
   exact hX hG _ (m2.trans m (fun q _ e=>e))
 ·rw [Bool.not_eq_false'] at hb
  rw [if_pos (of_decide_eq_true hb)] at hG
  exact hX hG _ m2
theorem value_x (h:Sc st sc s k) (hm:s.size<140737488355328) (hr:st.heap[rd]? = some [.ptr sc 0,l]) (hne:rd≠sc) (hn:n<=st.tk.length) (hR:∀ t j,ZCu s k=some (t,j)->∀ st',Mv n (·=sc) st st'->Sc st' sc s j->R (.s t) st') (hX:ZCu s k=none->∀ st',Mv n (·=sc) st st'->X (flt 2) st') :
  ZAW Tryz.prog 230 [.ptr rd 0] st R X:=by
 have hG:ZCu s k=match ZAw s k with
  | none=>none
  | some (v,i)=>match gapS s i with
   | none=>none
   | some j=>some (⟨v.toArray⟩,j):=rfl
 refine ZAW.of_vcY (bv:=false) (esc:=fun _=>false) T_ok mixed Tryz.func230 rfl Tryz.call230 ?_
 refine ⟨_,hr,?_⟩
 refine .s (read_a h hn hm (fun hf st' m hs=>?_) (fun v j hf st' m hs=>?_))
 ·rw [hf] at hG
  exact .x (ZCj _ (fun hb=>by cases hb) (fun _=>hX hG _ m))
 ·rw [hf] at hG
  refine .x (ZCj _ (fun _=>?_) (fun hb=>by cases hb))
  have hr2:st'.heap[rd]? = some [.ptr sc 0,l]:=m.at' hr hne
  refine .x (gap_x hs hr2 hne m.tl (fun j' hj st2 m2 hs2=>?_) (fun hj st2 m2=>?_))
  ·simp only [hj] at hG
   exact hR _ _ hG _ (m.trans m2 (fun q _ e=>e)) hs2
  ·simp only [hj] at hG
   exact hX hG _ (m.trans m2 (fun q _ e=>e))
theorem parts_x (h:Sc st sc s k) (hm:s.size<1000000) (hr:st.heap[rd]? = some [.ptr sc 0,.b false]) (hne:rd≠sc) (hn:n<=st.tk.length)
  (hR:∀ p b j,ZCy s k=some (p,b,j)->∀ st',Mv n (fun q=>q=sc \/ q=rd) st st'->Sc st' sc s j->st'.heap[rd]? = some [.ptr sc 0,.b b]->R (.sl .no 2 (prtL p)) st') (hX:ZCy s k=none->∀ st',Mv n (fun q=>q=sc \/ q=rd) st st'->X (flt 2) st') :
  ZAW Tryz.prog 245 [.ptr rd 0] st R X:=by
 have hG:ZCy s k=match ZCu s k with
  | none=>none
  | some (v,j)=>if (ZAM v).2=0 \/ (ZAM v).2=3 then some ((ZAM v).1,decide ((ZAM v).2=3),j) else none:=rfl
 refine ZAW.of_vcY (bv:=false) (esc:=fun _=>false) T_ok mixed Tryz.func245 rfl Tryz.call245 ?_
 refine .x (value_x h (by omega) hr hne hn (fun v j hv st' m hs=>?_) (fun hv st' m=>?_))
 ·have hvl:=ZFe h.le hv
  have hr2:st'.heap[rd]? = some [.ptr sc 0,.b false]:=m.at' hr hne
  simp only [hv] at hG
  have hp:=ZIy v (by omega)
  generalize ZAM v=Z at hG hp
  obtain ⟨p,e⟩:=Z
  refine .p rfl hp ?_
  refine ⟨_,hr2,?_⟩
  have hG:ZCy s k=if e=0 \/ e=3 then some (p,decide (e=3),j) else none:=hG
  have m3:Mv n (fun q=>q=sc \/ q=rd) st ⟨st'.heap.set rd [.ptr sc 0,.b (e == 3)],st'.tk⟩:=(m.wide fun q _ e=>.inl e).set (fun _=>.inr rfl) _
  have hs3:Sc ⟨st'.heap.set rd [.ptr sc 0,.b (e == 3)],st'.tk⟩ sc s j:=⟨(List.getElem?_set_ne hne).trans hs.at',hs.le,hs.max⟩
  have hr3:(st'.heap.set rd [.ptr sc 0,.b (e == 3)])[rd]? = some [.ptr sc 0,.b (e == 3)]:=ZAY hr2
  refine ZAA (fun h0=>?_) (fun h0=>?_)
  ·have h0:=beq_iff_eq.1 h0
   rw [if_pos (.inl h0)] at hG
   refine .x (ZCj true (fun _=>hR _ _ _ hG _ m3 hs3 (hr3.trans (by rw [Bool.beq_eq_decide_eq]))) (fun e=>by cases e))
  ·have h0:=beq_eq_false_iff_ne.1 h0
   refine ⟨_,hr3,?_⟩
   refine .x (ZCj (e == 3) (fun h1=>?_) (fun h1=>?_))
   ·rw [if_pos (.inr (beq_iff_eq.1 h1))] at hG
    exact hR _ _ _ hG _ m3 hs3 (hr3.trans (by rw [Bool.beq_eq_decide_eq]))
   ·rw [if_neg (fun hc=>hc.elim h0 (beq_eq_false_iff_ne.1 h1))] at hG
    exact hX hG _ m3
 ·rw [hv] at hG
  exact hX hG _ (m.wide fun q _ e=>.inl e)
theorem guard_x (h:Sc st sc s k) (hm:s.size<1000000) (hr:st.heap[rd]? = some [.ptr sc 0,l]) (hne:rd≠sc) (hn:n<=st.tk.length)
  (hR:∀ g j,ZDo s k=some (g,j)->∀ st',Mv n (·=sc) st st'->Sc st' sc s j->R (.agg [.i g.1,.s g.2.1,.s g.2.2]) st') (hX:ZDo s k=none->∀ st',Mv n (·=sc) st st'->X (flt 2) st') :
  ZAW Tryz.prog 191 [.ptr rd 0] st R X:=by
 have hG:ZDo s k=match ZCT s k with
  | none=>none
  | some (w,i)=>match ZCT s i with
   | none=>none
   | some (n,j)=>if w=kHas then some ((1,n,⟨#[]⟩),j) else if w=ZA8 then some ((2,n,⟨#[]⟩),j) else if w=kIs then
     (match ZCu s j with
     | none=>none
     | some (v,j)=>some ((3,n,v),j)) else none:=rfl
 have hlt:=h.lt
 have hrl:=ZBC hr
 refine ZAW.of_vcY (bv:=false) (esc:=fun _=>false) T_ok mixed Tryz.func191 rfl Tryz.call191 ?_
 have m0:Mv n (fun _=>False) st ⟨st.heap++[[.i 0,.s ⟨#[]⟩,.s ⟨#[]⟩]],st.tk⟩:=(Mv.refl hn).alloc _
 have m1:Mv n (·=sc) st ⟨st.heap++[[.i 0,.s ⟨#[]⟩,.s ⟨#[]⟩]],st.tk⟩:=(Mv.refl hn).alloc _
 refine .x (ZGN (h.mv m0 (fun e=>e)) (m0.at' hr (fun e=>e)) hne m1.tl (fun w i hw st2 m2 hs2=>?_) (fun hw st2 m2=>?_))
 rotate_left
 ·rw [hw] at hG
  exact hX hG _ (m1.trans m2 (fun q _ e=>e))
 simp only [hw] at hG
 have M2:=m1.trans m2 (fun q _ e=>e)
 have g2:st2.heap[st.heap.length]? = some [.i 0,.s ⟨#[]⟩,.s ⟨#[]⟩]:=m2.at' (ZAK _ _) (by omega)
 refine .x (ZGN hs2 (M2.at' hr hne) hne M2.tl (fun nm j hnm st3 m3 hs3=>?_) (fun hnm st3 m3=>?_))
 rotate_left
 ·rw [hnm] at hG
  exact hX hG _ (M2.trans m3 (fun q _ e=>e))
 simp only [hnm] at hG
 have M3:=M2.trans m3 (fun q _ e=>e)
 have g3:st3.heap[st.heap.length]? = some [.i 0,.s ⟨#[]⟩,.s ⟨#[]⟩]:=m3.at' g2 (by omega)
 have hl3:=M3.len
 have hp3:=ZBC g3
 refine ⟨_,ZAK _ _,?_⟩
 have z1:=ZAL st3.heap [AV.i 0,AV.s ⟨#[]⟩,AV.s ⟨#[]⟩] [AV.i 0,AV.s nm,AV.s ⟨#[]⟩]
 have z0:=ZBe (x:=[AV.i 0,AV.s nm,AV.s ⟨#[]⟩]) (m:=st3.heap.length) (by omega) (ap (x:=[AV.i 0,AV.s ⟨#[]⟩,AV.s ⟨#[]⟩]) g3)
 have M9:Mv n (·=sc) st ⟨(st3.heap++[[AV.i 0,AV.s ⟨#[]⟩,AV.s ⟨#[]⟩]]).set st3.heap.length [AV.i 0,AV.s nm,AV.s ⟨#[]⟩],st3.tk⟩:=(M3.alloc _).set (fun h=>by omega) _
 have hs9:Sc ⟨(st3.heap++[[AV.i 0,AV.s ⟨#[]⟩,AV.s ⟨#[]⟩]]).set st3.heap.length [AV.i 0,AV.s nm,AV.s ⟨#[]⟩],st3.tk⟩ sc s j:=⟨(List.getElem?_set_ne (by omega)).trans (ap hs3.at'),hs3.le,hs3.max⟩
 intro t1 h1
 cases t1 with
 | true =>
  have e1:w=kHas:=h1.1 rfl
  rw [if_pos e1] at hG
  refine ⟨_,z1,?_⟩
  have w0:=ZBe (x:=[AV.i 1,AV.s nm,AV.s ⟨#[]⟩]) (m:=st3.heap.length) (by omega) z0
  have w1:=ZAY (x:=[AV.i 1,AV.s nm,AV.s ⟨#[]⟩]) z1
  refine ⟨_,w1,?_⟩
  refine ⟨_,w0,?_⟩
  have w2:=ZAY (x:=[AV.i 1,AV.s nm,AV.s ⟨#[]⟩]) w0
  refine ⟨_,w2,?_⟩
  refine hR (1,nm,⟨#[]⟩) _ (by exact hG) _ (Mv.set (Mv.set M9 (fun h=>by omega) _) (fun h=>by omega) _) ⟨(List.getElem?_set_ne (by omega)).trans ((List.getElem?_set_ne (by omega)).trans hs9.at'),hs9.le,hs9.max⟩
 | false =>
  have e1:¬ w=kHas:=fun e=>by have:=h1.2 e; cases this
  rw [if_neg e1] at hG
  intro t2 h2
  cases t2 with
  | true =>
   have e2:w=ZA8:=h2.1 rfl
   rw [if_pos e2] at hG
   refine ⟨_,z1,?_⟩
   have w0:=ZBe (x:=[AV.i 2,AV.s nm,AV.s ⟨#[]⟩]) (m:=st3.heap.length) (by omega) z0
   have w1:=ZAY (x:=[AV.i 2,AV.s nm,AV.s ⟨#[]⟩]) z1
   refine ⟨_,w1,?_⟩
   refine ⟨_,w0,?_⟩
   have w2:=ZAY (x:=[AV.i 2,AV.s nm,AV.s ⟨#[]⟩]) w0
   refine ⟨_,w2,?_⟩
   refine hR (2,nm,⟨#[]⟩) _ (by exact hG) _ (Mv.set (Mv.set M9 (fun h=>by omega) _) (fun h=>by omega) _) ⟨(List.getElem?_set_ne (by omega)).trans ((List.getElem?_set_ne (by omega)).trans hs9.at'),hs9.le,hs9.max⟩
  | false =>
   have e2:¬ w=ZA8:=fun e=>by have:=h2.2 e; cases this
   rw [if_neg e2] at hG
   intro t3 h3
   cases t3 with
   | true =>
    have e3:w=kIs:=h3.1 rfl
    rw [if_pos e3] at hG
    generalize hS:(⟨(st3.heap++[[AV.i 0,AV.s ⟨#[]⟩,AV.s ⟨#[]⟩]]).set st3.heap.length [AV.i 0,AV.s nm,AV.s ⟨#[]⟩],st3.tk⟩:St)=S9 at *
    have q0:S9.heap[st.heap.length]? = some [.i 0,.s ⟨#[]⟩,.s ⟨#[]⟩]:=by rw [<- hS]; exact z0
    have q1:S9.heap[st3.heap.length]? = some [.i 0,.s nm,.s ⟨#[]⟩]:=by rw [<- hS]; exact z1
    clear hS z0 z1
    refine .x (value_x hs9 (by omega) (M9.at' hr hne) hne M9.tl (fun v j9 hv st4 m4 hs4=>?_) (fun hv st4 m4=>?_))
    rotate_left
    ·rw [hv] at hG
     exact hX hG _ (M9.trans m4 (fun q _ e=>e))
    simp only [hv] at hG
    have M9:=M9.trans m4 (fun q _ e=>e)
    have z0:=m4.at' q0 (by omega)
    have z1:=m4.at' q1 (by omega)
    have hs9:=hs4
    refine ⟨_,z1,?_⟩
    have y0:=ZBe (x:=[AV.i 3,AV.s nm,AV.s ⟨#[]⟩]) (m:=st3.heap.length) (by omega) z0
    have y1:=ZAY (x:=[AV.i 3,AV.s nm,AV.s ⟨#[]⟩]) z1
    refine ⟨_,y1,?_⟩
    have w0:=ZBe (x:=[AV.i 3,AV.s nm,AV.s v]) (m:=st3.heap.length) (by omega) y0
    have w1:=ZAY (x:=[AV.i 3,AV.s nm,AV.s v]) y1
    refine ⟨_,w1,?_⟩
    refine ⟨_,w0,?_⟩
    have w2:=ZAY (x:=[AV.i 3,AV.s nm,AV.s v]) w0
    refine ⟨_,w2,?_⟩
    refine hR (3,nm,v) _ hG _ (Mv.set (Mv.set (Mv.set M9 (fun h=>by omega) _) (fun h=>by omega) _) (fun h=>by omega) _) ⟨(List.getElem?_set_ne (by omega)).trans ((List.getElem?_set_ne (by omega)).trans ((List.getElem?_set_ne (by omega)).trans hs9.at')),hs9.le,hs9.max⟩
   | false =>
    have e3:¬ w=kIs:=fun e=>by have:=h3.2 e; cases this
    rw [if_neg e3] at hG
    refine .x (ZFL 2 (hX hG _ M9))
/-- a template's cell -/
def pcI (pc:AV) (ps:List Prt):Prop:=pc=.sl .no 2 (prtL ps) \/ (pc=.nilS/\ps=[])
/-- what a deed does to the rule's variable -/
def ActR (n sc rd rx:Nat) (s:ByteArray) (c:List AV) (nm:ByteArray) (st:St) (R:AV->St->Prop) (o:Option (Ac × Nat)):Prop :=
 ∀ a j,o=some (a,j)->∀ st' pc,Mv n (fun q=>q=sc \/ q=rd \/ q=rx) st st'->Sc st' sc s j->st'.heap[rd]? = some [.ptr sc 0,.b a.2.2.2]->st'.heap[rx]? = some (c++[.i a.1,.s nm,.s a.2.1,pc])->pcI pc a.2.2.1->R (.tup []) st'
theorem set_x {rx:Nat} {sd gk:Int} {ga gb nm:ByteArray} (h:Sc st sc s k) (hm:s.size<1000000) (hr:st.heap[rd]? = some [.ptr sc 0,.b false]) (hx:st.heap[rx]? = some [AV.i sd,AV.i gk,AV.s ga,AV.s gb,.i 0,.s nm,.s ⟨#[]⟩,.nilS]) (hne:rd≠sc) (hn1:rx≠sc) (hn2:rx≠rd) (hn:n<=st.tk.length)
  (hR:ActR n sc rd rx s [AV.i sd,AV.i gk,AV.s ga,AV.s gb] nm st R (setS 1 s k)) (hX:setS 1 s k=none->∀ st',Mv n (fun q=>q=sc \/ q=rd \/ q=rx) st st'->X (flt 2) st') :
  ZAW Tryz.prog 231 [.ptr rd 0,.ptr rx 0] st R X:=by
 have hG:setS 1 s k=match ZCy s k with
  | none=>none
  | some (l,b,j)=>some ((1,⟨#[]⟩,l,b),j):=rfl
 refine ZAW.of_vcY (bv:=false) (esc:=fun _=>false) T_ok mixed Tryz.func231 rfl Tryz.call231 ?_
 refine .x (parts_x h hm hr hne hn (fun p b j hp st' m hs hr'=>?_) (fun hp st' m=>?_))
 ·simp only [hp] at hG
  have hx':=m.at' hx (fun e=>e.elim hn1 hn2)
  refine ⟨_,hx',?_⟩
  have x1:=ZAY (x:=[AV.i sd,AV.i gk,AV.s ga,AV.s gb,AV.i 1,AV.s nm,AV.s ⟨#[]⟩,AV.nilS]) hx'
  refine ⟨_,x1,?_⟩
  have x2:=ZAY (x:=[AV.i sd,AV.i gk,AV.s ga,AV.s gb,AV.i 1,AV.s nm,AV.s ⟨#[]⟩,AV.sl .no 2 (prtL p)]) x1
  refine hR _ _ hG _ _ (Mv.set (Mv.set (m.wide fun q _ e=>e.elim .inl (fun e=>.inr (.inl e))) (fun _=>.inr (.inr rfl)) _) (fun _=>.inr (.inr rfl)) _) ⟨(List.getElem?_set_ne hn1).trans ((List.getElem?_set_ne hn1).trans hs.at'),hs.le,hs.max⟩ ((List.getElem?_set_ne hn2).trans ((List.getElem?_set_ne hn2).trans hr')) x2 (.inl rfl)
 ·rw [hp] at hG
  exact hX hG _ (m.wide fun q _ e=>e.elim .inl (fun e=>.inr (.inl e)))
theorem add_x {rx:Nat} {sd gk:Int} {ga gb nm:ByteArray} (h:Sc st sc s k) (hm:s.size<1000000) (hr:st.heap[rd]? = some [.ptr sc 0,.b false]) (hx:st.heap[rx]? = some [AV.i sd,AV.i gk,AV.s ga,AV.s gb,.i 0,.s nm,.s ⟨#[]⟩,.nilS]) (hne:rd≠sc) (hn1:rx≠sc) (hn2:rx≠rd) (hn:n<=st.tk.length)
  (hR:ActR n sc rd rx s [AV.i sd,AV.i gk,AV.s ga,AV.s gb] nm st R (setS 2 s k)) (hX:setS 2 s k=none->∀ st',Mv n (fun q=>q=sc \/ q=rd \/ q=rx) st st'->X (flt 2) st') :
  ZAW Tryz.prog 232 [.ptr rd 0,.ptr rx 0] st R X:=by
 have hG:setS 2 s k=match ZCy s k with
  | none=>none
  | some (l,b,j)=>some ((2,⟨#[]⟩,l,b),j):=rfl
 refine ZAW.of_vcY (bv:=false) (esc:=fun _=>false) T_ok mixed Tryz.func232 rfl Tryz.call232 ?_
 refine .x (parts_x h hm hr hne hn (fun p b j hp st' m hs hr'=>?_) (fun hp st' m=>?_))
 ·simp only [hp] at hG
  have hx':=m.at' hx (fun e=>e.elim hn1 hn2)
  refine ⟨_,hx',?_⟩
  have x1:=ZAY (x:=[AV.i sd,AV.i gk,AV.s ga,AV.s gb,AV.i 2,AV.s nm,AV.s ⟨#[]⟩,AV.nilS]) hx'
  refine ⟨_,x1,?_⟩
  have x2:=ZAY (x:=[AV.i sd,AV.i gk,AV.s ga,AV.s gb,AV.i 2,AV.s nm,AV.s ⟨#[]⟩,AV.sl .no 2 (prtL p)]) x1
  refine hR _ _ hG _ _ (Mv.set (Mv.set (m.wide fun q _ e=>e.elim .inl (fun e=>.inr (.inl e))) (fun _=>.inr (.inr rfl)) _) (fun _=>.inr (.inr rfl)) _) ⟨(List.getElem?_set_ne hn1).trans ((List.getElem?_set_ne hn1).trans hs.at'),hs.le,hs.max⟩ ((List.getElem?_set_ne hn2).trans ((List.getElem?_set_ne hn2).trans hr')) x2 (.inl rfl)
 ·rw [hp] at hG
  exact hX hG _ (m.wide fun q _ e=>e.elim .inl (fun e=>.inr (.inl e)))
theorem remove_x {rx:Nat} {sd gk:Int} {ga gb nm:ByteArray} (h:Sc st sc s k) (hr:st.heap[rd]? = some [.ptr sc 0,.b false]) (hx:st.heap[rx]? = some [AV.i sd,AV.i gk,AV.s ga,AV.s gb,.i 0,.s nm,.s ⟨#[]⟩,.nilS]) (hn1:rx≠sc) (hn2:rx≠rd) (hn:n<=st.tk.length)
  (hR:ActR n sc rd rx s [AV.i sd,AV.i gk,AV.s ga,AV.s gb] nm st R (some ((3,⟨#[]⟩,[],false),k))) :
  ZAW Tryz.prog 233 [.ptr rd 0,.ptr rx 0] st R X:=by
 refine ZAW.of_vcY (bv:=false) (esc:=fun _=>false) T_ok mixed Tryz.func233 rfl Tryz.call233 ?_
 refine ⟨_,hx,?_⟩
 have x1:=ZAY (x:=[AV.i sd,AV.i gk,AV.s ga,AV.s gb,AV.i 3,AV.s nm,AV.s ⟨#[]⟩,AV.nilS]) hx
 refine hR _ _ rfl _ _ (Mv.set (Mv.refl hn) (fun _=>.inr (.inr rfl)) _) ⟨(List.getElem?_set_ne hn1).trans h.at',h.le,h.max⟩ ((List.getElem?_set_ne hn2).trans hr) x1 (.inr ⟨rfl,rfl⟩)
theorem rename_x {rx:Nat} {sd gk:Int} {ga gb nm:ByteArray} (h:Sc st sc s k) (hr:st.heap[rd]? = some [.ptr sc 0,.b false]) (hx:st.heap[rx]? = some [AV.i sd,AV.i gk,AV.s ga,AV.s gb,.i 0,.s nm,.s ⟨#[]⟩,.nilS]) (hne:rd≠sc) (hn1:rx≠sc) (hn2:rx≠rd) (hn:n<=st.tk.length)
  (hR:ActR n sc rd rx s [AV.i sd,AV.i gk,AV.s ga,AV.s gb] nm st R (renS s k)) (hX:renS s k=none->∀ st',Mv n (fun q=>q=sc \/ q=rd \/ q=rx) st st'->X (flt 2) st') :
  ZAW Tryz.prog 234 [.ptr rd 0,.ptr rx 0] st R X:=by
 have hG:renS s k=match ZCT s k with
  | none=>none
  | some (t,j)=>some ((4,t,[],false),j):=rfl
 refine ZAW.of_vcY (bv:=false) (esc:=fun _=>false) T_ok mixed Tryz.func234 rfl Tryz.call234 ?_
 refine .x (ZGN h hr hne hn (fun t j hp st' m hs=>?_) (fun hp st' m=>?_))
 ·simp only [hp] at hG
  have hx':=m.at' hx hn1
  refine ⟨_,hx',?_⟩
  have x1:=ZAY (x:=[AV.i sd,AV.i gk,AV.s ga,AV.s gb,AV.i 4,AV.s nm,AV.s ⟨#[]⟩,AV.nilS]) hx'
  refine ⟨_,x1,?_⟩
  have x2:=ZAY (x:=[AV.i sd,AV.i gk,AV.s ga,AV.s gb,AV.i 4,AV.s nm,AV.s t,AV.nilS]) x1
  refine hR _ _ hG _ _ (Mv.set (Mv.set (m.wide fun q _ e=>.inl e) (fun _=>.inr (.inr rfl)) _) (fun _=>.inr (.inr rfl)) _) ⟨(List.getElem?_set_ne hn1).trans ((List.getElem?_set_ne hn1).trans hs.at'),hs.le,hs.max⟩ ((List.getElem?_set_ne hn2).trans ((List.getElem?_set_ne hn2).trans (m.at' hr hne))) x2 (.inr ⟨rfl,rfl⟩)
 ·rw [hp] at hG
  exact hX hG _ (m.wide fun q _ e=>.inl e)
theorem side_x (h:Sc st sc s k) (hr:st.heap[rd]? = some [.ptr sc 0,l]) (hne:rd≠sc) (hn:n<=st.tk.length) (hR:∀ t j,ZGT s k=some (t,j)->∀ st',Mv n (·=sc) st st'->Sc st' sc s j->R (.i t) st') (hX:ZGT s k=none->∀ st',Mv n (·=sc) st st'->X (flt 2) st') :
  ZAW Tryz.prog 189 [.ptr rd 0] st R X:=by
 have hG:ZGT s k=match ZCT s k with
  | none=>none
  | some (w,j)=>if w=kReq then some (1,j) else if w=kRes then some (2,j) else none:=rfl
 refine ZAW.of_vcY (bv:=false) (esc:=fun _=>false) T_ok mixed Tryz.func189 rfl Tryz.call189 ?_
 refine .x (ZGN h hr hne hn (fun w j hp st' m hs=>?_) (fun hp st' m=>?_))
 rotate_left
 ·rw [hp] at hG
  exact hX hG _ m
 simp only [hp] at hG
 intro t1 h1
 cases t1 with
 | true =>
  have e1:w=kReq:=h1.1 rfl
  rw [if_pos e1] at hG
  exact hR _ _ hG _ m hs
 | false =>
  have e1:¬ w=kReq:=fun e=>by have:=h1.2 e; cases this
  rw [if_neg e1] at hG
  intro t2 h2
  cases t2 with
  | true =>
   have e2:w=kRes:=h2.1 rfl
   rw [if_pos e2] at hG
   exact hR _ _ hG _ m hs
  | false =>
   have e2:¬ w=kRes:=fun e=>by have:=h2.2 e; cases this
   rw [if_neg e2] at hG
   refine .x (ZFL 2 (hX hG _ m))
end
section
variable {st:St} {sc rd k n:Nat} {s:ByteArray} {l:AV} {R:AV->St->Prop} {X:List PanicEntry->St->Prop}
theorem act_x {w:ByteArray} {k0 rx:Nat} {sd gk:Int} {ga gb nm:ByteArray} (hk:ActK w k0) (h:Sc st sc s k) (hm:s.size<1000000) (hr:st.heap[rd]? = some [.ptr sc 0,.b false]) (hx:st.heap[rx]? = some [.i sd,.i gk,.s ga,.s gb,.i 0,.s nm,.s ⟨#[]⟩,.nilS]) (hne:rd≠sc) (hn1:rx≠sc) (hn2:rx≠rd) (hn:n<=st.tk.length)
  (hR:ActR n sc rd rx s [.i sd,.i gk,.s ga,.s gb] nm st R (actS w s k)) (hX:actS w s k=none->∀ st',Mv n (fun q=>q=sc \/ q=rd \/ q=rx) st st'->X (flt 2) st') :
  ZAW Tryz.prog k0 [.ptr rd 0,.ptr rx 0] st R X:=by
 have hG:actS w s k=if w=kSet then setS 1 s k else if w=kAdd then setS 2 s k else if w=kRem then some ((3,⟨#[]⟩,[],false),k) else if w=kRen then renS s k else none:=rfl
 rcases hk with ⟨rfl,rfl⟩ | ⟨rfl,rfl⟩ | ⟨rfl,rfl⟩ | ⟨rfl,rfl⟩
 ·rw [if_pos rfl] at hG
  rw [hG] at hR hX
  exact set_x h hm hr hx hne hn1 hn2 hn hR hX
 ·rw [if_neg (by decide +kernel),if_pos rfl] at hG
  rw [hG] at hR hX
  exact add_x h hm hr hx hne hn1 hn2 hn hR hX
 ·rw [if_neg (by decide +kernel),if_neg (by decide +kernel),if_pos rfl] at hG
  rw [hG] at hR
  exact remove_x h hr hx hn1 hn2 hn hR
 ·rw [if_neg (by decide +kernel),if_neg (by decide +kernel),if_neg (by decide +kernel),if_pos rfl] at hG
  rw [hG] at hR hX
  exact rename_x h hr hx hne hn1 hn2 hn hR hX
theorem pcI.w {pc:AV} {ps:List Prt} (h:pcI pc ps):ZCV pc (.sl .no 2 (prtL ps)):=by
 rcases h with rfl | ⟨rfl,rfl⟩
 ·exact .inl ⟨rfl,rfl⟩
 ·exact .inr ⟨rfl,2,rfl⟩
/-- what a rule's result is made of -/
def RlR (n sc rd:Nat) (st:St) (R:AV->St->Prop) (x:Rl):Prop :=
 ∀ st' pc,Mv n (fun q=>q=sc \/ q=rd) st st'->pcI pc x.ps->R (.agg [.i x.sd,.i x.gk,.s x.ga,.s x.gb,.i x.ac,.s x.nm,.s x.un,pc]) st'
theorem rule_x (h:Sc st sc s 0) (hsz:s.size<=100000) (hr:st.heap[rd]? = some [.ptr sc 0,.b false]) (hne:rd≠sc) (hn:n<=st.tk.length)
  (hR:∀ x,ZAT s=(x,0)->RlR n sc rd st R x) (hX:∀ e,ZAT s=(ZBw,e)->e≠0->∀ st',Mv n (fun q=>q=sc \/ q=rd) st st'->X (flt e) st') :
  ZAW Tryz.prog 154 [.ptr rd 0] st R X:=by
 have hm:s.size<1000000:=by omega
 have hlt:=h.lt
 have hrl:=ZBC hr
 have hP:ZAT s=match ZDa s with
  | none=>(ZBw,2)
  | some (x,b)=>if b=true then (ZBw,3) else if ZAO x=0 then (x,0) else (ZBw,ZAO x):=rfl
 have hG:ZDa s=match ZGT s (tw blkI s 0) with
  | none=>none
  | some (sd,i)=>match ZCT s i with
   | none=>none
   | some (w,j)=>if w=kIf then
     (match ZDo s j with
     | none=>none
     | some (g,k)=>match ZCT s k with
      | none=>none
      | some (w,k)=>ZFV s sd g w k)
    else ZFV s sd (0,⟨#[]⟩,⟨#[]⟩) w j:=rfl
 have hgap:gapS s 0=some (tw blkI s 0):=by unfold gapS; rw [if_neg (fun hh=>hh.2.1 rfl),Nat.zero_add]
 refine ZAW.of_vcY (bv:=false) (esc:=fun i=>Nat.beq i 7) T_ok mixed Tryz.func154 rfl Tryz.call154 ?_
 have m0:Mv n (fun _=>False) st ⟨st.heap++[[.i 0,.i 0,.s ⟨#[]⟩,.s ⟨#[]⟩,.i 0,.s ⟨#[]⟩,.s ⟨#[]⟩,.nilS]],st.tk⟩:=(Mv.refl hn).alloc _
 have M0:Mv n (fun q=>q=sc \/ q=rd) st ⟨st.heap++[[.i 0,.i 0,.s ⟨#[]⟩,.s ⟨#[]⟩,.i 0,.s ⟨#[]⟩,.s ⟨#[]⟩,.nilS]],st.tk⟩:=(Mv.refl hn).alloc _
 refine .x (gap_x (h.mv m0 (fun e=>e)) (m0.at' hr (fun e=>e)) hne m0.tl (fun j hj st1 m1 hs1=>?_) (fun hj st1 m1=>by rw [hgap] at hj; cases hj))
 rw [hgap] at hj
 cases hj
 have M1:=M0.trans m1 (fun q _ e=>.inl e)
 have p1:st1.heap[st.heap.length]? = some [.i 0,.i 0,.s ⟨#[]⟩,.s ⟨#[]⟩,.i 0,.s ⟨#[]⟩,.s ⟨#[]⟩,.nilS]:=m1.at' (ZAK _ _) (by omega)
 have r1:=m1.at' (m0.at' hr (fun e=>e)) hne
 refine .x (side_x hs1 r1 hne M1.tl (fun sd i hsd st2 m2 hs2=>?_) (fun hsd st2 m2=>?_))
 rotate_left
 ·simp only [hsd] at hG
  exact hX 2 (by rw [hP,hG]) (by decide) _ (M1.trans m2 (fun q _ e=>.inl e))
 simp only [hsd] at hG
 have M2:=M1.trans m2 (fun q _ e=>.inl e)
 have p2:=m2.at' p1 (by omega)
 have r2:=m2.at' r1 hne
 have l2:=ZBC p2
 refine ⟨_,ZAK _ _,?_⟩
 have x3:=ZAL st2.heap [AV.i 0,AV.i 0,AV.s ⟨#[]⟩,AV.s ⟨#[]⟩,AV.i 0,AV.s ⟨#[]⟩,AV.s ⟨#[]⟩,AV.nilS] [AV.i sd,AV.i 0,AV.s ⟨#[]⟩,AV.s ⟨#[]⟩,AV.i 0,AV.s ⟨#[]⟩,AV.s ⟨#[]⟩,AV.nilS]
 have M3:Mv n (fun q=>q=sc \/ q=rd) st ⟨(st2.heap++[[AV.i 0,AV.i 0,AV.s ⟨#[]⟩,AV.s ⟨#[]⟩,AV.i 0,AV.s ⟨#[]⟩,AV.s ⟨#[]⟩,AV.nilS]]).set st2.heap.length [AV.i sd,AV.i 0,AV.s ⟨#[]⟩,AV.s ⟨#[]⟩,AV.i 0,AV.s ⟨#[]⟩,AV.s ⟨#[]⟩,AV.nilS],st2.tk⟩:=(M2.alloc _).set (fun h=>by have:=M2.len; omega) _
 have hs3:Sc ⟨(st2.heap++[[AV.i 0,AV.i 0,AV.s ⟨#[]⟩,AV.s ⟨#[]⟩,AV.i 0,AV.s ⟨#[]⟩,AV.s ⟨#[]⟩,AV.nilS]]).set st2.heap.length [AV.i sd,AV.i 0,AV.s ⟨#[]⟩,AV.s ⟨#[]⟩,AV.i 0,AV.s ⟨#[]⟩,AV.s ⟨#[]⟩,AV.nilS],st2.tk⟩ sc s i:=⟨(List.getElem?_set_ne (by omega)).trans (ap hs2.at'),hs2.le,hs2.max⟩
 have r3:((st2.heap++[[AV.i 0,AV.i 0,AV.s ⟨#[]⟩,AV.s ⟨#[]⟩,AV.i 0,AV.s ⟨#[]⟩,AV.s ⟨#[]⟩,AV.nilS]]).set st2.heap.length [AV.i sd,AV.i 0,AV.s ⟨#[]⟩,AV.s ⟨#[]⟩,AV.i 0,AV.s ⟨#[]⟩,AV.s ⟨#[]⟩,AV.nilS])[rd]? = some [.ptr sc 0,.b false]:=(List.getElem?_set_ne (by omega)).trans (ap r2)
 have p3:((st2.heap++[[AV.i 0,AV.i 0,AV.s ⟨#[]⟩,AV.s ⟨#[]⟩,AV.i 0,AV.s ⟨#[]⟩,AV.s ⟨#[]⟩,AV.nilS]]).set st2.heap.length [AV.i sd,AV.i 0,AV.s ⟨#[]⟩,AV.s ⟨#[]⟩,AV.i 0,AV.s ⟨#[]⟩,AV.s ⟨#[]⟩,AV.nilS])[st.heap.length]? = _:=(List.getElem?_set_ne (by omega)).trans (ap p2)
 have M2l:=M2.len
 refine .x (ZGN hs3 r3 hne M3.tl (fun w j hw st4 m4 hs4=>?_) (fun hw st4 m4=>?_))
 rotate_left
 ·simp only [hw] at hG
  exact hX 2 (by rw [hP,hG]) (by decide) _ (M3.trans m4 (fun q _ e=>.inl e))
 simp only [hw] at hG
 have M4:=M3.trans (D:=(·=sc)) m4 (fun q _ e=>.inl e)
 have x4:=m4.at' x3 (by omega)
 have p4:=m4.at' p3 (by omega)
 have r4:=m4.at' r3 hne
 intro t ht
 cases t with
 | true =>
  have e1:w=kIf:=ht.1 rfl
  rw [if_pos e1] at hG
  refine .x (guard_x hs4 hm r4 hne M4.tl (fun g j5 hg st5 m5 hs5=>?_) (fun hg st5 m5=>?_))
  rotate_left
  ·simp only [hg] at hG
   exact hX 2 (by rw [hP,hG]) (by decide) _ (M4.trans m5 (fun q _ e=>.inl e))
  simp only [hg] at hG
  have M5:=M4.trans (D:=(·=sc)) m5 (fun q _ e=>.inl e)
  have x5:=m5.at' x4 (by omega)
  have p5:=m5.at' p4 (by omega)
  have r5:=m5.at' r4 hne
  refine ⟨_,x5,?_⟩
  have x6:=ZAY (x:=[AV.i sd,AV.i g.1,AV.s g.2.1,AV.s g.2.2,AV.i 0,AV.s ⟨#[]⟩,AV.s ⟨#[]⟩,AV.nilS]) x5
  have hs6:Sc ⟨st5.heap.set st2.heap.length [AV.i sd,AV.i g.1,AV.s g.2.1,AV.s g.2.2,AV.i 0,AV.s ⟨#[]⟩,AV.s ⟨#[]⟩,AV.nilS],st5.tk⟩ sc s j5:=⟨(List.getElem?_set_ne (by omega)).trans hs5.at',hs5.le,hs5.max⟩
  have M6:Mv n (fun q=>q=sc \/ q=rd) st ⟨st5.heap.set st2.heap.length [AV.i sd,AV.i g.1,AV.s g.2.1,AV.s g.2.2,AV.i 0,AV.s ⟨#[]⟩,AV.s ⟨#[]⟩,AV.nilS],st5.tk⟩:=Mv.set M5 (fun h=>by omega) _
  have r6:(st5.heap.set st2.heap.length [AV.i sd,AV.i g.1,AV.s g.2.1,AV.s g.2.2,AV.i 0,AV.s ⟨#[]⟩,AV.s ⟨#[]⟩,AV.nilS])[rd]? = some [.ptr sc 0,.b false]:=(List.getElem?_set_ne (by omega)).trans r5
  have p6:=(List.getElem?_set_ne (a:=[AV.i sd,AV.i g.1,AV.s g.2.1,AV.s g.2.2,AV.i 0,AV.s ⟨#[]⟩,AV.s ⟨#[]⟩,AV.nilS]) (i:=st2.heap.length) (j:=st.heap.length) (l:=st5.heap) (by omega)).trans p5
  refine .x (ZGN hs6 r6 hne M6.tl (fun w j hw st7 m7 hS=>?_) (fun hw st7 m7=>?_))
  rotate_left
  ·simp only [hw] at hG
   exact hX 2 (by rw [hP,hG]) (by decide) _ (M6.trans m7 (fun q _ e=>.inl e))
  simp only [hw] at hG
  have hT:ZDa s=ZFV s sd g w j:=hG
  have hxS:=m7.at' x6 (by omega)
  have hpS:=m7.at' p6 (by omega)
  have hrS:=m7.at' r6 hne
  have M:=M6.trans (D:=(·=sc)) m7 (fun q _ e=>.inl e)
  refine ZM1 (bv:=false) rfl ⟨rfl,rfl,rfl,rfl,rfl⟩ ⟨rfl,rfl,rfl⟩ ⟨rfl,rfl,rfl⟩ (by decide) rfl rfl (fun act ok ha=>?_)
  rcases ha with ⟨k0,hk0,rfl,rfl⟩ | ⟨n1,n2,n3,n4,rfl,rfl⟩
  rotate_left
  ·refine .x (ZCj false (fun e=>by cases e) (fun _=>hX 2 ?_ (by decide) _ M))
   have:ZDa s=none:=by
    rw [hT]
    unfold ZFV
    split
    ·rfl
    ·unfold actS
     rw [if_neg n1,if_neg n2,if_neg n3,if_neg n4]
   rw [hP,this]
  refine .x (ZCj true (fun _=>?_) (fun e=>by cases e))
  have hT2:ZDa s=match ZCT s j with
   | none=>none
   | some (nm,i)=>match actS w s i with
    | none=>none
    | some ((z,tz,ps,b),j)=>if j<s.size then none else some (⟨sd,g.1,g.2.1,g.2.2,z,nm,tz,ps⟩,b):=hT
  refine .x (ZGN hS hrS hne M.tl (fun nm i3 hnm st3 m3 hs3=>?_) (fun hnm st3 m3=>?_))
  rotate_left
  ·simp only [hnm] at hT2
   exact hX 2 (by rw [hP,hT2]) (by decide) _ (M.trans m3 (fun q _ e=>.inl e))
  simp only [hnm] at hT2
  have M3:=M.trans (D:=(·=sc)) m3 (fun q _ e=>.inl e)
  have x3:=m3.at' hxS (by omega)
  have p3:=m3.at' hpS (by omega)
  have r3:=m3.at' hrS hne
  refine ⟨_,x3,?_⟩
  have x4:=ZAY (x:=[AV.i sd,AV.i g.1,AV.s g.2.1,AV.s g.2.2,AV.i 0,AV.s nm,AV.s ⟨#[]⟩,AV.nilS]) x3
  have hs4:Sc ⟨st3.heap.set st2.heap.length [AV.i sd,AV.i g.1,AV.s g.2.1,AV.s g.2.2,AV.i 0,AV.s nm,AV.s ⟨#[]⟩,AV.nilS],st3.tk⟩ sc s i3:=⟨(List.getElem?_set_ne (by omega)).trans hs3.at',hs3.le,hs3.max⟩
  have M4:Mv n (fun q=>q=sc \/ q=rd) st ⟨st3.heap.set st2.heap.length [AV.i sd,AV.i g.1,AV.s g.2.1,AV.s g.2.2,AV.i 0,AV.s nm,AV.s ⟨#[]⟩,AV.nilS],st3.tk⟩:=Mv.set M3 (fun h=>by omega) _
  have r4:(st3.heap.set st2.heap.length [AV.i sd,AV.i g.1,AV.s g.2.1,AV.s g.2.2,AV.i 0,AV.s nm,AV.s ⟨#[]⟩,AV.nilS])[rd]? = some [.ptr sc 0,.b false]:=(List.getElem?_set_ne (by omega)).trans r3
  have p4:=(List.getElem?_set_ne (a:=[AV.i sd,AV.i g.1,AV.s g.2.1,AV.s g.2.2,AV.i 0,AV.s nm,AV.s ⟨#[]⟩,AV.nilS]) (i:=st2.heap.length) (j:=st.heap.length) (l:=st3.heap) (by omega)).trans p3
  refine .x (act_x hk0 hs4 hm r4 x4 hne (by omega) (by omega) M4.tl (fun a j haj st5 pc m5 hs5 r5 x5 hpc=>?_) (fun haj st5 m5=>?_))
  rotate_left
  ·simp only [haj] at hT2
   exact hX 2 (by rw [hP,hT2]) (by decide) _ (M4.trans m5 (fun q hq e=>by omega))
  obtain ⟨z,tz,ps,b⟩:=a
  simp only [haj] at hT2
  have M5:=M4.trans m5 (fun q hq e=>by omega)
  have p5:=m5.at' p4 (by omega)
  refine ⟨_,r5,?_⟩
  refine .s (ZLF hs5 ?_)
  refine .x (ZCj _ (fun he=>?_) (fun he=>?_))
  rotate_left
  ·have he:=of_decide_eq_false he
   rw [if_pos (by omega)] at hT2
   exact hX 2 (by rw [hP,hT2]) (by decide) _ M5
  have he:=of_decide_eq_true he
  rw [if_neg (by omega)] at hT2
  have hok:=ZIf hsz hT2
  rw [hT2] at hP
  refine ⟨_,r5,?_⟩
  cases b with
  | true =>
   refine .x (ZFL 3 (hX 3 ?_ (by decide) _ M5))
   rw [hP]; rfl
  | false =>
   have x6:=x5
   have p6:=p5
   have M6:=M5
   have hP:ZAT s=if ZAO ⟨sd,g.1,g.2.1,g.2.2,z,nm,tz,ps⟩=0 then (⟨sd,g.1,g.2.1,g.2.2,z,nm,tz,ps⟩,0) else (ZBw,ZAO ⟨sd,g.1,g.2.1,g.2.2,z,nm,tz,ps⟩):=hP
   rcases hpc with rfl | ⟨rfl,hps⟩
   ·skip
    refine ⟨_,x6,?_⟩
    refine .w (args':=[(⟨sd,g.1,g.2.1,g.2.2,z,nm,tz,ps⟩:Rl).av]) rfl ⟨.inl (.inr ⟨_,_,rfl,rfl,.inl ⟨rfl,rfl⟩,.inl ⟨rfl,rfl⟩,.inl ⟨rfl,rfl⟩,.inl ⟨rfl,rfl⟩,.inl ⟨rfl,rfl⟩,.inl ⟨rfl,rfl⟩,.inl ⟨rfl,rfl⟩,.inl ⟨rfl,rfl⟩,trivial⟩),trivial⟩ (ZD7 _ hok) ?_
    refine ZAA (fun hc=>?_) (fun hc=>?_)
    ·have hc:ZAO ⟨sd,g.1,g.2.1,g.2.2,z,nm,tz,ps⟩≠0:=by simpa using hc
     rw [if_neg hc] at hP
     refine .x (ZFL _ (hX _ hP hc _ M6))
    ·have hc:ZAO ⟨sd,g.1,g.2.1,g.2.2,z,nm,tz,ps⟩=0:=by simpa using hc
     rw [if_pos hc] at hP
     refine ⟨_,x6,?_⟩
     refine ⟨_,p6,?_⟩
     have p7:=ZAY (x:=[AV.i sd,AV.i g.1,AV.s g.2.1,AV.s g.2.2,AV.i z,AV.s nm,AV.s tz,AV.sl .no 2 (prtL ps)]) p6
     refine ⟨_,p7,?_⟩
     exact hR _ hP _ _ (Mv.set M6 (fun h=>by omega) _) (.inl rfl)
   ·have hps:ps=[]:=hps
    subst hps
    refine ⟨_,x6,?_⟩
    refine .w (args':=[(⟨sd,g.1,g.2.1,g.2.2,z,nm,tz,[]⟩:Rl).av]) rfl ⟨.inl (.inr ⟨_,_,rfl,rfl,.inl ⟨rfl,rfl⟩,.inl ⟨rfl,rfl⟩,.inl ⟨rfl,rfl⟩,.inl ⟨rfl,rfl⟩,.inl ⟨rfl,rfl⟩,.inl ⟨rfl,rfl⟩,.inl ⟨rfl,rfl⟩,.inr ⟨rfl,2,rfl⟩,trivial⟩),trivial⟩ (ZD7 _ hok) ?_
    refine ZAA (fun hc=>?_) (fun hc=>?_)
    ·have hc:ZAO ⟨sd,g.1,g.2.1,g.2.2,z,nm,tz,[]⟩≠0:=by simpa using hc
     rw [if_neg hc] at hP
     refine .x (ZFL _ (hX _ hP hc _ M6))
    ·have hc:ZAO ⟨sd,g.1,g.2.1,g.2.2,z,nm,tz,[]⟩=0:=by simpa using hc
     rw [if_pos hc] at hP
     refine ⟨_,x6,?_⟩
     refine ⟨_,p6,?_⟩
     have p7:=ZAY (x:=[AV.i sd,AV.i g.1,AV.s g.2.1,AV.s g.2.2,AV.i z,AV.s nm,AV.s tz,AV.nilS]) p6
     refine ⟨_,p7,?_⟩
     exact hR _ hP _ _ (Mv.set M6 (fun h=>by omega) _) (.inr ⟨rfl,rfl⟩)
 | false =>
  have e1:¬ w=kIf:=fun e=>by have:=ht.2 e; cases this
  rw [if_neg e1] at hG
  obtain ⟨g,hg⟩:∃ g:Gd,g=(0,⟨#[]⟩,⟨#[]⟩):=⟨_,rfl⟩
  have hT:ZDa s=ZFV s sd g w j:=by rw [hg]; exact hG
  have hxS:st4.heap[st2.heap.length]? = some [.i sd,.i g.1,.s g.2.1,.s g.2.2,.i 0,.s ⟨#[]⟩,.s ⟨#[]⟩,.nilS]:=by rw [hg]; exact x4
  have hS:=hs4
  have hrS:=r4
  have hpS:=p4
  have M:=M4
  refine ZM1 (bv:=false) rfl ⟨rfl,rfl,rfl,rfl,rfl⟩ ⟨rfl,rfl,rfl⟩ ⟨rfl,rfl,rfl⟩ (by decide) rfl rfl (fun act ok ha=>?_)
  rcases ha with ⟨k0,hk0,rfl,rfl⟩ | ⟨n1,n2,n3,n4,rfl,rfl⟩
  rotate_left
  ·refine .x (ZCj false (fun e=>by cases e) (fun _=>hX 2 ?_ (by decide) _ M))
   have:ZDa s=none:=by
    rw [hT]
    unfold ZFV
    split
    ·rfl
    ·unfold actS
     rw [if_neg n1,if_neg n2,if_neg n3,if_neg n4]
   rw [hP,this]
  refine .x (ZCj true (fun _=>?_) (fun e=>by cases e))
  have hT2:ZDa s=match ZCT s j with
   | none=>none
   | some (nm,i)=>match actS w s i with
    | none=>none
    | some ((z,tz,ps,b),j)=>if j<s.size then none else some (⟨sd,g.1,g.2.1,g.2.2,z,nm,tz,ps⟩,b):=hT
  refine .x (ZGN hS hrS hne M.tl (fun nm i3 hnm st3 m3 hs3=>?_) (fun hnm st3 m3=>?_))
  rotate_left
  ·simp only [hnm] at hT2
   exact hX 2 (by rw [hP,hT2]) (by decide) _ (M.trans m3 (fun q _ e=>.inl e))
  simp only [hnm] at hT2
  have M3:=M.trans (D:=(·=sc)) m3 (fun q _ e=>.inl e)
  have x3:=m3.at' hxS (by omega)
  have p3:=m3.at' hpS (by omega)
  have r3:=m3.at' hrS hne
  refine ⟨_,x3,?_⟩
  have x4:=ZAY (x:=[AV.i sd,AV.i g.1,AV.s g.2.1,AV.s g.2.2,AV.i 0,AV.s nm,AV.s ⟨#[]⟩,AV.nilS]) x3
  have hs4:Sc ⟨st3.heap.set st2.heap.length [AV.i sd,AV.i g.1,AV.s g.2.1,AV.s g.2.2,AV.i 0,AV.s nm,AV.s ⟨#[]⟩,AV.nilS],st3.tk⟩ sc s i3:=⟨(List.getElem?_set_ne (by omega)).trans hs3.at',hs3.le,hs3.max⟩
  have M4:Mv n (fun q=>q=sc \/ q=rd) st ⟨st3.heap.set st2.heap.length [AV.i sd,AV.i g.1,AV.s g.2.1,AV.s g.2.2,AV.i 0,AV.s nm,AV.s ⟨#[]⟩,AV.nilS],st3.tk⟩:=Mv.set M3 (fun h=>by omega) _
  have r4:(st3.heap.set st2.heap.length [AV.i sd,AV.i g.1,AV.s g.2.1,AV.s g.2.2,AV.i 0,AV.s nm,AV.s ⟨#[]⟩,AV.nilS])[rd]? = some [.ptr sc 0,.b false]:=(List.getElem?_set_ne (by omega)).trans r3
  have p4:=(List.getElem?_set_ne (a:=[AV.i sd,AV.i g.1,AV.s g.2.1,AV.s g.2.2,AV.i 0,AV.s nm,AV.s ⟨#[]⟩,AV.nilS]) (i:=st2.heap.length) (j:=st.heap.length) (l:=st3.heap) (by omega)).trans p3
  refine .x (act_x hk0 hs4 hm r4 x4 hne (by omega) (by omega) M4.tl (fun a j haj st5 pc m5 hs5 r5 x5 hpc=>?_) (fun haj st5 m5=>?_))
  rotate_left
  ·simp only [haj] at hT2
   exact hX 2 (by rw [hP,hT2]) (by decide) _ (M4.trans m5 (fun q hq e=>by omega))
  obtain ⟨z,tz,ps,b⟩:=a
  simp only [haj] at hT2
  have M5:=M4.trans m5 (fun q hq e=>by omega)
  have p5:=m5.at' p4 (by omega)
  refine ⟨_,r5,?_⟩
  refine .s (ZLF hs5 ?_)
  refine .x (ZCj _ (fun he=>?_) (fun he=>?_))
  rotate_left
  ·have he:=of_decide_eq_false he
   rw [if_pos (by omega)] at hT2
   exact hX 2 (by rw [hP,hT2]) (by decide) _ M5
  have he:=of_decide_eq_true he
  rw [if_neg (by omega)] at hT2
  have hok:=ZIf hsz hT2
  rw [hT2] at hP
  refine ⟨_,r5,?_⟩
  cases b with
  | true =>
   refine .x (ZFL 3 (hX 3 ?_ (by decide) _ M5))
   rw [hP]; rfl
  | false =>
   have x6:=x5
   have p6:=p5
   have M6:=M5
   have hP:ZAT s=if ZAO ⟨sd,g.1,g.2.1,g.2.2,z,nm,tz,ps⟩=0 then (⟨sd,g.1,g.2.1,g.2.2,z,nm,tz,ps⟩,0) else (ZBw,ZAO ⟨sd,g.1,g.2.1,g.2.2,z,nm,tz,ps⟩):=hP
   rcases hpc with rfl | ⟨rfl,hps⟩
   ·skip
    refine ⟨_,x6,?_⟩
    refine .w (args':=[(⟨sd,g.1,g.2.1,g.2.2,z,nm,tz,ps⟩:Rl).av]) rfl ⟨.inl (.inr ⟨_,_,rfl,rfl,.inl ⟨rfl,rfl⟩,.inl ⟨rfl,rfl⟩,.inl ⟨rfl,rfl⟩,.inl ⟨rfl,rfl⟩,.inl ⟨rfl,rfl⟩,.inl ⟨rfl,rfl⟩,.inl ⟨rfl,rfl⟩,.inl ⟨rfl,rfl⟩,trivial⟩),trivial⟩ (ZD7 _ hok) ?_
    refine ZAA (fun hc=>?_) (fun hc=>?_)
    ·have hc:ZAO ⟨sd,g.1,g.2.1,g.2.2,z,nm,tz,ps⟩≠0:=by simpa using hc
     rw [if_neg hc] at hP
     refine .x (ZFL _ (hX _ hP hc _ M6))
    ·have hc:ZAO ⟨sd,g.1,g.2.1,g.2.2,z,nm,tz,ps⟩=0:=by simpa using hc
     rw [if_pos hc] at hP
     refine ⟨_,x6,?_⟩
     refine ⟨_,p6,?_⟩
     have p7:=ZAY (x:=[AV.i sd,AV.i g.1,AV.s g.2.1,AV.s g.2.2,AV.i z,AV.s nm,AV.s tz,AV.sl .no 2 (prtL ps)]) p6
     refine ⟨_,p7,?_⟩
     exact hR _ hP _ _ (Mv.set M6 (fun h=>by omega) _) (.inl rfl)
   ·have hps:ps=[]:=hps
    subst hps
    refine ⟨_,x6,?_⟩
    refine .w (args':=[(⟨sd,g.1,g.2.1,g.2.2,z,nm,tz,[]⟩:Rl).av]) rfl ⟨.inl (.inr ⟨_,_,rfl,rfl,.inl ⟨rfl,rfl⟩,.inl ⟨rfl,rfl⟩,.inl ⟨rfl,rfl⟩,.inl ⟨rfl,rfl⟩,.inl ⟨rfl,rfl⟩,.inl ⟨rfl,rfl⟩,.inl ⟨rfl,rfl⟩,.inr ⟨rfl,2,rfl⟩,trivial⟩),trivial⟩ (ZD7 _ hok) ?_
    refine ZAA (fun hc=>?_) (fun hc=>?_)
    ·have hc:ZAO ⟨sd,g.1,g.2.1,g.2.2,z,nm,tz,[]⟩≠0:=by simpa using hc
     rw [if_neg hc] at hP
     refine .x (ZFL _ (hX _ hP hc _ M6))
    ·have hc:ZAO ⟨sd,g.1,g.2.1,g.2.2,z,nm,tz,[]⟩=0:=by simpa using hc
     rw [if_pos hc] at hP
     refine ⟨_,x6,?_⟩
     refine ⟨_,p6,?_⟩
     have p7:=ZAY (x:=[AV.i sd,AV.i g.1,AV.s g.2.1,AV.s g.2.2,AV.i z,AV.s nm,AV.s tz,AV.nilS]) p6
     refine ⟨_,p7,?_⟩
     exact hR _ hP _ _ (Mv.set M6 (fun h=>by omega) _) (.inr ⟨rfl,rfl⟩)
end
theorem ZJa (p q:Value) (w:World):CallsD Tryz.prog 153 #[p,q] .returning w fun e u' w'=>e=.returned (.tuple #[])/\u'=.returning/\w'=w:=by
 refine callsD_of_wpS Tryz.func153 rfl fun c₀ cs hu=>?_
 apply wpS_seq
 apply wpS_region
 simp [wpOpsS,go_sem,recoverD,hu,Tryz.ntmps153,Exit.thenS]
 apply wpS_seq
 apply wpS_region
 simp [wpOpsS,go_sem,Exit.thenS]
 refine wpS_cond (t:=false) (by simp [Act.eval]) ?_
 simp only [Bool.false_eq_true,if_false]
 refine wpS_of_wp (wp_skip ?_)
 cases c₀
 simp_all [bodyPostS,results,Tryz.results153]
theorem FrAt.lits {base:Nat} {J:Nat->Nat->Prop} {st:St} {μ:Nat->Nat} {σ:Nat->Tkt} {w:World} (tm:Array Value):FrAt base J st μ σ w (tm.toList.map AV.lit) tm:=by
 refine ⟨by simp,fun i a v h1 h2=>?_⟩
 simp only [List.getElem?_map,Option.map_eq_some_iff] at h1
 obtain ⟨x,hx,rfl⟩:=h1
 rw [Array.getElem?_toList,h2] at hx
 cases hx
 exact .lit _
def zc:List AV:=[.i 0,.i 0,.s ⟨#[]⟩,.s ⟨#[]⟩,.i 0,.s ⟨#[]⟩,.s ⟨#[]⟩,.nilS]
theorem ZIV {base:Nat} {J:Nat->Nat->Prop} {w0:World} {st:St} {μ:Nat->Nat} {σ:Nat->Tkt} {w:World} (hok:Ok base J w0 st μ σ w) (h0:st.heap[0]? = some zc) (h1:st.heap[1]? = some [.i 0]) (er:Int) :
  CallsD Tryz.prog 153 #[.pointer (some ⟨μ 0,0,none⟩),.pointer (some ⟨μ 1,0,none⟩)] (.panicking (flt er)) w fun e u' w'=>e=.returned (.tuple #[])/\settle u'=.returning /\
   ∃ μ' σ',Ok base J w0 ⟨(st.heap.set 0 zc).set 1 [.i er],st.tk⟩ μ' σ' w'/\Ext base J st μ σ w ⟨(st.heap.set 0 zc).set 1 [.i er],st.tk⟩ μ' σ' w':=by
 refine callsD_of_wpS Tryz.func153 rfl fun c₀ cs hu=>?_
 unfold flt at hu
 apply wpS_seq
 apply wpS_region
 simp [wpOpsS,go_sem,recoverD,hu,Tryz.ntmps153,Exit.thenS]
 apply wpS_seq
 apply wpS_region
 simp [wpOpsS,go_sem,Exit.thenS]
 refine wpS_cond (t:=true) (by simp [Act.eval]) ?_
 simp only [if_true]
 have f0:FrAt base J st μ σ w _ _:=FrAt.lits #[Value.pointer (some ⟨μ 0,0,none⟩),Value.pointer (some ⟨μ 1,0,none⟩),.iface 203 (.agg #[.int .i64 er]),.iface 203 (.agg #[.int .i64 er]),.iface 203 (.agg #[.int .i64 er]),.bool true,undef,undef,undef,undef]
 have f1:=f0.put (a:=⟨#[Value.pointer (some ⟨μ 0,0,none⟩),Value.pointer (some ⟨μ 1,0,none⟩),.iface 203 (.agg #[.int .i64 er]),.iface 203 (.agg #[.int .i64 er]),.iface 203 (.agg #[.int .i64 er]),.bool true,undef,undef,undef,undef],[]⟩) (some 0) (.ptr 0 0 (ZBC h0))
 have f2:=f1.put (a:=⟨#[Value.pointer (some ⟨μ 0,0,none⟩),Value.pointer (some ⟨μ 1,0,none⟩),.iface 203 (.agg #[.int .i64 er]),.iface 203 (.agg #[.int .i64 er]),.iface 203 (.agg #[.int .i64 er]),.bool true,undef,undef,undef,undef],[]⟩) (some 1) (.ptr 1 0 (ZBC h1))
 have f3:FrAt base J st μ σ w [.ptr 0 0,.ptr 1 0,.lit (.iface 203 (.agg #[.int .i64 er])),.lit (.iface 203 (.agg #[.int .i64 er])),.lit (.iface 203 (.agg #[.int .i64 er])),.b true,.un,.un,.un,.un] _:=f2
 refine wpS_of_wp (wp_mono (ZG7 (bv:=false) (esc:=fun _=>false) (D:=[]) T_ok mixed _ (fun e _ st'=>e=.normal/\st'=⟨(st.heap.set 0 zc).set 1 [.i er],st.tk⟩) _ st μ σ _ w ?_ hok f3 rfl) fun e a' w' hr=>?_)
 ·refine .e (by kernel_rfl) ?_
  refine ⟨_,h0,?_⟩
  refine ⟨_,ZBe (x:=zc) (by decide) h1,?_⟩
  exact ⟨rfl,rfl⟩
 ·obtain ⟨fr',st',μ',σ',⟨rfl,rfl⟩,q2,q3,q4,q5⟩:=hr
  refine ⟨q5,_,rfl,.tuple #[],by simp [results,Tryz.results153],rfl,rfl,μ',σ',q2,q3⟩
theorem frame_at {base:Nat} {J:Nat->Nat->Prop} {st:St} {μ:Nat->Nat} {σ:Nat->Tkt} {w:World} {fn:Func} {args:List AV} {vs:Array Value} (hl:args.length=vs.size) (ha:∀ (j:Nat) a v,args[j]? = some a->vs[j]? = some v->At base J st μ σ w a v) :
  FrAt base J st μ σ w (ZGy fn args) (vs++Array.replicate (fn.ntmps - vs.size) undef):=by
 refine ⟨by simp [ZGy,hl],fun i a v h1 h2=>?_⟩
 simp only [ZGy,List.getElem?_append,hl] at h1
 rw [Array.getElem?_append] at h2
 by_cases hi:i<vs.size
 ·rw [if_pos hi] at h1 h2
  exact ha i a v h1 h2
 ·rw [if_neg hi] at h1 h2
  rw [List.getElem?_replicate] at h1
  rw [Array.getElem?_replicate] at h2
  split at h1
  ·split at h2
   ·cases h1; cases h2; exact .lit _
   ·rename_i q1 q2; exact absurd q1 q2
  ·cases h1
/-- a result, said less of -/
def resV (r' r:AV):Prop:=argW r' r \/ ∃ us vs,r'=.tup us/\r=.tup vs/\ZCW us vs
theorem resV.at {base:Nat} {J:Nat->Nat->Prop} {w0:World} {st:St} {μ:Nat->Nat} {σ:Nat->Tkt} {w:World} (hok:Ok base J w0 st μ σ w) {r' r:AV} {v:Value} (h:At base J st μ σ w r' v) (hR:resV r' r):At base J ⟨[],[]⟩ (fun _=>0) (fun _=>⟨0,0,0⟩) w r v:=by
 have hi:∀ g x,Im base J st μ σ g x->g<w.heap.size->Im base J ⟨[],[]⟩ (fun _=>0) (fun _=>⟨0,0,0⟩) g x:=fun g x hi _=>⟨hi.1,fun p hp=>by simp at hp,fun t e ht=>by simp at ht⟩
 rcases hR with hR | ⟨us,vs,rfl,rfl,hR⟩
 ·exact ZLe h hi hR
 ·cases h with
  | tup cs zs e1 hr =>
   refine .tup _ zs (hR.length.symm.trans e1) fun j a u hja hju=>?_
   obtain ⟨b,hb,hbw⟩:=hR.get j a hja
   exact ZLe (hr j b u hb hju) hi hbw
theorem Ok.strip0 {base:Nat} {J:Nat->Nat->Prop} {w0:World} {st:St} {μ:Nat->Nat} {σ:Nat->Tkt} {w:World} (hok:Ok base J w0 st μ σ w):Ok base J w0 ⟨[],[]⟩ (fun _=>0) (fun _=>⟨0,0,0⟩) w :=
 ⟨hok.bs,hok.below,fun p cs h=>by simp at h,fun p q h=>by simp at h,fun t e h=>by simp at h⟩
theorem ZAC.ofG {P:Program} {f:FuncId} {args:List AV} {r0:AV} (hd:r0.res=true) (h:ZAB P f args ⟨[],[]⟩ fun r' _=>resV r' r0):ZAC P f args r0 []:=by
 refine ⟨hd,h.1,fun J w vs hw hl ha=>?_⟩
 refine (h.2 w.heap.size J w (fun _=>0) (fun _=>⟨0,0,0⟩) w vs (Ok.none J _ _ w hw) hl ha).mono ?_
 rintro e w' ⟨v,r',st',μ',σ',rfl,hR,hok,hx,hat⟩
 exact ⟨v,_,rfl,hok.strip0,resV.at hok hat hR⟩
theorem ZMw {T:Tab} {a:Nat} {t:TypeId} {fr:Fr} {st:St} {K:AV->Prop} {i:TI} {p off:Nat} (hT:T t=some i) (hf:fr.getD a .un=.ptr p off) (h:∃ cs,st.heap[p]? = some cs/\ldA i cs off K):ZKb T (.cell a t) fr st K:=by
 simp only [ZKb,hT,hf]
 exact h
theorem ld_all {i:TI} {cs:List AV} {K:AV->Prop} (h:ZII i.desc=true) (hl:cs.length=i.size) (hK:K (.agg cs)):ldA i cs 0 K:=by
 unfold ldA
 rw [h]
 simp only
 rw [decide_eq_true (by omega)]
 rw [List.drop_zero,List.take_of_length_le (by omega)]
 exact ZAQ.2 hK
theorem parseP_p (s:ByteArray) (hs:s.size<=100000):ZAC Tryz.prog 117 [.s s] (.tup [(ZAT s).1.av,.i (ZAT s).2]) []:=by
 refine ⟨rfl,Tryz.call117,fun J w vs hw hl ha=>?_⟩
 refine calls_of_wp_defers Tryz.func117 rfl ?_
 refine wp_seq (wp_mono (ZMX T_ok mixed _ (fun e fr st=>e=.normal/\fr=[.s s,.un,.ptr 0 0,.ptr 1 0,.un,.un,.un,.un,.un,.un,.un,.un]/\st=⟨[zc,[.i 0]],[]⟩) (ZGy Tryz.f117 [.s s]) ⟨[],[]⟩ (fun _=>0) (fun _=>⟨0,0,0⟩) _ w ⟨rfl,rfl,rfl⟩ (Ok.none J _ _ w hw) (frame_at hl ha) rfl) fun e a1 w1 hr=>?_)
 obtain ⟨fr',st',μ1,σ1,⟨rfl,rfl,rfl⟩,ok1,ext1,hf1,hd1⟩:=hr
 have h2:At w.heap.size J _ μ1 σ1 w1 (.ptr 0 0) (a1.eval (.tmp 2)):=hf1.ev (.tmp 2)
 have h3:At w.heap.size J _ μ1 σ1 w1 (.ptr 1 0) (a1.eval (.tmp 3)):=hf1.ev (.tmp 3)
 generalize hv2:a1.eval (.tmp 2)=v2 at h2
 generalize hv3:a1.eval (.tmp 3)=v3 at h3
 cases h2
 cases h3
 refine wp_seq (wp_region_list ?_)
 have wn:∀ (o:Oper) y,o.guard=none->Region.wanted o y=true:=fun o y hg=>by simp [Region.wanted,hg]
 obtain ⟨V,hV⟩:∃ V:Value,V=.func (.func 153) #[] #[.pointer (some ⟨μ1 0,0,none⟩),.pointer (some ⟨μ1 1,0,none⟩)]:=⟨_,rfl⟩
 have hsz:a1.tmps.size=12:=hf1.1.symm
 have hv5:(a1.put (some 5) V).eval (.tmp 5)=V:=by
  simp [Act.eval,Act.put,Array.getD_eq_getD_getElem?,Array.getElem?_setIfInBounds,hsz]
 have r1:∀ o:Oper,o.op=.makeFunc (.func 153) #[] #[.tmp 2,.tmp 3]->(execOp a1.eval o).run Tryz.prog w1=.ok (.value V) w1:=fun o ho=>by simp [execOp,ho,Instr.makeFunc,hv2,hv3,hV]
 have r2:∀ o:Oper,o.op=.defer { callee:=.value (.tmp 5),args:=#[],argTypes:=#[] }->(execOp (a1.put (some 5) V).eval o).run Tryz.prog w1=.ok (.defer { target:=.fn (.func 153) #[.pointer (some ⟨μ1 0,0,none⟩),.pointer (some ⟨μ1 1,0,none⟩)],args:=#[] }) w1:=fun o ho=>by
  simp [execOp,ho,resolve,hv5.trans hV,Deferred.ofValue]
 simp only [wpList]
 rw [if_pos (wn _ _ rfl)]
 refine .inl ?_
 unfold Oper.wp
 rw [r1 _ rfl]
 simp only [Oper.upon]
 rw [if_pos (wn _ _ rfl)]
 refine .inl ?_
 rw [r2 _ rfl]
 simp only [Oper.upon]
 show Code.wp _ _ _ _ _
 have hf2:FrAt w.heap.size J _ μ1 σ1 w1 [.s s,.un,.ptr 0 0,.ptr 1 0,.un,.top,.un,.un,.un,.un,.un,.un] (a1.put (some 5) V).tmps:=hf1.put (some 5) (.top V)
 have hde:(a1.put (some 5) V).defers=[]:=by rw [Act.put_defers',hd1]
 refine wp_mono (ZG7 (bv:=false) (esc:=fun _=>false) T_ok mixed _ (fun e fr st'=>fr.getD 2 .un=.ptr 0 0/\fr.getD 3 .un=.ptr 1 0 /\
  ((e=.ret/\(ZAT s).2=0/\∃ pc,pcI pc (ZAT s).1.ps/\st'.heap[0]? = some [.i (ZAT s).1.sd,.i (ZAT s).1.gk,.s (ZAT s).1.ga,.s (ZAT s).1.gb,.i (ZAT s).1.ac,.s (ZAT s).1.nm,.s (ZAT s).1.un,pc]/\st'.heap[1]? = some [.i 0]) \/
    (∃ er,e=.panic (flt er)/\ZAT s=(ZBw,er)/\st'.heap[0]? = some zc/\st'.heap[1]? = some [.i 0]))) _ ⟨[zc,[.i 0]],[]⟩ μ1 σ1 _ w1 ?_ ok1 hf2 rfl) fun e a' w' hr=>?_
 ·refine .s (new_a ?_)
  refine ⟨by show 2<3; decide,?_⟩
  have hS:Sc ⟨[zc,[.i 0]]++[[.s s,.i 0]]++[[.ptr 2 0,.b false]],[]⟩ 2 s 0:=⟨rfl,Nat.zero_le _,by unfold maxLen; omega⟩
  refine .x (rule_x (rd:=3) (n:=0) hS hs rfl (by decide) (Nat.zero_le _) (fun x hx st' pc m hpc=>?_) (fun e he hne st' m=>?_))
  ·have q0:st'.heap[0]? = some zc:=m.at' rfl (by omega)
   have q1:st'.heap[1]? = some [.i 0]:=m.at' rfl (by omega)
   have fin:∀ st2:St,st2.heap[0]? = some [.i x.sd,.i x.gk,.s x.ga,.s x.gb,.i x.ac,.s x.nm,.s x.un,pc]->st2.heap[1]? = some [.i 0]->(ZAT s).2=0/\∃ pc,pcI pc (ZAT s).1.ps/\st2.heap[0]? = some [.i (ZAT s).1.sd,.i (ZAT s).1.gk,.s (ZAT s).1.ga,.s (ZAT s).1.gb,.i (ZAT s).1.ac,.s (ZAT s).1.nm,.s (ZAT s).1.un,pc]/\st2.heap[1]? = some [.i 0]:=fun st2 z0 z1=>by
    rw [hx]
    exact ⟨rfl,pc,hpc,z0,z1⟩
   rcases hpc with rfl | ⟨rfl,hps⟩
   iterate 2
    ·refine ⟨_,q0,?_⟩
     refine ⟨_,ZBe (by decide) q1,?_⟩
     exact ⟨rfl,rfl,.inl ⟨rfl,fin _ (ZBe (by decide) (ZAY q0)) (ZAY (ZBe (by decide) q1))⟩⟩
  ·exact ⟨rfl,rfl,.inr ⟨e,rfl,he,m.at' rfl (by omega),m.at' rfl (by omega)⟩⟩
 ·obtain ⟨fr',st',μ',σ',⟨g2,g3,hcase⟩,ok',ext',hf',hd'⟩:=hr
  have hd':a'.defers=[{ target:=.fn (.func 153) #[.pointer (some ⟨μ1 0,0,none⟩),.pointer (some ⟨μ1 1,0,none⟩)],args:=#[] }]:=hd'.trans (by rw [hde]; rfl)
  have hinv:∀ w:World,(invoke (.fn (.func 153) #[.pointer (some ⟨μ1 0,0,none⟩),.pointer (some ⟨μ1 1,0,none⟩)]) #[]).run Tryz.prog w=.ok (.enter 153 #[.pointer (some ⟨μ1 0,0,none⟩),.pointer (some ⟨μ1 1,0,none⟩)]) w:=fun w=>by
   simp [invoke,Tryz.call153]
  have m0:μ' 0=μ1 0:=ext'.mu 0 (by show 0<2; decide)
  have m1:μ' 1=μ1 1:=ext'.mu 1 (by show 1<2; decide)
  have res:∀ (st2:St) (μ2:Nat->Nat) (σ2:Nat->Tkt) (w2:World) (cs:List AV) (er:Int),Ok w.heap.size J w st2 μ2 σ2 w2->FrAt w.heap.size J st2 μ2 σ2 w2 fr' a'.tmps->st2.heap[0]? = some cs->st2.heap[1]? = some [.i er]->cs.length=8->ZCW [.agg cs,.i er] [(ZAT s).1.av,.i (ZAT s).2] ->
    ∃ v,(results Tryz.f117 a'.tmps).run Tryz.prog w2=.ok v w2/\∃ v' σ',Ending.returned v=.returned v'/\Ok w.heap.size J w ⟨[],[]⟩ (fun _=>0) σ' w2/\At w.heap.size J ⟨[],[]⟩ (fun _=>0) σ' w2 (.tup [(ZAT s).1.av,.i (ZAT s).2]) v':=by
   intro st2 μ2 σ2 w2 cs er ok2 f2 h0 h1 hl8 hW
   obtain ⟨v,a,r1,r2,r3⟩:=ZHN (fn:=Tryz.f117) (R:=fun r _=>r=.tup [.agg cs,.i er]) T_ok ok2 f2 (by
    refine ZMw (i:=ti78) rfl g2 ⟨cs,h0,ld_all rfl hl8 ?_⟩
    refine ZMw (i:=ti24) rfl g3 ⟨_,h1,?_⟩
    rfl)
   subst r2
   exact ⟨v,r1,v,_,rfl,ok2.strip0,resV.at ok2 r3 (.inr ⟨_,_,rfl,rfl,hW⟩)⟩
  rcases hcase with ⟨rfl,hz,pc,hpc,h0,h1⟩ | ⟨er,rfl,hz,h0,h1⟩
  ·show Leaves _ _ _ _ a'.defers .returning _
   rw [hd']
   refine leaves_cons (by simp) (hinv w') ((ZJa _ _ w').mono ?_)
   rintro e u' w2 ⟨rfl,rfl,rfl⟩
   refine res st' μ' σ' _ _ 0 ok' hf' h0 h1 rfl ⟨.inl (.inr ⟨_,_,rfl,rfl,.inl ⟨rfl,rfl⟩,.inl ⟨rfl,rfl⟩,.inl ⟨rfl,rfl⟩,.inl ⟨rfl,rfl⟩,.inl ⟨rfl,rfl⟩,.inl ⟨rfl,rfl⟩,.inl ⟨rfl,rfl⟩,hpc.w,trivial⟩),?_,trivial⟩
   rw [hz]
   exact .inl (.inl ⟨rfl,rfl⟩)
  ·show Leaves _ _ _ _ a'.defers (.panicking (flt er)) _
   rw [hd']
   have hc:=ZIV ok' h0 h1 er
   rw [m0,m1] at hc
   refine leaves_cons (by simp) (hinv w') (hc.mono ?_)
   rintro e u' w2 ⟨rfl,hset,μ2,σ2,ok2,ext2⟩
   show Leaves _ _ _ _ [] (settle u') _
   rw [hset]
   refine res _ μ2 σ2 _ zc er ok2 (hf'.ext ext2) (ZBe (by decide) (ZAY h0)) (ZAY (ZBe (by decide) h1)) rfl ?_
   rw [hz]
   exact ⟨.inl (.inr ⟨_,_,rfl,rfl,.inl ⟨rfl,rfl⟩,.inl ⟨rfl,rfl⟩,.inl ⟨rfl,rfl⟩,.inl ⟨rfl,rfl⟩,.inl ⟨rfl,rfl⟩,.inl ⟨rfl,rfl⟩,.inl ⟨rfl,rfl⟩,.inr ⟨rfl,2,rfl⟩,trivial⟩),.inl (.inl ⟨rfl,rfl⟩),trivial⟩
end Go.Proofs.YticbonkojpabnaaGreatDoor
