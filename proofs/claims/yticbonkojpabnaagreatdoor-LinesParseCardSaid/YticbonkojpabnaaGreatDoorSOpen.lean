/- Helpers over the kit alone: what is read as data, as slices of cells. -/
import Derived.Test.YticbonkojpabnaaGreatDoorSLib
import Derived.ProofKit
import Derived.OpenShut
import Derived.Deep.Slices
set_option linter.unusedSimpArgs false
set_option linter.unusedVariables false
namespace Go.Proofs.YticbonkojpabnaaGreatDoor
open Go.RowKit Go.Deep

section
variable {H:Type} {enc:TypeId × Value->H} {P:Program} {w:World} {base:Nat} {spare:Nat->Bool} {held:Bool}

/-- A slice that is read: its elements' cells, each element read. -/
theorem open_has {t e:TypeId} {fuel size:Nat} {cs:List Value} {x:DataW H × List MemPlace} (ht:P.underlying t=some (.slice e)) (hs:P.cellsOf e=size) (hp:0<size)
  (h:DataW.trod enc P w base spare held fuel t cs=some x) :
  ∃ v n xs,cs=[v]/\Has w size v n xs/\∀ i,i<n->∃ k y,DataW.trod enc P w base spare held k e ((xs.drop (i*size)).take size)=some y:=by
 rcases open_slice ht h with ⟨rfl,_⟩ | ⟨a,len,cap,m,k,D,Pl,rfl,_,hl,hm,hmm,_,hx⟩
 ·exact ⟨_,0,[],rfl,Has.nil _ _,fun i hi=>absurd hi (by omega)⟩
 have hlm:len<=m:=by rw [hmm]; split <;> omega
 obtain ⟨f,hf⟩:=choose_lt (α:=List Value) (p:=fun i c=>w.cells? base (a.add (i*size)) size=some c/\DataW.trod enc P w base spare held k e c=some (D i,Pl i)) (n:=len) (fun i hi=>by
  obtain ⟨c,h1,h2⟩:=hx i (by omega)
  rw [hs] at h1
  exact ⟨c,h1,h2⟩)
 have hlen:∀ i,i<len->(f i).length=size:=fun i hi=>(World.cells?_some (hf i hi).1).2.1
 have hflat:∀ n,n<=len->((List.range n).flatMap f).length=n*size:=by
  intro n
  induction n with
  | zero=>intro _; simp
  | succ n ih=>intro hn; rw [List.range_succ,List.flatMap_append,List.length_append,ih (by omega)]; simp [hlen n (by omega),Nat.add_mul]
 have hsplit:∀ i,i<len->∃ pre post,(List.range len).flatMap f=pre++f i++post/\pre.length=i*size:=by
  intro i hi
  refine ⟨(List.range i).flatMap f,((List.range len).drop (i+1)).flatMap f,?_,hflat i (by omega)⟩
  have h:=List.drop_eq_getElem_cons (l:=List.range len) (i:=i) (by simpa using hi)
  rw [List.getElem_range] at h
  have ht:(List.range len).take i=List.range i:=by rw [List.take_range,Nat.min_eq_left (by omega)]
  have he:List.range len=List.range i++i::(List.range len).drop (i+1):=by rw [<- h,<- ht,List.take_append_drop]
  conv=>lhs; rw [he]
  simp
 have hget:∀ i,i<len->∀ j,j<size->((List.range len).flatMap f)[i*size+j]? = (f i)[j]?:=by
  intro i hi j hj
  obtain ⟨pre,post,he,hpl⟩:=hsplit i hi
  rw [he,List.append_assoc,List.getElem?_append_right (by omega),hpl,Nat.add_sub_cancel_left,List.getElem?_append_left (by rw [hlen i hi]; exact hj)]
 refine ⟨_,len,(List.range len).flatMap f,rfl,⟨hflat len (Nat.le_refl _),?_⟩,fun i hi=>⟨k,(D i,Pl i),?_⟩⟩
 ·by_cases h0:len=0
  ·subst h0
   exact .inl ⟨rfl,_,_,rfl,hm⟩
  ·right
   have hc0:=(World.cells?_some (hf 0 (by omega)).1).2.2 0 hp
   obtain ⟨b,off,spot⟩:=a
   have hspot:spot=none:=by
    cases hv:(f 0)[0]? with
    | none=>rw [List.getElem?_eq_none_iff,hlen 0 (by omega)] at hv; omega
    | some v=>rw [hv] at hc0; simpa [Addr.add] using World.cell?_spot hc0
   subst hspot
   refine ⟨b,off,cap,rfl,hl,hm,fun j hj=>?_⟩
   have hq:j / size<len:=Nat.div_lt_of_lt_mul (by rw [Nat.mul_comm]; exact hj)
   have hr:j % size<size:=Nat.mod_lt _ hp
   have:=(World.cells?_some (hf (j / size) hq).1).2.2 (j % size) hr
   rw [Addr.add_lit,Addr.add_lit,Nat.add_assoc] at this
   have hj':j / size*size+j % size=j:=by rw [Nat.mul_comm]; exact Nat.div_add_mod j size
   rw [hj'] at this
   rw [this,<- hget (j / size) hq (j % size) hr,hj']
 ·obtain ⟨pre,post,he,hpl⟩:=hsplit i hi
  rw [he,List.append_assoc,List.drop_left' hpl,List.take_left' (hlen i hi)]
  exact (hf i hi).2

end

/-- arguments that lie below, read again -/
theorem ZKA {H:Type} {enc:TypeId × Value->H} {P:Program} {W W':World} (hl:laidOutB P=true) (hb:Below W.heap.size W W') :
  ∀ (ts:List TypeId) (vs:List Value) (ds:List (DataW H)) (ps:List MemPlace),(ts.all fun t=>P.readableRec t && decide (t<P.types.size))=true->(∀ x∈ps,x.block<W.heap.size) ->
   DataW.TrodAll enc P W 0 (fun _=>true) true ts vs ds ps->DataW.TrodAll enc P W' 0 (fun b=>decide (b<W.heap.size)) true ts vs ds ps
 | [],[],[],_,_,_,h=>h
 | t::ts,v::vs,d::ds,ps,hr,hp,h=>by
  obtain ⟨p,q,h1,h2,rfl⟩:=h
  simp only [List.all_cons,Bool.and_eq_true,decide_eq_true_eq] at hr
  exact ⟨p,q,Below.trod hl hr.1.1 hr.1.2 h1 hb (fun x hx=>hp x (List.mem_append_left _ hx)),ZKA hl hb ts vs ds q hr.2 (fun x hx=>hp x (List.mem_append_right _ hx)) h2,rfl⟩
 | [],[],_::_,_,_,_,h | [],_::_,[],_,_,_,h | [],_::_,_::_,_,_,_,h | _::_,[],[],_,_,_,h | _::_,[],_::_,_,_,_,h | _::_,_::_,[],_,_,_,h=>h.elim

/-- WHAT A LAW's STATEMENT ASKS BEHIND THE CALL: true; the arguments as they were. -/
theorem law_post {H:Type} {enc:TypeId × Value->H} {P:Program} {f:Func} {s:ChangeSpec} {fresh handsOn:Bool} {W W':World} {args:Array Value} {ds gs:List (DataW H)} {before:List MemPlace} {B:TypeId}
  (hl:laidOutB P=true) (hr:(f.params.toList.all fun t=>P.readableRec t && decide (t<P.types.size))=true) (hv:s.vars=[]) (hrt:f.resultTypes=#[B]) (hB:P.underlying B=some .bool)
  (hW:DataW.Whole enc P f.params.toList s.vars false W args.toList ds gs before) (hs:s.fn H (ds++gs)={ results:=[.lit (.bool true)],args:=ds }) (hb:Below W.heap.size W W') :
  s.post enc P f false fresh handsOn false W args (.bool true) W':=by
 have hlt:∀ p∈before,p.block<W.heap.size:=fun p hp=>hW.lt p hp
 have hW0:=hW
 obtain ⟨p,q,hA,hV,hps,_,_⟩:=hW
 rw [hv] at hV
 refine ⟨ds,gs,before,[],p,[],hW0,?_,?_,?_,hb.frame _,fun h=>by cases h⟩
 ·rw [hs,hrt]
  exact ⟨[],[],shut_bool hB true,rfl,rfl⟩
 ·rw [hs]
  exact ZKA hl hb _ _ _ _ hr (fun x hx=>hlt x (by rw [hps]; exact List.mem_append_left _ hx)) hA
 ·rw [hs,hv]
  rfl
end Go.Proofs.YticbonkojpabnaaGreatDoor
