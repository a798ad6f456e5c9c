/- What every card of this seat needs: a world whose listed variables hold what their initialisers lay. -/
import Derived.Test.YticbonkojpabnaaGreatDoorCards
import Derived.Test.YticbonkojpabnaaGreatDoorTie
import Derived.Test.YticbonkojpabnaaGreatDoorSOpen
import Derived.WalkKit
import Derived.ProofKit
import Derived.OpenShut
import Derived.Deep.DeepHandedRow
import Derived.Deep.DeepLaidRun
import Derived.Lib.LaidTab
import Derived.Lib.LaidU8
import Derived.Test.YticbonkojpabnaaGreatDoorSSa
import Derived.Test.YticbonkojpabnaaGreatDoorSMs
import Derived.Test.YticbonkojpabnaaGreatDoorSTmA
import Derived.Test.YticbonkojpabnaaGreatDoorSRu
import Derived.Shelf.Vars
import Derived.LaidLaws
import Derived.FnData
set_option linter.unusedSimpArgs false
set_option linter.unusedVariables false
set_option maxRecDepth 100000
namespace Go.Proofs.YticbonkojpabnaaGreatDoor
open Go.ChangeShapes Go.WideShapes Go.ChangeAt Go.RowKit Go.Deep
section
open Go.ChangeMaps (open_string shut_string)

theorem own12:ownKnob Tryz.prog.godebug=none:=by kernel_rfl
theorem laidOut12:laidOutB Tryz.prog=true:=by kernel_rfl
/-- THE WITNESS's WORLD. -/
noncomputable def laidWorld (os:Os):World :=
 let w0:=World.holding Tryz.prog os ⟨#[],#[],[]⟩
 let put (h:Array Obj) (g:Nat) (cs:Array Value):Array Obj:=h.modify g fun
  | .cells _ t frozen=>.cells cs t frozen
  | o=>o
 let h1:=put w0.heap ((Tryz.prog.globalNamed "unicode/utf8.first").getD 0) (Lib.firstTab.map fun z=>Value.int .u8 z).toArray
 let h2:=put h1 ((Tryz.prog.globalNamed "unicode/utf8.acceptRanges").getD 0) ((List.range 16).flatMap fun i=>[Value.int .u8 (Lib.accLo i),Value.int .u8 (Lib.accHi i)]).toArray
 { w0 with heap:=h2 }
end
section

def AtR (W:World) (a:AV) (v:Value):Prop:=At W.heap.size (fun _ _=>True) ⟨[],[]⟩ (fun _=>0) (fun _=>⟨0,0,0⟩) W a v
def AtRs (W:World):List AV->List Value->Prop
 | [],[]=>True
 | a::r,v::s=>AtR W a v/\AtRs W r s
 | _,_=>False
theorem AtRs.len {W:World}:∀ {l:List AV} {vs:List Value},AtRs W l vs->l.length=vs.length
 | [],[],_=>rfl
 | _::_,_::_,h=>congrArg (·+1) (AtRs.len h.2)
theorem AtRs.at {W:World}:∀ {l:List AV} {vs:List Value},AtRs W l vs->∀ (j:Nat) a v,l[j]? = some a->vs[j]? = some v->AtR W a v
 | _::_,_::_,h,0,_,_,h1,h2=>by cases h1; cases h2; exact h.1
 | _::_,_::_,h,j+1,_,_,h1,h2=>AtRs.at h.2 j _ _ h1 h2
theorem ZAC.root {P:Program} {f:FuncId} {args:List AV} (h:ZAC P f args (.b true) []) (W:World) (vs:List Value) (hl:∀ w',Below W.heap.size W w'->ZHu w') (ha:AtRs W args vs) :
  Calls P f vs.toArray W fun e W'=>e=.returned (.bool true)/\Below W.heap.size W W':=by
 refine (h.2.2 (fun _ _=>True) W vs.toArray hl (by simpa using ha.len) (fun j a v h1 h2=>ha.at j a v h1 (by simpa using h2))).mono ?_
 rintro e w' ⟨v,σ',rfl,hok,hat⟩
 rw [hat.of_lit]
 exact ⟨rfl,hok.below⟩
theorem AtR.lit (W:World) (v:Value):AtR W (.lit v) v:=Rp.lit v
end
section

def ZEe (f:Fld):List Value:=[.string f.1,.string f.2]
theorem ZHA:∀ (l:List Fld) (k j:Nat) (h:k<l.length),j<2->(l.flatMap ZEe)[k*2+j]? = (ZEe l[k])[j]?
 | f::r,0,j,_,hj=>by
  rw [List.flatMap_cons,Nat.zero_mul,Nat.zero_add,List.getElem?_append_left (by simpa [ZEe] using hj)]
  rfl
 | f::r,k+1,j,h,hj=>by
  rw [List.flatMap_cons,List.getElem?_append_right (by simp [ZEe]; omega),show (k+1)*2+j - (ZEe f).length=k*2+j by simp [ZEe]; omega]
  exact ZHA r k j (by simpa using h) hj
theorem AtR.flds {W:World} {v:Value} {l:List Fld} (h:Has W 2 v l.length (l.flatMap ZEe)):AtR W (.sl .no 2 (fldL l)) v:=by
 rcases h.is with ⟨h0,a,c,rfl,hc⟩ | ⟨g,o,cap,rfl,h1,h2,h3⟩
 ·have:l=[]:=List.eq_nil_of_length_eq_zero h0
  subst this
  exact .sl0 2 a c hc
 ·have el:=ZA5 l
  have hk:∀ (k:Nat) (e:List AV),(fldL l)[k]? = some e->∃ hk:k<l.length,e=[.s l[k].1,.s l[k].2]:=fun k e he=>by
   have hk:=(List.getElem?_eq_some_iff.1 he).1
   rw [el] at hk
   rw [ZBj hk] at he
   exact ⟨hk,(Option.some.inj he).symm⟩
  have key:∀ (k:Nat) (e:List AV) (j:Nat) (a:AV),(fldL l)[k]? = some e->e[j]? = some a->∃ (hk:k<l.length) (u:Value),j<2/\(ZEe l[k])[j]? = some u/\a=.lit u:=fun k e j a he ha=>by
   obtain ⟨hkl,rfl⟩:=hk k e he
   have hj:=(List.getElem?_eq_some_iff.1 ha).1
   match j,hj with
   | 0,_=>cases ha; exact ⟨hkl,_,by omega,rfl,rfl⟩
   | 1,_=>cases ha; exact ⟨hkl,_,by omega,rfl,rfl⟩
  have:=Rp.sl (w:=W) (I:=Im W.heap.size (fun _ _=>True) ⟨[],[]⟩ (fun _=>0) (fun _=>⟨0,0,0⟩)) (hl:=0) (μ:=fun _=>0) (tk:=[]) (σ:=fun _=>⟨0,0,0⟩) .no 2 (fldL l) g o cap (fun k j=>(l.flatMap ZEe).getD (k*2+j) undef) (fun k e he=>by
   obtain ⟨_,rfl⟩:=hk k e he
   exact ⟨rfl,rfl⟩) (by omega) h2 (fun k e j a he ha=>by
   obtain ⟨hkl,u,hj,hu,rfl⟩:=key k e j a he ha
   have hat:=ZHA l k j hkl hj
   rw [hu] at hat
   refine ⟨⟨fun _=>trivial,fun p hp=>by simp at hp,fun t e ht=>by simp at ht⟩,?_⟩
   have:=h3 (k*2+j) (by omega)
   rw [<- Nat.add_assoc] at this
   rw [this,List.getD_eq_getElem?_getD,hat]
   rfl) (fun k e j a he ha=>by
   obtain ⟨hkl,u,hj,hu,rfl⟩:=key k e j a he ha
   have hat:=ZHA l k j hkl hj
   rw [hu] at hat
   rw [List.getD_eq_getElem?_getD,hat]
   exact .lit u) (fun h=>by cases h) (fun i e h=>by cases h)
  rw [el] at this
  exact this
section
variable {H:Type} {enc:TypeId × Value->H} {w:World} {base:Nat} {spare:Nat->Bool} {held:Bool}
theorem AtR.head {k c mi:Int} {m t r:ByteArray} {u:Value} {l:List Fld} (h:Has w 2 u l.length (l.flatMap ZEe)):AtR w (.agg [.i k,.s m,.s t,.i c,.s r,.i mi,.sl .no 2 (fldL l)]) (.agg #[.int .i64 k,.string m,.string t,.int .i64 c,.string r,.int .i64 mi,u]):=by
 refine .agg _ _ rfl fun j a x ha hx=>?_
 have hj:=(List.getElem?_eq_some_iff.1 ha).1
 match j,hj with
 | 0,_=>cases ha; cases hx; exact .lit _
 | 1,_=>cases ha; cases hx; exact .lit _
 | 2,_=>cases ha; cases hx; exact .lit _
 | 3,_=>cases ha; cases hx; exact .lit _
 | 4,_=>cases ha; cases hx; exact .lit _
 | 5,_=>cases ha; cases hx; exact .lit _
 | 6,_=>cases ha; cases hx; exact AtR.flds h
end
end
section
structure ZDQ (P:Program) (W:World) (t:TypeId) (n:Nat) {α:Type} (f:α->List AV) (Q:α->Prop):Prop where
 op:∀ {H:Type} {enc:TypeId × Value->H} {base:Nat} {spare:Nat->Bool} {held:Bool} {fuel:Nat} {cs:List Value} {x:DataW H × List MemPlace},DataW.trod enc P W base spare held fuel t cs=some x ->
  ∃ a:α,Q a/\(f a).length=n/\cs.length=n/\∀ (j:Nat) c u,(f a)[j]? = some c->cs[j]? = some u->AtR W c u/\c.flat=true
structure ZIL (P:Program) (W:World) (fs:List Go.Field) (off n:Nat) {α:Type} (f:α->List AV) (Q:α->Prop):Prop where
 op:∀ {H:Type} {enc:TypeId × Value->H} {base:Nat} {spare:Nat->Bool} {held:Bool} {fuel:Nat} {cs:List Value} {xs:List (DataW H × List MemPlace)},xs.length=fs.length->cs.length=off+n ->
  (∀ (i:Nat) (fd:Go.Field),fs[i]? = some fd->DataW.trod enc P W base spare held fuel fd.type ((cs.drop fd.offset).take (P.cellsOf fd.type))=xs[i]?) ->
  ∃ a:α,Q a/\(f a).length=n/\∀ (j:Nat) c u,(f a)[j]? = some c->cs[off+j]? = some u->AtR W c u/\c.flat=true
section
variable {P:Program} {W:World} {t e:TypeId} {n m off:Nat} {α β:Type}
theorem ZDQ.int {k:IntKind} (ht:P.underlying t=some (.int k)):ZDQ P W t 1 (fun z:Int=>[AV.int k z]) (fun z=>(Lit.int k z).wf=true):=by
 refine ⟨?_⟩
 intro H enc base spare held fuel cs x h
 obtain ⟨z,rfl,_,hw⟩:=DataW.trod_int ht h
 refine ⟨z,hw,rfl,rfl,fun j c u h1 h2=>?_⟩
 cases j with
 | zero=>simp at h1 h2; subst h1; subst h2; exact ⟨.lit _ _,rfl⟩
 | succ j=>simp at h1
theorem ZDQ.bool (ht:P.underlying t=some .bool):ZDQ P W t 1 (fun b:Bool=>[AV.b b]) (fun _=>True):=by
 refine ⟨?_⟩
 intro H enc base spare held fuel cs x h
 obtain ⟨b,rfl,_⟩:=DataW.trod_bool ht h
 refine ⟨b,trivial,rfl,rfl,fun j c u h1 h2=>?_⟩
 cases j with
 | zero=>simp at h1 h2; subst h1; subst h2; exact ⟨.lit _ _,rfl⟩
 | succ j=>simp at h1
theorem ZDQ.map {f:α->List AV} {Q:α->Prop} (h:ZDQ P W t n f Q) (g:α->β) {f':β->List AV} {Q':β->Prop} (hf:∀ a,f a=f' (g a)) (hQ:∀ a,Q a->Q' (g a)):ZDQ P W t n f' Q':=by
 refine ⟨?_⟩
 intro H enc base spare held fuel cs x hx
 obtain ⟨a,h1,h2,h3,h4⟩:=h.op hx
 exact ⟨g a,hQ a h1,by rw [<- hf]; exact h2,h3,fun j c u hc=>h4 j c u (by rw [hf]; exact hc)⟩
theorem ZIL.nil:ZIL P W [] off 0 (fun _:Unit=>[]) (fun _=>True):=by
 refine ⟨?_⟩
 intro H enc base spare held fuel cs xs _ _ _
 exact ⟨(),trivial,rfl,fun j c u h=>by simp at h⟩
theorem ZIL.cons {fd:Go.Field} {fs:List Go.Field} {f:α->List AV} {g:β->List AV} {Q:α->Prop} {R:β->Prop} (h1:ZDQ P W fd.type n f Q) (ho:fd.offset=off) (hc:P.cellsOf fd.type=n) (h2:ZIL P W fs (off+n) m g R) :
  ZIL P W (fd::fs) off (n+m) (fun p:α × β=>f p.1++g p.2) (fun p=>Q p.1/\R p.2):=by
 refine ⟨?_⟩
 intro H enc base spare held fuel cs xs hl hcl hx
 cases xs with
 | nil=>simp at hl
 | cons y ys =>
  have h0:=hx 0 fd rfl
  rw [ho,hc] at h0
  obtain ⟨a,qa,la,_,fa⟩:=h1.op (x:=y) h0
  obtain ⟨b,qb,lb,fb⟩:=h2.op (cs:=cs) (xs:=ys) (by simpa using hl) (by omega) (fun i fd' hi=>by simpa using hx (i+1) fd' (by simpa using hi))
  refine ⟨(a,b),⟨qa,qb⟩,by rw [List.length_append,la,lb],fun j c u h1 h2=>?_⟩
  have h1:(f a++g b)[j]? = some c:=h1
  by_cases hj:j<n
  ·rw [List.getElem?_append_left (by omega)] at h1
   refine fa j c u h1 ?_
   rw [List.getElem?_take,if_pos hj,List.getElem?_drop]
   exact h2
  ·rw [List.getElem?_append_right (by omega),la] at h1
   refine fb (j - n) c u h1 ?_
   rw [show off+n+(j - n)=off+j by omega]
   exact h2
theorem ZDQ.struct {fs:Array Go.Field} {f:α->List AV} {Q:α->Prop} (ht:P.underlying t=some (.struct fs)) (hn:P.cellsOf t=n) (h:ZIL P W fs.toList 0 n f Q):ZDQ P W t n f Q:=by
 refine ⟨?_⟩
 intro H enc base spare held fuel cs x hx
 obtain ⟨xs,m,_,_,hcl,hxl,hf⟩:=DataW.trod_struct ht hx
 obtain ⟨a,h1,h2,h3⟩:=h.op (cs:=cs) (xs:=xs) (by simpa using hxl) (by omega) (fun i fd hi=>hf i fd (by simpa using hi))
 exact ⟨a,h1,h2,by omega,fun j c u hc hu=>h3 j c u hc (by rw [Nat.zero_add]; exact hu)⟩
theorem ZDQ.slice [Inhabited α] {f:α->List AV} {Q:α->Prop} (ht:P.underlying t=some (.slice e)) (hc:P.cellsOf e=n) (h0:0<n) (h:ZDQ P W e n f Q):ZDQ P W t 1 (fun l:List α=>[AV.sl .no n (l.map f)]) (fun l=>∀ a∈l,Q a):=by
 refine ⟨?_⟩
 intro H enc base spare held fuel cs x hx
 obtain ⟨v,len,xs,rfl,hh,hel⟩:=open_has ht hc h0 hx
 have hone:∀ i,i<len->∃ a:α,Q a/\(f a).length=n/\((xs.drop (i*n)).take n).length=n/\∀ (j:Nat) c u,(f a)[j]? = some c->((xs.drop (i*n)).take n)[j]? = some u->AtR W c u/\c.flat=true:=fun i hi=>by
  obtain ⟨k,y,hy⟩:=hel i hi
  exact h.op hy
 obtain ⟨F,hF⟩:=choose_lt hone
 obtain ⟨l,hl⟩:∃ l:List α,l=(List.range len).map F:=⟨_,rfl⟩
 have ll:l.length=len:=by rw [hl]; simp
 have lat:∀ k (hk:k<l.length),l[k]=F k:=fun k hk=>by subst hl; simp
 have hxl:=hh.len
 refine ⟨l,fun a ha=>?_,rfl,rfl,fun j c u h1 h2=>?_⟩
 ·obtain ⟨k,hk,rfl⟩:=List.getElem_of_mem ha
  rw [lat k hk]
  exact (hF k (by omega)).1
 ·cases j with
  | succ j=>simp at h1
  | zero =>
   simp at h1 h2
   subst h1
   subst h2
   refine ⟨?_,rfl⟩
   rcases hh.is with ⟨hz,a,c,rfl,hcm⟩ | ⟨g,o,cap,rfl,q1,q2,q3⟩
   ·have:l=[]:=List.eq_nil_of_length_eq_zero (by omega)
    subst this
    exact .sl0 n a c hcm
   ·have hk:∀ (k:Nat) (es:List AV),(l.map f)[k]? = some es->∃ hk:k<len,es=f (F k):=fun k es he=>by
     rw [List.getElem?_map,Option.map_eq_some_iff] at he
     obtain ⟨a,ha,rfl⟩:=he
     have hkl:=(List.getElem?_eq_some_iff.1 ha).1
     refine ⟨by omega,?_⟩
     rw [<- lat k hkl,(List.getElem?_eq_some_iff.1 ha).2]
    have key:∀ (k:Nat) (es:List AV) (j:Nat) (a:AV),(l.map f)[k]? = some es->es[j]? = some a->∃ u,xs[k*n+j]? = some u/\AtR W a u/\k<len/\j<n:=fun k es j a he ha=>by
     obtain ⟨hkl,rfl⟩:=hk k es he
     obtain ⟨_,f2,f3,f4⟩:=hF k hkl
     have hj:=(List.getElem?_eq_some_iff.1 ha).1
     have hj2:j<((xs.drop (k*n)).take n).length:=by omega
     obtain ⟨h5,_⟩:=f4 j a _ ha (List.getElem?_eq_getElem hj2)
     refine ⟨_,?_,h5,hkl,by omega⟩
     have:=List.getElem?_eq_getElem hj2
     rw [List.getElem?_take,if_pos (by omega),List.getElem?_drop] at this
     exact this
    have:=Rp.sl (w:=W) (I:=Im W.heap.size (fun _ _=>True) ⟨[],[]⟩ (fun _=>0) (fun _=>⟨0,0,0⟩)) (hl:=0) (μ:=fun _=>0) (tk:=[]) (σ:=fun _=>⟨0,0,0⟩) .no n (l.map f) g o cap (fun k j=>xs.getD (k*n+j) undef) (fun k es he=>by
     obtain ⟨hkl,rfl⟩:=hk k es he
     obtain ⟨_,f2,f3,f4⟩:=hF k hkl
     refine ⟨f2,List.all_eq_true.2 fun a ha=>?_⟩
     obtain ⟨j,hj,rfl⟩:=List.getElem_of_mem ha
     exact (f4 j _ _ (List.getElem?_eq_getElem hj) (List.getElem?_eq_getElem (by omega))).2) (by rw [List.length_map]; omega) q2 (fun k es j a he ha=>by
     obtain ⟨u,z1,z2,z3,z4⟩:=key k es j a he ha
     refine ⟨⟨fun _=>trivial,fun p hp=>by simp at hp,fun t e ht=>by simp at ht⟩,?_⟩
     have hlt:=ZH2 (sz:=n) z3 z4
     have:=q3 (k*n+j) (by omega)
     rw [<- Nat.add_assoc] at this
     rw [this,List.getD_eq_getElem?_getD,z1]
     rfl) (fun k es j a he ha=>by
     obtain ⟨u,z1,z2,z3,z4⟩:=key k es j a he ha
     rw [List.getD_eq_getElem?_getD,z1]
     exact z2) (fun h=>by cases h) (fun i e h=>by cases h)
    rw [List.length_map,ll] at this
    exact this
/-- an argument that is one cell -/
theorem ZDQ.cell {H:Type} {enc:TypeId × Value->H} {b2:Nat} {spare:Nat->Bool} {held:Bool} {v:Value} {d:DataW H} {p:List MemPlace} {f:α->AV} {Q:α->Prop} (h:ZDQ P W t 1 (fun a=>[f a]) Q) (hv:v.cells=#[v]) (hx:DataW.Trod enc P W b2 spare held t v d p):∃ a,AtR W (f a) v/\Q a:=by
 obtain ⟨fuel,hf⟩:=hx
 obtain ⟨a,h1,_,_,h4⟩:=h.op hf
 exact ⟨a,(h4 0 _ v rfl (by rw [hv]; rfl)).1,h1⟩
/-- an argument that is a row -/
theorem ZDQ.row {H:Type} {enc:TypeId × Value->H} {b2 base:Nat} {spare:Nat->Bool} {held:Bool} {v:Value} {d:DataW H} {p:List MemPlace} {f:α->AV} {Q:α->Prop} (ht:P.underlying t=some (.slice e)) (h:ZDQ P W t 1 (fun a=>[f a]) Q) (hval:Value.okWide P W .any base t v) (hx:DataW.Trod enc P W b2 spare held t v d p):∃ a,AtR W (f a) v/\Q a:=by
 obtain ⟨a1,n1,c1,rfl⟩:=Go.WideShapes.okWide_slice ht hval
 exact h.cell rfl hx
/-- an argument that is a struct -/
theorem ZDQ.agg {H:Type} {enc:TypeId × Value->H} {b2:Nat} {spare:Nat->Bool} {held:Bool} {us:Array Value} {d:DataW H} {p:List MemPlace} {f:α->List AV} {Q:α->Prop} (h:ZDQ P W t n f Q) (hx:DataW.Trod enc P W b2 spare held t (.agg us) d p):∃ a,AtR W (.agg (f a)) (.agg us)/\Q a:=by
 obtain ⟨fuel,hf⟩:=hx
 obtain ⟨a,h1,h2,h3,h4⟩:=h.op hf
 have hus:(Value.agg us).cells.toList=us.toList:=rfl
 rw [hus] at h3 h4
 refine ⟨a,.agg _ us (by rw [h2]; simpa using h3.symm) fun j c u hc hu=>(h4 j c u hc (by simpa using hu)).1,h1⟩
end
end
section
section
variable {W:World} {H:Type} {enc:TypeId × Value->H} {b2 base:Nat} {spare:Nat->Bool} {held:Bool} {v:Value} {d:DataW H} {p:List MemPlace}
end
end
section
def Rl.cs (r:Rl):List AV:=[.i r.sd,.i r.gk,.s r.ga,.s r.gb,.i r.ac,.s r.nm,.s r.un,.sl .no 2 (prtL r.ps)]
section
variable {W:World} {H:Type} {enc:TypeId × Value->H} {b2 base:Nat} {spare:Nat->Bool} {held:Bool} {v:Value} {d:DataW H} {p:List MemPlace}
end
end
section
def ZI8:DataW Unit->Array Value
 | .agg l=>(l.map fun | .lit (.int k n)=>Value.int k n | _=>undef).toArray
 | _=>#[]
def ZE1 (h:Array Obj) (g:Nat) (cs:Array Value):Array Obj:=h.modify g fun
 | .cells _ t frozen=>.cells cs t frozen
 | o=>o
/-- THE WITNESS's WORLD. -/
noncomputable def ZFs (os:Os):World :=
 let w0:=laidWorld os
 let h1:=ZE1 w0.heap ((Tryz.prog.globalNamed "math/bits.deBruijn32tab").getD 0) (ZI8 Rows.laid_math_bits_deBruijn32tab)
 let h2:=ZE1 h1 ((Tryz.prog.globalNamed "math/bits.deBruijn64tab").getD 0) (ZI8 Rows.laid_math_bits_deBruijn64tab)
 let h3:=ZE1 h2 ((Tryz.prog.globalNamed "internal/strconv.uint64pow10").getD 0) (ZI8 Rows.laid_internal_strconv_uint64pow10)
 let h4:=h3.push (.cells #[.string ⟨#[118,97,108,117,101,32,111,117,116,32,111,102,32,114,97,110,103,101]⟩] 287 (0,0))
 let h5:=h4.push (.cells #[.string ⟨#[105,110,118,97,108,105,100,32,115,121,110,116,97,120]⟩] 287 (0,0))
 let h6:=ZE1 h5 ((Tryz.prog.globalNamed "strconv.ErrRange").getD 0) #[.iface 285 (.pointer (some ⟨h3.size,0,none⟩))]
 let h7:=ZE1 h6 ((Tryz.prog.globalNamed "strconv.ErrSyntax").getD 0) #[.iface 285 (.pointer (some ⟨h4.size,0,none⟩))]
 { w0 with heap:=h7 }
theorem laid_metL (os:Os) (args:Array Value):laidMet Tryz.prog [("math/bits.deBruijn32tab",Rows.laid_math_bits_deBruijn32tab),("math/bits.deBruijn64tab",Rows.laid_math_bits_deBruijn64tab),("internal/strconv.uint64pow10",Rows.laid_internal_strconv_uint64pow10),("unicode/utf8.acceptRanges",Rows.laid_unicode_utf8_acceptRanges),("strconv.ErrRange",Rows.laid_strconv_ErrRange),("strconv.ErrSyntax",Rows.laid_strconv_ErrSyntax),("unicode/utf8.first",Rows.laid_unicode_utf8_first)] ((ZFs os).forCall (fun _ _=>0) ⟨#[],args,[]⟩).memory :=
 laidMet_of_run3 8 (by kernel_rfl) (by kernel_rfl) (by kernel_rfl)
theorem ZCS {P:Program} {x:String × DataW Unit} {r:List (String × DataW Unit)} {w:World} (h:laidMet P (x::r) w):laidMet P r w:=by
 obtain ⟨n,d⟩:=x
 obtain ⟨ps,⟨g,t,cs,fuel,p,q,_,_,_,_,hr,rfl⟩,hnd,hx⟩:=h
 exact ⟨q,hr,(List.nodup_append.1 hnd).2.1,fun b off hm=>hx b off (List.mem_append_right _ hm)⟩
theorem ZJ0 {P:Program} {w w':World} {name:String} {cs:Array Value} (h:w.var? P name=some cs) (hb:Below w.heap.size w w'):w'.var? P name=some cs:=by
 unfold World.var? at h ⊢
 cases hg:P.globalNamed name with
 | none=>rw [hg] at h; cases h
 | some g =>
  rw [hg] at h
  simp only [Option.bind_some] at h ⊢
  have hl:g<w.heap.size:=by
   apply Decidable.byContradiction
   intro hc
   rw [Array.getElem?_eq_none (by omega)] at h
   cases h
  rw [hb.block g hl]
  exact h
theorem ZLw {P:Program} {n nm:String} {d:DataW Unit} {r:List (String × DataW Unit)} {w:World} {t:TypeId} {g:Nat} {ms:Array (String × TypeId)} (h:laidMet P ((n,.iface nm d)::r) w) (hg:P.globalNamed n=some g) (ht:(P.globals[g]?).map (·.type)=some t) (hu:P.underlying t=some (.interface ms)) :
  ∀ w',Below w.heap.size w w'->∃ ev,w'.cell? ⟨g,0,none⟩=some ev/\IsErr ev:=by
 obtain ⟨ps,⟨g',t',cs,fuel,p,q,h1,h2,h3,h4,_,_⟩,_,_⟩:=h
 rw [hg] at h1
 cases h1
 rw [ht] at h2
 cases h2
 obtain ⟨_,u,v,hc,_,_⟩:=iface_of_trod hu h4
 intro w' hb
 have h5:=World.var?_cell hg (ZJ0 h3 hb) 0
 have h6:cs[0]? = some (.iface u v):=by
  rw [<- Array.getElem?_toList,hc]
  rfl
 exact ⟨_,h5.trans h6,.inr ⟨u,v,rfl⟩⟩
theorem max_laidL {W:World} (h:W.ShapedOpen Tryz.prog):∀ w',Below W.heap.size W w'->∃ m:Int,w'.cell? ⟨1,0,none⟩=some (.int .i64 m):=by
 obtain ⟨m,hm⟩:=cell_of_shapedOpen_int (zero:=#[.int .i64 0]) (t:=3) (g:=1) h (of_decide_eq_true (by kernel_rfl)) (by kernel_rfl) rfl (by kernel_rfl) (by kernel_rfl) Tryz.underlying3
 have hl:=World.block_lt_of_cell? W ⟨1,0,none⟩ hm
 refine fun w' hb=>⟨m,?_⟩
 rw [<- hm]
 unfold World.cell?
 rw [hb.block _ hl]
theorem lines_laid {W:World} (h:laidMetH Tryz.prog [("math/bits.deBruijn32tab",Rows.laid_math_bits_deBruijn32tab),("math/bits.deBruijn64tab",Rows.laid_math_bits_deBruijn64tab),("internal/strconv.uint64pow10",Rows.laid_internal_strconv_uint64pow10),("unicode/utf8.acceptRanges",Rows.laid_unicode_utf8_acceptRanges),("strconv.ErrRange",Rows.laid_strconv_ErrRange),("strconv.ErrSyntax",Rows.laid_strconv_ErrSyntax),("unicode/utf8.first",Rows.laid_unicode_utf8_first)] W) (hsh:W.ShapedOpen Tryz.prog):∀ w',Below W.heap.size W w'->ZHu w':=by
 have h0:laidMet Tryz.prog [("math/bits.deBruijn32tab",Rows.laid_math_bits_deBruijn32tab),("math/bits.deBruijn64tab",Rows.laid_math_bits_deBruijn64tab),("internal/strconv.uint64pow10",Rows.laid_internal_strconv_uint64pow10),("unicode/utf8.acceptRanges",Rows.laid_unicode_utf8_acceptRanges),("strconv.ErrRange",Rows.laid_strconv_ErrRange),("strconv.ErrSyntax",Rows.laid_strconv_ErrSyntax),("unicode/utf8.first",Rows.laid_unicode_utf8_first)] W:=h
 have h2:=ZCS (ZCS h0)
 have h4:=ZCS (ZCS h2)
 have h5:=ZCS h4
 have h2':laidMet Tryz.prog (("internal/strconv.uint64pow10",Lib.tabData .u64 Lib.pow10Tab)::[("unicode/utf8.acceptRanges",Rows.laid_unicode_utf8_acceptRanges),("strconv.ErrRange",Rows.laid_strconv_ErrRange),("strconv.ErrSyntax",Rows.laid_strconv_ErrSyntax),("unicode/utf8.first",Rows.laid_unicode_utf8_first)]) W:=h2
 have h3:Lib.TabIs Tryz.prog W "internal/strconv.uint64pow10" .u64 Lib.pow10Tab:=Lib.tabIs_of_head (g:=0) (t:=220) (e:=183) (n:=20) (by kernel_rfl) (by kernel_rfl) (by kernel_rfl) (by kernel_rfl) (by kernel_rfl) (by kernel_rfl) h2'
 have e1:=ZLw (g:=7) (t:=144) h4 (by kernel_rfl) (by kernel_rfl) Tryz.underlying144
 have e2:=ZLw (g:=6) (t:=144) h5 (by kernel_rfl) (by kernel_rfl) Tryz.underlying144
 exact fun w' hb=>⟨max_laidL hsh w' hb,ZJ0 h3 hb,e2 w' hb,e1 w' hb⟩
end
end Go.Proofs.YticbonkojpabnaaGreatDoor
