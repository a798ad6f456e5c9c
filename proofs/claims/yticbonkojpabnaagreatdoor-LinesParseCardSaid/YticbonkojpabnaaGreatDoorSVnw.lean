/- A function whose last part only reads what its first part has made: what was made is then data. No statement of its own. -/
import Derived.Test.YticbonkojpabnaaGreatDoorSVg
set_option linter.unusedSimpArgs false
set_option linter.unusedVariables false
set_option maxRecDepth 100000
namespace Go.Proofs.YticbonkojpabnaaGreatDoor
open Go.RowKit
section
variable {P:Program} {T:Tab}
def frz (st:St) (a b:AV):Prop :=
 b=.top \/ (b=a.strip/\b.dat=true) \/ (∃ p off cs,a=.ptr p off/\st.heap[p]? = some cs/\b=.elt (cs.drop off)/\(cs.drop off).all AV.flat=true) \/
  ∃ p lo n cap sz cs es,a=.hs p lo n cap sz/\st.heap[p]? = some cs/\Seen cs lo n sz es/\b=.sl .no sz es
def frzL (st:St) (fr:Fr):List Nat->List AV->Prop
 | [],[]=>True
 | i::is,b::bs=>frz st (fr.getD i .un) b/\frzL st fr is bs
 | _,_=>False
theorem frzL.get {st:St} {fr:Fr}:∀ {is:List Nat} {bs:List AV},frzL st fr is bs->∀ (k i:Nat) b,is[k]? = some i->bs[k]? = some b->frz st (fr.getD i .un) b
 | [],[],_,k,i,b,h,_=>by simp at h
 | i0::is,b0::bs,h,k,i,b,h1,h2=>by
  cases k with
  | zero=>simp at h1 h2; subst h1; subst h2; exact h.1
  | succ k=>exact frzL.get h.2 k i b (by simpa using h1) (by simpa using h2)
 | [],_::_,h,_,_,_,_,_=>h.elim
 | _::_,[],h,_,_,_,_,_=>h.elim
/-- code behind n pieces, run on what was made as data -/
inductive FrzK (P:Program) (T:Tab) (Q:Exit->Fr->St->Prop) (c:Code) (fr:Fr) (st:St):Prop
 | mk (live:List Nat) (vals:List AV) (h:frzL st fr live vals) (hv:ZDr (sets live vals (List.replicate fr.length .top)) fun fr2=>vc P T c Q fr2 ⟨[],[]⟩)
variable {base:Nat} {J:Nat->Nat->Prop} {w0:World} {st:St} {μ:Nat->Nat} {σ:Nat->Tkt} {w w':World}
theorem frz.at (hok:Ok base J w0 st μ σ w) {a b:AV} {v:Value} (h:At base J st μ σ w a v) (hf:frz st a b):At w.heap.size (fun _ _=>True) ⟨[],[]⟩ (fun _=>0) (fun _=>⟨0,0,0⟩) w b v:=by
 have im:∀ g x,Im w.heap.size (fun _ _=>True) ⟨[],[]⟩ (fun _=>0) (fun _=>⟨0,0,0⟩) g x:=fun g x=>⟨fun _=>trivial,fun p hp=>by simp at hp,fun t e ht=>by simp at ht⟩
 rcases hf with rfl | ⟨rfl,hd⟩ | ⟨p,off,cs,rfl,hcs,rfl,hfl⟩ | ⟨p,lo,n,cap,sz,cs,es,rfl,hcs,hseen,rfl⟩
 ·exact .top v
 ·exact h.strip.dat (fun g x _ _=>im g x) hd
 ·cases h with
  | ptr _ _ hp =>
   obtain ⟨_,us,TT,hb,hlen,hr⟩:=hok.hp p cs hcs
   refine .elt _ (μ p) off (fun j=>us.getD (off+j) undef) hfl (fun j a ha=>⟨im _ _,?_⟩) (fun j a ha=>?_)
   ·rw [List.getElem?_drop] at ha
    have hj:=(List.getElem?_eq_some_iff.1 ha).1
    have hu:us[off+j]? = some us[off+j]:=Array.getElem?_eq_getElem (by omega)
    rw [ZAc hb,hu]
    simp [Array.getD_eq_getD_getElem?,hu]
   ·have ha':=ha
    rw [List.getElem?_drop] at ha
    have hj:=(List.getElem?_eq_some_iff.1 ha).1
    have hu:us[off+j]? = some us[off+j]:=Array.getElem?_eq_getElem (by omega)
    have:=(hr (off+j) a _ ha hu).2.2
    have hg:us.getD (off+j) undef=us[off+j]:=by simp [Array.getD_eq_getD_getElem?,hu]
    show Rp w _ _ _ _ _ a (us.getD (off+j) undef)
    rw [hg]
    exact this.data (fun g x _ _=>im g x) (List.all_eq_true.1 hfl a (List.mem_of_getElem? ha'))
 ·cases h with
  | hs _ _ _ _ _ hp hnc hm =>
   obtain rfl:=hseen.len
   obtain ⟨us,hrow,hcell⟩:=hseen.row hok hcs
   have hrow':Row w.heap.size (fun _ _=>True) ⟨[],[]⟩ (fun _=>0) (fun _=>⟨0,0,0⟩) w sz es us:=⟨hrow.len,hrow.el,fun k e j a he ha=>by
    obtain ⟨u,h1,h2⟩:=hrow.at' k e j a he ha
    exact ⟨u,h1,h2.dat (fun g x _ _=>im g x) (AV.dat_of_flat (List.all_eq_true.1 (hrow.el k e he).2 a (List.mem_of_getElem? ha)))⟩⟩
   exact hrow'.sl .no (μ p) lo cap hnc hm (fun j u hu=>⟨im _ _,hcell j u hu⟩) (fun h=>by cases h) (fun i e h=>by cases h)
end
section
variable {P:Program}
def AV.isLit:AV->Bool
 | .lit _=>true
 | _=>false
def AV.lits:AV->Bool
 | .lit _=>true
 | .tup cs=>cs.all AV.isLit
 | _=>false
def frzA (st:St):List AV->List AV->Prop
 | [],[]=>True
 | a::r,b::s=>frz st a b/\frzA st r s
 | _,_=>False
theorem frzA.length {st:St}:∀ {xs ys:List AV},frzA st xs ys->xs.length=ys.length
 | [],[],_=>rfl
 | _::_,_::_,h=>by simp [frzA.length h.2]
 | [],_::_,h=>h.elim
 | _::_,[],h=>h.elim
theorem frzA.get {st:St}:∀ {xs ys:List AV},frzA st xs ys->∀ (j:Nat) b,ys[j]? = some b->∃ a,xs[j]? = some a/\frz st a b
 | [],[],_,j,b,h=>by simp at h
 | a::_,b0::_,h,j,b,hb=>by
  cases j with
  | zero=>simp at hb; subst hb; exact ⟨a,rfl,h.1⟩
  | succ j=>obtain ⟨c,h1,h2⟩:=frzA.get h.2 j b (by simpa using hb); exact ⟨c,by simpa using h1,h2⟩
 | [],_::_,h,_,_,_=>h.elim
 | _::_,[],h,_,_,_=>h.elim
theorem ZAB.frz {f:FuncId} {args args':List AV} {st:St} {R:AV->St->Prop} {r:AV} (hw:frzA st args args') (hr:r.lits=true) (h:ZAC P f args' r []) (hR:R r st):ZAB P f args st R:=by
 obtain ⟨_,hcall,hp⟩:=h
 refine ⟨hcall,fun base J w0 μ σ w vs h hl ha=>?_⟩
 refine (hp (fun _ _=>True) w vs h.laid' (hw.length.symm.trans hl) (fun j b v hb hv=>?_)).mono ?_
 ·obtain ⟨a,h1,h2⟩:=hw.get j b hb
  exact h2.at h (ha j a v h1 hv)
 rintro e w' ⟨v,σ',rfl,hok,hat⟩
 obtain ⟨ok',ext'⟩:=h.step hok.below
 refine ⟨v,r,st,μ,σ,rfl,hR,ok',ext',?_⟩
 cases r with
 | lit v0=>rw [hat.of_lit]; exact .lit _
 | tup cs =>
  cases hat with
  | tup cs us e1 hq =>
   refine .tup cs us e1 fun j a u h1 h2=>?_
   have hl:=List.all_eq_true.1 hr a (List.mem_of_getElem? h1)
   cases a with
   | lit v0=>rw [(hq j _ u h1 h2).of_lit]; exact .lit _
   | _=>cases hl
 | _=>cases hr
/-- a row that was written in place, seen as what it holds -/
theorem HR.frz {st:St} {sz:Nat} {a:AV} {r:Option Nat} {es:List (List AV)} (h:HR st sz a r es) (hne:es≠[]):Go.Proofs.YticbonkojpabnaaGreatDoor.frz st a (.sl .no sz es):=by
 cases h with
 | nil=>exact absurd rfl hne
 | tight=>exact absurd rfl hne
 | hs p cap es h =>
  obtain ⟨⟨zs,h1,h2⟩,h3,h4⟩:=h
  exact .inr (.inr (.inr ⟨p,0,es.length,cap,sz,_,es,rfl,h1,ZHh h3,rfl⟩))
end
end Go.Proofs.YticbonkojpabnaaGreatDoor
