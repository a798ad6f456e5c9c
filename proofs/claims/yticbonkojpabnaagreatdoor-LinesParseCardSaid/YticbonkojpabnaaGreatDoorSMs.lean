/- Messages: rows of fields, cut short, bags made of them, the values of a name. No statement of its own. -/
import Derived.Test.YticbonkojpabnaaGreatDoorSSp
set_option linter.unusedSimpArgs false
set_option linter.unusedVariables false
set_option maxRecDepth 100000
namespace Go.Proofs.YticbonkojpabnaaGreatDoor
open Go.RowKit
/-- fields in a row -/
def fldL (l:List Fld):List (List AV):=l.map fun f=>[AV.s f.1,AV.s f.2]
theorem ZA5 (l:List Fld):(fldL l).length=l.length:=by simp [fldL]
theorem ZBj {l:List Fld} {j:Nat} (h:j<l.length):(fldL l)[j]? = some [.s l[j].1,.s l[j].2]:=by simp [fldL,h]
/-- an empty row, as whatever it may be -/
theorem ZAC.empty {P:Program} {f:FuncId} {sz:Nat} {r:AV} {ns:List Nat} (h:∀ a cap,cap<=maxLen->ZAC P f [.lit (.slice a 0 cap)] r ns):ZAC P f [.sl .no sz []] r ns:=by
 refine ⟨(h none 0 (Nat.zero_le _)).1,(h none 0 (Nat.zero_le _)).2.1,fun J w vs hw hl ha=>?_⟩
 have h0:0<vs.size:=by rw [<- hl]; exact Nat.zero_lt_one
 obtain ⟨a,cap,e,hm⟩:∃ a cap,vs[0]=.slice a 0 cap/\cap<=maxLen:=by
  rcases (ha 0 _ vs[0] rfl (Array.getElem?_eq_getElem h0)).sl_inv with ⟨_,_,a,cap,e,hm⟩ | ⟨g,o,cap,us,e,_,_,hm,_⟩
  ·exact ⟨a,cap,e,hm⟩
  ·exact ⟨_,cap,e,hm⟩
 refine (h a cap hm).2.2 J w vs hw hl fun j b v hb hv=>?_
 cases j with
 | zero =>
  cases hb
  rw [Array.getElem?_eq_getElem h0,e] at hv
  cases hv
  exact .lit _
 | succ j=>simp at hb
theorem ZAB.empty {P:Program} {f:FuncId} {sz:Nat} {st:St} {R:AV->St->Prop} (h:∀ a cap,cap<=maxLen->ZAB P f [.lit (.slice a 0 cap)] st R):ZAB P f [.sl .no sz []] st R:=by
 refine ⟨(h none 0 (Nat.zero_le _)).1,fun base J w0 μ σ w vs hok hl ha=>?_⟩
 have h0:0<vs.size:=by rw [<- hl]; exact Nat.zero_lt_one
 obtain ⟨a,cap,e,hm⟩:∃ a cap,vs[0]=.slice a 0 cap/\cap<=maxLen:=by
  rcases (ha 0 _ vs[0] rfl (Array.getElem?_eq_getElem h0)).sl_inv with ⟨_,_,a,cap,e,hm⟩ | ⟨g,o,cap,us,e,_,_,hm,_⟩
  ·exact ⟨a,cap,e,hm⟩
  ·exact ⟨_,cap,e,hm⟩
 refine (h a cap hm).2 base J w0 μ σ w vs hok hl fun j b v hb hv=>?_
 cases j with
 | zero =>
  cases hb
  rw [Array.getElem?_eq_getElem h0,e] at hv
  cases hv
  exact .lit _
 | succ j=>simp at hb
section
attribute [local irreducible] ZAn
end
/-- a state that has grown: all that was is as it was -/
structure Gr (st st':St):Prop where
 pre:Pre st st'
 tl:st.tk.length<=st'.tk.length
 tk:∀ t,t<st.tk.length->st'.tk[t]? = st.tk[t]?
theorem Gr.refl (st:St):Gr st st:=⟨.refl _,Nat.le_refl _,fun _ _=>rfl⟩
theorem Gr.trans {a b c:St} (h:Gr a b) (g:Gr b c):Gr a c:=⟨h.pre.trans g.pre,Nat.le_trans h.tl g.tl,fun t ht=>(g.tk t (Nat.lt_of_lt_of_le ht h.tl)).trans (h.tk t ht)⟩
theorem ZAK (h:List (List AV)) (x:List AV):(h++[x])[h.length]? = some x:=by simp
theorem last_set (h:List (List AV)) (x y:List AV):(h++[x]).set h.length y=h++[y]:=by simp
theorem ZAL (h:List (List AV)) (x y:List AV):((h++[x]).set h.length y)[h.length]? = some y:=by rw [last_set,ZAK]
section
attribute [local irreducible] ZAn
end
structure FldOk (l:List Fld):Prop where
 len:l.length<=1000
 size:∀ f∈l,f.1.size<=4000/\f.2.size<=4000
end Go.Proofs.YticbonkojpabnaaGreatDoor
