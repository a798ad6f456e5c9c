/- Helpers over the kit alone: slices that are read or owned, what a call may change, append to an owned slice. No statement of its own. -/
import Derived.WalkKit
import Derived.WalkSpells
import Derived.WalkLawsBesides
import Derived.Deep.QuietTactic
import Derived.BigQuiet
import Derived.Deep.AppendSrc
import Derived.Deep.Upon
import Derived.Deep.RegionLaw
import Derived.Lib.Hide
set_option linter.unusedSimpArgs false
set_option linter.unusedVariables false
namespace Go.Proofs.YticbonkojpabnaaGreatDoor
open Go.RowKit

/-- The slice value v holds n elements of 'size' cells, the cells xs: to be read. -/
structure Has (w:World) (size:Nat) (v:Value) (n:Nat) (xs:List Value):Prop where
 len:xs.length=n*size
 is:(n=0/\∃ a c,v=.slice a 0 c/\c<=maxLen) \/ ∃ g o cap,v=.slice (some ⟨g,o,none⟩) n cap/\n<=cap/\cap<=maxLen/\∀ j,j<n*size->w.cell? ⟨g,o+j,none⟩=xs[j]?

/-- .. and it is the call's own: from block base on, all its capacity may be written. -/
structure Own (w:World) (base:Nat) (size:Nat) (v:Value) (n:Nat) (xs:List Value):Prop where
 len:xs.length=n*size
 is:(v=.slice none 0 0/\n=0) \/ ∃ g o cap,v=.slice (some ⟨g,o,none⟩) n cap/\base<=g/\g<w.heap.size/\n<=cap/\cap<=maxLen/\(∀ j,j<n*size->w.cell? ⟨g,o+j,none⟩=xs[j]?) /\
  ∀ j,j<cap*size->(w.cell? ⟨g,o+j,none⟩).isSome=true/\w.frozen? ⟨g,o+j,none⟩=false

/-- What may have turned: blocks of S, and new ones. -/
structure Chg (w w':World) (S:Nat->Prop):Prop where
 os:w'.os=w.os
 tape:w'.tape=w.tape
 output:w'.output=w.output
 size:w.heap.size<=w'.heap.size
 block:∀ k,k<w.heap.size->¬ S k->w'.heap[k]? = w.heap[k]?

section
variable {w w' w'':World} {S:Nat->Prop}

theorem Chg.refl (w:World) (S:Nat->Prop):Chg w w S:=⟨rfl,rfl,rfl,Nat.le_refl _,fun _ _ _=>rfl⟩
theorem Chg.trans (h:Chg w w' S) (k:Chg w' w'' S):Chg w w'' S :=
 ⟨k.os.trans h.os,k.tape.trans h.tape,k.output.trans h.output,Nat.le_trans h.size k.size,fun i hi hs=>(k.block i (Nat.lt_of_lt_of_le hi h.size) hs).trans (h.block i hi hs)⟩
theorem Chg.mono {T:Nat->Prop} (h:Chg w w' S) (hs:∀ k,k<w.heap.size->S k->T k):Chg w w' T:=⟨h.os,h.tape,h.output,h.size,fun i hi ht=>h.block i hi (fun s=>ht (hs i hi s))⟩
theorem Chg.alloc (h:Chg w w' S) (o:Obj):Chg w (w'.alloc o) S :=
 ⟨h.os,h.tape,h.output,by have:=h.size; simp; omega,fun i hi hs=>(Below.heap_alloc _ _ _ (Nat.lt_of_lt_of_le hi h.size)).trans (h.block i hi hs)⟩
theorem Chg.setCell (h:Chg w w' S) {a:Addr} (ha:w.heap.size<=a.block \/ S a.block) (u:Value):Chg w (w'.setCell a u) S :=
 ⟨h.os,h.tape,h.output,by have:=h.size; simp [World.setCell]; omega,fun i hi hs=>(Below.heap_setCell _ _ _ _ (fun e=>by subst e; rcases ha with ha | ha; exact absurd hi (by omega); exact hs ha)).trans (h.block i hi hs)⟩
theorem Chg.next {T:Nat->Prop} (h:Chg w w' T) (k:Chg w' w'' S) (hs:∀ i,i<w.heap.size->S i->T i):Chg w w'' T :=
 ⟨k.os.trans h.os,k.tape.trans h.tape,k.output.trans h.output,Nat.le_trans h.size k.size,fun i hi ht=>(k.block i (Nat.lt_of_lt_of_le hi h.size) (fun s=>ht (hs i hi s))).trans (h.block i hi ht)⟩
theorem Chg.set (w:World) (b o:Nat) (u:Value):Chg w (w.setCell ⟨b,o,none⟩ u) (fun k=>k=b):=Chg.setCell (a:=⟨b,o,none⟩) (S:=fun k=>k=b) (Chg.refl w _) (.inr rfl) u
theorem Chg.drewN (h:Chg w w' S) (n:Nat):Chg w (w'.drewN n) S:=⟨h.os,h.tape,h.output,h.size,h.block⟩
theorem Chg.drew (h:Chg w w' S):Chg w w'.drew S:=⟨h.os,h.tape,h.output,h.size,h.block⟩
theorem Chg.grown {row:Option Nat} (h:w.grownBy w' row):Chg w w' (fun k=>row=some k):=⟨h.os,h.tape,h.output,h.size,fun i hi hs=>h.block i hi (fun e=>hs e.symm)⟩
theorem Chg.below {B:Nat} (h:Chg w w' S) (hB:B<=w.heap.size) (hs:∀ k,k<B->¬ S k):Below B w w':=⟨h.os,h.tape,h.output,h.size,fun i hi=>h.block i (by omega) (hs i hi)⟩
theorem Chg.cell (h:Chg w w' S) {a:Addr} {v:Value} (hc:w.cell? a=some v) (hs:¬ S a.block):w'.cell? a=some v :=
 (World.cell?_of_block (h.block a.block (World.block_lt_of_cell? w a hc) hs)).trans hc
theorem Chg.cellq (h:Chg w w' S) {a:Addr} (hc:a.block<w.heap.size) (hs:¬ S a.block):w'.cell? a=w.cell? a:=World.cell?_of_block (h.block a.block hc hs)
theorem Chg.frozenq (h:Chg w w' S) {a:Addr} (hc:a.block<w.heap.size) (hs:¬ S a.block):w'.frozen? a=w.frozen? a:=World.frozen?_of_block (h.block a.block hc hs)

theorem Has.chg {size:Nat} {v:Value} {n:Nat} {xs:List Value} (h:Has w size v n xs) (c:Chg w w' S) (hs:∀ g,v.ownBlock=some g->¬ S g):Has w' size v n xs:=by
 refine ⟨h.len,?_⟩
 rcases h.is with h0 | ⟨g,o,cap,rfl,h1,h2,h3⟩
 ·exact .inl h0
 ·refine .inr ⟨g,o,cap,rfl,h1,h2,fun j hj=>?_⟩
  have hl:j<xs.length:=by rw [h.len]; exact hj
  have e:=h3 j hj
  rw [List.getElem?_eq_getElem hl] at e ⊢
  exact c.cell e (hs g rfl)

theorem Own.chg {base size:Nat} {v:Value} {n:Nat} {xs:List Value} (h:Own w base size v n xs) (c:Chg w w' S) (hs:∀ g,v.ownBlock=some g->¬ S g):Own w' base size v n xs:=by
 refine ⟨h.len,?_⟩
 rcases h.is with h0 | ⟨g,o,cap,rfl,hb,hg,h1,h2,h3,h4⟩
 ·exact .inl h0
 ·have hn:=hs g rfl
  refine .inr ⟨g,o,cap,rfl,hb,Nat.lt_of_lt_of_le hg c.size,h1,h2,fun j hj=>?_,fun j hj=>?_⟩
  ·rw [c.cellq (a:=⟨g,o+j,none⟩) hg hn]; exact h3 j hj
  ·rw [c.cellq (a:=⟨g,o+j,none⟩) hg hn,c.frozenq (a:=⟨g,o+j,none⟩) hg hn]; exact h4 j hj

theorem Own.has {base size:Nat} {v:Value} {n:Nat} {xs:List Value} (h:Own w base size v n xs):Has w size v n xs:=by
 refine ⟨h.len,?_⟩
 rcases h.is with ⟨rfl,rfl⟩ | ⟨g,o,cap,hv,_,_,h1,h2,h3,_⟩
 ·exact .inl ⟨rfl,_,_,rfl,Nat.zero_le _⟩
 ·exact .inr ⟨g,o,cap,hv,h1,h2,h3⟩

theorem Own.mono {base base' size:Nat} {v:Value} {n:Nat} {xs:List Value} (h:Own w base size v n xs) (hb:base'<=base):Own w base' size v n xs:=by
 refine ⟨h.len,?_⟩
 rcases h.is with h0 | ⟨g,o,cap,hv,h1,h2⟩
 ·exact .inl h0
 ·exact .inr ⟨g,o,cap,hv,Nat.le_trans hb h1,h2⟩

theorem Own.lt {base size:Nat} {v:Value} {n:Nat} {xs:List Value} (h:Own w base size v n xs):∀ g,v.ownBlock=some g->base<=g/\g<w.heap.size:=by
 intro k hk
 rcases h.is with ⟨rfl,_⟩ | ⟨g,o,cap,rfl,h1,h2,_⟩
 ·simp [Value.ownBlock] at hk
 ·simp [Value.ownBlock] at hk; subst hk; exact ⟨h1,h2⟩

theorem Own.nil (w:World) (base size:Nat):Own w base size (.slice none 0 0) 0 []:=⟨by simp,.inl ⟨rfl,rfl⟩⟩

theorem Has.slice {size:Nat} {v:Value} {n:Nat} {xs:List Value} (h:Has w size v n xs):∃ a c,v=.slice a n c/\n<=c/\c<=maxLen:=by
 rcases h.is with ⟨rfl,a,c,rfl,hc⟩ | ⟨g,o,cap,rfl,h1,h2,_⟩
 ·exact ⟨_,_,rfl,Nat.zero_le _,hc⟩
 ·exact ⟨_,_,rfl,h1,h2⟩

theorem Has.src {P:Program} {tx e':TypeId} {size:Nat} {v:Value} {n:Nat} {xs:List Value} (h:Has w size v n xs) (hk:P.underlying tx=some (.slice e')) (h1:∀ u∈xs,u.oneCell'=true):Src P size tx v n xs w:=by
 rcases h.is with ⟨rfl,a,c,rfl,_⟩ | ⟨g,o,cap,rfl,_,_,h3⟩
 ·have:xs=[]:=List.eq_nil_of_length_eq_zero (by simpa using h.len)
  subst this
  cases a with
  | none=>exact Src.ofNil w hk c
  | some a=>exact Src.ofSlice w hk a 0 c [] (by simp) (fun j u hu=>by simp at hu) h1
 ·refine Src.ofSlice w hk _ _ _ xs h.len (fun j u hu=>?_) h1
  have hj:j<n*size:=by rw [<- h.len]; exact (List.getElem?_eq_some_iff.1 hu).1
  rw [Addr.add_lit,h3 j hj,hu]

theorem Has.nil (w:World) (size:Nat):Has w size (.slice none 0 0) 0 []:=⟨by simp,.inl ⟨rfl,_,_,rfl,Nat.zero_le _⟩⟩

/-- a block known whole holds a row of its own -/
theorem Own.block {base:Nat} {cs:Array Value} {t:TypeId} {g size n:Nat} (hg:w.heap[g]? = some (.cells cs t (0,0))) (hb:base<=g) (hs:cs.size=n*size) (hn:n<=maxLen) :
  Own w base size (.slice (some ⟨g,0,none⟩) n n) n cs.toList:=by
 refine ⟨by simpa using hs,.inr ⟨g,0,n,rfl,hb,(Array.getElem?_eq_some_iff.1 hg).1,Nat.le_refl _,hn,fun j hj=>?_,fun j hj=>?_⟩⟩
 ·rw [Nat.zero_add,cell_of_row w g j cs t (0,0) hg]; simp
 ·rw [Nat.zero_add,cell_of_row w g j cs t (0,0) hg]
  refine ⟨by simp; omega,?_⟩
  simp [World.frozen?,hg]
theorem Own.new {base:Nat} {cs:Array Value} {t:TypeId} {size n:Nat} (hb:base<=w.heap.size) (hs:cs.size=n*size) (hn:n<=maxLen) :
  Own (w.alloc (.cells cs t)) base size (.slice (some ⟨w.heap.size,0,none⟩) n n) n cs.toList:=Own.block (heap_alloc_new w _) hb hs hn
end

section
variable {P:Program} (w:World)

end
end Go.Proofs.YticbonkojpabnaaGreatDoor
