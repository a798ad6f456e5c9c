/- Templates: plain words: their parts, read and written. No program in sight. -/
import Derived.Test.YticbonkojpabnaaGreatDoorSPl
set_option linter.unusedSimpArgs false
set_option linter.unusedVariables false
set_option maxRecDepth 100000
namespace Go.Proofs.YticbonkojpabnaaGreatDoor
open Go.RowKit
abbrev Prt:=Int × ByteArray
/-- a text more, behind parts -/
def mrgT (acc:List Prt) (s:ByteArray):List Prt :=
 match acc[acc.length - 1]? with
 | some p=>if p.1=1 then acc.set (acc.length - 1) (1,p.2++s) else acc++[(1,s)]
 | none=>acc++[(1,s)]
theorem ZGs {acc:List Prt} {s:ByteArray} (h:∀ p,acc[acc.length - 1]? = some p->p.1≠1):mrgT acc s=acc++[(1,s)]:=by
 unfold mrgT
 cases hl:acc[acc.length - 1]? with
 | none=>rfl
 | some p=>simp only; rw [if_neg (h p hl)]
theorem ZEK {acc:List Prt} {s:ByteArray} {p:Prt} (h:acc[acc.length - 1]? = some p) (h1:p.1=1):mrgT acc s=acc.set (acc.length - 1) (1,p.2++s):=by
 unfold mrgT
 rw [h]
 exact if_pos h1
theorem mrgT_mrgT (acc:List Prt) (a b:ByteArray):mrgT (mrgT acc a) b=mrgT acc (a++b):=by
 by_cases h:∃ p,acc[acc.length - 1]? = some p/\p.1=1
 ·obtain ⟨p,h1,h2⟩:=h
  have hl:=(List.getElem?_eq_some_iff.1 h1).1
  rw [ZEK h1 h2,ZEK h1 h2,ZEK (p:=(1,p.2++a)) (by rw [List.length_set,List.getElem?_set_self hl]) rfl,List.length_set,List.set_set,ByteArray.append_assoc]
 ·have h':∀ p,acc[acc.length - 1]? = some p->p.1≠1:=fun p hp e=>h ⟨p,hp,e⟩
  rw [ZGs h',ZGs h',ZEK (p:=(1,a)) (by simp) rfl]
  simp
def putT (acc:List Prt) (p:Prt):List Prt:=if p.1=1 then mrgT acc p.2 else acc++[p]
def nbrI (n:Int):Bool:=n != 125
def smlI (n:Int):Bool:=decide (97<=n) && decide (n<=122)
def plnI (n:Int):Bool:=valI n && n != 36
/-- the part with which a text goes on from a place -/
def oneT (s:ByteArray) (k:Nat):Option (Prt × Nat) :=
 if atB s k 36=false then
  (if h:k<s.size then (if valI (s[k].toNat:Int)=true then some ((1,s.extract k (k+1)),k+1) else none) else none)
 else if atB s (k+1) 36=true then some ((1,⟨#[36]⟩),k+2)
 else if k+tw nbrI s k=s.size \/ k+tw nbrI s k<k+3 \/ atB s (k+1) 123=false then none
 else if atB s (k+2) 64=true then
  (if tokB (s.extract (k+3) (k+tw nbrI s k))=true then some ((3,s.extract (k+3) (k+tw nbrI s k)),k+tw nbrI s k+1) else none)
 else (if allI smlI (s.extract (k+2) (k+tw nbrI s k))=true then some ((2,s.extract (k+2) (k+tw nbrI s k)),k+tw nbrI s k+1) else none)
theorem ZBG {s:ByteArray} {k:Nat} {b:Int} (h:atB s k b=true):∃ hk:k<s.size,(s[k].toNat:Int)=b:=by
 have hk:k<s.size:=Decidable.byContradiction fun hc=>by rw [ZCY (by omega)] at h; cases h
 rw [ZAj hk] at h
 exact ⟨hk,beq_iff_eq.1 h⟩
theorem atB_no {s:ByteArray} {k:Nat} {b:Int} (h:atB s k b=false) (hk:k<s.size):(s[k].toNat:Int)≠b:=by
 rw [ZAj hk] at h
 exact beq_eq_false_iff_ne.1 h
theorem atB_two {s:ByteArray} {k:Nat} {b c:Int} (h:atB s k b=true) (hne:b≠c):atB s k c=false:=by
 obtain ⟨hk,e⟩:=ZBG h
 rw [ZAj hk,e]
 exact beq_eq_false_iff_ne.2 hne
theorem ZNI {q:Int->Bool} {s:ByteArray} {k j:Nat} (h1:k<=j) (h2:j<k+tw q s k) (hk:k<=s.size):∃ hj:j<s.size,q (s[j].toNat:Int)=true:=by
 have hl:=ZCR q s k hk
 have hj:j<s.size:=by omega
 refine ⟨hj,?_⟩
 unfold tw at h2
 have ha:∀ (l:List UInt8) (i:Nat) (hi:i<(l.takeWhile (fun b:UInt8=>q (b.toNat:Int))).length),∃ hi2:i<l.length,q ((l[i]'hi2).toNat:Int)=true:=by
  intro l
  induction l with
  | nil=>intro i hi; simp at hi
  | cons x r ih =>
   intro i hi
   by_cases hx:q (x.toNat:Int)=true
   ·rw [List.takeWhile_cons_of_pos (p:=fun b:UInt8=>q (b.toNat:Int)) hx] at hi
    cases i with
    | zero=>exact ⟨by simp,hx⟩
    | succ i =>
     obtain ⟨z1,z2⟩:=ih i (by simpa using hi)
     exact ⟨by simp; omega,z2⟩
   ·rw [List.takeWhile_cons_of_neg (p:=fun b:UInt8=>q (b.toNat:Int)) hx] at hi
    simp at hi
 obtain ⟨z1,z2⟩:=ha (s.data.toList.drop k) (j - k) (by omega)
 have e:(s.data.toList.drop k)[j - k]=s[j]:=by
  rw [List.getElem_drop]
  have:k+(j - k)=j:=by omega
  simp only [this]
  exact bget s j hj
 rw [e] at z2
 exact z2
theorem tw_end {q:Int->Bool} {s:ByteArray} {k:Nat} (hk:k<=s.size) (h:k+tw q s k<s.size):q ((s[k+tw q s k]'h).toNat:Int)=false:=by
 cases hq:q ((s[k+tw q s k]'h).toNat:Int) with
 | false=>rfl
 | true =>
  exfalso
  have:k+tw q s k+1<=k+tw q s k:=by
   have ha:∀ i (hi:i<s.size),k<=i->i<k+tw q s k+1->q (s[i].toNat:Int)=true:=fun i hi h1 h2=>by
    by_cases e:i=k+tw q s k
    ·subst e; exact hq
    ·exact (ZNI h1 (by omega) hk).2
   have key:∀ d m,m+d=s.size->k<=m->(∀ i (hi:i<s.size),k<=i->i<m->q (s[i].toNat:Int)=true)->m<=k+tw q s k:=by
    intro d
    induction d with
    | zero =>
     intro m hm h1 h2
     have:=ZDc h2 h1 (by omega) (fun hj=>absurd hj (by omega))
     omega
    | succ d ih =>
     intro m hm h1 h2
     cases hqm:q ((s[m]'(by omega)).toNat:Int) with
     | false =>
      have:=ZDc h2 h1 (by omega) (fun _=>hqm)
      omega
     | true =>
      have:=ih (m+1) (by omega) (by omega) (fun i hi h3 h4=>by
       by_cases e:i=m
       ·subst e; exact hqm
       ·exact h2 i hi h3 (by omega))
      omega
   exact key (s.size - (k+tw q s k+1)) _ (by omega) (by omega) ha
  omega
theorem ZG9 {s:ByteArray} {k j:Nat} {p:Prt} (h:oneT s k=some (p,j)):k<j/\j<=s.size:=by
 unfold oneT at h
 split at h
 ·split at h
  ·split at h
   ·cases h; omega
   ·cases h
  ·cases h
 ·rename_i h0
  have h0:atB s k 36=true:=by simpa using h0
  obtain ⟨hk,_⟩:=ZBG h0
  have hl:=ZCR nbrI s k (by omega)
  split at h
  ·rename_i h1
   obtain ⟨hk1,_⟩:=ZBG h1
   cases h; omega
  ·split at h
   ·cases h
   ·rename_i h2
    have h3:k+tw nbrI s k≠s.size:=fun e=>h2 (.inl e)
    split at h
    iterate 2
     ·split at h
      ·cases h; omega
      ·cases h
def tpW (s:ByteArray) (k:Nat) (acc:List Prt):Option (List Prt) :=
 if k<s.size then
  match oneT s k with
  | none=>none
  | some (p,j)=>if _h:k<j/\j<=s.size then tpW s j (putT acc p) else none
 else some acc
termination_by s.size - k
theorem ZHV {s:ByteArray} {k:Nat} {acc:List Prt} (h:¬ k<s.size):tpW s k acc=some acc:=by rw [tpW,if_neg h]
theorem ZDb {s:ByteArray} {k:Nat} {acc:List Prt} (h:k<s.size) (h1:oneT s k=none):tpW s k acc=none:=by rw [tpW,if_pos h,h1]
theorem ZCs {s:ByteArray} {k j:Nat} {p:Prt} {acc:List Prt} (h:k<s.size) (h1:oneT s k=some (p,j)):tpW s k acc=tpW s j (putT acc p):=by
 rw [tpW,if_pos h,h1]
 simp only
 rw [dif_pos (ZG9 h1)]
def ZAM (s:ByteArray):List Prt × Int :=
 match tpW s 0 [] with
 | none=>([],2)
 | some l=>if 32<l.length then ([],3) else (l,0)
theorem sml_nbr (n:Int) (h:smlI n=true):nbrI n=true:=by
 unfold smlI at h
 unfold nbrI
 simp only [Bool.and_eq_true,decide_eq_true_eq] at h
 rw [bne_iff_ne]
 omega
theorem tok_nbr:∀ m:Nat,m<256->tokI (m:Int)=true->nbrI (m:Int)=true:=by decide +kernel
theorem pln_val (n:Int) (h:plnI n=true):valI n=true/\n≠36:=by
 unfold plnI at h
 rw [Bool.and_eq_true,bne_iff_ne] at h
 exact h
section
variable {s:ByteArray} {k:Nat} {acc:List Prt}
theorem tp_two (h1:atB s k 36=true) (h2:atB s (k+1) 36=true):tpW s k acc=tpW s (k+2) (mrgT acc ⟨#[36]⟩):=by
 obtain ⟨hk,_⟩:=ZBG h1
 have ho:oneT s k=some ((1,⟨#[36]⟩),k+2):=by unfold oneT; rw [if_neg (by rw [h1]; decide),if_pos h2]
 rw [ZCs hk ho]
 rfl
/-- where the brace ends, and what of it -/
theorem ZLz {q:Int->Bool} {d:Nat} (hq:∀ m:Nat,m<256->q (m:Int)=true->nbrI (m:Int)=true) (h0:∀ j,k<=j->j<k+d->∃ hj:j<s.size,nbrI (s[j].toNat:Int)=true) (hd:k+d<=s.size) (he:atB s (k+d+tw q s (k+d)) 125=true) :
  k+tw nbrI s k=k+d+tw q s (k+d):=by
 obtain ⟨hj,e⟩:=ZBG he
 refine ZDc (fun i hi h1 h2=>?_) (by omega) (by omega) (fun _=>?_)
 ·by_cases hlt:i<k+d
  ·exact (h0 i h1 hlt).2
  ·obtain ⟨z1,z2⟩:=ZNI (q:=q) (s:=s) (k:=k+d) (j:=i) (by omega) (by omega) hd
   exact hq s[i].toNat s[i].toNat_lt z2
 ·show nbrI (s[k+d+tw q s (k+d)].toNat:Int)=false
  rw [e]; rfl
theorem all_ext {q:Int->Bool} {a b:Nat} (hb:b<=s.size) (h:∀ j,a<=j->j<b->∃ hj:j<s.size,q (s[j].toNat:Int)=true):allI q (s.extract a b)=true:=by
 refine ZB1 fun i hi=>?_
 have hsz:(s.extract a b).size=b - a:=by rw [ByteArray.size_extract]; omega
 obtain ⟨hj,z⟩:=h (a+i) (by omega) (by omega)
 have:(s.extract a b)[i]=s[a+i]:=by
  rw [ByteArray.getElem_extract]
 rw [this]
 exact z
theorem ZI7 {q:Int->Bool} {a b:Nat} (hb:b<=s.size) (h:allI q (s.extract a b)=true):∀ j,a<=j->j<b->∃ hj:j<s.size,q (s[j].toNat:Int)=true:=fun j h1 h2=>by
 have hsz:(s.extract a b).size=b - a:=by rw [ByteArray.size_extract]; omega
 refine ⟨by omega,?_⟩
 have:=allI_at h (j - a) (by omega)
 have e:(s.extract a b)[j - a]'(by omega)=s[j]'(by omega):=by
  rw [ByteArray.getElem_extract]
  congr 1
  omega
 rw [e] at this
 exact this
theorem pre_nbr (h1:atB s k 36=true) (h2:atB s (k+1) 123=true):∀ j,k<=j->j<k+2->∃ hj:j<s.size,nbrI (s[j].toNat:Int)=true:=fun j a b=>by
 obtain ⟨hk,e1⟩:=ZBG h1
 obtain ⟨hk1,e2⟩:=ZBG h2
 by_cases e:j=k
 ·subst e; exact ⟨hk,by rw [e1]; rfl⟩
 ·obtain rfl:j=k+1:=by omega
  exact ⟨hk1,by rw [e2]; rfl⟩
theorem pre_nbr3 (h1:atB s k 36=true) (h2:atB s (k+1) 123=true) (h3:atB s (k+2) 64=true):∀ j,k<=j->j<k+3->∃ hj:j<s.size,nbrI (s[j].toNat:Int)=true:=fun j a b=>by
 by_cases e:j<k+2
 ·exact pre_nbr h1 h2 j a e
 ·obtain ⟨hk2,e2⟩:=ZBG h3
  obtain rfl:j=k+2:=by omega
  exact ⟨hk2,by rw [e2]; rfl⟩
theorem ZEL (h1:atB s k 36=true) (h2:atB s (k+1) 123=true):oneT s k=if k+tw nbrI s k=s.size \/ k+tw nbrI s k<k+3 then none else if atB s (k+2) 64=true then
  (if tokB (s.extract (k+3) (k+tw nbrI s k))=true then some ((3,s.extract (k+3) (k+tw nbrI s k)),k+tw nbrI s k+1) else none)
 else (if allI smlI (s.extract (k+2) (k+tw nbrI s k))=true then some ((2,s.extract (k+2) (k+tw nbrI s k)),k+tw nbrI s k+1) else none):=by
 unfold oneT
 rw [if_neg (by rw [h1]; decide),if_neg (by rw [atB_two h2 (by decide)]; decide)]
 by_cases h:k+tw nbrI s k=s.size \/ k+tw nbrI s k<k+3
 ·rw [if_pos h,if_pos (h.elim .inl (fun h=>.inr (.inl h)))]
 ·rw [if_neg h,if_neg (fun h'=>h (h'.elim .inl (fun h'=>h'.elim .inr (fun e=>by rw [h2] at e; cases e))))]
theorem tp_field (h1:atB s k 36=true) (h2:atB s (k+1) 123=true) (h3:atB s (k+2) 64=true) (ht:tw tokI s (k+3)≠0) (he:atB s (k+3+tw tokI s (k+3)) 125=true) :
  tpW s k acc=tpW s (k+3+tw tokI s (k+3)+1) (acc++[(3,s.extract (k+3) (k+3+tw tokI s (k+3)))]):=by
 obtain ⟨hk2,_⟩:=ZBG h3
 obtain ⟨hke,_⟩:=ZBG he
 have hb:=ZLz (d:=3) tok_nbr (pre_nbr3 h1 h2 h3) (by omega) he
 have ho:oneT s k=some ((3,s.extract (k+3) (k+3+tw tokI s (k+3))),k+3+tw tokI s (k+3)+1):=by
  rw [ZEL h1 h2,hb,if_neg (fun h=>h.elim (fun h=>by omega) (fun h=>by omega)),if_pos h3,if_pos]
  unfold tokB
  rw [all_ext (q:=tokI) (by omega) (fun j a b=>ZNI a b (by omega)),Bool.and_true]
  refine decide_eq_true ?_
  rw [ByteArray.size_extract]; omega
 rw [ZCs (by omega) ho]
 rfl
theorem ZGx (h1:atB s k 36=true) (h2:atB s (k+1) 123=true) (h3:atB s (k+2) 64=true) (h:tw tokI s (k+3)=0 \/ atB s (k+3+tw tokI s (k+3)) 125=false):tpW s k acc=none:=by
 obtain ⟨hk2,_⟩:=ZBG h3
 refine ZDb (by omega) ?_
 rw [ZEL h1 h2]
 by_cases hc:k+tw nbrI s k=s.size \/ k+tw nbrI s k<k+3
 ·rw [if_pos hc]
 rw [if_neg hc,if_pos h3,if_neg]
 intro ht
 have hl:=ZCR nbrI s k (by omega)
 have hne:k+tw nbrI s k≠s.size:=fun e=>hc (.inl e)
 have h3':¬ k+tw nbrI s k<k+3:=fun e=>hc (.inr e)
 have hend:=tw_end (q:=nbrI) (s:=s) (k:=k) (by omega) (by omega)
 have h125:(s[k+tw nbrI s k]'(by omega)).toNat=125:=by
  have hend:(((s[k+tw nbrI s k]'(by omega)).toNat:Int) != 125)=false:=hend
  have:=(bne_eq_false_iff_eq.1 hend)
  omega
 unfold tokB at ht
 rw [Bool.and_eq_true,decide_eq_true_eq] at ht
 obtain ⟨t1,t2⟩:=ht
 rw [ByteArray.size_extract] at t1
 have htw:k+3+tw tokI s (k+3)=k+tw nbrI s k:=ZDc (fun i hi a b=>(ZI7 (by omega) t2 i a b).2) (by omega) (by omega) (fun _=>by
  show tokI ((s[k+tw nbrI s k]'(by omega)).toNat:Int)=false
  rw [h125]; decide +kernel)
 rcases h with h | h
 ·omega
 ·rw [htw,ZAj (by omega),h125] at h
  cases h
theorem tp_var (h1:atB s k 36=true) (h2:atB s (k+1) 123=true) (h3:atB s (k+2) 64=false) (ht:tw smlI s (k+2)≠0) (he:atB s (k+2+tw smlI s (k+2)) 125=true) :
  tpW s k acc=tpW s (k+2+tw smlI s (k+2)+1) (acc++[(2,s.extract (k+2) (k+2+tw smlI s (k+2)))]):=by
 obtain ⟨hk1,_⟩:=ZBG h2
 obtain ⟨hke,_⟩:=ZBG he
 have hb:=ZLz (d:=2) (fun m _ h=>sml_nbr _ h) (pre_nbr h1 h2) (by omega) he
 have ho:oneT s k=some ((2,s.extract (k+2) (k+2+tw smlI s (k+2))),k+2+tw smlI s (k+2)+1):=by
  rw [ZEL h1 h2,hb,if_neg (fun h=>h.elim (fun h=>by omega) (fun h=>by omega)),if_neg (by rw [h3]; decide),if_pos]
  exact all_ext (q:=smlI) (by omega) (fun j a b=>ZNI a b (by omega))
 rw [ZCs (by omega) ho]
 rfl
theorem tp_var_no (h1:atB s k 36=true) (h2:atB s (k+1) 123=true) (h3:atB s (k+2) 64=false) (h:tw smlI s (k+2)=0 \/ atB s (k+2+tw smlI s (k+2)) 125=false):tpW s k acc=none:=by
 obtain ⟨hk1,_⟩:=ZBG h2
 refine ZDb (by omega) ?_
 rw [ZEL h1 h2]
 by_cases hc:k+tw nbrI s k=s.size \/ k+tw nbrI s k<k+3
 ·rw [if_pos hc]
 rw [if_neg hc,if_neg (by rw [h3]; decide),if_neg]
 intro ht
 have hl:=ZCR nbrI s k (by omega)
 have hne:k+tw nbrI s k≠s.size:=fun e=>hc (.inl e)
 have h3':¬ k+tw nbrI s k<k+3:=fun e=>hc (.inr e)
 have hend:=tw_end (q:=nbrI) (s:=s) (k:=k) (by omega) (by omega)
 have h125:(s[k+tw nbrI s k]'(by omega)).toNat=125:=by
  have hend:(((s[k+tw nbrI s k]'(by omega)).toNat:Int) != 125)=false:=hend
  have:=(bne_eq_false_iff_eq.1 hend)
  omega
 have htw:k+2+tw smlI s (k+2)=k+tw nbrI s k:=ZDc (fun i hi a b=>(ZI7 (by omega) ht i a b).2) (by omega) (by omega) (fun _=>by
  show smlI ((s[k+tw nbrI s k]'(by omega)).toNat:Int)=false
  rw [h125]; rfl)
 rcases h with h | h
 ·omega
 ·rw [htw,ZAj (by omega),h125] at h
  cases h
theorem ext_cat (s:ByteArray) {a b c:Nat} (h1:a<=b) (h2:b<=c) (h3:c<=s.size):s.extract a b++s.extract b c=s.extract a c:=by
 apply inL
 rw [ZAp,exL,exL,exL]
 have e:(s.data.toList.take b)=(s.data.toList.take c).take b:=by rw [List.take_take,Nat.min_eq_left h2]
 rw [e]
 generalize s.data.toList.take c=l
 rw [List.drop_take]
 have:List.drop b l=List.drop (b - a) (List.drop a l):=by rw [List.drop_drop]; congr 1; omega
 rw [this]
 exact List.take_append_drop _ _
theorem ZL8:∀ (t k:Nat) (acc:List Prt),0<t->k+t<=s.size->(∀ j,k<=j->j<k+t->∃ hj:j<s.size,plnI (s[j].toNat:Int)=true)->tpW s k acc=tpW s (k+t) (mrgT acc (s.extract k (k+t)))
 | 0,_,_,h,_,_=>absurd h (by omega)
 | t+1,k,acc,_,hl,ha=>by
  obtain ⟨hk,hp⟩:=ha k (Nat.le_refl _) (by omega)
  obtain ⟨v1,v2⟩:=pln_val _ hp
  have ho:oneT s k=some ((1,s.extract k (k+1)),k+1):=by
   unfold oneT
   rw [if_pos (by rw [ZAj hk]; exact beq_eq_false_iff_ne.2 v2),dif_pos hk,if_pos v1]
  rw [ZCs hk ho]
  show tpW s (k+1) (mrgT acc (s.extract k (k+1)))=_
  by_cases h0:t=0
  ·subst h0; rfl
  ·rw [ZL8 t (k+1) (mrgT acc (s.extract k (k+1))) (by omega) (by omega) (fun j a b=>ha j (by omega) (by omega)),mrgT_mrgT,ext_cat s (by omega) (by omega) (by omega),show k+1+t=k+(t+1) by omega]
theorem ZKo (hk:k<=s.size) (ht:tw plnI s k≠0):tpW s k acc=tpW s (k+tw plnI s k) (mrgT acc (s.extract k (k+tw plnI s k))) :=
 ZL8 _ k acc (by omega) (ZCR plnI s k hk) (fun j a b=>ZNI a b hk)
theorem ZLT (hk:k<s.size) (ht:tw plnI s k=0) (h1:¬ (atB s k 36=true/\atB s (k+1) 36=true)) (h2:¬ (atB s k 36=true/\atB s (k+1) 123=true)):tpW s k acc=none:=by
 refine ZDb hk ?_
 have hq:=tw_end (q:=plnI) (s:=s) (k:=k) (by omega) (by omega)
 have hq:plnI (s[k].toNat:Int)=false:=by
  have e:k+tw plnI s k=k:=by omega
  simpa only [e] using hq
 unfold oneT
 cases h36:atB s k 36 with
 | false =>
  rw [if_pos rfl,dif_pos hk,if_neg]
  intro hv
  unfold plnI at hq
  have hn:=atB_no h36 hk
  rw [hv,Bool.true_and] at hq
  exact hn (bne_eq_false_iff_eq.1 hq)
 | true =>
  rw [if_neg (by decide),if_neg (fun h=>h1 ⟨h36,h⟩),if_pos (.inr (.inr (by
   cases h:atB s (k+1) 123 with
   | false=>rfl
   | true=>exact absurd ⟨h36,h⟩ h2)))]
end
/-- the part of a text that is cut ahead -/
theorem cut_one (s:ByteArray) (m:Nat) (hm:m<=s.size):oneT (s.extract m s.size) 0=(oneT s m).map fun x=>(x.1,x.2 - m):=by
 have hz:=ZJA s m
 have hl:=ZCR nbrI s m hm
 have a0:=ZEq s m 0 36
 have a1:=ZEq s m 1 36
 have a2:=ZEq s m 1 123
 have a3:=ZEq s m 2 64
 have ht:=cut_tw nbrI s m 0
 have hx:=ZLa s m
 rw [Nat.add_zero] at a0 ht
 unfold oneT
 rw [a0,ht]
 simp only [Nat.zero_add]
 rw [a1,a2,a3]
 cases h36:atB s m 36 with
 | false =>
  simp only [if_pos]
  by_cases hk:m<s.size
  ·rw [dif_pos (by omega),dif_pos hk]
   have e:(s.extract m s.size)[0]'(by omega)=s[m]:=by
    rw [ByteArray.getElem_extract]
    simp
   rw [e,hx]
   by_cases hv:valI (s[m].toNat:Int)=true
   ·rw [if_pos hv,if_pos hv]
    simp
   ·rw [if_neg hv,if_neg hv]; rfl
  ·rw [dif_neg (by omega),dif_neg hk]; rfl
 | true =>
  simp only [reduceCtorEq,if_false]
  cases h1:atB s (m+1) 36 with
  | true=>simp
  | false =>
   simp only [reduceCtorEq,if_false]
   have hc:(tw nbrI s m=(s.extract m s.size).size \/ tw nbrI s m<3 \/ atB s (m+1) 123=false) ↔ (m+tw nbrI s m=s.size \/ m+tw nbrI s m<m+3 \/ atB s (m+1) 123=false):=by
    constructor
    iterate 2
     ·rintro (h | h | h)
      ·exact .inl (by omega)
      ·exact .inr (.inl (by omega))
      ·exact .inr (.inr h)
   by_cases hcc:m+tw nbrI s m=s.size \/ m+tw nbrI s m<m+3 \/ atB s (m+1) 123=false
   ·rw [if_pos (hc.2 hcc),if_pos hcc]; rfl
   ·rw [if_neg (fun h=>hcc (hc.1 h)),if_neg hcc,hx,hx]
    cases h3:atB s (m+2) 64 with
    | true =>
     simp only [if_true]
     by_cases h4:tokB (s.extract (m+3) (m+tw nbrI s m))=true
     ·rw [if_pos h4,if_pos h4]
      simp only [Option.map_some,Option.some.injEq,Prod.mk.injEq,true_and]
      omega
     ·rw [if_neg h4,if_neg h4]; rfl
    | false =>
     simp only [reduceCtorEq,if_false]
     by_cases h4:allI smlI (s.extract (m+2) (m+tw nbrI s m))=true
     ·rw [if_pos h4,if_pos h4]
      simp only [Option.map_some,Option.some.injEq,Prod.mk.injEq,true_and]
      omega
     ·rw [if_neg h4,if_neg h4]; rfl
/-- how many parts there may be, and how long they may be -/
theorem ZMH (acc:List Prt) (s:ByteArray):(mrgT acc s).length<=acc.length+1:=by
 unfold mrgT
 split
 ·split
  ·simp
  ·simp
 ·simp
theorem ZJL (acc:List Prt) (p:Prt):(putT acc p).length<=acc.length+1:=by
 unfold putT
 split
 ·exact ZMH _ _
 ·simp
def sumT (l:List Prt):Nat:=(l.map fun p=>p.2.size).sum
theorem sumT_set {l:List Prt} {i:Nat} {p q:Prt} (h:l[i]? = some p):sumT (l.set i q)+p.2.size=sumT l+q.2.size:=by
 induction l generalizing i with
 | nil=>simp at h
 | cons x r ih =>
  cases i with
  | zero=>simp at h; subst h; simp [sumT]; omega
  | succ i =>
   have:=ih (i:=i) (by simpa using h)
   simp only [sumT,List.set_cons_succ,List.map_cons,List.sum_cons] at this ⊢
   omega
theorem ZId (acc:List Prt) (s:ByteArray):sumT (mrgT acc s)=sumT acc+s.size:=by
 unfold mrgT
 split
 ·rename_i p hp
  split
  ·have:=sumT_set (q:=(1,p.2++s)) hp
   rw [ByteArray.size_append] at this
   omega
  ·simp [sumT]
 ·simp [sumT]
theorem ZFi {l:List Prt} {p:Prt} (h:p∈l):p.2.size<=sumT l:=by
 induction l with
 | nil=>cases h
 | cons x r ih =>
  rcases List.mem_cons.1 h with rfl | h
  ·simp [sumT]
  ·have:=ih h
   simp only [sumT,List.map_cons,List.sum_cons] at this ⊢
   omega
end Go.Proofs.YticbonkojpabnaaGreatDoor
