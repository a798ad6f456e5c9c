/- Lists behind commas: appended to, the program and the document. No statement of its own. -/
import Derived.Test.YticbonkojpabnaaGreatDoorSSa
set_option linter.unusedSimpArgs false
set_option linter.unusedVariables false
set_option maxRecDepth 100000
namespace Go.Proofs.YticbonkojpabnaaGreatDoor
open Go.RowKit
theorem blk_c (b:UInt8):[32,9].contains b=blkI (b.toNat:Int):=by
 have:∀ m:Nat,m<256->[32,9].contains (UInt8.ofNat m)=blkI (m:Int):=by decide +kernel
 have:=this b.toNat b.toNat_lt
 rwa [UInt8.ofNat_toNat] at this
theorem ZFh {α:Type} {q:α->Bool}:∀ {l:List α},(∀ x∈l,q x=true)->l.dropWhile q=[]
 | [],_=>rfl
 | x::r,h=>by rw [List.dropWhile_cons_of_pos (h x (.head _))]; exact ZFh fun y hy=>h y (.tail _ hy)
theorem ZFo {α:Type} {q:α->Bool}:∀ {l:List α},l.dropWhile q=[]->∀ x∈l,q x=true
 | [],_,x,hx=>by simp at hx
 | y::r,h,x,hx=>by
  cases hq:q y with
  | true =>
   rw [List.dropWhile_cons_of_pos hq] at h
   rcases List.mem_cons.1 hx with rfl | hx
   ·exact hq
   ·exact ZFo h x hx
  | false=>rw [List.dropWhile_cons_of_neg (by simp [hq])] at h; cases h
theorem trimS_nil (l cs:List UInt8):Lib.trimS l cs=[] ↔ ∀ x∈l,cs.contains x=true:=by
 unfold Lib.trimS Lib.trimLeftS Lib.trimRightS
 constructor
 ·intro h x hx
  cases hq:cs.contains x with
  | true=>rfl
  | false =>
   have h1:x∈(l.reverse.dropWhile (cs.contains ·)).reverse:=by
    rw [List.mem_reverse]
    have:=List.mem_reverse.2 hx
    rw [<- List.takeWhile_append_dropWhile (p:=(cs.contains ·)) (l:=l.reverse)] at this
    rcases List.mem_append.1 this with h2 | h2
    ·have:=List.all_eq_true.1 (List.all_takeWhile (p:=(cs.contains ·)) (l:=l.reverse)) x h2
     rw [hq] at this; cases this
    ·exact h2
   have:=ZFo h x h1
   rw [hq] at this; cases this
 ·intro h
  rw [ZFh (l:=l.reverse) (fun x hx=>h x (List.mem_reverse.1 hx))]
  rfl
theorem trimRC_at {s:ByteArray} {m:Nat} (hm:m<s.size) (h1:∀ j (hj:j<s.size),m<j->blkI (s[j].toNat:Int)=true) (h2:blkI (s[m].toNat:Int)=false):trimRC s spcS=s.extract 0 (m+1):=by
 apply inL
 rw [exL,List.drop_zero]
 show Lib.trimRightS s.data.toList [32,9]=_
 unfold Lib.trimRightS
 have hl:=blen s
 have hsp:s.data.toList=s.data.toList.take (m+1)++s.data.toList.drop (m+1):=(List.take_append_drop _ _).symm
 conv=>lhs; rw [hsp]
 rw [List.reverse_append,List.dropWhile_append_of_pos (fun x hx=>by
  rw [List.mem_reverse] at hx
  obtain ⟨j,hj,rfl⟩:=List.getElem_of_mem hx
  rw [List.length_drop] at hj
  rw [List.getElem_drop,blk_c]
  exact h1 (m+1+j) (by omega) (by omega))]
 rw [List.take_add_one,List.getElem?_eq_getElem (by omega)]
 simp only [Option.toList,List.reverse_append,List.reverse_cons,List.reverse_nil,List.nil_append,List.cons_append]
 rw [List.dropWhile_cons_of_neg (by rw [blk_c]; rw [show s.data.toList[m]=s[m] from rfl,h2]; decide)]
 simp
theorem ZEQ {sep x:ByteArray} {l:List ByteArray} (h:l≠[]):ZBU sep (x::l)=x++sep++ZBU sep l:=by
 apply inL
 unfold ZBU
 rw [ByteArray.data_append,ByteArray.data_append]
 simp only [Array.toList_append,List.map_cons]
 cases l with
 | nil=>exact absurd rfl h
 | cons y r =>
  rw [List.map_cons,Lib.join_cons,Lib.join_cons]
  simp [Lib.joinTail]
theorem minI_at (n m:Nat):(if (m:Int)<(n:Int) then (m:Int) else (n:Int))=((if m<n then m else n:Nat):Int):=by
 split <;> split <;> omega

/-- t reads at i + d - c as s at i, from k up to e -/
structure Smw (s t:ByteArray) (c d k e:Nat):Prop where
 ge:c<=k
 eq:∀ i,k<=i->i<e->t.data.toList[i+d - c]? = s.data.toList[i]?
theorem Smw.at {s t:ByteArray} {c d k e i:Nat} (h:Smw s t c d k e) (h1:k<=i) (h2:i<e) (b:Int):atB t (i+d - c) b=atB s i b:=by
 unfold atB; rw [h.eq i h1 h2]
theorem Smw.lt {s t:ByteArray} {c d k e i:Nat} (h:Smw s t c d k e) (h1:k<=i) (h2:i<e) (h3:i<s.size):i+d - c<t.size:=by
 have:=h.eq i h1 h2
 rw [ZDp h3] at this
 have:=(List.getElem?_eq_some_iff.1 this).1
 rwa [blen] at this
theorem Smw.from {s t:ByteArray} {c d k e k':Nat} (h:Smw s t c d k e) (hk:k<=k'):Smw s t c d k' e:=⟨by have:=h.ge; omega,fun i h1 h2=>h.eq i (by omega) h2⟩
theorem Smw.upto {s t:ByteArray} {c d k e e':Nat} (h:Smw s t c d k e) (he:e'<=e):Smw s t c d k e':=⟨h.ge,fun i h1 h2=>h.eq i h1 (by omega)⟩

theorem cmtW_move {s t:ByteArray} {c d j:Nat}:∀ (z k n:Nat),s.size - k<=z->k<=s.size->cmtW s k n=some j->Smw s t c d k j->cmtW t (k+d - c) n=some (j+d - c):=by
 intro z
 induction z with
 | zero =>
  intro k n hz hk h hs
  unfold cmtW at h
  split at h
  ·rename_i hn; cases h; unfold cmtW; rw [if_pos hn]
  ·rw [dif_neg (by omega)] at h; cases h
 | succ z ih =>
  intro k n hz hk h hs
  have hge:=hs.ge
  have hle:=ZDz s _ k n j (Nat.le_refl _) hk h
  have e1:k+d - c+1=k+1+d - c:=by omega
  have e2:k+d - c+2=k+2+d - c:=by omega
  unfold cmtW at h
  split at h
  ·rename_i hn; cases h; unfold cmtW; rw [if_pos hn]
  ·rename_i hn
   split at h
   ·rename_i hlt
    have hkj:k<j:=by
     split at h
     ·have:=ZDz s _ _ _ _ (Nat.le_refl _) (by omega) h; omega
     ·split at h
      ·have:=ZDz s _ _ _ _ (Nat.le_refl _) (by omega) h; omega
      ·split at h
       ·by_cases h1:k+1<s.size
        ·rw [if_pos h1] at h; have:=ZDz s _ _ _ _ (Nat.le_refl _) (by omega) h; omega
        ·rw [if_neg h1] at h; have:=ZDz s _ _ _ _ (Nat.le_refl _) (by omega) h; omega
       ·have:=ZDz s _ _ _ _ (Nat.le_refl _) (by omega) h; omega
    unfold cmtW
    rw [if_neg hn,dif_pos (hs.lt (Nat.le_refl _) hkj hlt),hs.at (Nat.le_refl _) hkj,hs.at (Nat.le_refl _) hkj,hs.at (Nat.le_refl _) hkj]
    split at h
    ·rename_i q; rw [if_pos q,e1]; exact ih (k+1) _ (by omega) (by omega) h (hs.from (by omega))
    ·rename_i q; rw [if_neg q]
     split at h
     ·rename_i q; rw [if_pos q,e1]; exact ih (k+1) _ (by omega) (by omega) h (hs.from (by omega))
     ·rename_i q; rw [if_neg q]
      split at h
      ·rename_i q; rw [if_pos q]
       by_cases h1:k+1<s.size
       ·rw [if_pos h1] at h
        have:=ZDz s _ _ _ _ (Nat.le_refl _) (by omega) h
        have hl:=hs.lt (i:=k+1) (by omega) (by omega) h1
        rw [if_pos (by omega),e2]
        exact ih (k+2) _ (by omega) (by omega) h (hs.from (by omega))
       ·rw [if_neg h1] at h
        unfold cmtW at h
        rw [if_neg hn,dif_neg (by omega)] at h
        cases h
      ·rename_i q; rw [if_neg q,e1]; exact ih (k+1) _ (by omega) (by omega) h (hs.from (by omega))
   ·cases h
theorem nxt_move {s t:ByteArray} {c d k j:Nat} {b:UInt8} (h:nxt s k=some (b,j)) (hs:Smw s t c d k j):nxt t (k+d - c)=some (b,j+d - c):=by
 have hge:=hs.ge
 have hl:=ZHR h
 have e92:=hs.at (Nat.le_refl _) hl.1 92
 unfold nxt at h ⊢
 rw [e92]
 have e:(if atB s k 92=true then k+d - c+1 else k+d - c)=(if atB s k 92=true then k+1 else k)+d - c:=by split <;> omega
 rw [e]
 have hk:k<=(if atB s k 92=true then k+1 else k):=by split <;> omega
 generalize (if atB s k 92=true then k+1 else k)=i at *
 have hij:j=i+1:=by
  split at h
  ·split at h
   ·cases h; rfl
   ·cases h
  ·cases h
 rw [hs.eq i hk (by omega)]
 split at h
 ·rename_i x hc
  split at h
  ·rename_i hv
   rw [if_pos hv]
   cases h
   rw [show i+d - c+1=i+1+d - c by omega]
  ·cases h
 ·cases h
theorem ZLb {s t:ByteArray} {c d j:Nat} {v:List UInt8}:∀ (z k:Nat) (acc:List UInt8),s.size - k=z->ZBQ s k acc=some (v,j)->Smw s t c d k j->ZBQ t (k+d - c) acc=some (v,j+d - c):=by
 intro z
 induction z using Nat.strongRecOn with
 | _ z ih =>
  intro k acc hz h hs
  have hge:=hs.ge
  have hle:=ZCo _ _ _ _ _ rfl h
  have e:=hs.at (Nat.le_refl _) hle.1 34
  cases hq:atB s k 34
  ·rw [hq] at e
   cases hn:nxt s k with
   | none=>rw [ZAy acc hq hn] at h; cases h
   | some bi =>
    obtain ⟨b,i⟩:=bi
    rw [ZA2 acc hq hn] at h
    have hl:=ZHR hn
    have hle2:=ZCo _ _ _ _ _ rfl h
    rw [ZA2 acc e (nxt_move hn (hs.upto (by omega)))]
    exact ih (s.size - i) (by omega) i _ rfl h (hs.from (by omega))
  ·rw [hq] at e
   rw [ZBf acc hq] at h
   cases h
   rw [ZBf _ e,show k+d - c+1=k+1+d - c by omega]
theorem ZNR {s t:ByteArray} {c d k j:Nat} (hk:k<s.size) (h:ZHr s k=some j) (hs:Smw s t c d k j):ZHr t (k+d - c)=some (j+d - c):=by
 have hge:=hs.ge
 have hl:=ZFW hk h
 have e1:k+d - c+1=k+1+d - c:=by omega
 unfold ZHr at h ⊢
 rw [hs.at (Nat.le_refl _) hl.1,hs.at (Nat.le_refl _) hl.1,hs.at (Nat.le_refl _) hl.1,e1]
 split at h
 ·rename_i q; rw [if_pos q]; cases h; rfl
 ·rename_i q; rw [if_neg q]
  split at h
  ·rename_i q; rw [if_pos q]
   exact cmtW_move _ (k+1) 1 (Nat.le_refl _) (by omega) h (hs.from (by omega))
  ·rename_i q; rw [if_neg q]
   split at h
   ·rename_i q; rw [if_pos q]
    unfold ZAw at h ⊢
    rw [if_pos q] at h
    rw [hs.at (Nat.le_refl _) hl.1,if_pos q,e1]
    cases hf:ZBQ s (k+1) [] with
    | none=>rw [hf] at h; cases h
    | some x =>
     obtain ⟨v,i⟩:=x
     rw [hf] at h
     cases h
     rw [ZLb (c:=c) (d:=d) _ (k+1) [] rfl hf (hs.from (by omega))]
     rfl
   ·rename_i q; rw [if_neg q]; cases h; rfl

/-- steps that are no commas -/
inductive Run (s:ByteArray):Nat->Nat->Prop
 | nil (k:Nat):Run s k k
 | step {k i e:Nat} (hk:k<s.size) (hc:atB s k 44=false) (h:ZHr s k=some i) (r:Run s i e):Run s k e
theorem Run.le {s:ByteArray} {k e:Nat} (h:Run s k e):k<=e:=by
 induction h with
 | nil k=>exact Nat.le_refl _
 | step hk hc h r ih=>have:=ZFW hk h; omega
theorem Run.size {s:ByteArray} {k e:Nat} (h:Run s k e) (hk:k<=s.size):e<=s.size:=by
 induction h with
 | nil k=>exact hk
 | step hk1 hc h r ih=>exact ih (ZFW hk1 h).2
theorem Run.move {s t:ByteArray} {c d k e:Nat} (h:Run s k e) (hs:Smw s t c d k e):Run t (k+d - c) (e+d - c):=by
 induction h with
 | nil k=>exact .nil _
 | step hk hc h r ih =>
  have hl:=ZFW hk h
  have hr:=r.le
  exact .step (hs.lt (Nat.le_refl _) (by omega) hk) (by rw [hs.at (Nat.le_refl _) (by omega)]; exact hc) (ZNR hk h (hs.upto hr)) (ih (hs.from (by omega)))
theorem Run.trans {s:ByteArray} {a b c:Nat} (h:Run s a b) (g:Run s b c):Run s a c:=by
 induction h with
 | nil k=>exact g
 | step hk hc h r ih=>exact .step hk hc h (ih g)
/-- blank, or beyond the end -/
def bkAt (s:ByteArray) (i:Nat):Bool:=(s.data.toList[i]?).all fun b=>blkI (b.toNat:Int)
theorem ZDU {s:ByteArray} {i:Nat} (h:i<s.size):bkAt s i=blkI (s[i].toNat:Int):=by
 unfold bkAt; rw [ZDp h]; rfl
theorem ZKw {s:ByteArray} {i:Nat} (h:s.size<=i):bkAt s i=true:=by
 unfold bkAt; rw [List.getElem?_eq_none (by rw [blen]; exact h)]; rfl
theorem ZMA {s:ByteArray} {i:Nat} (h:bkAt s i=false):i<s.size:=Decidable.byContradiction fun hc=>by rw [ZKw (by omega)] at h; cases h
theorem ZIT {s:ByteArray} {i:Nat} {b:Int} (h:atB s i b=true) (hb:blkI b=false):bkAt s i=false:=by
 have hl:=atB_iff h
 rw [ZAj hl] at h
 rw [ZDU hl,beq_iff_eq.1 h,hb]
theorem ZGv {s:ByteArray} {i:Nat} {b:Int} (h:bkAt s i=true) (hb:blkI b=false):atB s i b=false:=by
 cases e:atB s i b with
 | false=>rfl
 | true=>rw [ZIT e hb] at h; cases h

theorem cmtW_last {s:ByteArray} {j:Nat}:∀ (z k n:Nat),s.size - k<=z->n≠0->k<=s.size->cmtW s k n=some j->k<j/\atB s (j - 1) 41=true:=by
 intro z
 induction z with
 | zero =>
  intro k n hz hn hk h
  unfold cmtW at h
  rw [if_neg hn,dif_neg (by omega)] at h
  cases h
 | succ z ih =>
  intro k n hz hn hk h
  unfold cmtW at h
  rw [if_neg hn] at h
  split at h
  ·split at h
   ·have:=ih (k+1) _ (by omega) (by omega) (by omega) h; exact ⟨by omega,this.2⟩
   ·split at h
    ·rename_i q
     by_cases h0:n - 1=0
     ·rw [h0] at h
      unfold cmtW at h
      rw [if_pos rfl] at h
      cases h
      exact ⟨by omega,q⟩
     ·have:=ih (k+1) _ (by omega) h0 (by omega) h; exact ⟨by omega,this.2⟩
    ·split at h
     ·by_cases h1:k+1<s.size
      ·rw [if_pos h1] at h
       have:=ih (k+2) _ (by omega) hn (by omega) h; exact ⟨by omega,this.2⟩
      ·rw [if_neg h1] at h
       have:=ih (k+1) _ (by omega) hn (by omega) h; exact ⟨by omega,this.2⟩
     ·have:=ih (k+1) _ (by omega) hn (by omega) h; exact ⟨by omega,this.2⟩
  ·cases h
theorem ZLW {s:ByteArray} {j:Nat} {v:List UInt8}:∀ (z k:Nat) (acc:List UInt8),s.size - k=z->ZBQ s k acc=some (v,j)->k<j/\atB s (j - 1) 34=true:=by
 intro z
 induction z using Nat.strongRecOn with
 | _ z ih =>
  intro k acc hz h
  have hle:=ZCo _ _ _ _ _ rfl h
  cases hq:atB s k 34
  ·cases hn:nxt s k with
   | none=>rw [ZAy acc hq hn] at h; cases h
   | some bi =>
    obtain ⟨b,i⟩:=bi
    rw [ZA2 acc hq hn] at h
    have hl:=ZHR hn
    exact ⟨hle.1,(ih (s.size - i) (by omega) i _ rfl h).2⟩
  ·rw [ZBf acc hq] at h
   cases h
   exact ⟨hle.1,hq⟩
theorem ZNc {s:ByteArray} {k j:Nat} (hk:k<s.size) (h:ZHr s k=some j):j=k+1 \/ bkAt s (j - 1)=false:=by
 unfold ZHr at h
 split at h
 ·cases h; exact .inl rfl
 ·split at h
  ·exact .inr (ZIT (cmtW_last _ (k+1) 1 (Nat.le_refl _) (by decide) (by omega) h).2 (by decide))
  ·split at h
   ·rename_i q
    unfold ZAw at h
    rw [if_pos q] at h
    cases hf:ZBQ s (k+1) [] with
    | none=>rw [hf] at h; cases h
    | some x =>
     obtain ⟨v,i⟩:=x
     rw [hf] at h
     cases h
     exact .inr (ZIT (ZLW _ _ _ rfl hf).2 (by decide))
   ·cases h; exact .inl rfl
theorem ZLc {s:ByteArray} {k:Nat} (h:bkAt s k=true):ZHr s k=some (k+1):=by
 unfold ZHr
 rw [ZGv h (by decide),ZGv h (by decide),ZGv h (by decide)]
 rfl
theorem Run.back {s:ByteArray} {k e:Nat} (h:Run s k e) (hk:k<e) (hb:bkAt s (e - 1)=true):Run s k (e - 1):=by
 induction h with
 | nil k=>omega
 | @step k i e hk' hc h r ih =>
  have hl:=ZFW hk' h
  by_cases hie:i<e
  ·exact .step hk' hc h (ih hie hb)
  ·have:=r.le
   obtain rfl:i=e:=by omega
   rcases ZNc hk' h with rfl | h2
   ·exact .nil k
   ·rw [hb] at h2; cases h2
theorem ZMP {s:ByteArray} {p q:Nat} (hpq:p<q) (hp:∀ i,i<p->bkAt s i=true) (hq:∀ i,q<=i->bkAt s i=true) (h1:bkAt s p=false) (h2:bkAt s (q - 1)=false):ZJB s spcS=s.extract p q:=by
 have hql:=ZMA h2
 have hpl:=ZMA h1
 have hR:Lib.trimRightS s.data.toList [32,9]=s.data.toList.take q:=by
  have:=trimRC_at (m:=q - 1) hql (fun j hj hjq=>by rw [<- ZDU hj]; exact hq j (by omega)) (by rw [<- ZDU hql]; exact h2)
  have:=congrArg (fun x:ByteArray=>x.data.toList) this
  simp only [exL,List.drop_zero] at this
  rw [show q - 1+1=q by omega] at this
  exact this
 apply inL
 rw [exL]
 show Lib.trimS s.data.toList [32,9]=_
 unfold Lib.trimS
 rw [hR]
 unfold Lib.trimLeftS
 have hb:=blen s
 have hsp:s.data.toList.take q=(s.data.toList.take q).take p++(s.data.toList.take q).drop p:=(List.take_append_drop _ _).symm
 conv=>lhs; rw [hsp]
 rw [List.dropWhile_append_of_pos (fun x hx=>by
  obtain ⟨j,hj,rfl⟩:=List.getElem_of_mem hx
  rw [List.length_take,List.length_take] at hj
  rw [List.getElem_take,List.getElem_take,blk_c]
  have:=hp j (by omega)
  rw [ZDU (by omega)] at this
  exact this)]
 have hd:(s.data.toList.take q).drop p=s.data.toList[p]::(s.data.toList.take q).drop (p+1):=by
  rw [List.drop_eq_getElem_cons (by rw [List.length_take]; omega),List.getElem_take]
 rw [hd,List.dropWhile_cons_of_neg (by rw [blk_c]; rw [ZDU hpl] at h1; rw [show s.data.toList[p]=s[p] from rfl,h1]; decide)]
theorem ZHL {s:ByteArray} (h:∀ i,bkAt s i=true):(ZJB s spcS).size=0:=by
 have e:(ZJB s spcS).size=(Lib.trimS s.data.toList [32,9]).length:=by unfold ZJB; show (Array.size _)=_; rw [List.size_toArray]; rfl
 rw [e,List.length_eq_zero_iff,trimS_nil]
 intro x hx
 obtain ⟨j,hj,rfl⟩:=List.getElem_of_mem hx
 rw [blen] at hj
 have:=h j
 rw [ZDU hj] at this
 rw [blk_c]
 exact this
/-- a piece as it comes out: trimmed, not empty, one run of steps -/
structure Piece (x:ByteArray):Prop where
 pos:0<x.size
 hd:bkAt x 0=false
 tl:bkAt x (x.size - 1)=false
 run:Run x 0 x.size
theorem ext_get (s:ByteArray) (b e i:Nat) (h:b+i<e) (he:e<=s.size):(s.extract b e).data.toList[i]? = s.data.toList[b+i]?:=by
 rw [exL,List.getElem?_drop,List.getElem?_take_of_lt h]
theorem ext_bk {s:ByteArray} {b e i:Nat} (h:b+i<e) (he:e<=s.size):bkAt (s.extract b e) i=bkAt s (b+i):=by
 unfold bkAt; rw [ext_get s b e i h he]
theorem ZMQ (s:ByteArray) (b e p q:Nat) (hq:b+q<=e):(s.extract b e).extract p q=s.extract (b+p) (b+q):=by
 apply inL
 rw [exL,exL,exL,List.take_drop,List.drop_drop,List.take_take,Nat.min_eq_left hq]
theorem Run.blanks {s:ByteArray}:∀ (m k:Nat),(∀ i,k<=i->i<k+m->bkAt s i=true)->k+m<=s.size->Run s k (k+m)
 | 0,k,_,_=>.nil k
 | m+1,k,h,hs=>by
  have r:=Run.blanks m (k+1) (fun i h1 h2=>h i (by omega) (by omega)) (by omega)
  rw [show k+1+m=k+(m+1) by omega] at r
  have hb:=h k (Nat.le_refl _) (by omega)
  exact .step (by omega) (ZGv hb (by decide)) (ZLc hb) r
end Go.Proofs.YticbonkojpabnaaGreatDoor
