/- Field lines, read and written: plain words, no program in sight. -/
import Derived.Test.YticbonkojpabnaaGreatDoorSPl
import Derived.Lib.SlTrimSet
import Derived.Lib.IndexAny
import Derived.Test.YticbonkojpabnaaGreatDoorSMs
import Derived.Test.YticbonkojpabnaaGreatDoorSShelf
import Derived.Test.YticbonkojpabnaaGreatDoorSFoP
import Derived.Shelf.Strings.SlTrimAscii
import Derived.Laws.RangeAny
import Derived.Lib.OthersKept
import Derived.Test.YticbonkojpabnaaGreatDoorSSm
set_option linter.unusedSimpArgs false
set_option linter.unusedVariables false
set_option maxRecDepth 100000
namespace Go.Proofs.YticbonkojpabnaaGreatDoor
open Go.RowKit
section
def ZLB (s:ByteArray):ByteArray:=⟨(Lib.trimS s.data.toList [32,9]).toArray⟩
def ZEF (f:Fld):Int:=if tokB f.1=false then 21 else if allI valI f.2=false \/ ZLB f.2≠f.2 then 25 else 0
theorem all_tw {f:UInt8->Bool}:∀ (l:List UInt8),∀ x∈l.takeWhile f,f x=true:=by
 intro l
 induction l with
 | nil=>intro x h; cases h
 | cons y r ih =>
  intro x h
  cases hy:f y
  ·rw [List.takeWhile_cons_of_neg (by simp [hy])] at h; cases h
  ·rw [List.takeWhile_cons_of_pos hy] at h
   cases h with
   | head=>exact hy
   | tail _ h=>exact ih x h
theorem tw_all {q:Int->Bool} {s:ByteArray} {k:Nat}:∀ i (hi:i<s.size),k<=i->i<k+tw q s k->q (s[i].toNat:Int)=true:=by
 intro i hi h1 h2
 have hp:=List.takeWhile_prefix (fun b:UInt8=>q (b.toNat:Int)) (l:=s.data.toList.drop k)
 unfold tw at h2
 have hlt:i - k<(List.takeWhile (fun b:UInt8=>q (b.toNat:Int)) (s.data.toList.drop k)).length:=by omega
 have hm:=List.getElem_mem hlt
 have hq:=all_tw _ _ hm
 have e:=hp.getElem hlt
 rw [e,List.getElem_drop] at hq
 have e2:k+(i - k)=i:=by omega
 simp only [e2] at hq
 exact hq
theorem tw_stop {q:Int->Bool} {s:ByteArray} {k:Nat} (hj:k+tw q s k<s.size):q ((s[k+tw q s k]'hj).toNat:Int)=false:=by
 have key:∀ (f:UInt8->Bool) (l:List UInt8) (h:(l.takeWhile f).length<l.length),f (l[(l.takeWhile f).length]'h)=false:=by
  intro f l
  induction l with
  | nil=>intro h; simp at h
  | cons x r ih =>
   intro h
   cases hx:f x
   ·simp [hx]
   ·have e:(List.takeWhile f (x::r))=x::r.takeWhile f:=List.takeWhile_cons_of_pos hx
    simp only [e,List.length_cons,List.getElem_cons_succ]
    exact ih (by rw [e] at h; simpa using h)
 have hl:=blen s
 have:=key (fun b:UInt8=>q (b.toNat:Int)) (s.data.toList.drop k) (by rw [List.length_drop]; unfold tw at hj; omega)
 rw [List.getElem_drop] at this
 exact this
theorem ZLK {q:Int->Bool} {s:ByteArray} {k:Nat} {p r:List UInt8} (h:s.data.toList.drop k=p++r) (h1:∀ b∈p,q (b.toNat:Int)=true)
  (h2:∀ b,r.head? = some b->q (b.toNat:Int)=false):tw q s k=p.length:=by
 unfold tw
 rw [h]
 clear h
 induction p with
 | nil =>
  cases r with
  | nil=>rfl
  | cons x r=>rw [List.nil_append,List.takeWhile_cons_of_neg (by simp [h2 x rfl])]
 | cons x p ih =>
  rw [List.cons_append,List.takeWhile_cons_of_pos (p:=fun b:UInt8=>q (b.toNat:Int)) (h1 x (.head _)),List.length_cons,ih (fun b hb=>h1 b (.tail _ hb)),List.length_cons]
theorem ZJK {q:Int->Bool} {s:ByteArray} (h:allI q s=true):∀ b∈s.data.toList,q (b.toNat:Int)=true:=List.all_eq_true.1 h
theorem u8_of {q:UInt8->Bool} (h:∀ n:Nat,n<256->q (UInt8.ofNat n)=true) (b:UInt8):q b=true:=by
 have:=h b.toNat b.toNat_lt
 rwa [UInt8.ofNat_toNat] at this
theorem tok_facts (b:UInt8) (h:tokI (b.toNat:Int)=true):(b == 13 || b == 10)=false/\blkI (b.toNat:Int)=false/\(b == 58)=false:=by
 have:=u8_of (q:=fun b=>!tokI (b.toNat:Int) || (!(b == 13 || b == 10) && !blkI (b.toNat:Int) && !(b == 58))) (by decide +kernel) b
 simp only [h,Bool.not_true,Bool.false_or,Bool.and_eq_true,Bool.not_eq_true'] at this
 exact ⟨this.1.1,this.1.2,this.2⟩
theorem blk_facts (b:UInt8) (h:blkI (b.toNat:Int)=true):(b == 13 || b == 10)=false/\tokI (b.toNat:Int)=false/\valI (b.toNat:Int)=true:=by
 have:=u8_of (q:=fun b=>!blkI (b.toNat:Int) || (!(b == 13 || b == 10) && !tokI (b.toNat:Int) && valI (b.toNat:Int))) (by decide +kernel) b
 simp only [h,Bool.not_true,Bool.false_or,Bool.and_eq_true,Bool.not_eq_true'] at this
 exact ⟨this.1.1,this.1.2,this.2⟩
theorem ZFp {n:ByteArray} (h:tokB n=true):0<n.size/\∀ b∈n.data.toList,tokI (b.toNat:Int)=true:=by
 unfold tokB at h
 rw [Bool.and_eq_true,decide_eq_true_eq] at h
 exact ⟨h.1,ZJK h.2⟩
theorem ZMa {f:Fld} (h:ZEF f=0):tokB f.1=true/\allI valI f.2=true/\ZLB f.2=f.2:=by
 unfold ZEF at h
 split at h
 ·cases h
 ·split at h
  ·cases h
  ·rename_i h1 h2
   simp only [not_or,ne_eq,Classical.not_not] at h2
   exact ⟨by simpa using h1,by simpa using h2.1,h2.2⟩
end
section
theorem ZJs:ZG0 169 valI:=fun n _ _=>ZHX n
theorem trimCB (s:ByteArray):ZJB s spcS=ZLB s:=rfl
theorem ZLy {a b:ByteArray} (h:tokB a=false):ZEF (a,b)=21:=by unfold ZEF; rw [if_pos h]
theorem ZGi {a b:ByteArray} (h:tokB a=true) (h2:allI valI b=false \/ ZLB b≠b):ZEF (a,b)=25:=by unfold ZEF; rw [if_neg (by rw [h]; decide),if_pos h2]
theorem ZML {a b:ByteArray} (h:tokB a=true) (h2:allI valI b=true) (h3:ZLB b=b):ZEF (a,b)=0:=by
 unfold ZEF
 rw [if_neg (by rw [h]; decide),if_neg (fun h=>h.elim (fun h=>by have h:allI valI b=false:=h; rw [h2] at h; cases h) (fun h=>h h3))]
theorem check_p (a b:ByteArray) (ha:a.size<=1099511627776) (hb:b.size<=1099511627776):ZAC Tryz.prog 133 [.agg [.s a,.s b]] (.i (ZEF (a,b))) []:=by
 have hmx:maxLen=9223372036854775807:=rfl
 have ht:=trim_p b spcS (by omega) (by decide) (by decide)
 rw [trimCB] at ht
 refine ZAC.of rfl (ZAB.of_vc T_ok mixed Tryz.func133 rfl Tryz.call133 ?_)
 refine ⟨_,rfl,?_⟩
 refine .p rfl (ZKp a (by omega)) ?_
 refine ZAA (fun h=>?_) (fun h=>?_)
 ·rw [Bool.not_eq_true'] at h
  exact reti (ZLy h).symm
 ·rw [Bool.not_eq_false'] at h
  refine .x (by kernel_rfl) ?_
  refine ⟨_,rfl,?_⟩
  refine .p rfl (ZMI ZJs b (by omega)) ?_
  refine ZAA (fun h2=>?_) (fun h2=>?_)
  ·rw [Bool.not_eq_true'] at h2
   exact reti (ZGi h (.inl h2)).symm
  ·rw [Bool.not_eq_false'] at h2
   refine ⟨_,rfl,?_⟩
   refine .p rfl ht ?_
   refine ⟨_,rfl,?_⟩
   intro t htt
   cases t with
   | true =>
    have h3:ZLB b≠b:=fun e=>by have:=htt.2 e; cases this
    exact reti (ZGi h (.inr h3)).symm
   | false=>exact reti (ZML h h2 (htt.1 rfl)).symm
theorem ZNB (s:ByteArray) (hs:s.size<=1099511627776):ZAC Tryz.prog 179 [.s s] (.b (allI valI s)) []:=by
 refine ZAC.of rfl (ZAB.of_vc T_ok mixed Tryz.func179 rfl Tryz.call179 ?_)
 refine ZAF [3] (fun g vals st'=>∃ k:Nat,k+g=s.size/\vals=[.i k]/\ARel valI s k) s.size rfl ⟨0,by omega,rfl,fun j _ h=>absurd h (by omega)⟩ ?_
 rintro g vals st' ⟨k,hk,rfl,hr⟩
 refine ZAA (fun hd=>?_) (fun hd=>?_)
 ·have hd:=of_decide_eq_true hd
  have k1:k<s.size:=by omega
  refine ⟨k,k1,rfl,?_⟩
  refine .p rfl (ZFg _ (by omega) (by have:=s[k].toNat_lt; omega)) ?_
  refine ZAA (fun h2=>?_) (fun h2=>?_)
  ·rw [Bool.not_eq_true'] at h2
   exact retb (ZB4 k1 h2).symm
  ·rw [Bool.not_eq_false'] at h2
   intro c hc
   rw [IntWalk.i64_in _ (by omega)] at hc
   obtain rfl:c=((k+1:Nat):Int):=by omega
   refine ⟨g - 1,by omega,k+1,by omega,rfl,fun j hj hjk=>?_⟩
   by_cases e:j=k
   ·subst e; exact h2
   ·exact hr j hj (by omega)
 ·have hd:=of_decide_eq_false hd
  exact retb (ZB1 (fun j hj=>hr j hj (by omega))).symm
theorem rcheck_p (a b:ByteArray) (ha:a.size<=1099511627776) (hb:b.size<=1099511627776):ZAC Tryz.prog 140 [.agg [.s a,.s b]] (.i (ZEF (a,b))) []:=by
 have hmx:maxLen=9223372036854775807:=rfl
 have ht:=trim6_p b hb
 rw [trimCB] at ht
 refine ZAC.of rfl (ZAB.of_vc T_ok mixed Tryz.func140 rfl Tryz.call140 ?_)
 refine ⟨_,rfl,?_⟩
 refine .p rfl (ZEV a (by omega)) ?_
 refine ZAA (fun h=>?_) (fun h=>?_)
 ·rw [Bool.not_eq_true'] at h
  exact reti (ZLy h).symm
 ·rw [Bool.not_eq_false'] at h
  refine .x (by kernel_rfl) ?_
  refine ⟨_,rfl,?_⟩
  refine .p rfl (ZNB b hb) ?_
  refine ZAA (fun h2=>?_) (fun h2=>?_)
  ·rw [Bool.not_eq_true'] at h2
   exact reti (ZGi h (.inl h2)).symm
  ·rw [Bool.not_eq_false'] at h2
   refine ⟨_,rfl,?_⟩
   refine .p rfl ht ?_
   refine ⟨_,rfl,?_⟩
   intro t htt
   cases t with
   | true =>
    have h3:ZLB b≠b:=fun e=>by have:=htt.2 e; cases this
    exact reti (ZGi h (.inr h3)).symm
   | false=>exact reti (ZML h h2 (htt.1 rfl)).symm
end
section
end
section
theorem blk_f:ZG0 208 blkI:=fun n _ _=>ZKY n
end
end Go.Proofs.YticbonkojpabnaaGreatDoor
