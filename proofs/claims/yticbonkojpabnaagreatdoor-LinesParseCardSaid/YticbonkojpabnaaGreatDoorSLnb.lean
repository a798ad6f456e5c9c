/- Texts cut at blanks: by the program and by the document. No statement of its own. -/
import Derived.Test.YticbonkojpabnaaGreatDoorSLna
import Derived.Test.YticbonkojpabnaaGreatDoorSN1
import Derived.Shelf.Strings.Builder1
import Derived.Shelf.Strings.Builder2
import Derived.Shelf.Strings.OnBuilder
import Derived.Shelf.Strings.Trim
import Derived.Shelf.Small.Utf8
import Derived.Shelf.Small.Strs
import Derived.Shelf.Strconv.Atoi
import Derived.Shelf.Strconv.Itoa0
import Derived.Shelf.Strconv.Itoa1
import Derived.Shelf.LaysM
import Derived.Shelf.Strconv.Itoa2
import Derived.Shelf.Strconv.Itoa3
import Derived.Shelf.Strconv.Itoa4
import Derived.Shelf.Strconv.AtoiErrFast
import Derived.Shelf.Strconv.ParseIntEmpty
import Derived.Shelf.Strconv.AtoiFail
import Derived.Shelf.Strconv.Clone
import Derived.Shelf.Strconv.SyntaxError
import Derived.Shelf.LaysC
import Derived.Shelf.Strconv.ToError
import Derived.Shelf.Strconv.Lower
import Derived.Shelf.Strconv.ParseUint10
import Derived.Shelf.Strconv.ParseUint10Empty
import Derived.Shelf.Strconv.ParseUint10Any
import Derived.Shelf.Strconv.ParseInt10
import Derived.Shelf.Strconv.AtoiLong
import Derived.Shelf.Strconv.AtoiInnerAll
import Derived.Shelf.Strconv.RangeError
import Derived.Shelf.Strconv.ToErrorRange
import Derived.Shelf.Strconv.AtoiAll
import Derived.Shelf.Strings.Search1
import Derived.Shelf.Strings.Search2
import Derived.Shelf.Strings.Search3
import Derived.Shelf.Strings.Cut
import Derived.Shelf.Strings.Count
import Derived.Shelf.Strings.Shaped
import Derived.Shelf.Strings.Prefix
import Derived.Shelf.Strings.Split
import Derived.Shelf.Strings.Replace
import Derived.Shelf.Strings.Runes
import Derived.Shelf.Strings.AsciiSet
import Derived.Shelf.Unicode.DecodeSlow
import Derived.Shelf.Unicode.DecodeAny
import Derived.Shelf.Unicode.DecodeLast
import Derived.Shelf.Slices.Turned
import Derived.Test.YticbonkojpabnaaGreatDoorProg
import Derived.Test.YticbonkojpabnaaGreatDoorSShelf
import Derived.Lib.AppendIntMem
import Derived.Test.YticbonkojpabnaaGreatDoorSSm
set_option linter.unusedSimpArgs false
set_option linter.unusedVariables false
set_option maxRecDepth 100000
namespace Go.Proofs.YticbonkojpabnaaGreatDoor
open Go.RowKit
section
def ZAa (s:ByteArray):List ByteArray:=(cutL 32 s.data.toList).map fun l=>⟨l.toArray⟩
theorem ZHZ (s:ByteArray):Lib.splitB ⟨#[32]⟩ 0 (Lib.countB s ⟨#[32]⟩) s=ZAa s:=by
 have h1:=Lib.splitB_data ⟨#[32]⟩ 0 (Lib.countB s ⟨#[32]⟩) s
 have h2:Lib.splitK (⟨#[32]⟩:ByteArray).data.toList 0 (Lib.countB s ⟨#[32]⟩) s.data.toList=cutL 32 s.data.toList:=ZFw 32 _ s.data.toList rfl
 rw [h2] at h1
 unfold ZAa
 rw [<- h1,List.map_map]
 conv=>lhs; rw [<- List.map_id (Lib.splitB ⟨#[32]⟩ 0 (Lib.countB s ⟨#[32]⟩) s)]
 refine List.map_congr_left fun x _=>?_
 rfl
theorem ZIG (s:ByteArray):(ZAa s).length<=s.size+1:=by
 have:=ZJV 32 s.data.toList
 rw [blen] at this
 unfold ZAa
 rw [List.length_map]
 exact this
theorem ZEk {s x:ByteArray} (h:x∈ZAa s):x.size<=s.size:=by
 unfold ZAa at h
 obtain ⟨l,hl,rfl⟩:=List.mem_map.1 h
 have:=ZHD 32 _ l hl
 rw [blen] at this
 show l.toArray.size<=_
 rw [List.size_toArray]
 exact this
theorem split32_p (s:ByteArray) (hs:s.size<=4000000000):ZAC Tryz.prog 38 [.s s,.s ⟨#[32]⟩] (.sl .no 1 (strL (ZAa s))) []:=by
 refine ⟨rfl,Tryz.call38,fun J w vs hw hlen ha=>?_⟩
 have hv:vs=#[.string s,.string ⟨#[32]⟩]:=by
  apply Array.ext
  ·simpa using hlen.symm
  ·intro i h1 h2
   have h2':i<2:=by simpa using h2
   match i,h2' with
   | 0,_ =>
    have:=(ha 0 _ vs[0] rfl (by simp [h1])).of_lit
    rw [this]; rfl
   | 1,_ =>
    have:=(ha 1 _ vs[1] rfl (by simp [h1])).of_lit
    rw [this]; rfl
 subst hv
 obtain ⟨m,hm⟩:=(hw w (Below.refl _ _)).max
 refine (Tryz.strings_Split s ⟨#[32]⟩ m w (by omega) hm (by decide)).mono ?_
 rintro e w' ⟨rfl,rfl⟩
 have hl:(ZAa s).length=Lib.countB s ⟨#[32]⟩+1:=by rw [<- ZHZ]; exact Lib.splitB_all _ (by decide) 0 _ s rfl
 have hll:=ZIG s
 have hmx:maxLen=9223372036854775807:=rfl
 rw [ZHZ,<- hl]
 have hb:Below w.heap.size w (w.alloc (.cells ((ZAa s).map Value.string).toArray 9)):=(Below.refl _ w).alloc (Nat.le_refl _) _
 refine ⟨_,fun _=>⟨0,0,0⟩,rfl,⟨⟨Nat.le_refl _,hw⟩,hb,fun p cs h=>by simp at h,fun p q h=>by simp at h,fun t e h=>by simp at h⟩,?_⟩
 have hrow:Row w.heap.size J ⟨[],[]⟩ (fun _=>0) (fun _=>⟨0,0,0⟩) (w.alloc (.cells ((ZAa s).map Value.string).toArray 9)) 1 (strL (ZAa s)) ((ZAa s).map Value.string):=by
  refine ⟨by rw [List.length_map,ZAH,Nat.mul_one],fun k e he=>?_,fun k e j a he ha=>?_⟩
  ·have:=ZK7 (ZAa s) e (List.mem_of_getElem? he)
   exact this
  ·unfold strL at he
   rw [List.getElem?_map,Option.map_eq_some_iff] at he
   obtain ⟨x,hx,rfl⟩:=he
   match j,ha with
   | 0,ha =>
    cases ha
    refine ⟨.string x,?_,.lit _⟩
    rw [Nat.mul_one,Nat.add_zero,List.getElem?_map,hx]
    rfl
   | j+1,ha=>simp at ha
 have hsl:=hrow.sl .no w.heap.size 0 (ZAa s).length (by rw [ZAH]; exact Nat.le_refl _) (by omega) (fun j u hu=>⟨⟨fun h=>absurd h (Nat.lt_irrefl _),fun p hp=>by simp at hp,fun t e ht=>by simp at ht⟩,?_⟩) (fun h=>by cases h) (fun i e h=>by cases h)
 ·rw [ZAH] at hsl
  exact hsl
 ·rw [ZAc (heap_alloc_new w _),List.getElem?_toArray,Nat.zero_add,hu]
def CutW (s:ByteArray) (acc:List ByteArray) (k:Nat):Prop:=acc.map (·.data.toList)++cutL 32 (s.data.toList.drop k)=cutL 32 s.data.toList
theorem CutW.hit {s:ByteArray} {acc:List ByteArray} {k i:Nat} (h:CutW s acc k) (hi:i<s.size) (hk:k<=i) (hno:∀ j (hj:j<s.size),k<=j->j<i->s[j]≠32) (h10:s[i]=32):CutW s (acc++[s.extract k i]) (i+1):=by
 have hl:=blen s
 have e:s.data.toList.drop k=(s.extract k i).data.toList++32::s.data.toList.drop (i+1):=by
  rw [exL,List.drop_take]
  have e1:s.data.toList.drop k=(s.data.toList.drop k).take (i - k)++(s.data.toList.drop k).drop (i - k):=(List.take_append_drop _ _).symm
  rw [List.drop_drop,show k+(i - k)=i by omega] at e1
  rw [List.drop_eq_getElem_cons (show i<s.data.toList.length by omega),bget s i hi,h10] at e1
  exact e1
 unfold CutW at h ⊢
 rw [e,ZBz (fun b hb=>?_)] at h
 ·rw [List.map_append,List.append_assoc]
  exact h
 ·obtain ⟨j,hj,rfl⟩:=List.getElem_of_mem hb
  have hj2:j<i - k:=by
   rw [exL,List.length_drop,List.length_take] at hj
   omega
  have hx:(s.extract k i).data.toList[j]=s[k+j]'(by omega):=by
   have:(s.extract k i).data.toList[j]? = s.data.toList[k+j]?:=by
    rw [exL,List.drop_take,List.getElem?_take,if_pos hj2,List.getElem?_drop]
   rw [List.getElem?_eq_getElem hj,List.getElem?_eq_getElem (show k+j<s.data.toList.length by omega),Option.some.injEq] at this
   exact this
  rw [hx]
  exact hno _ (by omega) (by omega) (by omega)
theorem CutW.fin {s:ByteArray} {acc:List ByteArray} {k:Nat} (h:CutW s acc k) (hk:k<=s.size) (hno:∀ j (hj:j<s.size),k<=j->j<s.size->s[j]≠32):acc++[s.extract k s.size]=ZAa s:=by
 have hl:=blen s
 unfold CutW at h
 rw [ZCP (fun b hb=>?_)] at h
 ·unfold ZAa
  rw [<- h,List.map_append,List.map_map]
  have e1:(fun l:List UInt8=>(⟨l.toArray⟩:ByteArray)) ∘ (fun x:ByteArray=>x.data.toList)=id:=rfl
  rw [e1,List.map_id]
  refine congrArg (acc++·) ?_
  show [s.extract k s.size]=[_]
  refine congrArg (fun x=>[x]) (inL ?_)
  rw [ZHB]
 ·obtain ⟨j,hj,rfl⟩:=List.getElem_of_mem hb
  rw [List.length_drop] at hj
  rw [List.getElem_drop]
  exact hno (k+j) (by omega) (by omega) (by omega)
section
attribute [local irreducible] ZAn
theorem ZJt (s:ByteArray) (hs:s.size<=4000000000):ZAC Tryz.prog 44 [.s s,.int .u8 32] (.sl .no 1 (strL (ZAa s))) []:=by
 have hmx:maxLen=9223372036854775807:=rfl
 refine ZAC.of rfl (ZAB.of_vc T_ok mixed Tryz.func44 rfl Tryz.call44 ?_)
 refine ZAF [5,6,7] (fun g vals st'=>∃ (i from':Nat) (acc:List ByteArray) (a:AV),i+g=s.size/\vals=[a,.i from',.i i]/\Acc 0 st'.tk 1 a (strL acc)/\from'<=i/\acc.length<=from'/\i<=s.size/\(∀ j (hj:j<s.size),from'<=j->j<i->s[j]≠32)/\CutW s acc from') s.size rfl ⟨0,0,[],.nilS,by omega,rfl,.nil,Nat.le_refl _,Nat.le_refl _,Nat.zero_le _,fun j _ _ h=>by omega,rfl⟩ ?_
 rintro g vals st' ⟨i,from',acc,a,hi,rfl,hA,hf,hal,his,hno,hC⟩
 rcases hA.form with rfl | ⟨t,e,rfl⟩
 iterate 2
  ·skip
   refine ZAA (fun hd=>?_) (fun hd=>?_)
   ·have hd:=of_decide_eq_true hd
    have i1:i<s.size:=by omega
    refine ⟨i,i1,rfl,?_⟩
    refine ZAA (fun hb=>?_) (fun hb=>?_)
    ·have hb:s[i]=32:=UInt8.toNat_inj.1 (by have hb:(s[i].toNat:Int)=32:=beq_iff_eq.1 hb; show s[i].toNat=32; omega)
     refine ⟨i,rfl,from',rfl,hf,by omega,?_⟩
     refine Acc.app (n:=0) (i:=ti9) hA (Nat.zero_le _) (List.cons_ne_nil _ _) ?_ ?_ (fun t1 e1 tk1 q0 q1 q2 q3=>?_)
     ·show ((strL acc).length+1)*16<=_; rw [ZAH]; omega
     ·show (strL acc).length+1<=_; rw [ZAH]; omega
     intro c hc
     rw [IntWalk.i64_in _ (by omega)] at hc
     obtain rfl:c=((i+1:Nat):Int):=by omega
     intro c2 hc2
     rw [IntWalk.i64_in _ (by omega)] at hc2
     obtain rfl:c2=((i+1:Nat):Int):=by omega
     refine ⟨g - 1,by omega,i+1,i+1,acc++[s.extract from' i],_,by omega,rfl,?_,Nat.le_refl _,by rw [List.length_append]; show _+1<=_; omega,by omega,fun j hj h1 h2=>by omega,hC.hit i1 hf hno hb⟩
     rw [ZAh]
     exact .own _ _ _ q0 q1
    ·have hb:s[i]≠32:=fun e=>by rw [e] at hb; exact absurd rfl (beq_eq_false_iff_ne.1 hb)
     intro c2 hc2
     rw [IntWalk.i64_in _ (by omega)] at hc2
     obtain rfl:c2=((i+1:Nat):Int):=by omega
     refine ⟨g - 1,by omega,i+1,from',acc,_,by omega,rfl,hA,by omega,hal,by omega,fun j hj h1 h2=>?_,hC⟩
     by_cases e:j=i
     ·subst e; exact hb
     ·exact hno j hj h1 (by omega)
   ·have hd:=of_decide_eq_false hd
    obtain rfl:i=s.size:=by omega
    refine ⟨from',rfl,hf,Nat.le_refl _,?_⟩
    refine Acc.app (n:=0) (i:=ti9) hA (Nat.zero_le _) (List.cons_ne_nil _ _) ?_ ?_ (fun t1 e1 tk1 q0 q1 q2 q3=>?_)
    ·show ((strL acc).length+1)*16<=_; rw [ZAH]; omega
    ·show (strL acc).length+1<=_; rw [ZAH]; omega
    have hfin:=hC.fin hf hno
    show AV.sl .no 1 (strL acc++[[.s (s.extract from' s.size)]])=AV.sl .no 1 (strL (ZAa s))
    rw [<- hfin,ZAh]
    rfl
end
end
section
theorem gwor_at:∀ k:_root_.Fin 16,gwor (gdig k.1)=k.1:=by decide +kernel
theorem gwor_no {b:UInt8} (h:∀ k:Nat,k<16->gdig k≠b):gwor b=0:=by
 unfold gwor
 cases hg:gval b with
 | none=>rfl
 | some k=>exact absurd (ZIZ hg) (h k (ZA4 hg))
theorem ZIg (b:UInt8):gwor b<16:=by
 unfold gwor
 cases hg:gval b with
 | none=>exact (by decide:0<16)
 | some k=>exact ZA4 hg
theorem ZFm (b:UInt8):ZAC Tryz.prog 22 [.u8 b] (.i (gwor b)) []:=by
 refine ZAC.of rfl (ZAB.of_vc T_ok mixed Tryz.func22 rfl Tryz.call22 ?_)
 refine ZAF [3] (fun g vals st'=>∃ k:Nat,k+g=16/\vals=[.i k]/\∀ j:Nat,j<k->gdig j≠b) 16 rfl ⟨0,by omega,rfl,fun j h=>absurd h (by omega)⟩ ?_
 rintro g vals st1 ⟨k,hk,rfl,hr⟩
 refine ZAA (fun hd=>?_) (fun hd=>?_)
 ·have hd:=of_decide_eq_true hd
  have k1:k<16:=by omega
  refine ⟨k,k1,rfl,?_⟩
  have hx:=ZBE k k1
  refine ZAA (fun h2=>?_) (fun h2=>?_)
  ·have h2:((hexG[k]'k1).toNat:Int)=(b.toNat:Int):=beq_iff_eq.1 h2
   have e:gdig k=b:=by rw [<- hx]; exact UInt8.toNat_inj.1 (by omega)
   exact reti (by rw [<- e]; exact congrArg _ (gwor_at ⟨k,k1⟩).symm)
  ·have h2:¬ ((hexG[k]'k1).toNat:Int)=(b.toNat:Int):=beq_eq_false_iff_ne.1 h2
   intro c hc
   rw [IntWalk.i64_in _ (by omega)] at hc
   obtain rfl:c=((k+1:Nat):Int):=by omega
   refine ⟨g - 1,by omega,k+1,by omega,rfl,fun j hj=>?_⟩
   by_cases e:j=k
   ·subst e
    intro e
    rw [hx,e] at h2
    exact h2 rfl
   ·exact hr j (by omega)
 ·have hd:=of_decide_eq_false hd
  exact reti (by rw [gwor_no (fun j hj=>hr j (by omega))]; rfl)
theorem wrapU (m:Nat) (h:m<256):IntKind.u8.wrap (m:Int)=(m:Int):=by
 show (m:Int) % 256=_
 omega
attribute [local irreducible] ZAn
set_option maxHeartbeats 1000000 in
theorem decodeR_p (s:ByteArray) (hs:s.size<=1000000000000):ZAC Tryz.prog 9 [.s s] (.tup [.s ⟨(docW s 1 []).toArray⟩,.b (decide (ZAo ⟨(docW s 1 []).toArray⟩=s))]) []:=by
 have hmx:maxLen=9223372036854775807:=rfl
 generalize hXX:docW s 1 []=X
 refine ZAC.of rfl (ZAB.of_vc T_ok mixed Tryz.func9 rfl Tryz.call9 ?_)
 refine ZAF [4,5] (fun g vals st'=>∃ (k:Nat) (acc:List UInt8) (a:AV),k+g=s.size+3/\vals=[a,.i k]/\1<=k/\acc.length<=k/\Acc 0 st'.tk 1 a (u8L acc)/\X=docW s k acc) (s.size+2) rfl ⟨1,[],.nilS,by omega,rfl,Nat.le_refl _,Nat.zero_le _,.nil,hXX.symm⟩ ?_
 rintro g vals st1 ⟨k,acc,a,hk,rfl,hk1,hal,hA,hD⟩
 rcases hA.form with rfl | ⟨t0,e9,rfl⟩
 ·skip
  intro c hc
  rw [IntWalk.i64_in _ (by omega)] at hc
  obtain rfl:c=((k+1:Nat):Int):=by omega
  refine ZAA (fun hd=>?_) (fun hd=>?_)
  ·have hd:=of_decide_eq_true hd
   have k1:k+1<s.size:=by omega
   refine ⟨k,(by omega:k<s.size),rfl,?_⟩
   refine ZAA (fun h1=>?_) (fun h1=>?_)
   ·have h1:(s[k].toNat:Int)=37:=beq_iff_eq.1 h1
    have h1:s[k].toNat=37:=by omega
    intro c hc
    rw [IntWalk.i64_in _ (by omega)] at hc
    obtain rfl:c=((k+2:Nat):Int):=by omega
    refine ZAA (fun h2=>?_) (fun h2=>?_)
    ·have h2:=of_decide_eq_true h2
     have k2:k+2<s.size:=by omega
     rw [ZK6 k1 ⟨h1,k2⟩] at hD
     have w1:=ZIg s[k+1]
     have w2:=ZIg s[k+2]
     refine .x (by kernel_rfl) ?_
     intro c hc
     rw [IntWalk.i64_in _ (by omega)] at hc
     obtain rfl:c=((k+1:Nat):Int):=by omega
     refine ⟨k+1,k1,rfl,?_⟩
     refine .p rfl (ZFm _) ?_
     intro c hc
     rw [IntWalk.i64_in _ (by omega)] at hc
     subst hc
     intro c hc
     rw [IntWalk.i64_in _ (by omega)] at hc
     obtain rfl:c=((k+2:Nat):Int):=by omega
     refine ⟨k+2,k2,rfl,?_⟩
     refine .p rfl (ZFm _) ?_
     intro c hc
     rw [IntWalk.i64_in _ (by omega)] at hc
     obtain rfl:c=((gwor s[k+1]*16+gwor s[k+2]:Nat):Int):=by omega
     intro c hc
     rw [wrapU _ (by omega)] at hc
     subst hc
     have hu8:AV.int .u8 ((gwor s[k+1]*16+gwor s[k+2]:Nat):Int)=.u8 (UInt8.ofNat (gwor s[k+1]*16+gwor s[k+2])):=by
      show AV.lit (.int .u8 _)=AV.lit (.int .u8 _)
      rw [UInt8.toNat_ofNat_of_lt' (show gwor s[k+1]*16+gwor s[k+2]<UInt8.size by show _<256; omega)]
     refine Acc.app (n:=0) (i:=ti5) hA (Nat.zero_le _) (List.cons_ne_nil _ _) ?_ ?_ (fun t e tk' q0 q1 q2 q3=>?_)
     ·show (List.length _+1)*1<=_; rw [ZAE]; omega
     ·show List.length _+1<=9223372036854775807; rw [ZAE]; omega
     intro c hc
     rw [IntWalk.i64_in _ (by omega)] at hc
     obtain rfl:c=((k+2:Nat):Int):=by omega
     intro c hc
     rw [IntWalk.i64_in _ (by omega)] at hc
     obtain rfl:c=((k+3:Nat):Int):=by omega
     refine ⟨g - 3,by omega,k+3,acc++[UInt8.ofNat (gwor s[k+1]*16+gwor s[k+2])],_,by omega,rfl,by omega,by rw [List.length_append]; show _+1<=_; omega,?_,hD⟩
     rw [show u8L (acc++[UInt8.ofNat (gwor s[k+1]*16+gwor s[k+2])])=u8L acc++[[AV.int .u8 ((gwor s[k+1]*16+gwor s[k+2]:Nat):Int)]] by rw [hu8]; simp [u8L]]
     exact .own _ _ _ q0 q1
    ·have h2:=of_decide_eq_false h2
     refine ⟨k,(by omega:k<s.size),rfl,?_⟩
     refine Acc.app (n:=0) (i:=ti5) hA (Nat.zero_le _) (List.cons_ne_nil _ _) ?_ ?_ (fun t e tk' q0 q1 q2 q3=>?_)
     ·show (List.length _+1)*1<=_; rw [ZAE]; omega
     ·show List.length _+1<=9223372036854775807; rw [ZAE]; omega
     intro c hc
     rw [IntWalk.i64_in _ (by omega)] at hc
     obtain rfl:c=((k+1:Nat):Int):=by omega
     rw [ZE9 k1 (fun h=>absurd h.2 (by omega))] at hD
     refine ⟨g - 1,by omega,k+1,acc++[s[k]],_,by omega,rfl,by omega,by rw [List.length_append]; show _+1<=_; omega,?_,hD⟩
     rw [show u8L (acc++[s[k]])=u8L acc++[[.u8 s[k]]] by simp [u8L]]
     exact .own _ _ _ q0 q1
   ·have h1:¬ (s[k].toNat:Int)=37:=beq_eq_false_iff_ne.1 h1
    refine ⟨k,(by omega:k<s.size),rfl,?_⟩
    refine Acc.app (n:=0) (i:=ti5) hA (Nat.zero_le _) (List.cons_ne_nil _ _) ?_ ?_ (fun t e tk' q0 q1 q2 q3=>?_)
    ·show (List.length _+1)*1<=_; rw [ZAE]; omega
    ·show List.length _+1<=9223372036854775807; rw [ZAE]; omega
    intro c hc
    rw [IntWalk.i64_in _ (by omega)] at hc
    obtain rfl:c=((k+1:Nat):Int):=by omega
    rw [ZE9 k1 (fun h=>absurd h.1 (by omega))] at hD
    refine ⟨g - 1,by omega,k+1,acc++[s[k]],_,by omega,rfl,by omega,by rw [List.length_append]; show _+1<=_; omega,?_,hD⟩
    rw [show u8L (acc++[s[k]])=u8L acc++[[.u8 s[k]]] by simp [u8L]]
    exact .own _ _ _ q0 q1
  ·have hd:=of_decide_eq_false hd
   rw [ZIX (by omega)] at hD
   subst hD
   refine .x (by kernel_rfl) ?_
   have hX0:X=[]:=by
    have hl:=ZAE X
    generalize hes:u8L X=es at hA hl
    cases hA
    exact List.eq_nil_of_length_eq_zero hl.symm
   subst hX0
   have hsz:ByteArray.size ⟨([]).toArray⟩<=1099511627776:=by rw [<- blen]; show (List.toArray _).toList.length<=_; rw [List.toList_toArray]; omega
   refine .p rfl (ZAt ⟨([]).toArray⟩ hsz) ?_
   intro q hq
   have e:q=decide (ZAo ⟨([]).toArray⟩=s):=by rw [Bool.eq_iff_iff,hq,decide_eq_true_eq]
   subst e
   exact rfl
 ·skip
  intro c hc
  rw [IntWalk.i64_in _ (by omega)] at hc
  obtain rfl:c=((k+1:Nat):Int):=by omega
  refine ZAA (fun hd=>?_) (fun hd=>?_)
  ·have hd:=of_decide_eq_true hd
   have k1:k+1<s.size:=by omega
   refine ⟨k,(by omega:k<s.size),rfl,?_⟩
   refine ZAA (fun h1=>?_) (fun h1=>?_)
   ·have h1:(s[k].toNat:Int)=37:=beq_iff_eq.1 h1
    have h1:s[k].toNat=37:=by omega
    intro c hc
    rw [IntWalk.i64_in _ (by omega)] at hc
    obtain rfl:c=((k+2:Nat):Int):=by omega
    refine ZAA (fun h2=>?_) (fun h2=>?_)
    ·have h2:=of_decide_eq_true h2
     have k2:k+2<s.size:=by omega
     rw [ZK6 k1 ⟨h1,k2⟩] at hD
     have w1:=ZIg s[k+1]
     have w2:=ZIg s[k+2]
     refine .x (by kernel_rfl) ?_
     intro c hc
     rw [IntWalk.i64_in _ (by omega)] at hc
     obtain rfl:c=((k+1:Nat):Int):=by omega
     refine ⟨k+1,k1,rfl,?_⟩
     refine .p rfl (ZFm _) ?_
     intro c hc
     rw [IntWalk.i64_in _ (by omega)] at hc
     subst hc
     intro c hc
     rw [IntWalk.i64_in _ (by omega)] at hc
     obtain rfl:c=((k+2:Nat):Int):=by omega
     refine ⟨k+2,k2,rfl,?_⟩
     refine .p rfl (ZFm _) ?_
     intro c hc
     rw [IntWalk.i64_in _ (by omega)] at hc
     obtain rfl:c=((gwor s[k+1]*16+gwor s[k+2]:Nat):Int):=by omega
     intro c hc
     rw [wrapU _ (by omega)] at hc
     subst hc
     have hu8:AV.int .u8 ((gwor s[k+1]*16+gwor s[k+2]:Nat):Int)=.u8 (UInt8.ofNat (gwor s[k+1]*16+gwor s[k+2])):=by
      show AV.lit (.int .u8 _)=AV.lit (.int .u8 _)
      rw [UInt8.toNat_ofNat_of_lt' (show gwor s[k+1]*16+gwor s[k+2]<UInt8.size by show _<256; omega)]
     refine Acc.app (n:=0) (i:=ti5) hA (Nat.zero_le _) (List.cons_ne_nil _ _) ?_ ?_ (fun t e tk' q0 q1 q2 q3=>?_)
     ·show (List.length _+1)*1<=_; rw [ZAE]; omega
     ·show List.length _+1<=9223372036854775807; rw [ZAE]; omega
     intro c hc
     rw [IntWalk.i64_in _ (by omega)] at hc
     obtain rfl:c=((k+2:Nat):Int):=by omega
     intro c hc
     rw [IntWalk.i64_in _ (by omega)] at hc
     obtain rfl:c=((k+3:Nat):Int):=by omega
     refine ⟨g - 3,by omega,k+3,acc++[UInt8.ofNat (gwor s[k+1]*16+gwor s[k+2])],_,by omega,rfl,by omega,by rw [List.length_append]; show _+1<=_; omega,?_,hD⟩
     rw [show u8L (acc++[UInt8.ofNat (gwor s[k+1]*16+gwor s[k+2])])=u8L acc++[[AV.int .u8 ((gwor s[k+1]*16+gwor s[k+2]:Nat):Int)]] by rw [hu8]; simp [u8L]]
     exact .own _ _ _ q0 q1
    ·have h2:=of_decide_eq_false h2
     refine ⟨k,(by omega:k<s.size),rfl,?_⟩
     refine Acc.app (n:=0) (i:=ti5) hA (Nat.zero_le _) (List.cons_ne_nil _ _) ?_ ?_ (fun t e tk' q0 q1 q2 q3=>?_)
     ·show (List.length _+1)*1<=_; rw [ZAE]; omega
     ·show List.length _+1<=9223372036854775807; rw [ZAE]; omega
     intro c hc
     rw [IntWalk.i64_in _ (by omega)] at hc
     obtain rfl:c=((k+1:Nat):Int):=by omega
     rw [ZE9 k1 (fun h=>absurd h.2 (by omega))] at hD
     refine ⟨g - 1,by omega,k+1,acc++[s[k]],_,by omega,rfl,by omega,by rw [List.length_append]; show _+1<=_; omega,?_,hD⟩
     rw [show u8L (acc++[s[k]])=u8L acc++[[.u8 s[k]]] by simp [u8L]]
     exact .own _ _ _ q0 q1
   ·have h1:¬ (s[k].toNat:Int)=37:=beq_eq_false_iff_ne.1 h1
    refine ⟨k,(by omega:k<s.size),rfl,?_⟩
    refine Acc.app (n:=0) (i:=ti5) hA (Nat.zero_le _) (List.cons_ne_nil _ _) ?_ ?_ (fun t e tk' q0 q1 q2 q3=>?_)
    ·show (List.length _+1)*1<=_; rw [ZAE]; omega
    ·show List.length _+1<=9223372036854775807; rw [ZAE]; omega
    intro c hc
    rw [IntWalk.i64_in _ (by omega)] at hc
    obtain rfl:c=((k+1:Nat):Int):=by omega
    rw [ZE9 k1 (fun h=>absurd h.1 (by omega))] at hD
    refine ⟨g - 1,by omega,k+1,acc++[s[k]],_,by omega,rfl,by omega,by rw [List.length_append]; show _+1<=_; omega,?_,hD⟩
    rw [show u8L (acc++[s[k]])=u8L acc++[[.u8 s[k]]] by simp [u8L]]
    exact .own _ _ _ q0 q1
  ·have hd:=of_decide_eq_false hd
   rw [ZIX (by omega)] at hD
   subst hD
   refine .x (by kernel_rfl) ?_
   refine ⟨⟨X.toArray⟩,?_,?_⟩
   ·show _=(List.toArray _).toList.map _
    rw [List.toList_toArray]
    rfl
   refine ⟨⟨X.toArray⟩,?_,?_⟩
   ·show _=(List.toArray _).toList.map _
    rw [List.toList_toArray]
    rfl
   have hsz:ByteArray.size ⟨(X).toArray⟩<=1099511627776:=by rw [<- blen]; show (List.toArray _).toList.length<=_; rw [List.toList_toArray]; omega
   refine .p rfl (ZAt ⟨(X).toArray⟩ hsz) ?_
   intro q hq
   have e:q=decide (ZAo ⟨(X).toArray⟩=s):=by rw [Bool.eq_iff_iff,hq,decide_eq_true_eq]
   subst e
   exact rfl
theorem ZIE (n:Int) (h:inR n):ZAC Tryz.prog 28 [.i n] (.s (numT n)) []:=by
 refine ZAC.of_lits #[.int .i64 n] (.inl rfl) rfl Tryz.call28 fun w hw=>(Tryz.strconv_Itoa n h.1 h.2 w hw.2.1).mono ?_
 rintro e w' ⟨rfl,k,os,rfl⟩
 exact ⟨rfl,Lib.below_grow _ _ (Nat.le_refl _) _ _⟩
theorem ZLh (n:Int) (h:inR n):ZAC Tryz.prog 178 [.i n,.i 10] (.s (numT n)) []:=by
 refine ZAC.of_lits #[.int .i64 n,.int .i64 10] (.inl rfl) rfl Tryz.call178 fun w hw=>(Tryz.strconv_FormatInt_10 n h.1 h.2 w hw.2.1).mono ?_
 rintro e w' ⟨rfl,k,os,rfl⟩
 exact ⟨rfl,Lib.below_grow _ _ (Nat.le_refl _) _ _⟩
theorem ZFS (n:Int) (h:inR n) (h0:0<=n):ZAC Tryz.prog 98 [.i n] (.s (numT n)) []:=by
 have hp:ZAC Tryz.prog 139 [.i n,.i 10] (.s (numT n)) []:=by
  refine ZAC.of rfl (ZAB.of_vc T_ok mixed Tryz.func139 rfl Tryz.call139 ?_)
  refine ZAA (fun hd=>?_) (fun _=>?_)
  ·exact absurd (of_decide_eq_true hd) (by omega)
  refine .p rfl (ZLh n h) ?_
  exact rfl
 refine ZAC.of rfl (ZAB.of_vc T_ok mixed Tryz.func98 rfl Tryz.call98 ?_)
 refine .p rfl hp ?_
 exact rfl
theorem ZEU (n:Nat) (h:n<2 ^ 63):ZAC Tryz.prog 67 [.i n,.i 10] (.s (digB 10 n)) []:=by
 refine ZAC.of rfl (ZAB.of_vc T_ok mixed Tryz.func67 rfl Tryz.call67 ?_)
 refine .p rfl (ZFt 10 (by decide) (by decide) n h) ?_
 exact rfl
theorem atoi_a {st:St} {R:AV->St->Prop} (t:ByteArray) (ht:t.size<=1099511627776) (h1:∀ k,Lib.atoiAll t.data.toList=.ok k->R (.tup [.i k,.lit .nilIface]) st)
  (h2:(∀ k,Lib.atoiAll t.data.toList≠.ok k)->∀ n ty v,R (.tup [.i n,.lit (.iface ty v)]) st):ZAB Tryz.prog 151 [.s t] st R:=by
 refine ⟨Tryz.call151,fun base J w0 μ σ w vs hok hl ha=>?_⟩
 have hv:vs=#[.string t]:=by
  apply Array.ext
  ·simpa using hl.symm
  ·intro i q1 q2
   have q2':i<1:=by simpa using q2
   match i,q2' with
   | 0,_ =>
    have:=(ha 0 _ vs[0] rfl (by simp [q1])).of_lit
    rw [this]; rfl
 subst hv
 have hld:=hok.laid
 have tup:∀ (n:Int) (v:Value) (w':World),At base J st μ σ w' (.tup [.i n,.lit v]) (.tuple #[.int .i64 n,v]):=fun n v w'=>by
  refine .tup _ _ rfl (fun j a u g1 g2=>?_)
  match j,g1,g2 with
  | 0,g1,g2=>cases g1; simp at g2; subst g2; exact .lit _
  | 1,g1,g2=>cases g1; simp at g2; subst g2; exact .lit _
  | j+2,g1,g2=>simp at g1
 cases ho:Lib.atoiAll t.data.toList with
 | ok k =>
  refine (Tryz.strconv_Atoi_ok t (by omega) k ho w).mono ?_
  rintro e w' ⟨rfl,hw⟩
  have hb:Below w.heap.size w w':=by
   rcases hw with rfl | ⟨b,rfl⟩
   ·exact .refl _ _
   ·exact ⟨rfl,rfl,rfl,by rw [Lib.bytesWorld_size]; omega,fun j hj=>Lib.bytesWorld_at_old _ _ _ j hj⟩
  exact ⟨_,_,st,μ,σ,rfl,h1 k ho,(hok.step hb).1,(hok.step hb).2,tup _ _ _⟩
 | range =>
  obtain ⟨ev,hc,he⟩:=hld.2.2.2
  refine (Tryz.strconv_Atoi_range t (by omega) ho ev w hc he).mono ?_
  rintro e w' ⟨N,rfl,_,_,hb⟩
  exact ⟨_,_,st,μ,σ,rfl,h2 (fun k hk=>by rw [ho] at hk; cases hk) _ _ _,(hok.step hb).1,(hok.step hb).2,tup _ _ _⟩
 | _ =>
  obtain ⟨ev,hc,he⟩:=hld.2.2.1
  refine (Any.strconv_Atoi_syntax Tryz.laysC172 t (by omega) ho ev w hc he).mono ?_
  rintro e w' ⟨N,rfl,_,_,hb⟩
  exact ⟨_,_,st,μ,σ,rfl,h2 (fun k hk=>by rw [ho] at hk; cases hk) _ _ _,(hok.step hb).1,(hok.step hb).2,tup _ _ _⟩
end
section
theorem numT_neg {n:Int} (h:n<0):numT n=⟨#[45]⟩++digB 10 n.natAbs:=by
 apply inL
 rw [ZFd,ZAp,ZMj]
 unfold Lib.itoa
 rw [if_pos h]
 rfl
theorem ZGk (a:Nat):IntKind.i64.wrap ((-(a:Int)).tdiv 10)=IntKind.i64.wrap (-((a / 10:Nat):Int)):=by rw [Int.neg_tdiv]; congr 2
theorem neg_tmod (a:Nat):(-(a:Int)).tmod 10=-((a % 10:Nat):Int):=by rw [Int.neg_tmod]; congr 1
theorem ZA3 (n:Int) (h:inR n):ZAC Tryz.prog 62 [.i n] (.s (numT n)) []:=by
 have hmx:maxLen=9223372036854775807:=rfl
 have hz:=ZAk h
 obtain ⟨hlo,hhi⟩:=h
 refine ZAC.of rfl (ZAB.of_vc T_ok mixed Tryz.func62 rfl Tryz.call62 ?_)
 refine ZAA (fun hd=>?_) (fun hd=>?_)
 ·have hd:=of_decide_eq_true hd
  obtain ⟨m,rfl⟩:=Int.eq_ofNat_of_zero_le (show 0<=n from hd)
  refine .p rfl (ZEU m (by omega)) ?_
  exact rets (ZES hd).symm
 ·have hd:=of_decide_eq_false hd
  have hn:n<0:=by omega
  have hD:=numT_neg hn
  generalize numT n=Z at *
  subst hD
  generalize hDD:digB 10 n.natAbs=D at *
  refine ZAF [3,4] (fun g vals st'=>∃ (d:ByteArray),vals=[.s d,.i (-(g:Int))]/\g<=n.natAbs/\((g≠0/\D=digB 10 g++d) \/ (g=0/\D=d))) n.natAbs rfl ⟨⟨#[]⟩,by rw [show -((n.natAbs:Nat):Int)=n by omega]; rfl,Nat.le_refl _,.inl ⟨by omega,by rw [hDD]; exact (ByteArray.append_empty).symm⟩⟩ ?_
  rintro g vals st1 ⟨d,rfl,hg,hr⟩
  refine ZAA (fun h1=>?_) (fun h1=>?_)
  ·have h1:¬ (-(g:Int))=0:=bne_iff_ne.1 h1
   obtain ⟨g0,hr⟩:g≠0/\D=digB 10 g++d:=by
    rcases hr with hr | hr
    ·exact hr
    ·omega
   refine ⟨by decide,?_⟩
   rw [neg_tmod]
   intro c hc
   rw [IntWalk.i64_in _ (by omega)] at hc
   obtain rfl:c=((g % 10:Nat):Int):=by omega
   refine .p rfl (ZEU (g % 10) (by omega)) ?_
   have hds:(D).size<=70:=by rw [ByteArray.size_append] at hz; show _<=70; omega
   have hdd:d.size<=70:=by rw [hr,ByteArray.size_append] at hds; omega
   rw [ZGY (show g % 10<10 by omega)]
   refine ⟨by show 1+d.size<=_; omega,?_⟩
   refine ⟨by decide,?_⟩
   intro c hc
   rw [ZGk,IntWalk.i64_in _ (by omega)] at hc
   subst hc
   refine ⟨g / 10,by omega,_,rfl,by omega,?_⟩
   by_cases hl:g<10
   ·refine .inr ⟨by omega,?_⟩
    rw [hr,ZGY hl,Nat.mod_eq_of_lt hl]
   ·refine .inl ⟨by omega,?_⟩
    rw [hr,ZKd hl (by decide),ByteArray.append_assoc]
  ·have h1:(-(g:Int))=0:=by
    have:=bne_eq_false_iff_eq.1 h1
    exact this
   obtain rfl:D=d:=by
    rcases hr with hr | hr
    ·omega
    ·exact hr.2
   refine ⟨?_,?_⟩
   ·rw [ByteArray.size_append] at hz
    show 1+_<=_
    have:(⟨#[45]⟩:ByteArray).size=1:=rfl
    omega
   ·exact rfl
/-- the digits behind a sign -/
def unS (t:ByteArray):ByteArray:=if atB t 0 45=true then t.extract 1 t.size else t
theorem num_form {t:ByteArray} {x:Int} (h:numV t=some x):inR x/\(unS t).data.toList=Lib.decDigits x.natAbs/\(atB t 0 45=true ↔ x<0):=by
 obtain ⟨rfl,hr⟩:=ZCE h
 refine ⟨hr,?_⟩
 unfold unS
 have hl:=ZFd x
 unfold Lib.itoa at hl
 by_cases hx:x<0
 ·rw [if_pos hx] at hl
  have h0:atB (numT x) 0 45=true:=by
   have hs:0<(numT x).size:=by rw [<- blen,hl]; exact Nat.succ_pos _
   rw [ZAj hs]
   have e:(numT x)[0]=45:=by
    rw [<- bget _ 0 hs]
    have:(numT x).data.toList[0]? = some 45:=by rw [hl]; rfl
    exact (List.getElem?_eq_some_iff.1 this).2
   rw [e]; rfl
  rw [if_pos h0]
  refine ⟨?_,fun _=>hx,fun _=>h0⟩
  rw [exL,List.take_of_length_le (by rw [blen]; exact Nat.le_refl _),hl]
  rfl
 ·rw [if_neg hx] at hl
  have h0:atB (numT x) 0 45=false:=by
   by_cases hs:0<(numT x).size
   ·rw [ZAj hs]
    refine beq_eq_false_iff_ne.2 fun e=>?_
    have hm:(numT x)[0]∈Lib.decDigits x.toNat:=by rw [<- hl,<- bget _ 0 hs]; exact List.getElem_mem _
    have:=(ZB2 x.toNat).2.1 _ hm
    unfold isDg at this
    omega
   ·unfold atB
    rw [List.getElem?_eq_none (by rw [blen]; omega)]
    rfl
  rw [if_neg (by rw [h0]; decide)]
  refine ⟨?_,fun h=>(by rw [h0] at h; cases h),fun h=>absurd h hx⟩
  rw [hl,show x.toNat=x.natAbs by omega]
theorem ZGe {t:ByteArray} {x:Int} (h:numV t=some x):(∀ b∈(unS t).data.toList,isDg b)/\dval (unS t).data.toList=x.natAbs/\x.natAbs<=9223372036854775808/\(atB t 0 45=true->x=-(dval (unS t).data.toList:Int))/\(atB t 0 45=false->x=(dval (unS t).data.toList:Int)):=by
 obtain ⟨hr,hl,hs⟩:=num_form h
 obtain ⟨d1,d2,d3⟩:=ZB2 x.natAbs
 unfold inR at hr
 rw [hl,d1]
 refine ⟨d2,rfl,by omega,fun h=>?_,fun h=>?_⟩
 ·have:=hs.1 h; omega
 ·have:¬ x<0:=fun hx=>by rw [hs.2 hx] at h; cases h
  omega
theorem ZCa {t d:ByteArray} (hd:unS t=d) {i:Nat} (hi:i<d.size) (hbad:¬ isDg d[i] \/ 9223372036854775808<dval (d.data.toList.take i)*10+(d[i].toNat - 48)):numV t=none:=by
 cases hn:numV t with
 | none=>rfl
 | some x =>
  obtain ⟨b1,b2,b3,_,_⟩:=ZGe hn
  rw [hd] at b1 b2
  rcases hbad with h | h
  ·exact absurd (b1 _ (by rw [<- bget _ _ hi]; exact List.getElem_mem _)) h
  ·have hs:d.data.toList.take (i+1)=d.data.toList.take i++[d[i]]:=by rw [List.take_add_one,ZDp hi,Option.toList_some]
   have h2:=ZJf d.data.toList (i+1)
   rw [hs,ZDu] at h2
   omega
theorem ZLX {t:ByteArray} {n:Int} (hr:inR n) (he:∀ x,numV t=some x->x=n):numV t=if numT n=t then some n else none:=by
 split
 ·rename_i h
  rw [<- h]
  exact ZJd hr
 ·rename_i h
  cases hn:numV t with
  | none=>rfl
  | some x=>exact absurd ((he x hn) ▸ (ZCE hn).1.symm) h
set_option maxHeartbeats 1000000 in
theorem ZIY {st:St} {R:AV->St->Prop} (t:ByteArray) (ht:t.size<=1099511627776) (h1:∀ n,numV t=some n->R (.tup [.i n,.b true]) st) (h2:numV t=none->∀ n,R (.tup [.i n,.b false]) st) :
  ZAB Tryz.prog 121 [.s t] st R:=by
 have hmx:maxLen=9223372036854775807:=rfl
 have plus:∀ d:ByteArray,unS t=d->atB t 0 45=false->dval d.data.toList<=9223372036854775808->∀ c,c=IntKind.i64.wrap (-(-(dval d.data.toList:Int)))->inR c/\∀ x,numV t=some x->x=c:=fun d hu hb hv c hc=>by
  by_cases e:dval d.data.toList=9223372036854775808
  ·rw [e] at hc
   have hc2:c=-9223372036854775808:=hc.trans (by decide)
   subst hc2
   refine ⟨⟨by decide,by decide⟩,fun x hx=>?_⟩
   obtain ⟨_,_,_,_,b5⟩:=ZGe hx
   have hr:=(ZCE hx).2
   have:=b5 hb
   rw [hu,e] at this
   unfold inR at hr
   omega
  ·rw [IntWalk.i64_in _ (by omega)] at hc
   refine ⟨⟨by omega,by omega⟩,fun x hx=>?_⟩
   obtain ⟨_,_,_,_,b5⟩:=ZGe hx
   have:=b5 hb
   rw [hu] at this
   omega
 refine ZAB.of_vc T_ok mixed Tryz.func121 rfl Tryz.call121 ?_
 intro q hq
 have hq2:=hq.trans (ZAi _)
 cases hqq:q with
 | true =>
  have h0:0<t.size:=Nat.pos_of_ne_zero fun e=>by rw [hq2.2 e] at hqq; cases hqq
  refine ⟨0,h0,rfl,?_⟩
  refine ZAA (fun hb=>?_) (fun hb=>?_)
  ·have hbt:atB t 0 45=true:=by rw [ZAj h0]; exact hb
   refine ⟨1,rfl,h0,Nat.le_refl _,?_⟩
   have hu:unS t=t.extract 1 t.size:=by unfold unS; rw [if_pos hbt]
   have hsz:(t.extract 1 t.size).size=t.size - 1:=by rw [ByteArray.size_extract]; omega
   generalize t.extract 1 t.size=d at *
   refine ZAF [6,7] (fun g vals st'=>∃ i:Nat,i+g=(d).size/\st=st'/\vals=[.i (-(dval ((d).data.toList.take i):Int)),.i i]/\dval ((d).data.toList.take i)<=9223372036854775808) (d).size rfl ⟨0,by omega,rfl,rfl,Nat.zero_le _⟩ ?_
   rintro g vals st1 ⟨i,hi,rfl,rfl,hv⟩
   refine ZAA (fun hd=>?_) (fun hd=>?_)
   ·have hd:=of_decide_eq_true hd
    have i1:i<(d).size:=by omega
    have hb:=(d)[i].toNat_lt
    refine ⟨i,i1,rfl,?_⟩
    have hsn:dval ((d).data.toList.take (i+1))=dval ((d).data.toList.take i)*10+((d)[i].toNat - 48):=by rw [List.take_add_one,ZDp i1,Option.toList_some,ZDu]
    intro c hc
    rw [IntWalk.i64_in _ (by omega)] at hc
    subst hc
    intro c hc
    rw [IntWalk.i64_in _ (by omega)] at hc
    subst hc
    refine ZAA (fun k1=>?_) (fun k1=>?_)
    ·have k1:=of_decide_eq_true k1
     exact h2 (ZCa hu i1 (.inl (by unfold isDg; omega))) _
    have k1:=of_decide_eq_false k1
    refine ZAA (fun k2=>?_) (fun k2=>?_)
    ·have k2:=of_decide_eq_true k2
     exact h2 (ZCa hu i1 (.inl (by unfold isDg; omega))) _
    have k2:=of_decide_eq_false k2
    intro c hc
    rw [IntWalk.i64_in _ (by omega)] at hc
    obtain rfl:c=-((9223372036854775808 - ((d)[i].toNat - 48):Nat):Int):=by omega
    refine ⟨by decide,?_⟩
    intro c hc
    rw [ZGk,IntWalk.i64_in _ (by omega)] at hc
    subst hc
    refine ZAA (fun k3=>?_) (fun k3=>?_)
    ·have k3:=of_decide_eq_true k3
     exact h2 (ZCa hu i1 (.inr (by omega))) _
    have k3:=of_decide_eq_false k3
    intro c hc
    rw [IntWalk.i64_in _ (by omega)] at hc
    subst hc
    intro c hc
    rw [IntWalk.i64_in _ (by omega)] at hc
    obtain rfl:c=-(dval ((d).data.toList.take (i+1)):Int):=by omega
    intro c hc
    rw [IntWalk.i64_in _ (by omega)] at hc
    obtain rfl:c=((i+1:Nat):Int):=by omega
    exact ⟨g - 1,by omega,i+1,by omega,rfl,rfl,by omega⟩
   ·have hd:=of_decide_eq_false hd
    obtain rfl:i=(d).size:=by omega
    have hall:(d).data.toList.take (d).size=(d).data.toList:=List.take_of_length_le (by rw [blen]; exact Nat.le_refl _)
    simp only [hall] at hv ⊢
    refine ZAA (fun hz=>?_) (fun _=>?_)
    ·have hz2:((t[0].toNat:Int) == 45)=false:=by rw [Bool.not_eq_true'] at hz; exact hz
     rw [hz2] at hb
     cases hb
    have hin:inR (-(dval d.data.toList:Int)):=⟨by omega,by omega⟩
    have hx:∀ x,numV t=some x->x=-(dval d.data.toList:Int):=fun x hx=>by
     obtain ⟨_,_,_,b4,_⟩:=ZGe hx
     have:=b4 hbt
     rw [hu] at this
     exact this
    refine .p rfl (ZA3 _ hin) ?_
    intro q hq
    have hfin:=ZLX (t:=t) hin hx
    cases hq2:q
    ·rw [if_neg (fun e=>by have:=hq.2 e; rw [hq2] at this; cases this)] at hfin
     exact h2 hfin _
    ·rw [if_pos (hq.1 hq2)] at hfin
     exact h1 _ hfin
  ·have hbt:atB t 0 45=false:=by rw [ZAj h0]; exact hb
   have hu:unS t=t:=by unfold unS; rw [if_neg (by rw [hbt]; decide)]
   refine ZAF [6,7] (fun g vals st'=>∃ i:Nat,i+g=(t).size/\st=st'/\vals=[.i (-(dval ((t).data.toList.take i):Int)),.i i]/\dval ((t).data.toList.take i)<=9223372036854775808) (t).size rfl ⟨0,by omega,rfl,rfl,Nat.zero_le _⟩ ?_
   rintro g vals st1 ⟨i,hi,rfl,rfl,hv⟩
   refine ZAA (fun hd=>?_) (fun hd=>?_)
   ·have hd:=of_decide_eq_true hd
    have i1:i<(t).size:=by omega
    have hb:=(t)[i].toNat_lt
    refine ⟨i,i1,rfl,?_⟩
    have hsn:dval ((t).data.toList.take (i+1))=dval ((t).data.toList.take i)*10+((t)[i].toNat - 48):=by rw [List.take_add_one,ZDp i1,Option.toList_some,ZDu]
    intro c hc
    rw [IntWalk.i64_in _ (by omega)] at hc
    subst hc
    intro c hc
    rw [IntWalk.i64_in _ (by omega)] at hc
    subst hc
    refine ZAA (fun k1=>?_) (fun k1=>?_)
    ·have k1:=of_decide_eq_true k1
     exact h2 (ZCa hu i1 (.inl (by unfold isDg; omega))) _
    have k1:=of_decide_eq_false k1
    refine ZAA (fun k2=>?_) (fun k2=>?_)
    ·have k2:=of_decide_eq_true k2
     exact h2 (ZCa hu i1 (.inl (by unfold isDg; omega))) _
    have k2:=of_decide_eq_false k2
    intro c hc
    rw [IntWalk.i64_in _ (by omega)] at hc
    obtain rfl:c=-((9223372036854775808 - ((t)[i].toNat - 48):Nat):Int):=by omega
    refine ⟨by decide,?_⟩
    intro c hc
    rw [ZGk,IntWalk.i64_in _ (by omega)] at hc
    subst hc
    refine ZAA (fun k3=>?_) (fun k3=>?_)
    ·have k3:=of_decide_eq_true k3
     exact h2 (ZCa hu i1 (.inr (by omega))) _
    have k3:=of_decide_eq_false k3
    intro c hc
    rw [IntWalk.i64_in _ (by omega)] at hc
    subst hc
    intro c hc
    rw [IntWalk.i64_in _ (by omega)] at hc
    obtain rfl:c=-(dval ((t).data.toList.take (i+1)):Int):=by omega
    intro c hc
    rw [IntWalk.i64_in _ (by omega)] at hc
    obtain rfl:c=((i+1:Nat):Int):=by omega
    exact ⟨g - 1,by omega,i+1,by omega,rfl,rfl,by omega⟩
   ·have hd:=of_decide_eq_false hd
    obtain rfl:i=(t).size:=by omega
    have hall:(t).data.toList.take (t).size=(t).data.toList:=List.take_of_length_le (by rw [blen]; exact Nat.le_refl _)
    simp only [hall] at hv ⊢
    refine ZAA (fun _=>?_) (fun hz=>?_)
    rotate_left
    ·have hz2:((t[0].toNat:Int) == 45)=true:=by rw [Bool.not_eq_false'] at hz; exact hz
     rw [hz2] at hb
     cases hb
    intro c hc
    obtain ⟨hin,hx⟩:=plus t hu hbt hv c (by rw [Int.zero_sub] at hc; exact hc)
    refine .p rfl (ZA3 _ hin) ?_
    intro q hq
    have hfin:=ZLX (t:=t) hin hx
    cases hq2:q
    ·rw [if_neg (fun e=>by have:=hq.2 e; rw [hq2] at this; cases this)] at hfin
     exact h2 hfin _
    ·rw [if_pos (hq.1 hq2)] at hfin
     exact h1 _ hfin
 | false =>
  have h0:t.size=0:=hq2.1 hqq
  have hbt:atB t 0 45=false:=by
   unfold atB
   rw [List.getElem?_eq_none (by rw [blen]; omega)]
   rfl
  have hu:unS t=t:=by unfold unS; rw [if_neg (by rw [hbt]; decide)]
  refine ZAF [6,7] (fun g vals st'=>∃ i:Nat,i+g=(t).size/\st=st'/\vals=[.i (-(dval ((t).data.toList.take i):Int)),.i i]/\dval ((t).data.toList.take i)<=9223372036854775808) (t).size rfl ⟨0,by omega,rfl,rfl,Nat.zero_le _⟩ ?_
  rintro g vals st1 ⟨i,hi,rfl,rfl,hv⟩
  refine ZAA (fun hd=>?_) (fun hd=>?_)
  ·have hd:=of_decide_eq_true hd
   have i1:i<(t).size:=by omega
   have hb:=(t)[i].toNat_lt
   refine ⟨i,i1,rfl,?_⟩
   have hsn:dval ((t).data.toList.take (i+1))=dval ((t).data.toList.take i)*10+((t)[i].toNat - 48):=by rw [List.take_add_one,ZDp i1,Option.toList_some,ZDu]
   intro c hc
   rw [IntWalk.i64_in _ (by omega)] at hc
   subst hc
   intro c hc
   rw [IntWalk.i64_in _ (by omega)] at hc
   subst hc
   refine ZAA (fun k1=>?_) (fun k1=>?_)
   ·have k1:=of_decide_eq_true k1
    exact h2 (ZCa hu i1 (.inl (by unfold isDg; omega))) _
   have k1:=of_decide_eq_false k1
   refine ZAA (fun k2=>?_) (fun k2=>?_)
   ·have k2:=of_decide_eq_true k2
    exact h2 (ZCa hu i1 (.inl (by unfold isDg; omega))) _
   have k2:=of_decide_eq_false k2
   intro c hc
   rw [IntWalk.i64_in _ (by omega)] at hc
   obtain rfl:c=-((9223372036854775808 - ((t)[i].toNat - 48):Nat):Int):=by omega
   refine ⟨by decide,?_⟩
   intro c hc
   rw [ZGk,IntWalk.i64_in _ (by omega)] at hc
   subst hc
   refine ZAA (fun k3=>?_) (fun k3=>?_)
   ·have k3:=of_decide_eq_true k3
    exact h2 (ZCa hu i1 (.inr (by omega))) _
   have k3:=of_decide_eq_false k3
   intro c hc
   rw [IntWalk.i64_in _ (by omega)] at hc
   subst hc
   intro c hc
   rw [IntWalk.i64_in _ (by omega)] at hc
   obtain rfl:c=-(dval ((t).data.toList.take (i+1)):Int):=by omega
   intro c hc
   rw [IntWalk.i64_in _ (by omega)] at hc
   obtain rfl:c=((i+1:Nat):Int):=by omega
   exact ⟨g - 1,by omega,i+1,by omega,rfl,rfl,by omega⟩
  ·have hd:=of_decide_eq_false hd
   obtain rfl:i=(t).size:=by omega
   have hall:(t).data.toList.take (t).size=(t).data.toList:=List.take_of_length_le (by rw [blen]; exact Nat.le_refl _)
   simp only [hall] at hv ⊢
   intro c hc
   obtain ⟨hin,hx⟩:=plus t hu hbt hv c (by rw [Int.zero_sub] at hc; exact hc)
   refine .p rfl (ZA3 _ hin) ?_
   intro q hq
   have hfin:=ZLX (t:=t) hin hx
   cases hq2:q
   ·rw [if_neg (fun e=>by have:=hq.2 e; rw [hq2] at this; cases this)] at hfin
    exact h2 hfin _
   ·rw [if_pos (hq.1 hq2)] at hfin
    exact h1 _ hfin
end
section
theorem ZEs (s p:ByteArray):ZAC Tryz.prog 73 [.s s,.s p] (.b (Lib.hasPrefix s.data.toList p.data.toList)) []:=by
 refine ZAC.of_lits #[.string s,.string p] (.inl rfl) rfl Tryz.call73 fun w _=>(Tryz.strings_HasPrefix s p w).mono ?_
 rintro e w' ⟨rfl,rfl⟩
 exact ⟨rfl,.refl _ _⟩
theorem ZGO (s p:ByteArray):ZAC Tryz.prog 116 [.s s,.s p] (.s ⟨(Lib.trimPrefix s.data.toList p.data.toList).toArray⟩) []:=by
 refine ZAC.of_lits #[.string s,.string p] (.inl rfl) rfl Tryz.call116 fun w _=>(Tryz.strings_TrimPrefix s p w).mono ?_
 rintro e w' ⟨rfl,rfl⟩
 exact ⟨rfl,.refl _ _⟩
/-- does a text begin with a word? -/
def begB (s w:ByteArray):Bool:=Lib.hasPrefix s.data.toList w.data.toList
theorem ZCc {s w:ByteArray}:begB s w=true ↔ ∃ r,s.data.toList=w.data.toList++r:=by
 unfold begB Lib.hasPrefix
 rw [List.isPrefixOf_iff_prefix]
 constructor
 iterate 2
  ·rintro ⟨r,hr⟩; exact ⟨r,hr.symm⟩
theorem ZDt {s w:ByteArray} (h:begB s w=true):w.size<=s.size:=by
 obtain ⟨r,hr⟩:=ZCc.1 h
 have:=congrArg List.length hr
 rw [blen,List.length_append,blen] at this
 omega
section
variable {st:St} {R:AV->St->Prop} {p k n:Nat} {s:ByteArray}
theorem text_m (h:Sc st p s 0) (hn:n<=st.tk.length) (w:ByteArray) (h1:begB s w=false->∀ st',Mv n (·=p) st st'->Sc st' p s 0->R (.b false) st')
  (h2:begB s w=true->∀ st',Mv n (·=p) st st'->Sc st' p s w.size->R (.b true) st'):ZAB Tryz.prog 150 [.ptr p 0,.s w] st R:=by
 have hm:=h.max
 unfold maxLen at hm
 refine ZAB.of_vc T_ok mixed Tryz.func150 rfl Tryz.call150 ?_
 refine .s (rest_a h ?_)
 refine .p rfl (ZEs _ _) ?_
 have e0:s.extract 0 s.size=s:=ByteArray.extract_zero_size
 rw [e0]
 have hb:Lib.hasPrefix s.data.toList w.data.toList=begB s w:=rfl
 rw [hb]
 cases hbb:begB s w with
 | false=>exact h1 hbb _ (Mv.refl hn) h
 | true =>
  have hl:=ZDt hbb
  refine ⟨_,h.at',?_⟩
  intro c hc
  rw [IntWalk.i64_in _ (by omega)] at hc
  obtain rfl:c=(w.size:Int):=by omega
  exact ⟨_,h.at',h2 hbb _ ((Mv.refl (C:=(·=p)) hn).sc (p:=p) (fun _=>rfl) s w.size) (h.sc hl)⟩
end
/-- coded texts, each behind a blank: those that were read, and where the last one ends -/
def ZBP (s:ByteArray):Nat->Nat->List ByteArray × Option Nat
 | 0,k=>([],some k)
 | n+1,k=>if atB s k 32=true then match ZDH s (k+1) with
  | none=>([⟨#[]⟩],none)
  | some (v,j)=>(v::(ZBP s n j).1,(ZBP s n j).2)
  else ([⟨#[]⟩],none)
def ZAu (s w:ByteArray) (n:Nat):List ByteArray × Bool:=if begB s w=true then ((ZBP s n w.size).1,decide ((ZBP s n w.size).2=some s.size)) else ([],false)
/-- a word and coded texts, each behind a blank -/
def Wds (s w:ByteArray) (l:List ByteArray):Prop:=s.data.toList=w.data.toList++l.flatMap fun x=>32::ZBR x.data.toList
theorem ZKs {s:ByteArray}:∀ (n k j:Nat),(ZBP s n k).2=some j->s.data.toList.drop k=((ZBP s n k).1.flatMap fun x=>32::ZBR x.data.toList)++s.data.toList.drop j/\(ZBP s n k).1.length=n:=by
 intro n
 induction n with
 | zero=>intro k j h; cases h; exact ⟨rfl,rfl⟩
 | succ n ih =>
  intro k j h
  unfold ZBP at h ⊢
  split at h
  ·rename_i h32
   rw [if_pos h32]
   cases hc:ZDH s (k+1) with
   | none=>rw [hc] at h; cases h
   | some x =>
    obtain ⟨v,i⟩:=x
    rw [hc] at h
    obtain ⟨r,e1,e2⟩:=ZG4.1 hc
    obtain ⟨q1,q2⟩:=ih i j h
    obtain ⟨hk,hb⟩:=ZBG h32
    have e3:s.data.toList.drop k=32::s.data.toList.drop (k+1):=by
     rw [List.drop_eq_getElem_cons (show k<s.data.toList.length by rw [blen]; exact hk),bget s k hk,show s[k]=32 from UInt8.toNat_inj.1 (by show s[k].toNat=32; omega)]
    have e4:r=s.data.toList.drop i:=by
     have:=congrArg (List.drop (ZAo v).size) e1
     rw [List.drop_drop,<- e2,show (ZAo v).size=(ZBR v.data.toList).length by rw [<- ZBT,blen],List.drop_left] at this
     exact this.symm
    refine ⟨?_,by simp only [List.length_cons,q2]⟩
    simp only [List.flatMap_cons]
    rw [e3,e1,e4,q1]
    simp
  ·cases h
theorem wordsG_of {s:ByteArray}:∀ (l:List ByteArray) (k:Nat) (r:List UInt8),s.data.toList.drop k=(l.flatMap fun x=>32::ZBR x.data.toList)++r->ZBP s l.length k=(l,some (s.size - r.length)) \/ k > s.size:=by
 intro l
 induction l with
 | nil =>
  intro k r h
  by_cases hk:k<=s.size
  ·left
   have hl:=congrArg List.length h
   rw [List.length_drop,blen] at hl
   simp at hl
   exact congrArg (fun x=>(([]:List ByteArray),some x)) (by omega)
  ·right; omega
 | cons v l ih =>
  intro k r h
  left
  have h2:s.data.toList.drop k=32::(ZBR v.data.toList++((l.flatMap fun x=>32::ZBR x.data.toList)++r)):=by rw [h]; simp
  have hk:k<s.size:=by
   have hl:=congrArg List.length h2
   rw [List.length_drop,blen,List.length_cons] at hl
   omega
  have e3:=h2
  rw [List.drop_eq_getElem_cons (show k<s.data.toList.length by rw [blen]; exact hk),bget s k hk] at e3
  obtain ⟨e4,e5⟩:=List.cons.inj e3
  have h32:atB s k 32=true:=by rw [ZAj hk,e4]; rfl
  have hc:ZDH s (k+1)=some (v,k+1+(ZAo v).size):=ZG4.2 ⟨_,e5,rfl⟩
  have e6:s.data.toList.drop (k+1+(ZAo v).size)=(l.flatMap fun x=>32::ZBR x.data.toList)++r:=by
   rw [<- List.drop_drop,e5,show (ZAo v).size=(ZBR v.data.toList).length by rw [<- ZBT,blen],List.drop_left]
  have hle:k+1+(ZAo v).size<=s.size:=by
   have hl:=congrArg List.length e5
   rw [List.length_drop,blen,List.length_append,<- ZBT,blen] at hl
   have:=(ZAb v).2
   omega
  rcases ih _ r e6 with e7 | e7
  ·show ZBP s (l.length+1) k=_
   unfold ZBP
   rw [if_pos h32,hc]
   show (v::(ZBP s l.length (k+1+(ZAo v).size)).1,(ZBP s l.length (k+1+(ZAo v).size)).2)=_
   rw [e7]
  ·omega
theorem ZCi {s w:ByteArray} {n:Nat} (h:(ZAu s w n).2=true):Wds s w (ZAu s w n).1/\(ZAu s w n).1.length=n:=by
 unfold ZAu at h ⊢
 split at h
 ·rename_i hb
  rw [if_pos hb]
  obtain ⟨q1,q2⟩:=ZKs n w.size s.size (of_decide_eq_true h)
  refine ⟨?_,q2⟩
  obtain ⟨r,hr⟩:=ZCc.1 hb
  have e:s.data.toList.drop w.size=r:=by rw [hr,<- blen,List.drop_left]
  unfold Wds
  rw [e] at q1
  rw [List.drop_eq_nil_of_le (by rw [blen]; exact Nat.le_refl _),List.append_nil] at q1
  rw [hr,q1]
 ·cases h
theorem ZD9 {s w:ByteArray} {l:List ByteArray} (h:Wds s w l):ZAu s w l.length=(l,true):=by
 have hb:begB s w=true:=ZCc.2 ⟨_,h⟩
 have hw:=ZDt hb
 have e:s.data.toList.drop w.size=(l.flatMap fun x=>32::ZBR x.data.toList)++[]:=by rw [show s.data.toList=_ from h,<- blen,List.drop_left,List.append_nil]
 unfold ZAu
 rw [if_pos hb]
 rcases wordsG_of l w.size [] e with e | e
 ·rw [e]
  exact congrArg (fun x=>(l,x)) (by simp)
 ·omega
end
section
attribute [local irreducible] ZAn
set_option maxHeartbeats 1000000 in
theorem ZI5 (s w:ByteArray) (n:Nat) (hn:n<=4) (hs:s.size<=1099511627776):ZAC Tryz.prog 112 [.s s,.s w,.i n] (.tup [.sl .no 1 (strL (ZAu s w n).1),.b (ZAu s w n).2]) []:=by
 have hmx:maxLen=9223372036854775807:=rfl
 have hF:ZAu s w n=if begB s w=true then ((ZBP s n w.size).1,decide ((ZBP s n w.size).2=some s.size)) else ([],false):=rfl
 generalize ZAu s w n=F at *
 refine ZAC.ofG rfl ?_
 refine ZAB.of_vc T_ok mixed Tryz.func112 rfl Tryz.call112 ?_
 refine .s (new_a ?_)
 refine ⟨_,ZAK _ _,?_⟩
 refine ⟨_,ZAL _ _ _,?_⟩
 have h0:Sc ⟨[[.s s,.i 0],[.ptr 0 0]],[]⟩ 0 s 0:=⟨rfl,Nat.zero_le _,by omega⟩
 refine .s (text_m (n:=0) h0 (Nat.zero_le _) w (fun hb st' m hs1=>?_) (fun hb st' m hs1=>?_))
 ·rw [if_neg (by rw [hb]; decide)] at hF
  have hf1:=m.at' (q:=1) (cs:=[.ptr 0 0]) rfl (by decide)
  have hst:(false=true/\F=((ZBP s (n - 0) 0).1,decide ((ZBP s (n - 0) 0).2=some s.size))) \/ (false=false/\F=(([]:List ByteArray),false)):=.inr ⟨rfl,hF⟩
  refine ZAF [9,10,11] (fun g vals st'=>∃ (i:Nat) (acc:List ByteArray) (a:AV) (ok:Bool) (k:Nat),i+g=n/\vals=[.b ok,a,.i i]/\acc.length<=i/\st'.heap[1]? = some [.ptr 0 0]/\Sc st' 0 s k/\Acc 0 st'.tk 1 a (strL acc) /\
   ((ok=true/\F=(acc++(ZBP s (n - i) k).1,decide ((ZBP s (n - i) k).2=some s.size))) \/ (ok=false/\F=(acc,false)))) n rfl ⟨0,[],.nilS,false,0,by omega,rfl,Nat.le_refl _,hf1,hs1,.nil,hst⟩ ?_
  rintro g vals st1 ⟨i,acc,a,ok,k,hi,rfl,hal,hf1,hs1,hA,hr⟩
  rcases hA.form with rfl | ⟨t0,e0,rfl⟩
  iterate 2
   ·skip
    rcases hr with ⟨rfl,hr⟩ | ⟨rfl,hr⟩
    ·refine ZAA (fun hd=>?_) (fun hd=>?_)
     ·have hd:=of_decide_eq_true hd
      have hg:n - i=(n - (i+1))+1:=by omega
      rw [hg] at hr
      unfold ZBP at hr
      refine ⟨_,hf1,?_⟩
      refine .s (ZCk (n:=st1.tk.length) hs1 (Nat.le_refl _) 32 (fun h32 st2 m2 hs2=>?_) (fun h32 hk st2 m2 hs2=>?_))
      ·have hA2:=hA.mvT m2
       have hf2:=m2.at' hf1 (by decide)
       rw [if_neg (by rw [h32]; decide)] at hr
       refine Acc.app (n:=0) (i:=ti9) hA2 (Nat.zero_le _) (List.cons_ne_nil _ _) ?_ ?_ (fun t e tk' q0 q1 q2 q3=>?_)
       ·show ((strL acc).length+1)*16<=_; rw [ZAH]; omega
       ·show (strL acc).length+1<=_; rw [ZAH]; omega
       intro c hc
       rw [IntWalk.i64_in _ (by omega)] at hc
       obtain rfl:c=((i+1:Nat):Int):=by omega
       refine ⟨g - 1,by omega,i+1,acc++[⟨#[]⟩],_,false,k,by omega,rfl,by rw [List.length_append]; show _+1<=_; omega,hf2,⟨hs2.at',hs2.le,hs2.max⟩,?_,.inr ⟨rfl,?_⟩⟩
       ·rw [ZAh]
        exact .own _ _ _ q0 q1
       exact hr
      ·have hA2:=hA.mvT m2
       have hf2:=m2.at' hf1 (by decide)
       rw [if_pos h32] at hr
       refine ⟨_,hf2,?_⟩
       refine .s (coded_m (n:=st2.tk.length) hs2 (Nat.le_refl _) hs (fun hc st3 m3 hs3=>?_) (fun v j hc st3 m3 hs3=>?_))
       ·rw [hc] at hr
        have hA2:=hA2.mvT m3
        have hf3:=m3.at' hf2 (by decide)
        obtain ⟨j3,_,hs3⟩:=hs3
        refine Acc.app (n:=0) (i:=ti9) hA2 (Nat.zero_le _) (List.cons_ne_nil _ _) ?_ ?_ (fun t e tk' q0 q1 q2 q3=>?_)
        ·show ((strL acc).length+1)*16<=_; rw [ZAH]; omega
        ·show (strL acc).length+1<=_; rw [ZAH]; omega
        intro c hc
        rw [IntWalk.i64_in _ (by omega)] at hc
        obtain rfl:c=((i+1:Nat):Int):=by omega
        refine ⟨g - 1,by omega,i+1,acc++[⟨#[]⟩],_,false,j3,by omega,rfl,by rw [List.length_append]; show _+1<=_; omega,hf3,⟨hs3.at',hs3.le,hs3.max⟩,?_,.inr ⟨rfl,?_⟩⟩
        ·rw [ZAh]
         exact .own _ _ _ q0 q1
        exact hr
       ·rw [hc] at hr
        have hA2:=hA2.mvT m3
        have hf3:=m3.at' hf2 (by decide)
        refine Acc.app (n:=0) (i:=ti9) hA2 (Nat.zero_le _) (List.cons_ne_nil _ _) ?_ ?_ (fun t e tk' q0 q1 q2 q3=>?_)
        ·show ((strL acc).length+1)*16<=_; rw [ZAH]; omega
        ·show (strL acc).length+1<=_; rw [ZAH]; omega
        intro c hc
        rw [IntWalk.i64_in _ (by omega)] at hc
        obtain rfl:c=((i+1:Nat):Int):=by omega
        refine ⟨g - 1,by omega,i+1,acc++[v],_,true,j,by omega,rfl,by rw [List.length_append]; show _+1<=_; omega,hf3,⟨hs3.at',hs3.le,hs3.max⟩,?_,.inl ⟨rfl,?_⟩⟩
        ·rw [ZAh]
         exact .own _ _ _ q0 q1
        ·rw [hr,List.append_assoc]
         rfl
     ·have hd:=of_decide_eq_false hd
      rw [show n - i=0 by omega] at hr
      refine ⟨_,hf1,?_⟩
      refine .s (ZLF hs1 ?_)
      have hle:=hs1.le
      have he:F=(acc,decide (s.size<=k)):=by
       rw [hr]
       show (acc++[],decide (some k=some s.size))=_
       rw [List.append_nil]
       congr 1
       rw [Bool.eq_iff_iff,decide_eq_true_eq,decide_eq_true_eq,Option.some.injEq]
       omega
      refine retV rfl ?_
      rw [he]
      exact ⟨hA.argW,.inl (.inl ⟨rfl,rfl⟩),trivial⟩
    ·refine ZAA (fun hd=>?_) (fun hd=>?_)
     iterate 2
      ·skip
       refine retV rfl ?_
       rw [hr]
       exact ⟨hA.argW,.inl (.inl ⟨rfl,rfl⟩),trivial⟩
 ·rw [if_pos hb] at hF
  have hf1:=m.at' (q:=1) (cs:=[.ptr 0 0]) rfl (by decide)
  have hst:(true=true/\F=((ZBP s (n - 0) w.size).1,decide ((ZBP s (n - 0) w.size).2=some s.size))) \/ (true=false/\F=(([]:List ByteArray),false)):=.inl ⟨rfl,hF⟩
  refine ZAF [9,10,11] (fun g vals st'=>∃ (i:Nat) (acc:List ByteArray) (a:AV) (ok:Bool) (k:Nat),i+g=n/\vals=[.b ok,a,.i i]/\acc.length<=i/\st'.heap[1]? = some [.ptr 0 0]/\Sc st' 0 s k/\Acc 0 st'.tk 1 a (strL acc) /\
   ((ok=true/\F=(acc++(ZBP s (n - i) k).1,decide ((ZBP s (n - i) k).2=some s.size))) \/ (ok=false/\F=(acc,false)))) n rfl ⟨0,[],.nilS,true,w.size,by omega,rfl,Nat.le_refl _,hf1,hs1,.nil,hst⟩ ?_
  rintro g vals st1 ⟨i,acc,a,ok,k,hi,rfl,hal,hf1,hs1,hA,hr⟩
  rcases hA.form with rfl | ⟨t0,e0,rfl⟩
  iterate 2
   ·skip
    rcases hr with ⟨rfl,hr⟩ | ⟨rfl,hr⟩
    ·refine ZAA (fun hd=>?_) (fun hd=>?_)
     ·have hd:=of_decide_eq_true hd
      have hg:n - i=(n - (i+1))+1:=by omega
      rw [hg] at hr
      unfold ZBP at hr
      refine ⟨_,hf1,?_⟩
      refine .s (ZCk (n:=st1.tk.length) hs1 (Nat.le_refl _) 32 (fun h32 st2 m2 hs2=>?_) (fun h32 hk st2 m2 hs2=>?_))
      ·have hA2:=hA.mvT m2
       have hf2:=m2.at' hf1 (by decide)
       rw [if_neg (by rw [h32]; decide)] at hr
       refine Acc.app (n:=0) (i:=ti9) hA2 (Nat.zero_le _) (List.cons_ne_nil _ _) ?_ ?_ (fun t e tk' q0 q1 q2 q3=>?_)
       ·show ((strL acc).length+1)*16<=_; rw [ZAH]; omega
       ·show (strL acc).length+1<=_; rw [ZAH]; omega
       intro c hc
       rw [IntWalk.i64_in _ (by omega)] at hc
       obtain rfl:c=((i+1:Nat):Int):=by omega
       refine ⟨g - 1,by omega,i+1,acc++[⟨#[]⟩],_,false,k,by omega,rfl,by rw [List.length_append]; show _+1<=_; omega,hf2,⟨hs2.at',hs2.le,hs2.max⟩,?_,.inr ⟨rfl,?_⟩⟩
       ·rw [ZAh]
        exact .own _ _ _ q0 q1
       exact hr
      ·have hA2:=hA.mvT m2
       have hf2:=m2.at' hf1 (by decide)
       rw [if_pos h32] at hr
       refine ⟨_,hf2,?_⟩
       refine .s (coded_m (n:=st2.tk.length) hs2 (Nat.le_refl _) hs (fun hc st3 m3 hs3=>?_) (fun v j hc st3 m3 hs3=>?_))
       ·rw [hc] at hr
        have hA2:=hA2.mvT m3
        have hf3:=m3.at' hf2 (by decide)
        obtain ⟨j3,_,hs3⟩:=hs3
        refine Acc.app (n:=0) (i:=ti9) hA2 (Nat.zero_le _) (List.cons_ne_nil _ _) ?_ ?_ (fun t e tk' q0 q1 q2 q3=>?_)
        ·show ((strL acc).length+1)*16<=_; rw [ZAH]; omega
        ·show (strL acc).length+1<=_; rw [ZAH]; omega
        intro c hc
        rw [IntWalk.i64_in _ (by omega)] at hc
        obtain rfl:c=((i+1:Nat):Int):=by omega
        refine ⟨g - 1,by omega,i+1,acc++[⟨#[]⟩],_,false,j3,by omega,rfl,by rw [List.length_append]; show _+1<=_; omega,hf3,⟨hs3.at',hs3.le,hs3.max⟩,?_,.inr ⟨rfl,?_⟩⟩
        ·rw [ZAh]
         exact .own _ _ _ q0 q1
        exact hr
       ·rw [hc] at hr
        have hA2:=hA2.mvT m3
        have hf3:=m3.at' hf2 (by decide)
        refine Acc.app (n:=0) (i:=ti9) hA2 (Nat.zero_le _) (List.cons_ne_nil _ _) ?_ ?_ (fun t e tk' q0 q1 q2 q3=>?_)
        ·show ((strL acc).length+1)*16<=_; rw [ZAH]; omega
        ·show (strL acc).length+1<=_; rw [ZAH]; omega
        intro c hc
        rw [IntWalk.i64_in _ (by omega)] at hc
        obtain rfl:c=((i+1:Nat):Int):=by omega
        refine ⟨g - 1,by omega,i+1,acc++[v],_,true,j,by omega,rfl,by rw [List.length_append]; show _+1<=_; omega,hf3,⟨hs3.at',hs3.le,hs3.max⟩,?_,.inl ⟨rfl,?_⟩⟩
        ·rw [ZAh]
         exact .own _ _ _ q0 q1
        ·rw [hr,List.append_assoc]
         rfl
     ·have hd:=of_decide_eq_false hd
      rw [show n - i=0 by omega] at hr
      refine ⟨_,hf1,?_⟩
      refine .s (ZLF hs1 ?_)
      have hle:=hs1.le
      have he:F=(acc,decide (s.size<=k)):=by
       rw [hr]
       show (acc++[],decide (some k=some s.size))=_
       rw [List.append_nil]
       congr 1
       rw [Bool.eq_iff_iff,decide_eq_true_eq,decide_eq_true_eq,Option.some.injEq]
       omega
      refine retV rfl ?_
      rw [he]
      exact ⟨hA.argW,.inl (.inl ⟨rfl,rfl⟩),trivial⟩
    ·refine ZAA (fun hd=>?_) (fun hd=>?_)
     iterate 2
      ·skip
       refine retV rfl ?_
       rw [hr]
       exact ⟨hA.argW,.inl (.inl ⟨rfl,rfl⟩),trivial⟩
end
section
def ZD3:ByteArray:=⟨#[99,97,112,115]⟩
def ZHp:List ByteArray->Option (Int × Int × Int)
 | [a,b,c,d]=>if a=ZD3 then match numV b,numV c,numV d with
  | some x,some y,some z=>some (x,y,z)
  | _,_,_=>none
  else none
 | _=>none
def ZHx (s:ByteArray):Option (Int × Int × Int):=ZHp (ZAa s)
def capsA (x:Option (Int × Int × Int)):List AV:=[.i (x.getD (0,0,0)).1,.i (x.getD (0,0,0)).2.1,.i (x.getD (0,0,0)).2.2]
theorem capsL_no {l:List ByteArray} (h:l.length≠4):ZHp l=none:=by
 unfold ZHp
 split
 ·exact absurd rfl h
 ·rfl
theorem ZHk {t:ByteArray} {k:Int} (h:Lib.atoiAll t.data.toList=.ok k):inR k:=Lib.atoiAll_bounds h
theorem caps_p (s:ByteArray) (hs:s.size<=4000000000):ZAC Tryz.prog 114 [.s s] (.tup [.agg (capsA (ZHx s)),.b (ZHx s).isSome]) []:=by
 have hmx:maxLen=9223372036854775807:=rfl
 have hC:ZHx s=ZHp (ZAa s):=rfl
 have hz:∀ x∈ZAa s,x.size<=s.size:=fun x hx=>ZEk hx
 have hp:=split32_p s hs
 generalize ZHx s=C at *
 generalize ZAa s=l at *
 refine ZAC.of rfl (ZAB.of_vc T_ok mixed Tryz.func114 rfl Tryz.call114 ?_)
 refine .p rfl hp ?_
 have el:=ZAH l
 refine ZAA (fun h1=>?_) (fun h1=>?_)
 ·have h1:¬ ((strL l).length:Int)=4:=bne_iff_ne.1 h1
  rw [capsL_no (by omega)] at hC
  subst hC
  refine ⟨_,rfl,?_⟩
  refine ⟨_,rfl,?_⟩
  exact rfl
 ·have h1:((strL l).length:Int)=4:=bne_eq_false_iff_eq.1 h1
  have h4:l.length=4:=by omega
  match l,h4 with
  | [a,b,c,d],_ =>
   have zb:=hz b (by simp)
   have zc:=hz c (by simp)
   have zd:=hz d (by simp)
   clear hp hz el h1
   refine ⟨0,_,rfl,rfl,?_⟩
   intro q hq
   cases hqq:q
   rotate_left
   ·have hC:C=none:=by rw [hC]; unfold ZHp; exact if_neg (fun e=>by have:=hq.2 e; rw [hqq] at this; cases this)
    subst hC
    refine ⟨_,rfl,?_⟩
    refine ⟨_,rfl,?_⟩
    exact rfl
   have ha:a=ZD3:=hq.1 hqq
   have hC:C=match numV b,numV c,numV d with
    | some x,some y,some z=>some (x,y,z)
    | _,_,_=>none:=by rw [hC]; unfold ZHp; exact if_pos ha
   refine ZAF [21] (fun g vals st'=>∃ (i:Nat) (a0 a1 a2:Int),i+g=3/\vals=[.i i]/\st'=⟨[[.i 0,.i 0,.i 0],[.i a0,.i a1,.i a2]],[]⟩/\(0<i->numV b=some a0)/\(1<i->numV c=some a1)/\(2<i->numV d=some a2)) 3 rfl ⟨0,0,0,0,rfl,rfl,rfl,fun h=>absurd h (by decide),fun h=>absurd h (by decide),fun h=>absurd h (by decide)⟩ ?_
   rintro g vals st1 ⟨i,a0,a1,a2,hi,rfl,rfl,n0,n1,n2⟩
   obtain rfl | rfl | rfl | rfl:i=0 \/ i=1 \/ i=2 \/ i=3:=by omega
   ·skip
    intro c hc
    obtain rfl:c=0+1:=hc.trans (by decide)
    refine ⟨0+1,_,rfl,rfl,?_⟩
    refine .s (atoi_a b (by omega) (fun k hk=>?_) (fun hno n ty v=>?_))
    ·refine .x (by kernel_rfl) ?_
     refine ⟨⟨_,Tryz.underlying144⟩,?_⟩
     refine .p rfl (ZIE k (ZHk hk)) ?_
     intro c hc
     obtain rfl:c=0+1:=hc.trans (by decide)
     refine ⟨0+1,_,rfl,rfl,?_⟩
     intro q hq
     have hv:=ZLu hk
     cases hqq:q
     ·rw [if_pos (hq.1 hqq)] at hv
      refine ⟨0,rfl,by decide,?_⟩
      refine ⟨_,rfl,?_⟩
      intro c hc
      obtain rfl:c=0+1:=hc.trans (by decide)
      refine ⟨g - 1,by omega,0+1,k,a1,a2,by omega,rfl,rfl,fun _=>hv,fun h=>absurd h (by decide),fun h=>absurd h (by decide)⟩
     ·rw [if_neg (fun e=>by have:=hq.2 e; rw [hqq] at this; cases this)] at hv
      rw [hv] at hC
      subst hC
      refine ⟨_,rfl,?_⟩
      refine ⟨_,rfl,?_⟩
      exact rfl
    ·have hv:=ZK4 hno
     refine .x (by kernel_rfl) ?_
     refine ⟨⟨_,Tryz.underlying144⟩,?_⟩
     rw [hv] at hC
     subst hC
     refine ⟨_,rfl,?_⟩
     refine ⟨_,rfl,?_⟩
     exact rfl
   ·have n0:=n0 (by decide)
    rw [n0] at hC
    intro c hc
    obtain rfl:c=1+1:=hc.trans (by decide)
    refine ⟨1+1,_,rfl,rfl,?_⟩
    refine .s (atoi_a c (by omega) (fun k hk=>?_) (fun hno n ty v=>?_))
    ·refine .x (by kernel_rfl) ?_
     refine ⟨⟨_,Tryz.underlying144⟩,?_⟩
     refine .p rfl (ZIE k (ZHk hk)) ?_
     intro c hc
     obtain rfl:c=1+1:=hc.trans (by decide)
     refine ⟨1+1,_,rfl,rfl,?_⟩
     intro q hq
     have hv:=ZLu hk
     cases hqq:q
     ·rw [if_pos (hq.1 hqq)] at hv
      refine ⟨1,rfl,by decide,?_⟩
      refine ⟨_,rfl,?_⟩
      intro c hc
      obtain rfl:c=1+1:=hc.trans (by decide)
      refine ⟨g - 1,by omega,1+1,a0,k,a2,by omega,rfl,rfl,fun _=>n0,fun _=>hv,fun h=>absurd h (by decide)⟩
     ·rw [if_neg (fun e=>by have:=hq.2 e; rw [hqq] at this; cases this)] at hv
      rw [hv] at hC
      subst hC
      refine ⟨_,rfl,?_⟩
      refine ⟨_,rfl,?_⟩
      exact rfl
    ·have hv:=ZK4 hno
     refine .x (by kernel_rfl) ?_
     refine ⟨⟨_,Tryz.underlying144⟩,?_⟩
     rw [hv] at hC
     subst hC
     refine ⟨_,rfl,?_⟩
     refine ⟨_,rfl,?_⟩
     exact rfl
   ·have n0:=n0 (by decide)
    have n1:=n1 (by decide)
    rw [n0,n1] at hC
    intro c hc
    obtain rfl:c=2+1:=hc.trans (by decide)
    refine ⟨2+1,_,rfl,rfl,?_⟩
    refine .s (atoi_a d (by omega) (fun k hk=>?_) (fun hno n ty v=>?_))
    ·refine .x (by kernel_rfl) ?_
     refine ⟨⟨_,Tryz.underlying144⟩,?_⟩
     refine .p rfl (ZIE k (ZHk hk)) ?_
     intro c hc
     obtain rfl:c=2+1:=hc.trans (by decide)
     refine ⟨2+1,_,rfl,rfl,?_⟩
     intro q hq
     have hv:=ZLu hk
     cases hqq:q
     ·rw [if_pos (hq.1 hqq)] at hv
      refine ⟨2,rfl,by decide,?_⟩
      refine ⟨_,rfl,?_⟩
      intro c hc
      obtain rfl:c=2+1:=hc.trans (by decide)
      refine ⟨g - 1,by omega,2+1,a0,a1,k,by omega,rfl,rfl,fun _=>n0,fun _=>n1,fun _=>hv⟩
     ·rw [if_neg (fun e=>by have:=hq.2 e; rw [hqq] at this; cases this)] at hv
      rw [hv] at hC
      subst hC
      refine ⟨_,rfl,?_⟩
      refine ⟨_,rfl,?_⟩
      exact rfl
    ·have hv:=ZK4 hno
     refine .x (by kernel_rfl) ?_
     refine ⟨⟨_,Tryz.underlying144⟩,?_⟩
     rw [hv] at hC
     subst hC
     refine ⟨_,rfl,?_⟩
     refine ⟨_,rfl,?_⟩
     exact rfl
   ·rw [n0 (by decide),n1 (by decide),n2 (by decide)] at hC
    subst hC
    refine ⟨0,rfl,by decide,?_⟩
    refine ⟨_,rfl,?_⟩
    refine ⟨1,rfl,by decide,?_⟩
    refine ⟨_,rfl,?_⟩
    refine ⟨2,rfl,by decide,?_⟩
    iterate 3 refine ⟨_,rfl,?_⟩
    exact rfl
def ZEp (s:ByteArray):ByteArray:=⟨(Lib.cut s.data.toList [32]).1.toArray⟩
def ZBq (s:ByteArray):Int × Bool :=
 if ZEp s=⟨#[101,110,118]⟩ then (0,true)
 else if ZEp s=⟨#[100,111,109,97,105,110]⟩ then (1,true)
 else if ZEp s=⟨#[112,108,97,99,101]⟩ then (2,true)
 else if ZEp s=⟨#[99,97,112,115]⟩ then (3,true)
 else if ZEp s=⟨#[114,117,108,101]⟩ then (4,true)
 else if ZEp s=⟨#[99,108,105,101,110,116]⟩ then (5,true)
 else if ZEp s=⟨#[117,112,115,116,114,101,97,109]⟩ then (6,true)
 else if ZEp s=⟨#[101,110,100,115]⟩ then if s=⟨#[101,110,100,115,32,99,108,105,101,110,116]⟩ then (7,true) else (8,decide (s=⟨#[101,110,100,115,32,117,112,115,116,114,101,97,109]⟩))
 else (9,decide (ZEp s=⟨#[101,118,101,110,116]⟩))
theorem cut_p (s:ByteArray) (hs:s.size<=4000000000):ZAC Tryz.prog 111 [.s s,.s ⟨#[32]⟩] (.tup [.s (ZEp s),.s ⟨(Lib.cut s.data.toList [32]).2.1.toArray⟩,.b (Lib.cut s.data.toList [32]).2.2]) []:=by
 refine ZAC.of_lits #[.string s,.string ⟨#[32]⟩] (.inr ⟨[_,_,_],rfl,rfl⟩) rfl Tryz.call111 fun w hw=>?_
 obtain ⟨m,hm⟩:=hw.max
 refine (Tryz.strings_Cut s ⟨#[32]⟩ m w (by omega) hm).mono ?_
 rintro e w' ⟨rfl,n,rfl⟩
 exact ⟨rfl,rfl,rfl,rfl,Nat.le_refl _,fun _ _=>rfl⟩
theorem kinds_p (s:ByteArray) (hs:s.size<=4000000000):ZAC Tryz.prog 69 [.s s] (.tup [.i (ZBq s).1,.b (ZBq s).2]) []:=by
 have hp:=cut_p s hs
 unfold ZBq
 generalize ZEp s=W at *
 refine ZAC.of rfl (ZAB.of_vc T_ok mixed Tryz.func69 rfl Tryz.call69 ?_)
 refine .p rfl hp ?_
 intro q hq
 cases hqq:q
 rotate_left
 ·rw [if_pos (hq.1 hqq)]
  exact rfl
 rw [if_neg (fun e=>by have:=hq.2 e; rw [hqq] at this; cases this)]
 intro q hq
 cases hqq:q
 rotate_left
 ·rw [if_pos (hq.1 hqq)]
  exact rfl
 rw [if_neg (fun e=>by have:=hq.2 e; rw [hqq] at this; cases this)]
 intro q hq
 cases hqq:q
 rotate_left
 ·rw [if_pos (hq.1 hqq)]
  exact rfl
 rw [if_neg (fun e=>by have:=hq.2 e; rw [hqq] at this; cases this)]
 intro q hq
 cases hqq:q
 rotate_left
 ·rw [if_pos (hq.1 hqq)]
  exact rfl
 rw [if_neg (fun e=>by have:=hq.2 e; rw [hqq] at this; cases this)]
 intro q hq
 cases hqq:q
 rotate_left
 ·rw [if_pos (hq.1 hqq)]
  exact rfl
 rw [if_neg (fun e=>by have:=hq.2 e; rw [hqq] at this; cases this)]
 intro q hq
 cases hqq:q
 rotate_left
 ·rw [if_pos (hq.1 hqq)]
  exact rfl
 rw [if_neg (fun e=>by have:=hq.2 e; rw [hqq] at this; cases this)]
 intro q hq
 cases hqq:q
 rotate_left
 ·rw [if_pos (hq.1 hqq)]
  exact rfl
 rw [if_neg (fun e=>by have:=hq.2 e; rw [hqq] at this; cases this)]
 intro q hq
 cases hqq:q
 rotate_left
 ·rw [if_pos (hq.1 hqq)]
  intro q hq
  cases hqq:q
  rotate_left
  ·rw [if_pos (hq.1 hqq)]
   exact rfl
  rw [if_neg (fun e=>by have:=hq.2 e; rw [hqq] at this; cases this)]
  intro q hq
  have e:q=decide (s=⟨#[101,110,100,115,32,117,112,115,116,114,101,97,109]⟩):=by rw [Bool.eq_iff_iff,hq,decide_eq_true_eq]
  subst e
  exact rfl
 rw [if_neg (fun e=>by have:=hq.2 e; rw [hqq] at this; cases this)]
 intro q hq
 have e:q=decide (W=⟨#[101,118,101,110,116]⟩):=by rw [Bool.eq_iff_iff,hq,decide_eq_true_eq]
 subst e
 exact rfl
end
end Go.Proofs.YticbonkojpabnaaGreatDoor
