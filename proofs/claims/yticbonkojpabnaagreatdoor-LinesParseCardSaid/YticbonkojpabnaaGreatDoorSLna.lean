/- Programs of rules, line by line: plain words. No program in sight. -/
import Derived.Test.YticbonkojpabnaaGreatDoorSFdp
import Derived.Test.YticbonkojpabnaaGreatDoorSR36
import Derived.Lib.TrimU
import Derived.Test.YticbonkojpabnaaGreatDoorSRqt
import Derived.Test.YticbonkojpabnaaGreatDoorSCld
import Derived.Lib.SplitLaws
import Derived.Test.YticbonkojpabnaaGreatDoorSWk
import Derived.Lib.ItoaNum
import Derived.Lib.AtoiAllCases
import Derived.Test.YticbonkojpabnaaGreatDoorSSm
set_option linter.unusedSimpArgs false
set_option linter.unusedVariables false
set_option maxRecDepth 100000
namespace Go.Proofs.YticbonkojpabnaaGreatDoor
open Go.RowKit
section
def rlL (l:List Rl):List (List AV):=l.map Rl.cs
theorem ZBk (l:List Rl):(rlL l).length=l.length:=by simp [rlL]
theorem ZIF {l:List Rl} {k:Nat} (h:k<l.length):(rlL l)[k]? = some l[k].cs:=by simp [rlL,h]
theorem ZJb (r:Rl):ZAO r=0 \/ ZAO r=9:=by unfold ZAO; split <;> simp
theorem ZFb (l:List Rl) (o:Rl):rlL l++[o.cs]=rlL (l++[o]):=by simp [rlL]

/-- what stands between a byte and the next one -/
def cutL (c:UInt8):List UInt8->List (List UInt8)
 | []=>[[]]
 | b::r=>if b=c then []::cutL c r else match cutL c r with
  | []=>[[b]]
  | h::t=>(b::h)::t
theorem ZCP {c:UInt8}:∀ {l:List UInt8},(∀ b∈l,b≠c)->cutL c l=[l]
 | [],_=>rfl
 | b::r,h=>by rw [cutL,if_neg (h b (.head _)),ZCP (fun x hx=>h x (.tail _ hx))]
theorem ZBz {c:UInt8} {r:List UInt8}:∀ {a:List UInt8},(∀ b∈a,b≠c)->cutL c (a++c::r)=a::cutL c r
 | [],_=>by rw [List.nil_append,cutL,if_pos rfl]
 | b::a,h=>by rw [List.cons_append,cutL,if_neg (h b (.head _)),ZBz (fun x hx=>h x (.tail _ hx))]
theorem ZHM {c:UInt8} {r:List UInt8}:∀ {a:List UInt8},(∀ b∈a,b≠c)->Lib.index (a++c::r) [c]=(a.length:Int)
 | [],_=>by rw [List.nil_append,Lib.index]; simp [List.isPrefixOf]
 | b::a,h=>by
  have hp:([c]:List UInt8).isPrefixOf (b::(a++c::r))=false:=by simp [List.isPrefixOf,Ne.symm (h b (.head _))]
  have hix:Lib.index (b::(a++c::r)) [c]=if Lib.index (a++c::r) [c] == -1 then -1 else Lib.index (a++c::r) [c]+1:=by rw [Lib.index,hp]; simp
  have ih:=ZHM (r:=r) (a:=a) (fun x hx=>h x (.tail _ hx))
  rw [List.cons_append,hix,ih,if_neg (by rw [beq_iff_eq]; omega),List.length_cons]
  omega
theorem ZFw (c:UInt8):∀ (k:Nat) (s:List UInt8),Lib.count s [c]=k->Lib.splitK [c] 0 k s=cutL c s
 | 0,s,h=>by
  rw [Lib.count_one] at h
  have h0:∀ b∈s,b≠c:=fun b hb e=>by subst e; exact List.count_eq_zero.1 h hb
  rw [ZCP h0]
  rfl
 | k+1,s,h=>by
  rw [Lib.count_one] at h
  have hm:c∈s:=List.count_pos_iff.1 (by omega)
  obtain ⟨a,r,rfl,ha⟩:=List.eq_append_cons_of_mem hm
  have ha:∀ b∈a,b≠c:=fun b hb e=>by subst e; exact ha hb
  have hix:=ZHM (r:=r) ha
  have hr:Lib.count r [c]=k:=by
   rw [Lib.count_one]
   rw [List.count_append,List.count_cons_self,List.count_eq_zero.2 (fun hc=>ha c hc rfl)] at h
   omega
  have ih:=ZFw c k r hr
  rw [ZBz ha,Lib.splitK,hix,if_neg (by rw [beq_iff_eq]; omega)]
  have e1:((a.length:Int)).toNat=a.length:=Int.toNat_natCast _
  rw [e1,Nat.add_zero,List.take_left]
  have e2:(a++c::r).drop (a.length+([c]:List UInt8).length)=r:=by
   rw [show a++c::r=(a++[c])++r by simp]
   rw [show a.length+([c]:List UInt8).length=(a++[c]).length by simp,List.drop_left]
  rw [e2,ih]
def linesB (s:ByteArray):List ByteArray:=(cutL 10 s.data.toList).map fun l=>⟨l.toArray⟩
theorem ZG1 (s:ByteArray):Lib.splitB ⟨#[10]⟩ 0 (Lib.countB s ⟨#[10]⟩) s=linesB s:=by
 have h1:=Lib.splitB_data ⟨#[10]⟩ 0 (Lib.countB s ⟨#[10]⟩) s
 have h2:Lib.splitK (⟨#[10]⟩:ByteArray).data.toList 0 (Lib.countB s ⟨#[10]⟩) s.data.toList=cutL 10 s.data.toList:=ZFw 10 _ s.data.toList rfl
 rw [h2] at h1
 unfold linesB
 rw [<- h1,List.map_map]
 conv=>lhs; rw [<- List.map_id (Lib.splitB ⟨#[10]⟩ 0 (Lib.countB s ⟨#[10]⟩) s)]
 refine List.map_congr_left fun x _=>?_
 rfl
theorem ZJV (c:UInt8):∀ l:List UInt8,(cutL c l).length<=l.length+1
 | []=>Nat.le_refl _
 | b::r=>by
  have:=ZJV c r
  rw [cutL]
  split
  ·simp only [List.length_cons]; omega
  ·split
   ·simp
   ·rename_i h t e
    rw [e] at this
    simp only [List.length_cons] at this ⊢
    omega
theorem ZHD (c:UInt8):∀ l:List UInt8,∀ x∈cutL c l,x.length<=l.length
 | [],x,hx=>by
  have:x=[]:=by simpa [cutL] using hx
  rw [this]; exact Nat.le_refl _
 | b::r,x,hx=>by
  have ih:=ZHD c r
  rw [cutL] at hx
  split at hx
  ·rcases List.mem_cons.1 hx with rfl | hx
   ·exact Nat.zero_le _
   ·have:=ih x hx; simp only [List.length_cons]; omega
  ·split at hx
   ·rename_i e
    have:x=[b]:=by simpa using hx
    rw [this]; simp
   ·rename_i h t e
    rcases List.mem_cons.1 hx with rfl | hx
    ·have:=ih h (by rw [e]; exact .head _)
     simp only [List.length_cons]; omega
    ·have:=ih x (by rw [e]; exact .tail _ hx)
     simp only [List.length_cons]; omega
theorem linesB_len (s:ByteArray):(linesB s).length<=s.size+1:=by
 have:=ZJV 10 s.data.toList
 rw [blen] at this
 unfold linesB
 rw [List.length_map]
 exact this
theorem linesB_size {s x:ByteArray} (h:x∈linesB s):x.size<=s.size:=by
 unfold linesB at h
 obtain ⟨l,hl,rfl⟩:=List.mem_map.1 h
 have:=ZHD 10 _ l hl
 rw [blen] at this
 show l.toArray.size<=_
 rw [List.size_toArray]
 exact this
theorem val10:∀ m:Nat,m<256->valI (m:Int)=true->m≠10:=by decide +kernel
theorem val_no10 {b:UInt8} (h:valI (b.toNat:Int)=true):b≠10:=fun e=>by
 subst e
 exact val10 10 (by decide) h rfl
theorem tokI_val:∀ m:Nat,m<256->tokI (m:Int)=true->valI (m:Int)=true:=by decide +kernel
theorem ZFz {b:UInt8}:∀ {l:List UInt8},b∈ZAU l->b=92 \/ b∈l
 | [],h=>by cases h
 | x::l,h=>by
  cases hq:qtI (x.toNat:Int) with
  | true =>
   rw [ZF6 l hq] at h
   rcases List.mem_cons.1 h with h | h
   ·exact .inl h
   ·rcases List.mem_cons.1 h with h | h
    ·exact .inr (by rw [h]; exact .head _)
    ·exact (ZFz h).imp id (fun h=>.tail _ h)
  | false =>
   rw [ZG6 l hq] at h
   rcases List.mem_cons.1 h with h | h
   ·exact .inr (by rw [h]; exact .head _)
   ·exact (ZFz h).imp id (fun h=>.tail _ h)
theorem prt_val {w:Wd} (hw:WdOk w):∀ b∈prtW w,valI (b.toNat:Int)=true:=by
 intro b hb
 obtain ⟨t,q⟩:=w
 cases q with
 | true =>
  have hw:allI valI t=true:=hw
  have hb:b∈34::(ZAU t.data.toList++[34]):=hb
  rcases List.mem_cons.1 hb with rfl | hb
  ·rfl
  ·rcases List.mem_append.1 hb with hb | hb
   ·rcases ZFz hb with rfl | hb
    ·rfl
    ·exact ZJK hw b hb
   ·simp only [List.mem_cons,List.mem_nil_iff,or_false] at hb
    subst hb; rfl
 | false =>
  have hw:tokB t=true:=hw
  exact tokI_val _ b.toNat_lt ((ZFp hw).2 b hb)
theorem lnL_val:∀ {l:List Wd},(∀ w∈l,WdOk w)->∀ b∈lnL (l.map fun x=>([32],x)),valI (b.toNat:Int)=true
 | [],_,b,hb=>by cases hb
 | w::l,h,b,hb=>by
  have hb:b∈[32]++(prtW w++lnL (l.map fun x=>([32],x))):=hb
  rcases List.mem_append.1 hb with hb | hb
  ·simp only [List.mem_cons,List.mem_nil_iff,or_false] at hb
   subst hb; rfl
  ·rcases List.mem_append.1 hb with hb | hb
   ·exact prt_val (h w (.head _)) b hb
   ·exact lnL_val (fun x hx=>h x (.tail _ hx)) b hb
theorem text_no10 {r:Rl} (h:ZAO r=0):∀ b∈(ZAx r).data.toList,b≠10:=by
 intro b hb
 refine val_no10 ?_
 have hok:=ZMz h
 rw [ZC7] at hb
 rcases List.mem_append.1 hb with hb | hb
 ·exact prt_val (hok _ (.head _)) b hb
 ·exact lnL_val (fun w hw=>hok w (.tail _ hw)) b hb
end
section
theorem split_p (s:ByteArray) (hs:s.size<=4000000000):ZAC Tryz.prog 38 [.s s,.s ⟨#[10]⟩] (.sl .no 1 (strL (linesB s))) []:=by
 refine ⟨rfl,Tryz.call38,fun J w vs hw hlen ha=>?_⟩
 have hv:vs=#[.string s,.string ⟨#[10]⟩]:=by
  apply Array.ext
  ·simpa using hlen.symm
  ·intro i h1 h2
   have h2':i<2:=by simpa using h2
   match i,h2' with
   | 0,_ =>
    have:=(ha 0 _ vs[0] rfl (by simp [h1])).of_lit
    rw [this]; rfl
   | 1,_ =>
    have:=(ha 1 _ vs[1] rfl (by simp [h1])).of_lit
    rw [this]; rfl
 subst hv
 obtain ⟨m,hm⟩:=(hw w (Below.refl _ _)).max
 refine (Tryz.strings_Split s ⟨#[10]⟩ m w (by omega) hm (by decide)).mono ?_
 rintro e w' ⟨rfl,rfl⟩
 have hl:(linesB s).length=Lib.countB s ⟨#[10]⟩+1:=by rw [<- ZG1]; exact Lib.splitB_all _ (by decide) 0 _ s rfl
 have hll:=linesB_len s
 have hmx:maxLen=9223372036854775807:=rfl
 rw [ZG1,<- hl]
 have hb:Below w.heap.size w (w.alloc (.cells ((linesB s).map Value.string).toArray 9)):=(Below.refl _ w).alloc (Nat.le_refl _) _
 refine ⟨_,fun _=>⟨0,0,0⟩,rfl,⟨⟨Nat.le_refl _,hw⟩,hb,fun p cs h=>by simp at h,fun p q h=>by simp at h,fun t e h=>by simp at h⟩,?_⟩
 have hrow:Row w.heap.size J ⟨[],[]⟩ (fun _=>0) (fun _=>⟨0,0,0⟩) (w.alloc (.cells ((linesB s).map Value.string).toArray 9)) 1 (strL (linesB s)) ((linesB s).map Value.string):=by
  refine ⟨by rw [List.length_map,ZAH,Nat.mul_one],fun k e he=>?_,fun k e j a he ha=>?_⟩
  ·have:=ZK7 (linesB s) e (List.mem_of_getElem? he)
   exact this
  ·unfold strL at he
   rw [List.getElem?_map,Option.map_eq_some_iff] at he
   obtain ⟨x,hx,rfl⟩:=he
   match j,ha with
   | 0,ha =>
    cases ha
    refine ⟨.string x,?_,.lit _⟩
    rw [Nat.mul_one,Nat.add_zero,List.getElem?_map,hx]
    rfl
   | j+1,ha=>simp at ha
 have hsl:=hrow.sl .no w.heap.size 0 (linesB s).length (by rw [ZAH]; exact Nat.le_refl _) (by omega) (fun j u hu=>⟨⟨fun h=>absurd h (Nat.lt_irrefl _),fun p hp=>by simp at hp,fun t e ht=>by simp at ht⟩,?_⟩) (fun h=>by cases h) (fun i e h=>by cases h)
 ·rw [ZAH] at hsl
  exact hsl
 ·rw [ZAc (heap_alloc_new w _),List.getElem?_toArray,Nat.zero_add,hu]
/-- pieces up to a place -/
def CutI (s:ByteArray) (acc:List ByteArray) (k:Nat):Prop:=acc.map (·.data.toList)++cutL 10 (s.data.toList.drop k)=cutL 10 s.data.toList
theorem CutI.hit {s:ByteArray} {acc:List ByteArray} {k i:Nat} (h:CutI s acc k) (hi:i<s.size) (hk:k<=i) (hno:∀ j (hj:j<s.size),k<=j->j<i->s[j]≠10) (h10:s[i]=10):CutI s (acc++[s.extract k i]) (i+1):=by
 have hl:=blen s
 have e:s.data.toList.drop k=(s.extract k i).data.toList++10::s.data.toList.drop (i+1):=by
  rw [exL,List.drop_take]
  have e1:s.data.toList.drop k=(s.data.toList.drop k).take (i - k)++(s.data.toList.drop k).drop (i - k):=(List.take_append_drop _ _).symm
  rw [List.drop_drop,show k+(i - k)=i by omega] at e1
  rw [List.drop_eq_getElem_cons (show i<s.data.toList.length by omega),bget s i hi,h10] at e1
  exact e1
 unfold CutI at h ⊢
 rw [e,ZBz (fun b hb=>?_)] at h
 ·rw [List.map_append,List.append_assoc]
  exact h
 ·obtain ⟨j,hj,rfl⟩:=List.getElem_of_mem hb
  have hj2:j<i - k:=by
   rw [exL,List.length_drop,List.length_take] at hj
   omega
  have hx:(s.extract k i).data.toList[j]=s[k+j]'(by omega):=by
   have:(s.extract k i).data.toList[j]? = s.data.toList[k+j]?:=by
    rw [exL,List.drop_take,List.getElem?_take,if_pos hj2,List.getElem?_drop]
   rw [List.getElem?_eq_getElem hj,List.getElem?_eq_getElem (show k+j<s.data.toList.length by omega),Option.some.injEq] at this
   exact this
  rw [hx]
  exact hno _ (by omega) (by omega) (by omega)
theorem CutI.fin {s:ByteArray} {acc:List ByteArray} {k:Nat} (h:CutI s acc k) (hk:k<=s.size) (hno:∀ j (hj:j<s.size),k<=j->j<s.size->s[j]≠10):acc++[s.extract k s.size]=linesB s:=by
 have hl:=blen s
 unfold CutI at h
 rw [ZCP (fun b hb=>?_)] at h
 ·unfold linesB
  rw [<- h,List.map_append,List.map_map]
  have e1:(fun l:List UInt8=>(⟨l.toArray⟩:ByteArray)) ∘ (fun x:ByteArray=>x.data.toList)=id:=rfl
  rw [e1,List.map_id]
  refine congrArg (acc++·) ?_
  show [s.extract k s.size]=[_]
  refine congrArg (fun x=>[x]) (inL ?_)
  rw [ZHB]
 ·obtain ⟨j,hj,rfl⟩:=List.getElem_of_mem hb
  rw [List.length_drop] at hj
  rw [List.getElem_drop]
  exact hno (k+j) (by omega) (by omega) (by omega)
section
attribute [local irreducible] ZAn
theorem parts8_p (s:ByteArray) (hs:s.size<=4000000000):ZAC Tryz.prog 44 [.s s,.int .u8 10] (.sl .no 1 (strL (linesB s))) []:=by
 have hmx:maxLen=9223372036854775807:=rfl
 refine ZAC.of rfl (ZAB.of_vc T_ok mixed Tryz.func44 rfl Tryz.call44 ?_)
 refine ZAF [5,6,7] (fun g vals st'=>∃ (i from':Nat) (acc:List ByteArray) (a:AV),i+g=s.size/\vals=[a,.i from',.i i]/\Acc 0 st'.tk 1 a (strL acc)/\from'<=i/\acc.length<=from'/\i<=s.size/\(∀ j (hj:j<s.size),from'<=j->j<i->s[j]≠10)/\CutI s acc from') s.size rfl ⟨0,0,[],.nilS,by omega,rfl,.nil,Nat.le_refl _,Nat.le_refl _,Nat.zero_le _,fun j _ _ h=>by omega,rfl⟩ ?_
 rintro g vals st' ⟨i,from',acc,a,hi,rfl,hA,hf,hal,his,hno,hC⟩
 rcases hA.form with rfl | ⟨t,e,rfl⟩
 iterate 2
  ·skip
   refine ZAA (fun hd=>?_) (fun hd=>?_)
   ·have hd:=of_decide_eq_true hd
    have i1:i<s.size:=by omega
    refine ⟨i,i1,rfl,?_⟩
    refine ZAA (fun hb=>?_) (fun hb=>?_)
    ·have hb:s[i]=10:=UInt8.toNat_inj.1 (by have hb:(s[i].toNat:Int)=10:=beq_iff_eq.1 hb; show s[i].toNat=10; omega)
     refine ⟨i,rfl,from',rfl,hf,by omega,?_⟩
     refine Acc.app (n:=0) (i:=ti9) hA (Nat.zero_le _) (List.cons_ne_nil _ _) ?_ ?_ (fun t1 e1 tk1 q0 q1 q2 q3=>?_)
     ·show ((strL acc).length+1)*16<=_; rw [ZAH]; omega
     ·show (strL acc).length+1<=_; rw [ZAH]; omega
     intro c hc
     rw [IntWalk.i64_in _ (by omega)] at hc
     obtain rfl:c=((i+1:Nat):Int):=by omega
     intro c2 hc2
     rw [IntWalk.i64_in _ (by omega)] at hc2
     obtain rfl:c2=((i+1:Nat):Int):=by omega
     refine ⟨g - 1,by omega,i+1,i+1,acc++[s.extract from' i],_,by omega,rfl,?_,Nat.le_refl _,by rw [List.length_append]; show _+1<=_; omega,by omega,fun j hj h1 h2=>by omega,hC.hit i1 hf hno hb⟩
     rw [ZAh]
     exact .own _ _ _ q0 q1
    ·have hb:s[i]≠10:=fun e=>by rw [e] at hb; exact absurd rfl (beq_eq_false_iff_ne.1 hb)
     intro c2 hc2
     rw [IntWalk.i64_in _ (by omega)] at hc2
     obtain rfl:c2=((i+1:Nat):Int):=by omega
     refine ⟨g - 1,by omega,i+1,from',acc,_,by omega,rfl,hA,by omega,hal,by omega,fun j hj h1 h2=>?_,hC⟩
     by_cases e:j=i
     ·subst e; exact hb
     ·exact hno j hj h1 (by omega)
   ·have hd:=of_decide_eq_false hd
    obtain rfl:i=s.size:=by omega
    refine ⟨from',rfl,hf,Nat.le_refl _,?_⟩
    refine Acc.app (n:=0) (i:=ti9) hA (Nat.zero_le _) (List.cons_ne_nil _ _) ?_ ?_ (fun t1 e1 tk1 q0 q1 q2 q3=>?_)
    ·show ((strL acc).length+1)*16<=_; rw [ZAH]; omega
    ·show (strL acc).length+1<=_; rw [ZAH]; omega
    have hfin:=hC.fin hf hno
    show AV.sl .no 1 (strL acc++[[.s (s.extract from' s.size)]])=AV.sl .no 1 (strL (linesB s))
    rw [<- hfin,ZAh]
    rfl
end
theorem Acc.argV {n:Nat} {tk:List Nat} {sz:Nat} {a:AV} {es:List (List AV)} (h:Acc n tk sz a es) {es':List (List AV)} (he:es=es'):argV a (.sl .no sz es'):=by
 subst he
 cases h with
 | nil=>exact .inr (.inr ⟨rfl,sz,rfl⟩)
 | own t e es hn ht=>exact .inr (.inl rfl)
theorem Acc.resC {n:Nat} {tk:List Nat} {sz:Nat} {a:AV} {es:List (List AV)} {st:St} (h:Acc n tk sz a es) {es':List (List AV)} (he:es=es'):resC st a (.sl .no sz es'):=by
 subst he
 cases h with
 | nil=>exact .inr (.inl ⟨rfl,sz,rfl⟩)
 | own t e es hn ht=>exact .inl ⟨rfl,rfl⟩
section
attribute [local irreducible] ZAn
end
theorem eq_upto {l m:List Rl} (hl:l.length=m.length) (h:∀ j (h1:j<l.length) (h2:j<m.length),l[j]=m[j]):l=m:=List.ext_getElem hl h
theorem sameAll_p (l m:List Rl) (hl:l.length<=1000000) (hm:m.length<=1000000) (h1:∀ r∈l,r.Ok) (h2:∀ r∈m,r.Ok):ZAC Tryz.prog 40 [.sl .no 8 (rlL l),.sl .no 8 (rlL m)] (.b (decide (l=m))) []:=by
 have el:=ZBk l
 have em:=ZBk m
 refine ZAC.of rfl (ZAB.of_vc T_ok mixed Tryz.func40 rfl Tryz.call40 ?_)
 refine ZAA (fun h0=>?_) (fun h0=>?_)
 ·have h0:l.length≠m.length:=by
   have:((rlL l).length:Int)≠(rlL m).length:=bne_iff_ne.1 h0
   omega
  exact retb (decide_eq_false (fun e=>h0 (by rw [e]))).symm
 have h0:l.length=m.length:=by
  have:((rlL l).length:Int)=(rlL m).length:=bne_eq_false_iff_eq.1 h0
  omega
 refine ZAF [5] (fun g vals st'=>∃ k:Nat,k+g=l.length/\vals=[.i k]/\∀ j (h1:j<l.length) (h2:j<m.length),j<k->l[j]=m[j]) l.length rfl ⟨0,by omega,rfl,fun j _ _ h=>by omega⟩ ?_
 rintro g vals st' ⟨k,hk,rfl,ha⟩
 refine ZAA (fun hd=>?_) (fun hd=>?_)
 ·have hd:=of_decide_eq_true hd
  have k1:k<l.length:=by omega
  have k2:k<m.length:=by omega
  have q:=rsame32_p l[k] m[k] (h1 _ (List.getElem_mem k1)) (h2 _ (List.getElem_mem k2))
  refine .e (by kernel_rfl) ?_
  refine ⟨k,_,rfl,ZIF k1,?_⟩
  refine ⟨k,_,rfl,ZIF k2,?_⟩
  refine .p rfl q ?_
  refine ZAA (fun h3=>?_) (fun h3=>?_)
  ·have h3:l[k]≠m[k]:=by simpa using h3
   exact retb (decide_eq_false (fun e=>h3 (by subst e; rfl))).symm
  ·have h3:l[k]=m[k]:=by simpa using h3
   intro c hc
   rw [IntWalk.i64_in _ (by omega)] at hc
   obtain rfl:c=((k+1:Nat):Int):=by omega
   refine ⟨g - 1,by omega,k+1,by omega,rfl,fun j j1 j2 hjk=>?_⟩
   by_cases e:j=k
   ·subst e; exact h3
   ·exact ha j j1 j2 (by omega)
 ·have hd:=of_decide_eq_false hd
  exact retb (decide_eq_true (eq_upto h0 (fun j j1 j2=>ha j j1 j2 (by omega)))).symm
theorem eqFunc_p (l m:List Rl) (hl:l.length<=1000000) (hm:m.length<=1000000) (h1:∀ r∈l,r.Ok) (h2:∀ r∈m,r.Ok):ZAC Tryz.prog 77 [.sl .no 8 (rlL l),.sl .no 8 (rlL m),.lit (.func (.func 78) #[] #[])] (.b (decide (l=m))) []:=by
 have el:=ZBk l
 have em:=ZBk m
 refine ZAC.of rfl (ZAB.of_vc T_ok mixed Tryz.func77 rfl Tryz.call77 ?_)
 refine ZAA (fun h0=>?_) (fun h0=>?_)
 ·have h0:l.length≠m.length:=by
   have:((rlL l).length:Int)≠(rlL m).length:=bne_iff_ne.1 h0
   omega
  exact retb (decide_eq_false (fun e=>h0 (by rw [e]))).symm
 have h0:l.length=m.length:=by
  have:((rlL l).length:Int)=(rlL m).length:=bne_eq_false_iff_eq.1 h0
  omega
 refine ZAF [17] (fun g vals st'=>∃ k:Nat,k+g=l.length/\vals=[.i k]/\∀ j (h1:j<l.length) (h2:j<m.length),j<k->l[j]=m[j]) l.length rfl ⟨0,by omega,rfl,fun j _ _ h=>by omega⟩ ?_
 rintro g vals st' ⟨k,hk,rfl,ha⟩
 refine ZAA (fun hd=>?_) (fun hd=>?_)
 ·have hd:=of_decide_eq_true hd
  have k1:k<l.length:=by omega
  have k2:k<m.length:=by omega
  have q:=rsame_p l[k] m[k] (h1 _ (List.getElem_mem k1)) (h2 _ (List.getElem_mem k2))
  refine ⟨k,_,rfl,ZIF k1,?_⟩
  refine ⟨_,ZAK _ _,?_⟩
  refine ⟨k,_,rfl,ZIF k2,?_⟩
  refine ⟨_,ZAK _ _,?_⟩
  refine ⟨_,ZBe (by simp) (ap (ZAL _ _ _)),?_⟩
  refine ⟨_,ZAL _ _ _,?_⟩
  refine .p rfl q ?_
  refine ZAA (fun h3=>?_) (fun h3=>?_)
  ·have h3:l[k]≠m[k]:=by simpa using h3
   exact retb (decide_eq_false (fun e=>h3 (by subst e; rfl))).symm
  ·have h3:l[k]=m[k]:=by simpa using h3
   intro c hc
   rw [IntWalk.i64_in _ (by omega)] at hc
   obtain rfl:c=((k+1:Nat):Int):=by omega
   refine ⟨g - 1,by omega,k+1,by omega,rfl,fun j j1 j2 hjk=>?_⟩
   by_cases e:j=k
   ·subst e; exact h3
   ·exact ha j j1 j2 (by omega)
 ·have hd:=of_decide_eq_false hd
  exact retb (decide_eq_true (eq_upto h0 (fun j j1 j2=>ha j j1 j2 (by omega)))).symm
theorem csame_p (l m:List Rl) (hl:l.length<=1000000) (hm:m.length<=1000000) (h1:∀ r∈l,r.Ok) (h2:∀ r∈m,r.Ok):ZAC Tryz.prog 42 [.sl .no 8 (rlL l),.sl .no 8 (rlL m)] (.b (decide (l=m))) []:=by
 have h:=eqFunc_p l m hl hm h1 h2
 refine ZAC.of rfl (ZAB.of_vc T_ok mixed Tryz.func42 rfl Tryz.call42 ?_)
 refine .p rfl h ?_
 rfl
section
variable {st:St}
def tkt:AV->Option Nat
 | .sl (.own t _) _ _=>some t
 | _=>none
theorem Acc.appS {i:TI} {a:AV} {l:List UInt8} {s:ByteArray} {K:AV->St->Prop} (hi:i.size=1) (hbt:i.bytes=1) (h:Acc 0 st.tk 1 a (u8L l)) (hb:l.length+s.size<=140737488355328)
  (hK0:s.size=0->tkt a=none->K a st)
  (hK:∀ t e tk',tk'[t]? = some e->st.tk.length<=tk'.length->(tkt a=some t \/ (tkt a=none/\t=st.tk.length))->(∀ q,q<st.tk.length->q≠t->tk'[q]? = st.tk[q]?)->K (.sl (.own t e) 1 (u8L (l++s.data.toList))) ⟨st.heap,tk'⟩):ZAn i a (.s s) st K:=by
 have hmx:maxLen=9223372036854775807:=rfl
 have e1:u8L (l++s.data.toList)=u8L l++u8L s.data.toList:=by simp [u8L]
 have hsl:=blen s
 have hul:=ZAE s.data.toList
 have hll:=ZAE l
 rw [e1] at hK
 unfold ZAn srcA
 rw [hi,hbt]
 simp only [decide_true]
 have hq:(s.data.toList.map fun b=>[AV.u8 b])=u8L s.data.toList:=rfl
 rw [hq]
 generalize u8L s.data.toList=ys at *
 generalize u8L l=es at *
 cases h with
 | nil =>
  refine ⟨fun e=>hK0 (by rw [e] at hul; simp at hul; omega) rfl,fun hy=>⟨by omega,by omega,.inl ?_⟩⟩
  refine hK _ _ _ (by simp) (by simp) (.inr ⟨rfl,rfl⟩) (fun t ht _=>?_)
  rw [List.getElem?_append_left (by omega)]
 | own t e es h1 h2 =>
  have hlt:=(List.getElem?_eq_some_iff.1 h2).1
  refine ⟨h2,by omega,by omega,hK _ _ _ (by rw [List.getElem?_set_self hlt]) (by simp) (.inl rfl) (fun t' _ ht'=>?_)⟩
  rw [List.getElem?_set_ne (Ne.symm ht')]
end
def tBy (l:List UInt8):ByteArray:=⟨l.toArray⟩
theorem ZJU (l:List UInt8):(tBy l).data.toList=l:=by
 unfold tBy
 show l.toArray.toList=l
 rw [List.toList_toArray]
theorem ZMv (l:List UInt8):(tBy l).size=l.length:=by rw [<- blen,ZJU]
def catL (l:List ByteArray):List UInt8:=l.flatMap fun x=>x.data.toList
theorem ZKa {l:List ByteArray} {k:Nat} (h:k<l.length):catL (l.take (k+1))=catL (l.take k)++l[k].data.toList:=by
 unfold catL
 rw [List.take_succ_eq_append_getElem h,List.flatMap_append]
 simp
theorem ZIW (l:List ByteArray) (k:Nat):(catL (l.take k)).length<=(catL l).length:=by
 have h:catL l=catL (l.take k)++catL (l.drop k):=by
  unfold catL
  rw [<- List.flatMap_append,List.take_append_drop]
 rw [h,List.length_append]
 omega
section
variable {st:St} {R:AV->St->Prop} {p:Nat} {a:AV} {Lb:List UInt8} {m:Nat}
theorem ZEw {n:Nat} {tk:List Nat} (hA:Acc n tk 1 .nilS (u8L Lb)):Lb=[]:=by
 have hl:=ZAE Lb
 generalize hes:u8L Lb=es at hA hl
 cases hA
 exact List.eq_nil_of_length_eq_zero hl.symm
theorem qleft_a (hp:st.heap[p]? = some [a,.i m]) (hA:Acc 0 st.tk 1 a (u8L Lb)) (hz:Lb.length<=m) (hm:m<=1099511627776) (h:R (.i ((m - Lb.length:Nat):Int)) st):ZAB Tryz.prog 55 [.ptr p 0] st R:=by
 have hl:=ZAE Lb
 rcases hA.form with rfl | ⟨t,e,rfl⟩
 ·have h0:=ZEw hA
  subst h0
  refine ZAB.of_vc T_ok mixed Tryz.func55 rfl Tryz.call55 ?_
  refine .e (by kernel_rfl) ?_
  refine ⟨_,hp,?_⟩
  refine ⟨_,hp,?_⟩
  intro c hc
  rw [IntWalk.i64_in _ (by omega)] at hc
  obtain rfl:c=((m - 0:Nat):Int):=by omega
  exact h
 ·refine ZAB.of_vc T_ok mixed Tryz.func55 rfl Tryz.call55 ?_
  refine .e (by kernel_rfl) ?_
  refine ⟨_,hp,?_⟩
  refine ⟨_,hp,?_⟩
  intro c hc
  rw [IntWalk.i64_in _ (by omega)] at hc
  obtain rfl:c=((m - Lb.length:Nat):Int):=by omega
  exact h
theorem qtext_a (hp:st.heap[p]? = some [a,.i m]) (hA:Acc 0 st.tk 1 a (u8L Lb)) (h:R (.s (tBy Lb)) st):ZAB Tryz.prog 61 [.ptr p 0] st R:=by
 rcases hA.form with rfl | ⟨t,e,rfl⟩
 ·have h0:=ZEw hA
  subst h0
  refine ZAB.of_vc T_ok mixed Tryz.func61 rfl Tryz.call61 ?_
  refine ⟨_,hp,?_⟩
  exact h
 ·refine ZAB.of_vc T_ok mixed Tryz.func61 rfl Tryz.call61 ?_
  refine ⟨_,hp,?_⟩
  refine ⟨tBy Lb,?_,?_⟩
  ·rw [ZJU]; rfl
  ·exact h
theorem qtake_a (hp:st.heap[p]? = some [a,.i m]) (hA:Acc 0 st.tk 1 a (u8L Lb)) (h:R (.s (tBy Lb)) ⟨st.heap.set p [.nilS,.i m],st.tk⟩):ZAB Tryz.prog 34 [.ptr p 0] st R:=by
 refine ZAB.of_vc T_ok mixed Tryz.func34 rfl Tryz.call34 ?_
 refine .s (qtext_a hp hA ?_)
 refine ⟨_,hp,?_⟩
 rcases hA.form with rfl | ⟨t,e,rfl⟩
 ·exact h
 ·exact h
attribute [local irreducible] ZAn
theorem ZEA {tg:Tk} (l:List ByteArray) (hl:l.length<=1000000) (hp:st.heap[p]? = some [a,.i m]) (hA:Acc 0 st.tk 1 a (u8L Lb)) (hz:Lb.length+(catL l).length<=m) (hm:m<=1099511627776)
  (h:∀ a' st',st'.heap[p]? = some [a',.i m]->Acc 0 st'.tk 1 a' (u8L (Lb++catL l))->Mv 0 (·=p) st st'->R (.i 0) st'):ZAB Tryz.prog 29 [.ptr p 0,.sl tg 1 (strL l)] st R:=by
 have el:=ZAH l
 refine ZAB.of_vc T_ok mixed Tryz.func29 rfl Tryz.call29 ?_
 refine .s (qleft_a hp hA (by omega) hm ?_)
 refine ZAF [5,16] (fun g vals st'=>∃ k:Nat,k+g=l.length/\vals=[.i ((m - Lb.length - (catL (l.take k)).length:Nat):Int),.i k]/\st=st') l.length rfl ⟨0,by omega,rfl,rfl⟩ ?_
 rintro g vals st1 ⟨k,hk,rfl,rfl⟩
 have hcl:=ZIW l k
 refine ZAA (fun hd=>?_) (fun hd=>?_)
 ·have hd:=of_decide_eq_true hd
  have k1:k<l.length:=by omega
  have hct:=congrArg List.length (ZKa k1)
  rw [List.length_append,blen] at hct
  have hc2:=ZIW l (k+1)
  refine ⟨k,_,rfl,ZAS k1,?_⟩
  refine ZAA (fun h2=>?_) (fun h2=>?_)
  ·have h2:=of_decide_eq_true h2
   omega
  ·intro c hc
   rw [IntWalk.i64_in _ (by omega)] at hc
   obtain rfl:c=((m - Lb.length - (catL (l.take (k+1))).length:Nat):Int):=by omega
   intro c hc
   rw [IntWalk.i64_in _ (by omega)] at hc
   obtain rfl:c=((k+1:Nat):Int):=by omega
   exact ⟨g - 1,by omega,k+1,by omega,rfl,rfl⟩
 ·have hd:=of_decide_eq_false hd
  refine ZAF [31] (fun g vals st'=>∃ (k:Nat) (a2:AV),k+g=l.length/\vals=[.i k]/\st'.heap[p]? = some [a2,.i m]/\Acc 0 st'.tk 1 a2 (u8L (Lb++catL (l.take k)))/\Mv 0 (·=p) st st') l.length rfl ⟨0,a,by omega,rfl,hp,by rw [List.take_zero]; show Acc _ _ _ _ (u8L (Lb++[])); rw [List.append_nil]; exact hA,.refl (Nat.zero_le _)⟩ ?_
  rintro g vals st2 ⟨k,a2,hk,rfl,hp2,hA2,m2⟩
  have hcl:=ZIW l k
  rcases hA2.form with rfl | ⟨t,e,rfl⟩
  iterate 2
   ·skip
    refine ZAA (fun hd=>?_) (fun hd=>?_)
    ·have hd:=of_decide_eq_true hd
     have k1:k<l.length:=by omega
     have hct:=ZKa k1
     have hlb:=blen l[k]
     have hc2:=ZIW l (k+1)
     rw [hct,List.length_append] at hc2
     refine ⟨k,_,rfl,ZAS k1,?_⟩
     refine ⟨_,hp2,?_⟩
     refine Acc.appS rfl rfl hA2 (by rw [List.length_append]; omega) (fun hz ht=>?_) (fun t9 e9 tk9 q0 q1 q2 q3=>?_)
     ·refine ⟨_,hp2,?_⟩
      intro c hc
      rw [IntWalk.i64_in _ (by omega)] at hc
      obtain rfl:c=((k+1:Nat):Int):=by omega
      refine ⟨g - 1,by omega,k+1,_,by omega,rfl,ZAY hp2,?_,m2.set (fun _=>rfl) _⟩
      have h0:l[k].data.toList=[]:=List.eq_nil_of_length_eq_zero (by omega)
      rw [hct,h0,List.append_nil]
      exact hA2
     ·refine ⟨_,hp2,?_⟩
      intro c hc
      rw [IntWalk.i64_in _ (by omega)] at hc
      obtain rfl:c=((k+1:Nat):Int):=by omega
      refine ⟨g - 1,by omega,k+1,_,by omega,rfl,ZAY hp2,?_,(m2.tks (Nat.zero_le _) (fun t ht=>by omega)).set (fun _=>rfl) _⟩
      rw [hct,<- List.append_assoc]
      exact .own _ _ _ (Nat.zero_le _) q0
    ·have hd:=of_decide_eq_false hd
     obtain rfl:k=l.length:=by omega
     simp only [List.take_length] at hA2 hp2
     exact h _ _ hp2 hA2 m2
end
end
section
def plB (n:Int):Bool:=decide (32<=n) && decide (n<=126) && n != 34 && n != 37
def gdig (k:Nat):UInt8:=UInt8.ofNat (if k<10 then 48+k else 55+k)
def gval (b:UInt8):Option Nat:=if 48<=b.toNat/\b.toNat<=57 then some (b.toNat - 48) else if 65<=b.toNat/\b.toNat<=70 then some (b.toNat - 55) else none
theorem ZA4 {b:UInt8} {k:Nat} (h:gval b=some k):k<16:=by
 unfold gval at h
 split at h
 ·cases h; omega
 ·split at h
  ·cases h; omega
  ·cases h
theorem ZGZ:∀ k,k<16->gval (gdig k)=some k:=by decide +kernel
theorem ZIZ {b:UInt8} {k:Nat} (h:gval b=some k):gdig k=b:=by
 have hl:=ZA4 h
 unfold gval at h
 apply UInt8.toNat_inj.1
 unfold gdig
 split at h
 ·cases h
  rw [if_pos (by omega),UInt8.toNat_ofNat_of_lt' (by show _<256; omega)]
  omega
 ·split at h
  ·cases h
   rw [if_neg (by omega),UInt8.toNat_ofNat_of_lt' (by show _<256; omega)]
   omega
  ·cases h
theorem gdig_pl:∀ k,k<16->(gdig k).toNat≠34/\(gdig k).toNat≠10/\(gdig k).toNat≠32:=by decide +kernel
def encU (b:UInt8):List UInt8:=if plB (b.toNat:Int)=true then [b] else [37,gdig (b.toNat / 16),gdig (b.toNat % 16)]
def encL (l:List UInt8):List UInt8:=l.flatMap encU
def ZBR (l:List UInt8):List UInt8:=34::(encL l++[34])
def ZAo (s:ByteArray):ByteArray:=⟨(ZBR s.data.toList).toArray⟩
theorem ZBT (s:ByteArray):(ZAo s).data.toList=ZBR s.data.toList:=by
 unfold ZAo
 show (List.toArray _).toList=_
 rw [List.toList_toArray]
theorem ZCx {b:UInt8} (h:plB (b.toNat:Int)=true):encU b=[b]:=by unfold encU; rw [if_pos h]
theorem ZB0 {b:UInt8} (h:plB (b.toNat:Int)=false):encU b=[37,gdig (b.toNat / 16),gdig (b.toNat % 16)]:=by unfold encU; rw [if_neg (by rw [h]; decide)]
theorem ZDB (b:UInt8) (l:List UInt8):encL (b::l)=encU b++encL l:=rfl
theorem ZGf (a b:List UInt8):encL (a++b)=encL a++encL b:=by simp [encL]
theorem ZMO (b:UInt8):(encU b).length<=3/\1<=(encU b).length:=by
 unfold encU
 split <;> simp
theorem ZFI:∀ l:List UInt8,(encL l).length<=3*l.length/\l.length<=(encL l).length
 | []=>⟨Nat.le_refl _,Nat.le_refl _⟩
 | b::l=>by
  have:=ZFI l
  have h:=ZMO b
  rw [ZDB,List.length_append,List.length_cons]
  omega
theorem ZAb (s:ByteArray):(ZAo s).size<=3*s.size+2/\2<=(ZAo s).size:=by
 have:=(ZFI s.data.toList).1
 rw [blen] at this
 rw [<- blen,ZBT]
 unfold ZBR
 simp only [List.length_cons,List.length_append,List.length_nil]
 omega
theorem pl_ne {b:UInt8} (h:plB (b.toNat:Int)=true):b.toNat≠34/\b.toNat≠37/\b.toNat≠10:=by
 unfold plB at h
 simp only [Bool.and_eq_true,decide_eq_true_eq,bne_iff_ne] at h
 omega
/-- no quote, no line's end stands within -/
theorem encU_no34 (b:UInt8):∀ x∈encU b,x≠34/\x≠10:=by
 intro x hx
 have key:∀ y:UInt8,y.toNat≠34->y.toNat≠10->y≠34/\y≠10:=fun y h1 h2=>⟨fun e=>h1 (by rw [e]; rfl),fun e=>h2 (by rw [e]; rfl)⟩
 cases hp:plB (b.toNat:Int) with
 | true =>
  rw [ZCx hp] at hx
  simp only [List.mem_cons,List.mem_nil_iff,or_false] at hx
  subst hx
  exact key _ (pl_ne hp).1 (pl_ne hp).2.2
 | false =>
  rw [ZB0 hp] at hx
  simp only [List.mem_cons,List.mem_nil_iff,or_false] at hx
  have hb:=b.toNat_lt
  rcases hx with rfl | rfl | rfl
  ·exact key _ (by decide) (by decide)
  ·have:=gdig_pl (b.toNat / 16) (by omega)
   exact key _ this.1 this.2.1
  ·have:=gdig_pl (b.toNat % 16) (by omega)
   exact key _ this.1 this.2.1
theorem ZJ5 (l:List UInt8):∀ x∈encL l,x≠34/\x≠10:=fun x hx=>by
 unfold encL at hx
 obtain ⟨b,_,hb⟩:=List.mem_flatMap.1 hx
 exact encU_no34 b x hb
theorem ZNE (l:List UInt8):∀ x∈ZBR l,x≠10:=fun x hx=>by
 unfold ZBR at hx
 rcases List.mem_cons.1 hx with rfl | hx
 ·decide
 ·rcases List.mem_append.1 hx with hx | hx
  ·exact (ZJ5 l x hx).2
  ·simp only [List.mem_cons,List.mem_nil_iff,or_false] at hx
   subst hx; decide
/-- what a coded text stands for, from behind its first quote on; and where it ends -/
def decS (s:ByteArray) (k:Nat) (acc:List UInt8):Option (List UInt8 × Nat) :=
 if h:k<s.size then
  (if atB s k 34=true then some (acc,k+1)
  else if plB (s[k].toNat:Int)=true then decS s (k+1) (acc++[s[k]])
  else if atB s k 37=false then none
  else match (s.data.toList[k+1]?).bind gval,(s.data.toList[k+2]?).bind gval with
   | some i,some j=>if plB ((i*16+j:Nat):Int)=true then none else decS s (k+3) (acc++[UInt8.ofNat (i*16+j)])
   | _,_=>none)
 else none
termination_by s.size - k
section
variable {s:ByteArray} {k:Nat} {acc:List UInt8}
theorem ZMu (h:¬ k<s.size):decS s k acc=none:=by rw [decS,dif_neg h]
theorem ZKn (h:atB s k 34=true):decS s k acc=some (acc,k+1):=by rw [decS,dif_pos (ZBG h).1,if_pos h]
theorem ZLj (hk:k<s.size) (h:plB (s[k].toNat:Int)=true):decS s k acc=decS s (k+1) (acc++[s[k]]):=by
 have h34:¬ atB s k 34=true:=fun e=>by
  obtain ⟨_,e⟩:=ZBG e
  exact (pl_ne h).1 (by omega)
 rw [decS,dif_pos hk,if_neg h34,if_pos h]
theorem ZGq (h1:atB s k 34=false) (h2:∀ hk:k<s.size,plB (s[k].toNat:Int)=false) (h3:atB s k 37=false):decS s k acc=none:=by
 by_cases hk:k<s.size
 ·have e1:¬ atB s k 34=true:=by rw [h1]; decide
  have e2:¬ plB (s[k].toNat:Int)=true:=by rw [h2 hk]; decide
  rw [decS,dif_pos hk,if_neg e1,if_neg e2,if_pos h3]
 ·exact ZMu hk
theorem ZHe (h3:atB s k 37=true):decS s k acc=match (s.data.toList[k+1]?).bind gval,(s.data.toList[k+2]?).bind gval with
   | some i,some j=>if plB ((i*16+j:Nat):Int)=true then none else decS s (k+3) (acc++[UInt8.ofNat (i*16+j)])
   | _,_=>none:=by
 obtain ⟨hk,e⟩:=ZBG h3
 have h34:¬ atB s k 34=true:=fun e2=>by
  obtain ⟨_,e2⟩:=ZBG e2
  omega
 have hpl:¬ plB (s[k].toNat:Int)=true:=by rw [e]; decide
 rw [decS,dif_pos hk,if_neg h34,if_neg hpl,if_neg (by rw [h3]; decide)]
end
theorem ZMn {s:ByteArray}:∀ (d k:Nat) (acc:List UInt8),(∀ i (hi:i<s.size),k<=i->i<k+d->plB (s[i].toNat:Int)=true)->k+d<=s.size->decS s k acc=decS s (k+d) (acc++(s.extract k (k+d)).data.toList)
 | 0,k,acc,_,_=>by
  have:(s.extract k (k+0)).data.toList=[]:=by rw [exL,List.drop_eq_nil_iff,List.length_take]; omega
  rw [this,List.append_nil,Nat.add_zero]
 | d+1,k,acc,h,hk=>by
  have k1:k<s.size:=by omega
  rw [ZLj k1 (h k k1 (Nat.le_refl _) (by omega)),ZMn d (k+1) _ (fun i hi h1 h2=>h i hi (by omega) (by omega)) (by omega),show k+1+d=k+(d+1) by omega]
  refine congrArg (decS s _) ?_
  rw [List.append_assoc]
  refine congrArg (acc++·) ?_
  rw [exL,exL,List.drop_take,List.drop_take,show k+(d+1) - k=d+1 by omega,show k+(d+1) - (k+1)=d by omega]
  have hl:=blen s
  rw [List.drop_eq_getElem_cons (show k<s.data.toList.length by omega),List.take_succ_cons,bget s k k1]
  rfl
/-- what is coded is decoded -/
theorem ZIv {s:ByteArray} (post:List UInt8):∀ (v:List UInt8) (k:Nat) (acc:List UInt8),s.data.toList.drop k=encL v++34::post->decS s k acc=some (acc++v,k+(encL v).length+1)
 | [],k,acc,h=>by
  have h:s.data.toList.drop k=34::post:=h
  have h1:=(ZBY h).1
  rw [ZKn (by unfold atB; rw [h1]; rfl),List.append_nil]
  rfl
 | b::v,k,acc,h=>by
  rw [ZDB] at h ⊢
  have hb:=b.toNat_lt
  cases hp:plB (b.toNat:Int) with
  | true =>
   rw [ZCx hp] at h ⊢
   have h:s.data.toList.drop k=b::(encL v++34::post):=h
   obtain ⟨h1,h2⟩:=ZBY h
   have k1:=ZIn h
   have hg:s[k]=b:=by
    rw [ZDp k1] at h1
    exact Option.some.inj h1
   rw [ZLj k1 (by rw [hg]; exact hp),ZIv post v (k+1) _ h2,hg]
   simp only [List.append_assoc,List.cons_append,List.nil_append,List.length_cons,Option.some.injEq,Prod.mk.injEq,true_and]
   omega
  | false =>
   rw [ZB0 hp] at h ⊢
   have h:s.data.toList.drop k=37::gdig (b.toNat / 16)::gdig (b.toNat % 16)::(encL v++34::post):=h
   obtain ⟨h1,h2⟩:=ZBY h
   obtain ⟨h3,h4⟩:=ZBY h2
   obtain ⟨h5,h6⟩:=ZBY h4
   have ha:atB s k 37=true:=by unfold atB; rw [h1]; rfl
   have e:b.toNat / 16*16+b.toNat % 16=b.toNat:=by omega
   rw [ZHe ha,h3,show k+2=k+1+1 from rfl,h5]
   simp only [Option.bind_some,ZGZ _ (show b.toNat / 16<16 by omega),ZGZ _ (show b.toNat % 16<16 by omega),e]
   rw [if_neg (by rw [hp]; decide),show k+3=k+1+1+1 from rfl,ZIv post v _ _ h6,UInt8.ofNat_toNat]
   simp only [List.append_assoc,List.cons_append,List.nil_append,List.length_cons,Option.some.injEq,Prod.mk.injEq,true_and]
   omega
/-- what is decoded was coded -/
theorem decS_back {s:ByteArray}:∀ (z k:Nat) (acc w:List UInt8) (j:Nat),s.size - k=z->decS s k acc=some (w,j)->∃ v,w=acc++v/\s.data.toList.drop k=encL v++34::s.data.toList.drop j/\k<j/\j<=s.size:=by
 intro z
 induction z using Nat.strongRecOn with
 | _ z ih =>
  intro k acc w j hz h
  have hbl:=blen s
  by_cases hk:k<s.size
  ·have hd:s.data.toList.drop k=s[k]::s.data.toList.drop (k+1):=List.drop_eq_getElem_cons (show k<s.data.toList.length by omega)
   cases h34:atB s k 34 with
   | true =>
    rw [ZKn h34] at h
    cases h
    have:s[k]=34:=UInt8.toNat_inj.1 (by obtain ⟨_,e⟩:=ZBG h34; show s[k].toNat=34; omega)
    exact ⟨[],by simp,by rw [hd,this]; rfl,by omega,by omega⟩
   | false =>
    cases hp:plB (s[k].toNat:Int) with
    | true =>
     rw [ZLj hk hp] at h
     obtain ⟨v,e1,e2,e3,e4⟩:=ih (s.size - (k+1)) (by omega) (k+1) _ w j rfl h
     refine ⟨s[k]::v,by rw [e1]; simp,?_,by omega,e4⟩
     rw [hd,e2,ZDB,ZCx hp]
     rfl
    | false =>
     cases h37:atB s k 37 with
     | false=>rw [ZGq h34 (fun _=>hp) h37] at h; cases h
     | true =>
      rw [ZHe h37] at h
      cases hx:s.data.toList[k+1]? with
      | none=>rw [hx] at h; cases h
      | some x =>
       cases hy:s.data.toList[k+2]? with
       | none =>
        rw [hx,hy] at h
        simp only [Option.bind_some,Option.bind_none] at h
        split at h
        ·rename_i h9; cases h9
        ·cases h
       | some y =>
        rw [hx,hy] at h
        simp only [Option.bind_some] at h
        cases hgx:gval x with
        | none=>rw [hgx] at h; cases h
        | some i =>
         cases hgy:gval y with
         | none=>rw [hgx,hgy] at h; cases h
         | some n =>
          rw [hgx,hgy] at h
          simp only at h
          split at h
          ·cases h
          ·rename_i hpl
           have hi:=ZA4 hgx
           have hn:=ZA4 hgy
           have k2:k+2<s.size:=by have:=(List.getElem?_eq_some_iff.1 hy).1; omega
           obtain ⟨v,e1,e2,e3,e4⟩:=ih (s.size - (k+3)) (by omega) (k+3) _ w j rfl h
           refine ⟨UInt8.ofNat (i*16+n)::v,by rw [e1]; simp,?_,by omega,e4⟩
           have ex:s.data.toList[k+1]'(by omega)=x:=by rw [List.getElem?_eq_getElem (by omega)] at hx; exact Option.some.inj hx
           have ey:s.data.toList[k+2]'(by omega)=y:=by rw [List.getElem?_eq_getElem (by omega)] at hy; exact Option.some.inj hy
           have hsk:s[k]=37:=UInt8.toNat_inj.1 (by obtain ⟨_,e⟩:=ZBG h37; show s[k].toNat=37; omega)
           have hd2:s.data.toList.drop (k+1)=x::y::s.data.toList.drop (k+3):=by
            rw [List.drop_eq_getElem_cons (show k+1<s.data.toList.length by omega),ex,List.drop_eq_getElem_cons (show k+1+1<s.data.toList.length by omega)]
            rw [show s.data.toList[k+1+1]'(by omega)=y from ey]
           have hov:(UInt8.ofNat (i*16+n)).toNat=i*16+n:=UInt8.toNat_ofNat_of_lt' (by show _<256; omega)
           have hnp:plB ((UInt8.ofNat (i*16+n)).toNat:Int)=false:=by rw [hov]; simpa using hpl
           rw [hd,hd2,e2,ZDB,ZB0 hnp,hov,hsk,show (i*16+n) / 16=i by omega,show (i*16+n) % 16=n by omega,ZIZ hgx,ZIZ hgy]
           rfl
  ·rw [ZMu hk] at h
   cases h
/-- as the document does it: byte by byte -/
def gwor (b:UInt8):Nat:=(gval b).getD 0
def docW (s:ByteArray) (i:Nat) (acc:List UInt8):List UInt8 :=
 if h:i+1<s.size then
  (if h2:s[i].toNat=37/\i+2<s.size then docW s (i+3) (acc++[UInt8.ofNat (gwor (s[i+1]'h)*16+gwor (s[i+2]'h2.2))]) else docW s (i+1) (acc++[s[i]]))
 else acc
termination_by s.size - i
theorem ZIX {s:ByteArray} {i:Nat} {acc:List UInt8} (h:¬ i+1<s.size):docW s i acc=acc:=by rw [docW,dif_neg h]
theorem ZK6 {s:ByteArray} {i:Nat} {acc:List UInt8} (h:i+1<s.size) (h2:s[i].toNat=37/\i+2<s.size):docW s i acc=docW s (i+3) (acc++[UInt8.ofNat (gwor (s[i+1]'h)*16+gwor (s[i+2]'h2.2))]):=by rw [docW,dif_pos h,dif_pos h2]
theorem ZE9 {s:ByteArray} {i:Nat} {acc:List UInt8} (h:i+1<s.size) (h2:¬ (s[i].toNat=37/\i+2<s.size)):docW s i acc=docW s (i+1) (acc++[s[i]]):=by rw [docW,dif_pos h,dif_neg h2]
theorem ZIU {s:ByteArray}:∀ (v:List UInt8) (i:Nat) (acc:List UInt8),s.data.toList.drop i=encL v++[34]->docW s i acc=acc++v
 | [],i,acc,h=>by
  have h:s.data.toList.drop i=[34]:=h
  have hl:=congrArg List.length h
  rw [List.length_drop,blen] at hl
  have hl:s.size - i=1:=hl
  rw [ZIX (by omega),List.append_nil]
 | b::v,i,acc,h=>by
  have hbl:=blen s
  have hl:=congrArg List.length h
  rw [List.length_drop,blen,List.length_append,ZDB,List.length_append] at hl
  have hle:=(ZMO b).2
  have hl:s.size - i=(encU b).length+(encL v).length+1:=hl
  rw [ZDB] at h
  have hb:=b.toNat_lt
  cases hp:plB (b.toNat:Int) with
  | true =>
   rw [ZCx hp] at h
   have h:s.data.toList.drop i=b::(encL v++[34]):=h
   obtain ⟨h1,h2⟩:=ZBY h
   have i1:=ZIn h
   have hg:s[i]=b:=by
    rw [ZDp i1] at h1
    exact Option.some.inj h1
   rw [ZE9 (by omega) (fun hc=>(pl_ne hp).2.1 (by rw [<- hg]; exact hc.1)),ZIU v (i+1) _ h2,hg]
   simp
  | false =>
   rw [ZB0 hp] at h hl
   have hl:s.size - i=3+(encL v).length+1:=hl
   have h:s.data.toList.drop i=37::gdig (b.toNat / 16)::gdig (b.toNat % 16)::(encL v++[34]):=h
   obtain ⟨h1,h2⟩:=ZBY h
   obtain ⟨h3,h4⟩:=ZBY h2
   obtain ⟨h5,h6⟩:=ZBY h4
   rw [ZDp (by omega)] at h1
   rw [ZDp (by omega)] at h3
   rw [ZDp (show i+1+1<s.size by omega)] at h5
   have g0:=Option.some.inj h1
   have g1:=Option.some.inj h3
   have g2:=Option.some.inj h5
   have e:b.toNat / 16*16+b.toNat % 16=b.toNat:=by omega
   have w1:gwor (s[i+1]'(by omega))=b.toNat / 16:=by rw [g1]; unfold gwor; rw [ZGZ _ (by omega)]; rfl
   have w2:gwor (s[i+2]'(by omega))=b.toNat % 16:=by rw [show s[i+2]'(by omega)=s[i+1+1]'(by omega) from rfl,g2]; unfold gwor; rw [ZGZ _ (by omega)]; rfl
   rw [ZK6 (by omega) ⟨by rw [g0]; rfl,by omega⟩,w1,w2,e,UInt8.ofNat_toNat,ZIU v (i+3) _ h6]
   simp
/-- a text's coding is one text's alone; it is told which -/
def ZGD (s:ByteArray):Option ByteArray:=if ZAo ⟨(docW s 1 []).toArray⟩=s then some ⟨(docW s 1 []).toArray⟩ else none
theorem ZLd (v:ByteArray):ZGD (ZAo v)=some v:=by
 have h:docW (ZAo v) 1 []=v.data.toList:=by
  rw [ZIU v.data.toList 1 [] (by rw [ZBT]; rfl),List.nil_append]
 unfold ZGD
 rw [h]
 have e:(⟨v.data.toList.toArray⟩:ByteArray)=v:=inL (by show (List.toArray _).toList=_; rw [List.toList_toArray])
 rw [e,if_pos rfl]
theorem ZK1 {s v:ByteArray} (h:ZGD s=some v):s=ZAo v:=by
 unfold ZGD at h
 split at h
 ·rename_i e; cases h; exact e.symm
 ·cases h
/-- what the program reads of a text from a place on -/
def ZDH (s:ByteArray) (k:Nat):Option (ByteArray × Nat):=if atB s k 34=true then (decS s (k+1) []).map fun x=>(⟨x.1.toArray⟩,x.2) else none
theorem ZG4 {s v:ByteArray} {k j:Nat}:ZDH s k=some (v,j) ↔ ∃ r,s.data.toList.drop k=ZBR v.data.toList++r/\j=k+(ZAo v).size:=by
 have hcs:(ZAo v).size=(encL v.data.toList).length+2:=by rw [<- blen,ZBT]; unfold ZBR; simp
 constructor
 ·intro h
  unfold ZDH at h
  split at h
  ·rename_i hq
   cases hd:decS s (k+1) [] with
   | none=>rw [hd] at h; cases h
   | some x =>
    obtain ⟨w,j'⟩:=x
    rw [hd] at h
    cases h
    obtain ⟨v,e1,e2,e3,e4⟩:=decS_back _ _ _ _ _ rfl hd
    rw [List.nil_append] at e1
    subst e1
    obtain ⟨hk,e⟩:=ZBG hq
    have hsk:s[k]=34:=UInt8.toNat_inj.1 (by show s[k].toNat=34; omega)
    have hbl:=blen s
    have hl:=congrArg List.length e2
    rw [List.length_drop,List.length_append,List.length_cons,List.length_drop] at hl
    have ev:(⟨w.toArray⟩:ByteArray).data.toList=w:=by show (List.toArray _).toList=_; rw [List.toList_toArray]
    refine ⟨s.data.toList.drop j',?_,?_⟩
    ·rw [List.drop_eq_getElem_cons (show k<s.data.toList.length by omega),e2,bget s k hk,hsk,ev]
     simp [ZBR]
    ·rw [hcs,ev]
     omega
  ·cases h
 ·rintro ⟨r,h,rfl⟩
  have h:s.data.toList.drop k=34::(encL v.data.toList++34::r):=by rw [h]; simp [ZBR]
  obtain ⟨h1,h2⟩:=ZBY h
  unfold ZDH
  rw [if_pos (by unfold atB; rw [h1]; rfl),ZIv r v.data.toList (k+1) [] h2,hcs]
  show some _=some _
  refine congrArg some (Prod.ext (inL ?_) ?_)
  ·show (List.toArray _).toList=_
   rw [List.toList_toArray,List.nil_append]
  ·show k+1+(encL v.data.toList).length+1=k+((encL v.data.toList).length+2)
   omega
end
section
theorem ZIk (n:Nat):(digs 10 n).map dgt=Lib.decDigits n:=by
 induction n using Nat.strongRecOn with
 | _ n ih =>
  by_cases h:n<10
  ·rw [ZFX h,Lib.decDigits,dif_pos h]
   show [dgt n]=_
   unfold dgt
   rw [if_pos h]
  ·rw [ZFn h (by decide),Lib.decDigits,dif_neg h,List.map_append,ih (n / 10) (by omega)]
   show _++[dgt (n % 10)]=_
   unfold dgt
   rw [if_pos (by omega)]
def numT (n:Int):ByteArray:=⟨(Lib.itoa n).toArray⟩
theorem ZFd (n:Int):(numT n).data.toList=Lib.itoa n:=by
 unfold numT
 show (List.toArray _).toList=_
 rw [List.toList_toArray]
theorem ZES {n:Int} (h:0<=n):numT n=digB 10 n.toNat:=by
 unfold numT digB Lib.itoa
 rw [if_neg (by omega),ZIk]
theorem ZMj (n:Nat):(digB 10 n).data.toList=Lib.decDigits n:=by
 unfold digB
 show (List.toArray _).toList=_
 rw [List.toList_toArray,ZIk]
def isDg (b:UInt8):Prop:=48<=b.toNat/\b.toNat<=57
def ZJF (a:Nat) (l:List UInt8):Nat:=l.foldl (fun a b=>a*10+(b.toNat - 48)) a
def dval (l:List UInt8):Nat:=ZJF 0 l
theorem ZIj:∀ (l:List UInt8) (a:Nat),a<=ZJF a l
 | [],a=>Nat.le_refl _
 | b::l,a=>by
  have:=ZIj l (a*10+(b.toNat - 48))
  show a<=ZJF (a*10+(b.toNat - 48)) l
  omega
theorem ZDu (l:List UInt8) (b:UInt8):dval (l++[b])=dval l*10+(b.toNat - 48):=by
 unfold dval ZJF
 rw [List.foldl_append]
 rfl
theorem ZJf (l:List UInt8) (k:Nat):dval (l.take k)<=dval l:=by
 have h:l=l.take k++l.drop k:=(List.take_append_drop k l).symm
 have e:dval l=ZJF (dval (l.take k)) (l.drop k):=by
  conv=>lhs; rw [h]
  unfold dval ZJF
  rw [List.foldl_append]
 rw [e]
 exact ZIj _ _
theorem ZB2 (n:Nat):dval (Lib.decDigits n)=n/\(∀ b∈Lib.decDigits n,isDg b)/\Lib.decDigits n≠[]:=by
 have hd:∀ k,k<10->isDg (UInt8.ofNat (48+k))/\(UInt8.ofNat (48+k)).toNat - 48=k:=fun k hk=>by
  have e:(UInt8.ofNat (48+k)).toNat=48+k:=UInt8.toNat_ofNat_of_lt' (by show _<256; omega)
  unfold isDg
  rw [e]
  omega
 induction n using Nat.strongRecOn with
 | _ n ih =>
  by_cases h:n<10
  ·rw [Lib.decDigits,dif_pos h]
   refine ⟨?_,fun b hb=>?_,by simp⟩
   ·show 0*10+((UInt8.ofNat (48+n)).toNat - 48)=n
    have:=(hd n h).2
    omega
   ·simp only [List.mem_cons,List.mem_nil_iff,or_false] at hb
    subst hb
    exact (hd n h).1
  ·obtain ⟨i1,i2,i3⟩:=ih (n / 10) (by omega)
   rw [Lib.decDigits,dif_neg h]
   refine ⟨?_,fun b hb=>?_,by simp⟩
   ·rw [ZDu,i1,(hd (n % 10) (by omega)).2]
    omega
   ·rcases List.mem_append.1 hb with hb | hb
    ·exact i2 b hb
    ·simp only [List.mem_cons,List.mem_nil_iff,or_false] at hb
     subst hb
     exact (hd _ (by omega)).1
theorem ZD1:∀ (l:List UInt8) (a:Nat),(∀ b∈l,isDg b)->ZJF a l<18446744073709551616->Lib.parseUint10 a l=.ok (ZJF a l)
 | [],a,_,_=>rfl
 | b::l,a,h,hl=>by
  have hb:=h b (.head _)
  have hl:ZJF (a*10+(b.toNat - 48)) l<18446744073709551616:=hl
  have hg:=ZIj l (a*10+(b.toNat - 48))
  rw [Lib.parseUint10,if_pos (show 48<=b.toNat/\b.toNat<=57 from hb),if_neg (by omega),if_neg (by omega)]
  exact ZD1 l _ (fun x hx=>h x (.tail _ hx)) hl
theorem ZKH {n:Int} (h0:-9223372036854775808<=n) (h1:n<=9223372036854775807):Lib.atoiAll (Lib.itoa n)=.ok n:=by
 unfold Lib.itoa
 by_cases hn:n<0
 ·obtain ⟨f1,f2,f3⟩:=ZB2 n.natAbs
  have hp:=ZD1 (Lib.decDigits n.natAbs) 0 f2 (by show dval _<_; omega)
  have hm:Lib.parseMag (Lib.decDigits n.natAbs)=.ok n.natAbs:=by
   unfold Lib.parseMag
   rw [if_neg f3,hp]
   exact congrArg _ f1
  rw [if_pos hn]
  unfold Lib.atoiAll
  simp only [show ((45:UInt8).toNat=43 \/ (45:UInt8).toNat=45) from .inr rfl,if_true,hm]
  rw [if_neg (fun h=>h.1 rfl),if_neg (fun h=>by omega),if_pos (show (45:UInt8).toNat=45 from rfl)]
  exact congrArg _ (by omega)
 ·obtain ⟨f1,f2,f3⟩:=ZB2 n.toNat
  have hp:=ZD1 (Lib.decDigits n.toNat) 0 f2 (by show dval _<_; omega)
  have hm:Lib.parseMag (Lib.decDigits n.toNat)=.ok n.toNat:=by
   unfold Lib.parseMag
   rw [if_neg f3,hp]
   exact congrArg _ f1
  rw [if_neg hn]
  cases hl:Lib.decDigits n.toNat with
  | nil=>exact absurd hl f3
  | cons c r =>
   have hc:=f2 c (by rw [hl]; exact .head _)
   unfold isDg at hc
   rw [hl] at hm
   unfold Lib.atoiAll
   simp only
   rw [if_neg (by omega),hm]
   simp only
   rw [if_neg (by omega),if_neg (by omega),if_neg (by omega)]
   exact congrArg _ (by omega)
def rawV (l:List UInt8):Int:=match l with
 | []=>0
 | c::r=>if c=45 then -(dval r:Int) else dval (c::r)
def inR (n:Int):Prop:=-9223372036854775808<=n/\n<=9223372036854775807
instance (n:Int):Decidable (inR n):=inferInstanceAs (Decidable (_/\_))
/-- a number that a text is the digits of -/
def numV (t:ByteArray):Option Int:=if numT (rawV t.data.toList)=t/\inR (rawV t.data.toList) then some (rawV t.data.toList) else none
theorem raw_itoa (n:Int):rawV (Lib.itoa n)=n:=by
 unfold Lib.itoa
 by_cases hn:n<0
 ·rw [if_pos hn]
  show (if (45:UInt8)=45 then -(dval (Lib.decDigits n.natAbs):Int) else (dval (45::Lib.decDigits n.natAbs):Int))=n
  rw [if_pos rfl,(ZB2 n.natAbs).1]
  omega
 ·obtain ⟨f1,f2,f3⟩:=ZB2 n.toNat
  rw [if_neg hn]
  cases hl:Lib.decDigits n.toNat with
  | nil=>exact absurd hl f3
  | cons c r =>
   have hc:=f2 c (by rw [hl]; exact .head _)
   unfold isDg at hc
   show (if c=45 then -(dval r:Int) else (dval (c::r):Int))=n
   rw [if_neg (fun e=>by subst e; exact absurd hc.1 (by decide)),<- hl,f1]
   omega
theorem ZJd {n:Int} (h:inR n):numV (numT n)=some n:=by
 unfold numV
 rw [ZFd,raw_itoa,if_pos ⟨rfl,h⟩]
theorem ZCE {t:ByteArray} {n:Int} (h:numV t=some n):t=numT n/\inR n:=by
 unfold numV at h
 split at h
 ·rename_i hc; cases h; exact ⟨hc.1.symm,hc.2⟩
 ·cases h
/-- as the program reads one -/
theorem ZLu {t:ByteArray} {k:Int} (h:Lib.atoiAll t.data.toList=.ok k):numV t=if numT k=t then some k else none:=by
 have hb:=Lib.atoiAll_bounds h
 split
 ·rename_i e
  rw [<- e]
  exact ZJd hb
 ·rename_i e
  cases hn:numV t with
  | none=>rfl
  | some n =>
   obtain ⟨e1,e2⟩:=ZCE hn
   rw [e1,ZFd,ZKH e2.1 e2.2] at h
   cases h
   exact absurd e1.symm e
theorem ZK4 {t:ByteArray} (h:∀ k,Lib.atoiAll t.data.toList≠.ok k):numV t=none:=by
 cases hn:numV t with
 | none=>rfl
 | some n =>
  obtain ⟨e1,e2⟩:=ZCE hn
  refine absurd ?_ (h n)
  rw [e1,ZFd]
  exact ZKH e2.1 e2.2
theorem ZAk {n:Int} (h:inR n):(numT n).size<=70:=by
 obtain ⟨h1,h2⟩:=h
 have hd:∀ m:Nat,m<=9223372036854775808->(Lib.decDigits m).length<=65:=fun m hm=>by
  rw [<- ZIk,List.length_map]
  exact ZJC (by decide) 64 m (by have:(2:Nat) ^ 64=18446744073709551616:=rfl; omega)
 rw [<- blen,ZFd]
 unfold Lib.itoa
 split
 ·have:=hd n.natAbs (by omega)
  simp only [List.length_cons]
  omega
 ·have:=hd n.toNat (by omega)
  omega
theorem ZC6 {n:Int}:∀ b∈(numT n).data.toList,b≠10/\b≠32:=by
 intro b hb
 rw [ZFd] at hb
 have hd:∀ m,∀ b∈Lib.decDigits m,b≠10/\b≠32:=fun m b hb=>by
  have:=(ZB2 m).2.1 b hb
  unfold isDg at this
  exact ⟨fun e=>by subst e; exact absurd this.1 (by decide),fun e=>by subst e; exact absurd this.1 (by decide)⟩
 unfold Lib.itoa at hb
 split at hb
 ·rcases List.mem_cons.1 hb with rfl | hb
  ·exact ⟨by decide,by decide⟩
  ·exact hd _ b hb
 ·exact hd _ b hb
end
section
section
variable {P:Program} {T:Tab} {ops:Array Oper} {K:Fr->St->Prop} {n:Nat} {listed:Array Bool} {fr:Fr} {st:St}
theorem ZNd (h:Region.ready .any ops listed=[]) (hk:K fr st):ZBv P T ops K n listed fr st:=by
 cases n <;> (unfold ZBv; rw [h]; exact hk)
theorem vcAny_one {j:Nat} {o:Oper} (h:Region.ready .any ops listed=[j]) (ho:ops[j]? = some o) (hv:ZCZ P T ops o fr st fun fr' st'=>ZBv P T ops K n (listed.setIfInBounds j true) fr' st'):ZBv P T ops K (n+1) listed fr st:=by
 unfold ZBv
 rw [h]
 intro i hi
 rw [List.mem_singleton.1 hi]
 exact ⟨o,ho,hv⟩
theorem ZKO {j k:Nat} {o o':Oper} (h:Region.ready .any ops listed=[j,k]) (ho:ops[j]? = some o) (ho':ops[k]? = some o') (hv:ZCZ P T ops o fr st fun fr' st'=>ZBv P T ops K n (listed.setIfInBounds j true) fr' st')
  (hv':ZCZ P T ops o' fr st fun fr' st'=>ZBv P T ops K n (listed.setIfInBounds k true) fr' st'):ZBv P T ops K (n+1) listed fr st:=by
 unfold ZBv
 rw [h]
 intro i hi
 rcases List.mem_cons.1 hi with rfl | hi
 ·exact ⟨o,ho,hv⟩
 ·rw [List.mem_singleton.1 hi]
  exact ⟨o',ho',hv'⟩
end
theorem ZB6:ZG0 18 plB:=fun n h0 h1=>by
 refine ZAC.of rfl (ZAB.of_vc T_ok mixed Tryz.func18 rfl Tryz.call18 ?_)
 refine ZAA (fun a1=>?_) (fun a1=>?_)
 ·have a1:=of_decide_eq_true a1
  refine ZAA (fun a2=>?_) (fun a2=>?_)
  ·have a2:=of_decide_eq_true a2
   refine ZAA (fun a3=>?_) (fun a3=>?_)
   ·have e:plB n=(n != 37):=by unfold plB; rw [decide_eq_true a1,decide_eq_true a2,a3]; rfl
    exact retb e.symm
   ·have e:plB n=false:=by unfold plB; rw [a3,Bool.and_false,Bool.false_and]
    exact retb e.symm
  ·have e:plB n=false:=by unfold plB; rw [a2]; simp
   exact retb e.symm
 ·have e:plB n=false:=by unfold plB; rw [a1]; rfl
  exact retb e.symm
theorem ZBE (k:Nat) (hk:k<16):(hexG[k]'hk)=gdig k:=by
 have h:∀ i:_root_.Fin 16,(hexG[i.1]'i.2)=gdig i.1:=by decide +kernel
 exact h ⟨k,hk⟩
theorem shr4:∀ m:Nat,m<256->((m:Int).fdiv (2 ^ min (4:Int).toNat IntKind.u8.bits))=((m / 16:Nat):Int):=by decide +kernel
theorem and15:∀ m:Nat,m<256->IntKind.u8.wrap ((BitVec.ofInt IntKind.u8.bits (m:Int) &&& BitVec.ofInt IntKind.u8.bits 15).toNat:Int)=((m % 16:Nat):Int):=by decide +kernel
attribute [local irreducible] ZAn
set_option maxHeartbeats 1000000 in
theorem code_p (s:ByteArray) (hs:s.size<=1099511627776):ZAC Tryz.prog 7 [.s s] (.s (ZAo s)) []:=by
 have hmx:maxLen=9223372036854775807:=rfl
 refine ZAC.of rfl (ZAB.of_vc T_ok mixed Tryz.func7 rfl Tryz.call7 ?_)
 refine ZAF [3,8] (fun g vals st'=>∃ (k:Nat) (a:AV),k+g=s.size/\vals=[a,.i k]/\Acc2 0 st'.tk 1 a (u8L (34::encL (s.data.toList.take k)))) s.size rfl ⟨0,_,by omega,rfl,.tight _ _⟩ ?_
 rintro g vals st1 ⟨k,a,hk,rfl,hA⟩
 have hql:=(ZFI (s.data.toList.take k)).1
 have hlk:(s.data.toList.take k).length<=k:=by rw [List.length_take]; omega
 have hA0:=hA
 cases hA with
 | tight e0 es9 =>
  skip
  have hA:=hA0
  refine ZAA (fun hd=>?_) (fun hd=>?_)
  ·have hd:=of_decide_eq_true hd
   have k1:k<s.size:=by omega
   have hbb:=s[k].toNat_lt
   have hsn:encL (s.data.toList.take (k+1))=encL (s.data.toList.take k)++encU s[k]:=by
    rw [List.take_add_one,List.getElem?_eq_getElem (by rw [blen]; exact k1),Option.toList_some,ZGf,bget s k k1]
    simp [encL]
   refine ⟨k,k1,rfl,?_⟩
   refine .p rfl (ZB6 _ (by omega) (by omega)) ?_
   refine ZAA (fun h1=>?_) (fun h1=>?_)
   ·refine ⟨k,k1,rfl,?_⟩
    refine Acc2.app (n:=0) (i:=ti5) (es:=(u8L (34::encL (s.data.toList.take k)))) hA (Nat.zero_le _) (List.cons_ne_nil _ _) ?_ ?_ (fun t e tk' q0 q1 q2 q3=>?_)
    ·show (List.length _+List.length _)*1<=_; simp only [List.length_append,ZAE,List.length_cons,List.length_nil]; omega
    ·show List.length _+List.length _<=9223372036854775807; simp only [List.length_append,ZAE,List.length_cons,List.length_nil]; omega
    intro c hc
    rw [IntWalk.i64_in _ (by omega)] at hc
    obtain rfl:c=((k+1:Nat):Int):=by omega
    have he:u8L (34::encL (s.data.toList.take (k+1)))=u8L (34::encL (s.data.toList.take k))++[[.u8 s[k]]]:=by rw [hsn,ZCx h1]; simp [u8L]
    refine ⟨g - 1,by omega,k+1,_,by omega,rfl,?_⟩
    rw [he]
    exact .own _ _ _ q0 q1
   ·refine .e (by kernel_rfl) ?_
    refine ⟨k,k1,rfl,?_⟩
    refine ⟨by decide,?_⟩
    intro c hc
    rw [shr4 _ (by omega)] at hc
    subst hc
    refine ⟨s[k].toNat / 16,by show _<16; omega,rfl,?_⟩
    refine ⟨k,k1,rfl,?_⟩
    intro c2 hc2
    rw [and15 _ (by omega)] at hc2
    subst hc2
    refine ⟨s[k].toNat % 16,by show _<16; omega,rfl,?_⟩
    refine Acc2.app (n:=0) (i:=ti5) (es:=(u8L (34::encL (s.data.toList.take k)))) hA (Nat.zero_le _) (List.cons_ne_nil _ _) ?_ ?_ (fun t e tk' q0 q1 q2 q3=>?_)
    ·show (List.length _+List.length _)*1<=_; simp only [List.length_append,ZAE,List.length_cons,List.length_nil]; omega
    ·show List.length _+List.length _<=9223372036854775807; simp only [List.length_append,ZAE,List.length_cons,List.length_nil]; omega
    intro c hc
    rw [IntWalk.i64_in _ (by omega)] at hc
    obtain rfl:c=((k+1:Nat):Int):=by omega
    have he:u8L (34::encL (s.data.toList.take (k+1)))=u8L (34::encL (s.data.toList.take k))++[[.u8 37],[.u8 (gdig (s[k].toNat / 16))],[.u8 (gdig (s[k].toNat % 16))]]:=by rw [hsn,ZB0 h1]; simp [u8L]
    refine ⟨g - 1,by omega,k+1,_,by omega,rfl,?_⟩
    rw [he,<- ZBE _ (by omega),<- ZBE _ (by omega)]
    exact .own _ _ _ q0 q1
  ·have hd:=of_decide_eq_false hd
   obtain rfl:k=s.size:=by omega
   refine Acc2.app (n:=0) (i:=ti5) (es:=(u8L (34::encL (s.data.toList.take s.size)))) hA (Nat.zero_le _) (List.cons_ne_nil _ _) ?_ ?_ (fun t e tk' q0 q1 q2 q3=>?_)
   ·show (List.length _+List.length _)*1<=_; simp only [List.length_append,ZAE,List.length_cons,List.length_nil]; omega
   ·show List.length _+List.length _<=9223372036854775807; simp only [List.length_append,ZAE,List.length_cons,List.length_nil]; omega
   refine ⟨ZAo s,?_,rfl⟩
   rw [ZBT,List.take_of_length_le (by rw [blen]; exact Nat.le_refl _)]
   simp [u8L,ZBR]
 | own t0 e0 _ hn0 ht0 =>
  skip
  have hA:=hA0
  refine ZAA (fun hd=>?_) (fun hd=>?_)
  ·have hd:=of_decide_eq_true hd
   have k1:k<s.size:=by omega
   have hbb:=s[k].toNat_lt
   have hsn:encL (s.data.toList.take (k+1))=encL (s.data.toList.take k)++encU s[k]:=by
    rw [List.take_add_one,List.getElem?_eq_getElem (by rw [blen]; exact k1),Option.toList_some,ZGf,bget s k k1]
    simp [encL]
   refine ⟨k,k1,rfl,?_⟩
   refine .p rfl (ZB6 _ (by omega) (by omega)) ?_
   refine ZAA (fun h1=>?_) (fun h1=>?_)
   ·refine ⟨k,k1,rfl,?_⟩
    refine Acc2.app (n:=0) (i:=ti5) (es:=(u8L (34::encL (s.data.toList.take k)))) hA (Nat.zero_le _) (List.cons_ne_nil _ _) ?_ ?_ (fun t e tk' q0 q1 q2 q3=>?_)
    ·show (List.length _+List.length _)*1<=_; simp only [List.length_append,ZAE,List.length_cons,List.length_nil]; omega
    ·show List.length _+List.length _<=9223372036854775807; simp only [List.length_append,ZAE,List.length_cons,List.length_nil]; omega
    intro c hc
    rw [IntWalk.i64_in _ (by omega)] at hc
    obtain rfl:c=((k+1:Nat):Int):=by omega
    have he:u8L (34::encL (s.data.toList.take (k+1)))=u8L (34::encL (s.data.toList.take k))++[[.u8 s[k]]]:=by rw [hsn,ZCx h1]; simp [u8L]
    refine ⟨g - 1,by omega,k+1,_,by omega,rfl,?_⟩
    rw [he]
    exact .own _ _ _ q0 q1
   ·refine .e (by kernel_rfl) ?_
    refine ⟨k,k1,rfl,?_⟩
    refine ⟨by decide,?_⟩
    intro c hc
    rw [shr4 _ (by omega)] at hc
    subst hc
    refine ⟨s[k].toNat / 16,by show _<16; omega,rfl,?_⟩
    refine ⟨k,k1,rfl,?_⟩
    intro c2 hc2
    rw [and15 _ (by omega)] at hc2
    subst hc2
    refine ⟨s[k].toNat % 16,by show _<16; omega,rfl,?_⟩
    refine Acc2.app (n:=0) (i:=ti5) (es:=(u8L (34::encL (s.data.toList.take k)))) hA (Nat.zero_le _) (List.cons_ne_nil _ _) ?_ ?_ (fun t e tk' q0 q1 q2 q3=>?_)
    ·show (List.length _+List.length _)*1<=_; simp only [List.length_append,ZAE,List.length_cons,List.length_nil]; omega
    ·show List.length _+List.length _<=9223372036854775807; simp only [List.length_append,ZAE,List.length_cons,List.length_nil]; omega
    intro c hc
    rw [IntWalk.i64_in _ (by omega)] at hc
    obtain rfl:c=((k+1:Nat):Int):=by omega
    have he:u8L (34::encL (s.data.toList.take (k+1)))=u8L (34::encL (s.data.toList.take k))++[[.u8 37],[.u8 (gdig (s[k].toNat / 16))],[.u8 (gdig (s[k].toNat % 16))]]:=by rw [hsn,ZB0 h1]; simp [u8L]
    refine ⟨g - 1,by omega,k+1,_,by omega,rfl,?_⟩
    rw [he,<- ZBE _ (by omega),<- ZBE _ (by omega)]
    exact .own _ _ _ q0 q1
  ·have hd:=of_decide_eq_false hd
   obtain rfl:k=s.size:=by omega
   refine Acc2.app (n:=0) (i:=ti5) (es:=(u8L (34::encL (s.data.toList.take s.size)))) hA (Nat.zero_le _) (List.cons_ne_nil _ _) ?_ ?_ (fun t e tk' q0 q1 q2 q3=>?_)
   ·show (List.length _+List.length _)*1<=_; simp only [List.length_append,ZAE,List.length_cons,List.length_nil]; omega
   ·show List.length _+List.length _<=9223372036854775807; simp only [List.length_append,ZAE,List.length_cons,List.length_nil]; omega
   refine ⟨ZAo s,?_,rfl⟩
   rw [ZBT,List.take_of_length_le (by rw [blen]; exact Nat.le_refl _)]
   simp [u8L,ZBR]
theorem ZGH:∀ m:Nat,m<256->IntKind.i64.wrap ((m:Int).tdiv 16)=((m / 16:Nat):Int):=by decide +kernel
theorem ZF9:∀ m:Nat,m<256->(m:Int).tmod 16=((m % 16:Nat):Int):=by decide +kernel
set_option maxHeartbeats 1000000 in
theorem ZAt (s:ByteArray) (hs:s.size<=1099511627776):ZAC Tryz.prog 10 [.s s] (.s (ZAo s)) []:=by
 have hmx:maxLen=9223372036854775807:=rfl
 refine ZAC.of rfl (ZAB.of_vc T_ok mixed Tryz.func10 rfl Tryz.call10 ?_)
 refine ZAF [3,4] (fun g vals st'=>∃ (k:Nat) (a:AV),k+g=s.size/\vals=[a,.i k]/\Acc2 0 st'.tk 1 a (u8L (34::encL (s.data.toList.take k)))) s.size rfl ⟨0,_,by omega,rfl,.tight _ _⟩ ?_
 rintro g vals st1 ⟨k,a,hk,rfl,hA⟩
 have hql:=(ZFI (s.data.toList.take k)).1
 have hlk:(s.data.toList.take k).length<=k:=by rw [List.length_take]; omega
 have hA0:=hA
 cases hA with
 | tight e0 es9 =>
  skip
  have hA:=hA0
  refine ZAA (fun hd=>?_) (fun hd=>?_)
  ·have hd:=of_decide_eq_true hd
   have k1:k<s.size:=by omega
   have hbb:=s[k].toNat_lt
   have hsn:encL (s.data.toList.take (k+1))=encL (s.data.toList.take k)++encU s[k]:=by
    rw [List.take_add_one,List.getElem?_eq_getElem (by rw [blen]; exact k1),Option.toList_some,ZGf,bget s k k1]
    simp [encL]
   refine ⟨k,k1,rfl,?_⟩
   refine ZAA (fun a1=>?_) (fun a1=>?_)
   ·have hp:plB (s[k].toNat:Int)=false:=by have a1:=of_decide_eq_true a1; unfold plB; rw [decide_eq_false (by omega)]; rfl
    refine .e (by kernel_rfl) ?_
    intro c hc
    rw [IntWalk.i64_in _ (by omega)] at hc
    subst hc
    refine ⟨by decide,?_⟩
    intro c2 hc2
    rw [ZGH _ (by omega)] at hc2
    subst hc2
    refine ⟨s[k].toNat / 16,by show _<16; omega,rfl,?_⟩
    intro c3 hc3
    rw [IntWalk.i64_in _ (by omega)] at hc3
    subst hc3
    refine ⟨by decide,?_⟩
    refine ⟨s[k].toNat % 16,by show _<16; omega,ZF9 _ (by omega),?_⟩
    refine Acc2.app (n:=0) (i:=ti5) (es:=(u8L (34::encL (s.data.toList.take k)))) hA (Nat.zero_le _) (List.cons_ne_nil _ _) ?_ ?_ (fun t e tk' q0 q1 q2 q3=>?_)
    ·show (List.length _+List.length _)*1<=_; simp only [List.length_append,ZAE,List.length_cons,List.length_nil]; omega
    ·show List.length _+List.length _<=9223372036854775807; simp only [List.length_append,ZAE,List.length_cons,List.length_nil]; omega
    intro c hc
    rw [IntWalk.i64_in _ (by omega)] at hc
    obtain rfl:c=((k+1:Nat):Int):=by omega
    have he:u8L (34::encL (s.data.toList.take (k+1)))=u8L (34::encL (s.data.toList.take k))++[[.u8 37],[.u8 (gdig (s[k].toNat / 16))],[.u8 (gdig (s[k].toNat % 16))]]:=by rw [hsn,ZB0 hp]; simp [u8L]
    refine ⟨g - 1,by omega,k+1,_,by omega,rfl,?_⟩
    rw [he,<- ZBE _ (by omega),<- ZBE _ (by omega)]
    exact .own _ _ _ q0 q1
   have a1:=of_decide_eq_false a1
   refine ZAA (fun a2=>?_) (fun a2=>?_)
   ·have hp:plB (s[k].toNat:Int)=false:=by have a2:=of_decide_eq_true a2; unfold plB; rw [decide_eq_false (show ¬ (s[k].toNat:Int)<=126 by omega)]; simp
    refine .e (by kernel_rfl) ?_
    intro c hc
    rw [IntWalk.i64_in _ (by omega)] at hc
    subst hc
    refine ⟨by decide,?_⟩
    intro c2 hc2
    rw [ZGH _ (by omega)] at hc2
    subst hc2
    refine ⟨s[k].toNat / 16,by show _<16; omega,rfl,?_⟩
    intro c3 hc3
    rw [IntWalk.i64_in _ (by omega)] at hc3
    subst hc3
    refine ⟨by decide,?_⟩
    refine ⟨s[k].toNat % 16,by show _<16; omega,ZF9 _ (by omega),?_⟩
    refine Acc2.app (n:=0) (i:=ti5) (es:=(u8L (34::encL (s.data.toList.take k)))) hA (Nat.zero_le _) (List.cons_ne_nil _ _) ?_ ?_ (fun t e tk' q0 q1 q2 q3=>?_)
    ·show (List.length _+List.length _)*1<=_; simp only [List.length_append,ZAE,List.length_cons,List.length_nil]; omega
    ·show List.length _+List.length _<=9223372036854775807; simp only [List.length_append,ZAE,List.length_cons,List.length_nil]; omega
    intro c hc
    rw [IntWalk.i64_in _ (by omega)] at hc
    obtain rfl:c=((k+1:Nat):Int):=by omega
    have he:u8L (34::encL (s.data.toList.take (k+1)))=u8L (34::encL (s.data.toList.take k))++[[.u8 37],[.u8 (gdig (s[k].toNat / 16))],[.u8 (gdig (s[k].toNat % 16))]]:=by rw [hsn,ZB0 hp]; simp [u8L]
    refine ⟨g - 1,by omega,k+1,_,by omega,rfl,?_⟩
    rw [he,<- ZBE _ (by omega),<- ZBE _ (by omega)]
    exact .own _ _ _ q0 q1
   have a2:=of_decide_eq_false a2
   refine ZAA (fun a3=>?_) (fun a3=>?_)
   ·have hp:plB (s[k].toNat:Int)=false:=by unfold plB; rw [bne,a3]; simp
    refine .e (by kernel_rfl) ?_
    intro c hc
    rw [IntWalk.i64_in _ (by omega)] at hc
    subst hc
    refine ⟨by decide,?_⟩
    intro c2 hc2
    rw [ZGH _ (by omega)] at hc2
    subst hc2
    refine ⟨s[k].toNat / 16,by show _<16; omega,rfl,?_⟩
    intro c3 hc3
    rw [IntWalk.i64_in _ (by omega)] at hc3
    subst hc3
    refine ⟨by decide,?_⟩
    refine ⟨s[k].toNat % 16,by show _<16; omega,ZF9 _ (by omega),?_⟩
    refine Acc2.app (n:=0) (i:=ti5) (es:=(u8L (34::encL (s.data.toList.take k)))) hA (Nat.zero_le _) (List.cons_ne_nil _ _) ?_ ?_ (fun t e tk' q0 q1 q2 q3=>?_)
    ·show (List.length _+List.length _)*1<=_; simp only [List.length_append,ZAE,List.length_cons,List.length_nil]; omega
    ·show List.length _+List.length _<=9223372036854775807; simp only [List.length_append,ZAE,List.length_cons,List.length_nil]; omega
    intro c hc
    rw [IntWalk.i64_in _ (by omega)] at hc
    obtain rfl:c=((k+1:Nat):Int):=by omega
    have he:u8L (34::encL (s.data.toList.take (k+1)))=u8L (34::encL (s.data.toList.take k))++[[.u8 37],[.u8 (gdig (s[k].toNat / 16))],[.u8 (gdig (s[k].toNat % 16))]]:=by rw [hsn,ZB0 hp]; simp [u8L]
    refine ⟨g - 1,by omega,k+1,_,by omega,rfl,?_⟩
    rw [he,<- ZBE _ (by omega),<- ZBE _ (by omega)]
    exact .own _ _ _ q0 q1
   refine ZAA (fun a4=>?_) (fun a4=>?_)
   ·have hp:plB (s[k].toNat:Int)=false:=by unfold plB; rw [bne,bne,a4]; simp
    refine .e (by kernel_rfl) ?_
    intro c hc
    rw [IntWalk.i64_in _ (by omega)] at hc
    subst hc
    refine ⟨by decide,?_⟩
    intro c2 hc2
    rw [ZGH _ (by omega)] at hc2
    subst hc2
    refine ⟨s[k].toNat / 16,by show _<16; omega,rfl,?_⟩
    intro c3 hc3
    rw [IntWalk.i64_in _ (by omega)] at hc3
    subst hc3
    refine ⟨by decide,?_⟩
    refine ⟨s[k].toNat % 16,by show _<16; omega,ZF9 _ (by omega),?_⟩
    refine Acc2.app (n:=0) (i:=ti5) (es:=(u8L (34::encL (s.data.toList.take k)))) hA (Nat.zero_le _) (List.cons_ne_nil _ _) ?_ ?_ (fun t e tk' q0 q1 q2 q3=>?_)
    ·show (List.length _+List.length _)*1<=_; simp only [List.length_append,ZAE,List.length_cons,List.length_nil]; omega
    ·show List.length _+List.length _<=9223372036854775807; simp only [List.length_append,ZAE,List.length_cons,List.length_nil]; omega
    intro c hc
    rw [IntWalk.i64_in _ (by omega)] at hc
    obtain rfl:c=((k+1:Nat):Int):=by omega
    have he:u8L (34::encL (s.data.toList.take (k+1)))=u8L (34::encL (s.data.toList.take k))++[[.u8 37],[.u8 (gdig (s[k].toNat / 16))],[.u8 (gdig (s[k].toNat % 16))]]:=by rw [hsn,ZB0 hp]; simp [u8L]
    refine ⟨g - 1,by omega,k+1,_,by omega,rfl,?_⟩
    rw [he,<- ZBE _ (by omega),<- ZBE _ (by omega)]
    exact .own _ _ _ q0 q1
   have hp:plB (s[k].toNat:Int)=true:=by unfold plB; rw [bne,bne,a3,a4,decide_eq_true (by omega),decide_eq_true (by omega)]; rfl
   refine Acc2.app (n:=0) (i:=ti5) (es:=(u8L (34::encL (s.data.toList.take k)))) hA (Nat.zero_le _) (List.cons_ne_nil _ _) ?_ ?_ (fun t e tk' q0 q1 q2 q3=>?_)
   ·show (List.length _+List.length _)*1<=_; simp only [List.length_append,ZAE,List.length_cons,List.length_nil]; omega
   ·show List.length _+List.length _<=9223372036854775807; simp only [List.length_append,ZAE,List.length_cons,List.length_nil]; omega
   intro c hc
   rw [IntWalk.i64_in _ (by omega)] at hc
   obtain rfl:c=((k+1:Nat):Int):=by omega
   have he:u8L (34::encL (s.data.toList.take (k+1)))=u8L (34::encL (s.data.toList.take k))++[[.u8 s[k]]]:=by rw [hsn,ZCx hp]; simp [u8L]
   refine ⟨g - 1,by omega,k+1,_,by omega,rfl,?_⟩
   rw [he]
   exact .own _ _ _ q0 q1
  ·have hd:=of_decide_eq_false hd
   obtain rfl:k=s.size:=by omega
   refine Acc2.app (n:=0) (i:=ti5) (es:=(u8L (34::encL (s.data.toList.take s.size)))) hA (Nat.zero_le _) (List.cons_ne_nil _ _) ?_ ?_ (fun t e tk' q0 q1 q2 q3=>?_)
   ·show (List.length _+List.length _)*1<=_; simp only [List.length_append,ZAE,List.length_cons,List.length_nil]; omega
   ·show List.length _+List.length _<=9223372036854775807; simp only [List.length_append,ZAE,List.length_cons,List.length_nil]; omega
   refine ⟨ZAo s,?_,rfl⟩
   rw [ZBT,List.take_of_length_le (by rw [blen]; exact Nat.le_refl _)]
   simp [u8L,ZBR]
 | own t0 e0 _ hn0 ht0 =>
  skip
  have hA:=hA0
  refine ZAA (fun hd=>?_) (fun hd=>?_)
  ·have hd:=of_decide_eq_true hd
   have k1:k<s.size:=by omega
   have hbb:=s[k].toNat_lt
   have hsn:encL (s.data.toList.take (k+1))=encL (s.data.toList.take k)++encU s[k]:=by
    rw [List.take_add_one,List.getElem?_eq_getElem (by rw [blen]; exact k1),Option.toList_some,ZGf,bget s k k1]
    simp [encL]
   refine ⟨k,k1,rfl,?_⟩
   refine ZAA (fun a1=>?_) (fun a1=>?_)
   ·have hp:plB (s[k].toNat:Int)=false:=by have a1:=of_decide_eq_true a1; unfold plB; rw [decide_eq_false (by omega)]; rfl
    refine .e (by kernel_rfl) ?_
    intro c hc
    rw [IntWalk.i64_in _ (by omega)] at hc
    subst hc
    refine ⟨by decide,?_⟩
    intro c2 hc2
    rw [ZGH _ (by omega)] at hc2
    subst hc2
    refine ⟨s[k].toNat / 16,by show _<16; omega,rfl,?_⟩
    intro c3 hc3
    rw [IntWalk.i64_in _ (by omega)] at hc3
    subst hc3
    refine ⟨by decide,?_⟩
    refine ⟨s[k].toNat % 16,by show _<16; omega,ZF9 _ (by omega),?_⟩
    refine Acc2.app (n:=0) (i:=ti5) (es:=(u8L (34::encL (s.data.toList.take k)))) hA (Nat.zero_le _) (List.cons_ne_nil _ _) ?_ ?_ (fun t e tk' q0 q1 q2 q3=>?_)
    ·show (List.length _+List.length _)*1<=_; simp only [List.length_append,ZAE,List.length_cons,List.length_nil]; omega
    ·show List.length _+List.length _<=9223372036854775807; simp only [List.length_append,ZAE,List.length_cons,List.length_nil]; omega
    intro c hc
    rw [IntWalk.i64_in _ (by omega)] at hc
    obtain rfl:c=((k+1:Nat):Int):=by omega
    have he:u8L (34::encL (s.data.toList.take (k+1)))=u8L (34::encL (s.data.toList.take k))++[[.u8 37],[.u8 (gdig (s[k].toNat / 16))],[.u8 (gdig (s[k].toNat % 16))]]:=by rw [hsn,ZB0 hp]; simp [u8L]
    refine ⟨g - 1,by omega,k+1,_,by omega,rfl,?_⟩
    rw [he,<- ZBE _ (by omega),<- ZBE _ (by omega)]
    exact .own _ _ _ q0 q1
   have a1:=of_decide_eq_false a1
   refine ZAA (fun a2=>?_) (fun a2=>?_)
   ·have hp:plB (s[k].toNat:Int)=false:=by have a2:=of_decide_eq_true a2; unfold plB; rw [decide_eq_false (show ¬ (s[k].toNat:Int)<=126 by omega)]; simp
    refine .e (by kernel_rfl) ?_
    intro c hc
    rw [IntWalk.i64_in _ (by omega)] at hc
    subst hc
    refine ⟨by decide,?_⟩
    intro c2 hc2
    rw [ZGH _ (by omega)] at hc2
    subst hc2
    refine ⟨s[k].toNat / 16,by show _<16; omega,rfl,?_⟩
    intro c3 hc3
    rw [IntWalk.i64_in _ (by omega)] at hc3
    subst hc3
    refine ⟨by decide,?_⟩
    refine ⟨s[k].toNat % 16,by show _<16; omega,ZF9 _ (by omega),?_⟩
    refine Acc2.app (n:=0) (i:=ti5) (es:=(u8L (34::encL (s.data.toList.take k)))) hA (Nat.zero_le _) (List.cons_ne_nil _ _) ?_ ?_ (fun t e tk' q0 q1 q2 q3=>?_)
    ·show (List.length _+List.length _)*1<=_; simp only [List.length_append,ZAE,List.length_cons,List.length_nil]; omega
    ·show List.length _+List.length _<=9223372036854775807; simp only [List.length_append,ZAE,List.length_cons,List.length_nil]; omega
    intro c hc
    rw [IntWalk.i64_in _ (by omega)] at hc
    obtain rfl:c=((k+1:Nat):Int):=by omega
    have he:u8L (34::encL (s.data.toList.take (k+1)))=u8L (34::encL (s.data.toList.take k))++[[.u8 37],[.u8 (gdig (s[k].toNat / 16))],[.u8 (gdig (s[k].toNat % 16))]]:=by rw [hsn,ZB0 hp]; simp [u8L]
    refine ⟨g - 1,by omega,k+1,_,by omega,rfl,?_⟩
    rw [he,<- ZBE _ (by omega),<- ZBE _ (by omega)]
    exact .own _ _ _ q0 q1
   have a2:=of_decide_eq_false a2
   refine ZAA (fun a3=>?_) (fun a3=>?_)
   ·have hp:plB (s[k].toNat:Int)=false:=by unfold plB; rw [bne,a3]; simp
    refine .e (by kernel_rfl) ?_
    intro c hc
    rw [IntWalk.i64_in _ (by omega)] at hc
    subst hc
    refine ⟨by decide,?_⟩
    intro c2 hc2
    rw [ZGH _ (by omega)] at hc2
    subst hc2
    refine ⟨s[k].toNat / 16,by show _<16; omega,rfl,?_⟩
    intro c3 hc3
    rw [IntWalk.i64_in _ (by omega)] at hc3
    subst hc3
    refine ⟨by decide,?_⟩
    refine ⟨s[k].toNat % 16,by show _<16; omega,ZF9 _ (by omega),?_⟩
    refine Acc2.app (n:=0) (i:=ti5) (es:=(u8L (34::encL (s.data.toList.take k)))) hA (Nat.zero_le _) (List.cons_ne_nil _ _) ?_ ?_ (fun t e tk' q0 q1 q2 q3=>?_)
    ·show (List.length _+List.length _)*1<=_; simp only [List.length_append,ZAE,List.length_cons,List.length_nil]; omega
    ·show List.length _+List.length _<=9223372036854775807; simp only [List.length_append,ZAE,List.length_cons,List.length_nil]; omega
    intro c hc
    rw [IntWalk.i64_in _ (by omega)] at hc
    obtain rfl:c=((k+1:Nat):Int):=by omega
    have he:u8L (34::encL (s.data.toList.take (k+1)))=u8L (34::encL (s.data.toList.take k))++[[.u8 37],[.u8 (gdig (s[k].toNat / 16))],[.u8 (gdig (s[k].toNat % 16))]]:=by rw [hsn,ZB0 hp]; simp [u8L]
    refine ⟨g - 1,by omega,k+1,_,by omega,rfl,?_⟩
    rw [he,<- ZBE _ (by omega),<- ZBE _ (by omega)]
    exact .own _ _ _ q0 q1
   refine ZAA (fun a4=>?_) (fun a4=>?_)
   ·have hp:plB (s[k].toNat:Int)=false:=by unfold plB; rw [bne,bne,a4]; simp
    refine .e (by kernel_rfl) ?_
    intro c hc
    rw [IntWalk.i64_in _ (by omega)] at hc
    subst hc
    refine ⟨by decide,?_⟩
    intro c2 hc2
    rw [ZGH _ (by omega)] at hc2
    subst hc2
    refine ⟨s[k].toNat / 16,by show _<16; omega,rfl,?_⟩
    intro c3 hc3
    rw [IntWalk.i64_in _ (by omega)] at hc3
    subst hc3
    refine ⟨by decide,?_⟩
    refine ⟨s[k].toNat % 16,by show _<16; omega,ZF9 _ (by omega),?_⟩
    refine Acc2.app (n:=0) (i:=ti5) (es:=(u8L (34::encL (s.data.toList.take k)))) hA (Nat.zero_le _) (List.cons_ne_nil _ _) ?_ ?_ (fun t e tk' q0 q1 q2 q3=>?_)
    ·show (List.length _+List.length _)*1<=_; simp only [List.length_append,ZAE,List.length_cons,List.length_nil]; omega
    ·show List.length _+List.length _<=9223372036854775807; simp only [List.length_append,ZAE,List.length_cons,List.length_nil]; omega
    intro c hc
    rw [IntWalk.i64_in _ (by omega)] at hc
    obtain rfl:c=((k+1:Nat):Int):=by omega
    have he:u8L (34::encL (s.data.toList.take (k+1)))=u8L (34::encL (s.data.toList.take k))++[[.u8 37],[.u8 (gdig (s[k].toNat / 16))],[.u8 (gdig (s[k].toNat % 16))]]:=by rw [hsn,ZB0 hp]; simp [u8L]
    refine ⟨g - 1,by omega,k+1,_,by omega,rfl,?_⟩
    rw [he,<- ZBE _ (by omega),<- ZBE _ (by omega)]
    exact .own _ _ _ q0 q1
   have hp:plB (s[k].toNat:Int)=true:=by unfold plB; rw [bne,bne,a3,a4,decide_eq_true (by omega),decide_eq_true (by omega)]; rfl
   refine Acc2.app (n:=0) (i:=ti5) (es:=(u8L (34::encL (s.data.toList.take k)))) hA (Nat.zero_le _) (List.cons_ne_nil _ _) ?_ ?_ (fun t e tk' q0 q1 q2 q3=>?_)
   ·show (List.length _+List.length _)*1<=_; simp only [List.length_append,ZAE,List.length_cons,List.length_nil]; omega
   ·show List.length _+List.length _<=9223372036854775807; simp only [List.length_append,ZAE,List.length_cons,List.length_nil]; omega
   intro c hc
   rw [IntWalk.i64_in _ (by omega)] at hc
   obtain rfl:c=((k+1:Nat):Int):=by omega
   have he:u8L (34::encL (s.data.toList.take (k+1)))=u8L (34::encL (s.data.toList.take k))++[[.u8 s[k]]]:=by rw [hsn,ZCx hp]; simp [u8L]
   refine ⟨g - 1,by omega,k+1,_,by omega,rfl,?_⟩
   rw [he]
   exact .own _ _ _ q0 q1
  ·have hd:=of_decide_eq_false hd
   obtain rfl:k=s.size:=by omega
   refine Acc2.app (n:=0) (i:=ti5) (es:=(u8L (34::encL (s.data.toList.take s.size)))) hA (Nat.zero_le _) (List.cons_ne_nil _ _) ?_ ?_ (fun t e tk' q0 q1 q2 q3=>?_)
   ·show (List.length _+List.length _)*1<=_; simp only [List.length_append,ZAE,List.length_cons,List.length_nil]; omega
   ·show List.length _+List.length _<=9223372036854775807; simp only [List.length_append,ZAE,List.length_cons,List.length_nil]; omega
   refine ⟨ZAo s,?_,rfl⟩
   rw [ZBT,List.take_of_length_le (by rw [blen]; exact Nat.le_refl _)]
   simp [u8L,ZBR]
end
section
def gvI (b:UInt8):Int:=match gval b with | some k=>(k:Int) | none=>-1
theorem ixG:∀ m:Nat,m<256->Lib.indexByte [48,49,50,51,52,53,54,55,56,57,65,66,67,68,69,70] (UInt8.ofNat m)=gvI (UInt8.ofNat m):=by decide +kernel
theorem ixG_b (b:UInt8):Lib.indexByte hexG.data.toList ((b.toNat:Int).toNat.toUInt8)=gvI b:=by
 have e:((b.toNat:Int).toNat.toUInt8)=UInt8.ofNat b.toNat:=rfl
 have h:=ixG b.toNat b.toNat_lt
 rw [e]
 rw [UInt8.ofNat_toNat] at h ⊢
 exact h
/-- places that are ready, in turn -/
def rdyB (ops:Array Oper) (l:Array Bool) (e:List Nat):Bool:=decide (Region.ready .any ops l=e)
def ordB (ops:Array Oper):Array Bool->List Nat->Bool
 | l,[]=>rdyB ops l []
 | l,j::r=>rdyB ops l [j] && ordB ops (l.setIfInBounds j true) r
def L6:Array Bool:=#[false,false,false,false,false,false]
/-- two loads, each ahead of a call, the calls in turn -/
def pairB (ops:Array Oper):Bool:=decide (ops.size=6) && (rdyB ops L6 [0,2] && (rdyB ops (L6.setIfInBounds 0 true) [1,2] && (ordB ops ((L6.setIfInBounds 0 true).setIfInBounds 1 true) [2,3,4,5] && (ordB ops ((L6.setIfInBounds 0 true).setIfInBounds 2 true) [1,3,4,5] && ordB ops (L6.setIfInBounds 2 true) [0,1,3,4,5]))))
section
variable {P:Program} {T:Tab} {ops:Array Oper} {K:Fr->St->Prop}
def ZFK (P:Program) (T:Tab) (ops:Array Oper) (K:Fr->St->Prop):List Nat->Fr->St->Prop
 | [],fr,st=>K fr st
 | j::r,fr,st=>match ops[j]? with
  | some o=>ZCZ P T ops o fr st fun fr' st'=>ZFK P T ops K r fr' st'
  | none=>False
theorem ZE2:∀ (js:List Nat) (n:Nat) (l:Array Bool) (fr:Fr) (st:St),ordB ops l js=true->js.length<=n->ZFK P T ops K js fr st->ZBv P T ops K n l fr st
 | [],_,_,_,_,h,_,hc=>ZNd (of_decide_eq_true h) hc
 | j::r,0,_,_,_,_,hn,_=>absurd hn (by simp)
 | j::r,n+1,l,fr,st,h,hn,hc=>by
  have h:(rdyB ops l [j] && ordB ops (l.setIfInBounds j true) r)=true:=h
  rw [Bool.and_eq_true] at h
  unfold ZFK at hc
  split at hc
  ·rename_i o ho
   exact vcAny_one (of_decide_eq_true h.1) ho (ZAz (fun v st' hk=>ZE2 r n _ _ _ h.2 (by simp only [List.length_cons] at hn; omega) hk) hc)
  ·exact hc.elim
theorem ZHa {j:Nat} {r:List Nat} {fr:Fr} {st:St} (h:ZFK P T ops K (j::r) fr st):∃ o,ops[j]? = some o/\ZCZ P T ops o fr st fun fr' st'=>ZFK P T ops K r fr' st':=by
 unfold ZFK at h
 split at h
 ·rename_i o ho
  exact ⟨o,ho,h⟩
 ·exact h.elim
theorem ZJG {fr:Fr} {st:St} (hb:pairB ops=true) (h1:∃ o,ops[0]? = some o/\ZCZ P T ops o fr st fun fr' st'=>ZFK P T ops K [1,2,3,4,5] fr' st'/\ZFK P T ops K [2,1,3,4,5] fr' st')
  (h2:ZFK P T ops K [2,0,1,3,4,5] fr st):ZBv P T ops K ops.size (Array.replicate ops.size false) fr st:=by
 unfold pairB at hb
 simp only [Bool.and_eq_true] at hb
 obtain ⟨b0,b1,b2,b3,b4,b5⟩:=hb
 have b0:=of_decide_eq_true b0
 rw [b0]
 have hl:Array.replicate 6 false=L6:=rfl
 rw [hl]
 obtain ⟨o,ho,h1⟩:=h1
 obtain ⟨o2,ho2,h2⟩:=ZHa h2
 refine ZKO (of_decide_eq_true b1) ho ho2 (ZAz (fun v st' hk=>?_) h1) (ZAz (fun v st' hk=>ZE2 _ 5 _ _ _ b5 (by decide) hk) h2)
 obtain ⟨o1,ho1,k1⟩:=ZHa hk.1
 obtain ⟨o3,ho3,k2⟩:=ZHa hk.2
 exact ZKO (of_decide_eq_true b2) ho1 ho3 (ZAz (fun v st' hk=>ZE2 _ 4 _ _ _ b3 (by decide) hk) k1) (ZAz (fun v st' hk=>ZE2 _ 4 _ _ _ b4 (by decide) hk) k2)
end
section
variable {st:St} {R:AV->St->Prop} {p k n:Nat} {s:ByteArray}
theorem ZCB (h:Sc st p s k) (hn:n<=st.tk.length)
  (h1:∀ i,(s.data.toList[k]?).bind gval=some i->∀ st',Mv n (·=p) st st'->Sc st' p s (k+1)->R (.i (i:Int)) st')
  (h2:(s.data.toList[k]?).bind gval=none->∀ st' j,Mv n (·=p) st st'->k<=j->Sc st' p s j->R (.i (-1)) st'):ZAB Tryz.prog 49 [.agg [.ptr p 0]] st R:=by
 have hlt:=ZBC h.at'
 have hc:∀ x,Sc ⟨st.heap++[x],st.tk⟩ p s k:=fun x=>⟨ap h.at',h.le,h.max⟩
 have m0:∀ x,Mv n (·=p) st ⟨st.heap++[x],st.tk⟩:=fun x=>(Mv.refl hn).alloc x
 have hp0:∀ C:Prop,(st.heap.length=p->C):=fun C e=>by omega
 refine ZAB.of_vc T_ok mixed Tryz.func49 rfl Tryz.call49 ?_
 refine ⟨hlt,?_⟩
 refine ⟨_,ZAK _ _,?_⟩
 refine .s (ZMy (hc _) (fun hk=>?_) (fun hk=>?_))
 ·have hx:=ZEn hexG (s[k].toNat:Int)
  rw [ixG_b] at hx
  refine .p rfl hx ?_
  refine ⟨_,ZAK _ _,?_⟩
  refine .s (ZCk (hc _) hn _ (fun e st' m hs=>?_) (fun e _ st' m hs=>?_))
  ·rw [ZAj hk] at e
   exact absurd rfl (beq_eq_false_iff_ne.1 e)
  ·have m':=(m0 _).trans m (fun q _ e=>e)
   have hat:s.data.toList[k]? = some s[k]:=ZDp hk
   rw [hat] at h1 h2
   cases hg:gval s[k] with
   | some i =>
    have e1:gvI s[k]=(i:Int):=by unfold gvI; rw [hg]
    rw [e1]
    exact h1 i hg st' m' hs
   | none =>
    have e1:gvI s[k]=-1:=by unfold gvI; rw [hg]
    rw [e1]
    exact h2 hg st' (k+1) m' (by omega) hs
 ·have hx:=ZEn hexG 0
  rw [show Lib.indexByte hexG.data.toList ((0:Int).toNat.toUInt8)=-1 by decide +kernel] at hx
  refine .p rfl hx ?_
  refine ⟨_,ZAK _ _,?_⟩
  have hat:s.data.toList[k]? = none:=List.getElem?_eq_none (by rw [blen]; exact hk)
  rw [hat] at h2
  refine .s (ZCk (hc _) hn _ (fun e st' m hs=>?_) (fun e hk2 st' m hs=>?_))
  ·exact h2 rfl st' k ((m0 _).trans m (fun q _ e=>e)) (Nat.le_refl _) hs
  ·omega
end
section
variable {st:St} {R:AV->St->Prop} {p k n:Nat} {s:ByteArray}
/-- a text, behind a row of bytes -/
theorem Acc.appT {n:Nat} {a:AV} {l:List UInt8} {x:ByteArray} {i:TI} {K:AV->St->Prop} (hi:i.size=1) (hbt:i.bytes=1) (h:Acc n st.tk 1 a (u8L l)) (hn:n<=st.tk.length) (hb:l.length+x.size<=140737488355328)
  (hK0:a=.nilS->x.size=0->K .nilS st) (hK:∀ t e tk',n<=t->tk'[t]? = some e->n<=tk'.length->(∀ q,q<n->tk'[q]? = st.tk[q]?)->K (.sl (.own t e) 1 (u8L (l++x.data.toList))) ⟨st.heap,tk'⟩):ZAn i a (.s x) st K:=by
 have h0:Acc 0 st.tk 1 a (u8L l):=by
  generalize u8L l=es at h ⊢
  cases h with
  | nil=>exact .nil
  | own t e es h1 h2=>exact .own t e _ (Nat.zero_le _) h2
 rcases h.form with rfl | ⟨t,e,rfl⟩
 ·refine Acc.appS hi hbt h0 hb (fun hz _=>hK0 rfl hz) (fun t e tk' q0 q1 q2 q3=>?_)
  rcases q2 with q2 | ⟨_,rfl⟩
  ·cases q2
  ·exact hK _ e tk' hn q0 (by omega) (fun q hq=>q3 q (by omega) (by omega))
 ·have ht:n<=t:=by
   generalize hes:u8L l=es at h
   cases h with
   | own t e es h1 h2=>exact h1
  refine Acc.appS hi hbt h0 hb (fun hz ht'=>by cases ht') (fun t' e' tk' q0 q1 q2 q3=>?_)
  rcases q2 with q2 | ⟨q2,_⟩
  ·cases q2
   exact hK _ e' tk' ht q0 (by omega) (fun q hq=>q3 q (by omega) (by omega))
  ·cases q2
attribute [local irreducible] ZAn
theorem Acc.mvT {n sz:Nat} {a b:St} {C:Nat->Prop} {x:AV} {es:List (List AV)} (h:Acc n a.tk sz x es) (m:Mv a.tk.length C a b):Acc n b.tk sz x es:=by
 cases h with
 | nil=>exact .nil
 | own t e es h1 h2=>exact .own t e _ h1 ((m.tk t (List.getElem?_eq_some_iff.1 h2).1).trans h2)
theorem shl4:∀ m:Nat,m<16->IntKind.i64.wrap ((m:Int)*2 ^ min (4:Int).toNat IntKind.i64.bits)=((m*16:Nat):Int):=by decide +kernel
theorem ZDq (m:Nat) (h:m<256):IntKind.u8.wrap (m:Int)=(m:Int):=by
 show (m:Int) % 256=_
 omega
set_option maxHeartbeats 1000000 in
theorem coded_m (h:Sc st p s k) (hn:n<=st.tk.length) (hz:s.size<=1099511627776)
  (h1:ZDH s k=none->∀ st',Mv n (·=p) st st'->(∃ j,k<=j/\Sc st' p s j)->R (.tup [.s ⟨#[]⟩,.b false]) st')
  (h2:∀ v j,ZDH s k=some (v,j)->∀ st',Mv n (·=p) st st'->Sc st' p s j->R (.tup [.s v,.b true]) st'):ZAB Tryz.prog 20 [.agg [.ptr p 0]] st R:=by
 have hmx:maxLen=9223372036854775807:=rfl
 have hlt:=ZBC h.at'
 have hc:∀ x,Sc ⟨st.heap++[x],st.tk⟩ p s k:=fun x=>⟨ap h.at',h.le,h.max⟩
 have m0:∀ x,Mv n (·=p) st ⟨st.heap++[x],st.tk⟩:=fun x=>(Mv.refl hn).alloc x
 refine ZAB.of_vc T_ok mixed Tryz.func20 rfl Tryz.call20 ?_
 refine ⟨hlt,?_⟩
 refine ⟨_,ZAK _ _,?_⟩
 refine .s (ZCk (hc _) hn 34 (fun e st' m hs=>?_) (fun e hk st' m hs=>?_))
 ·refine h1 ?_ st' ((m0 _).trans m (fun q _ e=>e)) ⟨k,Nat.le_refl _,hs⟩
  unfold ZDH
  rw [if_neg (by rw [e]; decide)]
 have hcode:decS s (k+1) []=none->ZDH s k=none:=fun hd=>by unfold ZDH; rw [if_pos e,hd]; rfl
 have hcode2:∀ w j,decS s (k+1) []=some (w,j)->ZDH s k=some (⟨w.toArray⟩,j):=fun w j hd=>by unfold ZDH; rw [if_pos e,hd]; rfl
 have hb0:=m.at' (ZAK st.heap _) (fun e=>by omega)
 have M:=(m0 [.ptr p 0]).trans m (fun q _ e=>e)
 refine ZAF [4] (fun g vals st2=>∃ (j:Nat) (acc:List UInt8) (a:AV),j+g=s.size/\vals=[a]/\k+1<=j/\acc.length<=j/\Mv n (·=p) st st2/\st2.heap[st.heap.length]? = some [.ptr p 0]/\Sc st2 p s j/\Acc n st2.tk 1 a (u8L acc)/\decS s (k+1) []=decS s j acc) (s.size - (k+1)) rfl ⟨k+1,[],.nilS,by omega,rfl,Nat.le_refl _,Nat.zero_le _,M,hb0,hs,.nil,rfl⟩ ?_
 rintro g vals st2 ⟨j,acc,a,hj,rfl,hkj,haj,M2,hb2,hs2,hA2,hdec0⟩
 have hjl:=ZCR plB s j hs2.le
 have hrun:=ZMn (s:=s) (tw plB s j) j acc (fun i hi q1 q2=>tw_all i hi q1 q2) hjl
 have hstop:∀ hq:j+tw plB s j<s.size,plB (s[j+tw plB s j].toNat:Int)=false:=fun hq=>tw_stop hq
 obtain ⟨j9,hj9⟩:∃ j9,j+tw plB s j=j9:=⟨_,rfl⟩
 have hjj:j<=j9:=by omega
 simp only [hj9] at hrun hstop hjl
 have hxs:(s.extract j j9).size=j9 - j:=by rw [ByteArray.size_extract]; omega
 rcases hA2.form with rfl | ⟨t0,e9,rfl⟩
 ·refine ⟨_,hb2,?_⟩
  refine .s (ZIt (n:=st2.tk.length) ZB6 hs2 (Nat.le_refl _) hj9 (fun st3 m3 hs3=>?_))
  have hA3:=hA2.mvT m3
  have hb3:=m3.at' hb2 (fun e=>by omega)
  have M3:=M2.trans (m3.mono M2.tl) (fun q _ e=>e)
  refine Acc.appT (n:=n) rfl rfl hA3 M3.tl (by omega) (fun _ hz0=>?_) (fun t e tk' q0 q1 q2 q3=>?_)
  ·have hA4:=hA3
   have hb4:=hb3
   have hs4:=hs3
   have M4:=M3
   have hex:(s.extract j j9).data.toList=[]:=List.eq_nil_of_length_eq_zero (by rw [blen]; exact hz0)
   have hdec9:decS s (k+1) []=decS s j9 acc:=by rw [hex,List.append_nil] at hrun; exact hdec0.trans hrun
   have hl9:acc.length<=j9:=by omega
   have hac:acc=[]:=by
    have hl:=ZAE acc
    generalize hes:u8L acc=es at hA2 hl
    cases hA2
    exact List.eq_nil_of_length_eq_zero hl.symm
   refine ⟨_,hb4,?_⟩
   refine .s (ZCk (n:=st3.tk.length) hs4 (Nat.le_refl _) 34 (fun e34 st5 m5 hs5=>?_) (fun e34 hk34 st5 m5 hs5=>?_))
   rotate_left
   ·have hf:decS s (k+1) []=some (acc,j9+1):=by rw [hdec9,ZKn e34]
    rw [hac] at hf
    exact h2 _ _ (hcode2 _ _ hf) st5 (M4.trans (m5.mono M4.tl) (fun q _ e=>e)) hs5
   have hb5:=m5.at' hb4 (fun e=>by omega)
   have M5:=M4.trans (m5.mono M4.tl) (fun q _ e=>e)
   have hA5:=hA4.mvT m5
   refine ⟨_,hb5,?_⟩
   refine .s (ZCk (n:=st5.tk.length) hs5 (Nat.le_refl _) 37 (fun e37 st6 m6 hs6=>?_) (fun e37 hk37 st6 m6 hs6=>?_))
   ·have hf:decS s (k+1) []=none:=by rw [hdec9,ZGq e34 hstop e37]
    exact h1 (hcode hf) st6 (M5.trans (m6.mono M5.tl) (fun q _ e=>e)) ⟨j9,by omega,hs6⟩
   have hb6:=m6.at' hb5 (fun e=>by omega)
   have M6:=M5.trans (m6.mono M5.tl) (fun q _ e=>e)
   have hA6:=hA5.mvT m6
   have hpc:decS s (k+1) []=_:=hdec9.trans (ZHe (acc:=acc) e37)
   refine .any (ZJG (by kernel_rfl) ⟨_,rfl,?_⟩ ?_)
   ·refine ⟨_,hb6,?_⟩
    refine ⟨?_,?_⟩
    ·skip
     refine .s (ZCB (n:=st6.tk.length) hs6 (Nat.le_refl _) (fun i1 hi1 st7 m7 hs7=>?_) (fun hno1 st7 j7 m7 hj7 hs7=>?_))
     ·have hb7:=m7.at' hb6 (fun e=>by omega)
      have M7:=M6.trans (m7.mono M6.tl) (fun q _ e=>e)
      have hA7:=hA6.mvT m7
      refine ⟨_,hb7,?_⟩
      refine .s (ZCB (n:=st7.tk.length) hs7 (Nat.le_refl _) (fun i2 hi2 st8 m8 hs8=>?_) (fun hno st8 j8 m8 hj8 hs8=>?_))
      ·skip
       skip
       have hi1b:i1<16:=by obtain ⟨x,_,hx⟩:=Option.bind_eq_some_iff.1 hi1; exact ZA4 hx
       have hi2b:i2<16:=by obtain ⟨x,_,hx⟩:=Option.bind_eq_some_iff.1 hi2; exact ZA4 hx
       have hj2:j9+2<s.size:=by
        obtain ⟨x,hx,_⟩:=Option.bind_eq_some_iff.1 hi2
        have:=(List.getElem?_eq_some_iff.1 hx).1
        rw [blen] at this
        exact this
       refine ⟨by decide,?_⟩
       intro c hc
       rw [shl4 _ hi1b] at hc
       subst hc
       intro c2 hc2
       rw [IntWalk.i64_in _ (by omega)] at hc2
       obtain rfl:c2=((i1*16+i2:Nat):Int):=by omega
       intro c3 hc3
       rw [ZDq _ (by omega)] at hc3
       subst hc3
       refine .p rfl (ZB6 _ (by omega) (by omega)) ?_
       have M8:=M7.trans (m8.mono M7.tl) (fun q _ e=>e)
       refine ZAA (fun hp=>?_) (fun hp=>?_)
       ·have hf:decS s (k+1) []=none:=by rw [hpc,hi1,hi2]; simp only [hp,if_true]
        exact h1 (hcode hf) st8 M8 ⟨_,by omega,hs8⟩
       ·have hf:decS s (k+1) []=decS s (j9+3) (acc++[UInt8.ofNat (i1*16+i2)]):=by rw [hpc,hi1,hi2]; simp only [hp,Bool.false_eq_true,if_false]
        refine ⟨by decide,?_⟩
        intro c hc
        rw [shl4 _ hi1b] at hc
        subst hc
        intro c2 hc2
        rw [IntWalk.i64_in _ (by omega)] at hc2
        obtain rfl:c2=((i1*16+i2:Nat):Int):=by omega
        intro c3 hc3
        rw [ZDq _ (by omega)] at hc3
        subst hc3
        have hb8:=m8.at' hb7 (fun e=>by omega)
        have hA8:=hA7.mvT m8
        have hu8:AV.int .u8 ((i1*16+i2:Nat):Int)=.u8 (UInt8.ofNat (i1*16+i2)):=by
         show AV.lit (.int .u8 _)=AV.lit (.int .u8 _)
         rw [UInt8.toNat_ofNat_of_lt' (show i1*16+i2<UInt8.size by show _<256; omega)]
        refine Acc.app (n:=n) (i:=ti5) hA8 M8.tl (List.cons_ne_nil _ _) ?_ ?_ (fun t9 e9 tk9 q0 q1 q2 q3=>?_)
        ·show (List.length _+1)*1<=_; rw [ZAE]; omega
        ·show List.length _+1<=9223372036854775807; rw [ZAE]; omega
        refine ⟨s.size - (j9+3),by omega,j9+3,acc++[UInt8.ofNat (i1*16+i2)],_,by omega,rfl,by omega,by rw [List.length_append]; show _+1<=_; omega,M8.tks q2 q3,hb8,⟨hs8.at',hs8.le,hs8.max⟩,?_,hf⟩
        have hul:u8L (acc++[UInt8.ofNat (i1*16+i2)])=u8L acc++[[AV.int .u8 ((i1*16+i2:Nat):Int)]]:=by rw [hu8]; simp [u8L]
        rw [hul]
        exact .own _ _ _ q0 q1
      ·skip
       skip
       have hf:decS s (k+1) []=none:=by rw [hpc]; rw [hi1,hno]
       exact h1 (hcode hf) st8 (M7.trans (m8.mono M7.tl) (fun q _ e=>e)) ⟨j8,by omega,hs8⟩
     ·have hb7:=m7.at' hb6 (fun e=>by omega)
      have M7:=M6.trans (m7.mono M6.tl) (fun q _ e=>e)
      refine ⟨_,hb7,?_⟩
      refine .s (ZCB (n:=st7.tk.length) hs7 (Nat.le_refl _) (fun i2 hi2 st8 m8 hs8=>?_) (fun hno st8 j8 m8 hj8 hs8=>?_))
      ·skip
       skip
       have hf:decS s (k+1) []=none:=by rw [hpc]; rw [hno1]
       exact h1 (hcode hf) st8 (M7.trans (m8.mono M7.tl) (fun q _ e=>e)) ⟨_,by omega,hs8⟩
      ·skip
       skip
       have hf:decS s (k+1) []=none:=by rw [hpc]; rw [hno1]
       exact h1 (hcode hf) st8 (M7.trans (m8.mono M7.tl) (fun q _ e=>e)) ⟨j8,by omega,hs8⟩
    ·refine ⟨_,hb6,?_⟩
     refine .s (ZCB (n:=st6.tk.length) hs6 (Nat.le_refl _) (fun i1 hi1 st7 m7 hs7=>?_) (fun hno1 st7 j7 m7 hj7 hs7=>?_))
     ·have hb7:=m7.at' hb6 (fun e=>by omega)
      have M7:=M6.trans (m7.mono M6.tl) (fun q _ e=>e)
      have hA7:=hA6.mvT m7
      skip
      refine .s (ZCB (n:=st7.tk.length) hs7 (Nat.le_refl _) (fun i2 hi2 st8 m8 hs8=>?_) (fun hno st8 j8 m8 hj8 hs8=>?_))
      ·skip
       skip
       have hi1b:i1<16:=by obtain ⟨x,_,hx⟩:=Option.bind_eq_some_iff.1 hi1; exact ZA4 hx
       have hi2b:i2<16:=by obtain ⟨x,_,hx⟩:=Option.bind_eq_some_iff.1 hi2; exact ZA4 hx
       have hj2:j9+2<s.size:=by
        obtain ⟨x,hx,_⟩:=Option.bind_eq_some_iff.1 hi2
        have:=(List.getElem?_eq_some_iff.1 hx).1
        rw [blen] at this
        exact this
       refine ⟨by decide,?_⟩
       intro c hc
       rw [shl4 _ hi1b] at hc
       subst hc
       intro c2 hc2
       rw [IntWalk.i64_in _ (by omega)] at hc2
       obtain rfl:c2=((i1*16+i2:Nat):Int):=by omega
       intro c3 hc3
       rw [ZDq _ (by omega)] at hc3
       subst hc3
       refine .p rfl (ZB6 _ (by omega) (by omega)) ?_
       have M8:=M7.trans (m8.mono M7.tl) (fun q _ e=>e)
       refine ZAA (fun hp=>?_) (fun hp=>?_)
       ·have hf:decS s (k+1) []=none:=by rw [hpc,hi1,hi2]; simp only [hp,if_true]
        exact h1 (hcode hf) st8 M8 ⟨_,by omega,hs8⟩
       ·have hf:decS s (k+1) []=decS s (j9+3) (acc++[UInt8.ofNat (i1*16+i2)]):=by rw [hpc,hi1,hi2]; simp only [hp,Bool.false_eq_true,if_false]
        refine ⟨by decide,?_⟩
        intro c hc
        rw [shl4 _ hi1b] at hc
        subst hc
        intro c2 hc2
        rw [IntWalk.i64_in _ (by omega)] at hc2
        obtain rfl:c2=((i1*16+i2:Nat):Int):=by omega
        intro c3 hc3
        rw [ZDq _ (by omega)] at hc3
        subst hc3
        have hb8:=m8.at' hb7 (fun e=>by omega)
        have hA8:=hA7.mvT m8
        have hu8:AV.int .u8 ((i1*16+i2:Nat):Int)=.u8 (UInt8.ofNat (i1*16+i2)):=by
         show AV.lit (.int .u8 _)=AV.lit (.int .u8 _)
         rw [UInt8.toNat_ofNat_of_lt' (show i1*16+i2<UInt8.size by show _<256; omega)]
        refine Acc.app (n:=n) (i:=ti5) hA8 M8.tl (List.cons_ne_nil _ _) ?_ ?_ (fun t9 e9 tk9 q0 q1 q2 q3=>?_)
        ·show (List.length _+1)*1<=_; rw [ZAE]; omega
        ·show List.length _+1<=9223372036854775807; rw [ZAE]; omega
        refine ⟨s.size - (j9+3),by omega,j9+3,acc++[UInt8.ofNat (i1*16+i2)],_,by omega,rfl,by omega,by rw [List.length_append]; show _+1<=_; omega,M8.tks q2 q3,hb8,⟨hs8.at',hs8.le,hs8.max⟩,?_,hf⟩
        have hul:u8L (acc++[UInt8.ofNat (i1*16+i2)])=u8L acc++[[AV.int .u8 ((i1*16+i2:Nat):Int)]]:=by rw [hu8]; simp [u8L]
        rw [hul]
        exact .own _ _ _ q0 q1
      ·skip
       skip
       have hf:decS s (k+1) []=none:=by rw [hpc]; rw [hi1,hno]
       exact h1 (hcode hf) st8 (M7.trans (m8.mono M7.tl) (fun q _ e=>e)) ⟨j8,by omega,hs8⟩
     ·have hb7:=m7.at' hb6 (fun e=>by omega)
      have M7:=M6.trans (m7.mono M6.tl) (fun q _ e=>e)
      skip
      refine .s (ZCB (n:=st7.tk.length) hs7 (Nat.le_refl _) (fun i2 hi2 st8 m8 hs8=>?_) (fun hno st8 j8 m8 hj8 hs8=>?_))
      ·skip
       skip
       have hf:decS s (k+1) []=none:=by rw [hpc]; rw [hno1]
       exact h1 (hcode hf) st8 (M7.trans (m8.mono M7.tl) (fun q _ e=>e)) ⟨_,by omega,hs8⟩
      ·skip
       skip
       have hf:decS s (k+1) []=none:=by rw [hpc]; rw [hno1]
       exact h1 (hcode hf) st8 (M7.trans (m8.mono M7.tl) (fun q _ e=>e)) ⟨j8,by omega,hs8⟩
   ·refine ⟨_,hb6,?_⟩
    refine ⟨_,hb6,?_⟩
    refine .s (ZCB (n:=st6.tk.length) hs6 (Nat.le_refl _) (fun i1 hi1 st7 m7 hs7=>?_) (fun hno1 st7 j7 m7 hj7 hs7=>?_))
    ·have hb7:=m7.at' hb6 (fun e=>by omega)
     have M7:=M6.trans (m7.mono M6.tl) (fun q _ e=>e)
     have hA7:=hA6.mvT m7
     skip
     refine .s (ZCB (n:=st7.tk.length) hs7 (Nat.le_refl _) (fun i2 hi2 st8 m8 hs8=>?_) (fun hno st8 j8 m8 hj8 hs8=>?_))
     ·skip
      skip
      have hi1b:i1<16:=by obtain ⟨x,_,hx⟩:=Option.bind_eq_some_iff.1 hi1; exact ZA4 hx
      have hi2b:i2<16:=by obtain ⟨x,_,hx⟩:=Option.bind_eq_some_iff.1 hi2; exact ZA4 hx
      have hj2:j9+2<s.size:=by
       obtain ⟨x,hx,_⟩:=Option.bind_eq_some_iff.1 hi2
       have:=(List.getElem?_eq_some_iff.1 hx).1
       rw [blen] at this
       exact this
      refine ⟨by decide,?_⟩
      intro c hc
      rw [shl4 _ hi1b] at hc
      subst hc
      intro c2 hc2
      rw [IntWalk.i64_in _ (by omega)] at hc2
      obtain rfl:c2=((i1*16+i2:Nat):Int):=by omega
      intro c3 hc3
      rw [ZDq _ (by omega)] at hc3
      subst hc3
      refine .p rfl (ZB6 _ (by omega) (by omega)) ?_
      have M8:=M7.trans (m8.mono M7.tl) (fun q _ e=>e)
      refine ZAA (fun hp=>?_) (fun hp=>?_)
      ·have hf:decS s (k+1) []=none:=by rw [hpc,hi1,hi2]; simp only [hp,if_true]
       exact h1 (hcode hf) st8 M8 ⟨_,by omega,hs8⟩
      ·have hf:decS s (k+1) []=decS s (j9+3) (acc++[UInt8.ofNat (i1*16+i2)]):=by rw [hpc,hi1,hi2]; simp only [hp,Bool.false_eq_true,if_false]
       refine ⟨by decide,?_⟩
       intro c hc
       rw [shl4 _ hi1b] at hc
       subst hc
       intro c2 hc2
       rw [IntWalk.i64_in _ (by omega)] at hc2
       obtain rfl:c2=((i1*16+i2:Nat):Int):=by omega
       intro c3 hc3
       rw [ZDq _ (by omega)] at hc3
       subst hc3
       have hb8:=m8.at' hb7 (fun e=>by omega)
       have hA8:=hA7.mvT m8
       have hu8:AV.int .u8 ((i1*16+i2:Nat):Int)=.u8 (UInt8.ofNat (i1*16+i2)):=by
        show AV.lit (.int .u8 _)=AV.lit (.int .u8 _)
        rw [UInt8.toNat_ofNat_of_lt' (show i1*16+i2<UInt8.size by show _<256; omega)]
       refine Acc.app (n:=n) (i:=ti5) hA8 M8.tl (List.cons_ne_nil _ _) ?_ ?_ (fun t9 e9 tk9 q0 q1 q2 q3=>?_)
       ·show (List.length _+1)*1<=_; rw [ZAE]; omega
       ·show List.length _+1<=9223372036854775807; rw [ZAE]; omega
       refine ⟨s.size - (j9+3),by omega,j9+3,acc++[UInt8.ofNat (i1*16+i2)],_,by omega,rfl,by omega,by rw [List.length_append]; show _+1<=_; omega,M8.tks q2 q3,hb8,⟨hs8.at',hs8.le,hs8.max⟩,?_,hf⟩
       have hul:u8L (acc++[UInt8.ofNat (i1*16+i2)])=u8L acc++[[AV.int .u8 ((i1*16+i2:Nat):Int)]]:=by rw [hu8]; simp [u8L]
       rw [hul]
       exact .own _ _ _ q0 q1
     ·skip
      skip
      have hf:decS s (k+1) []=none:=by rw [hpc]; rw [hi1,hno]
      exact h1 (hcode hf) st8 (M7.trans (m8.mono M7.tl) (fun q _ e=>e)) ⟨j8,by omega,hs8⟩
    ·have hb7:=m7.at' hb6 (fun e=>by omega)
     have M7:=M6.trans (m7.mono M6.tl) (fun q _ e=>e)
     skip
     refine .s (ZCB (n:=st7.tk.length) hs7 (Nat.le_refl _) (fun i2 hi2 st8 m8 hs8=>?_) (fun hno st8 j8 m8 hj8 hs8=>?_))
     ·skip
      skip
      have hf:decS s (k+1) []=none:=by rw [hpc]; rw [hno1]
      exact h1 (hcode hf) st8 (M7.trans (m8.mono M7.tl) (fun q _ e=>e)) ⟨_,by omega,hs8⟩
     ·skip
      skip
      have hf:decS s (k+1) []=none:=by rw [hpc]; rw [hno1]
      exact h1 (hcode hf) st8 (M7.trans (m8.mono M7.tl) (fun q _ e=>e)) ⟨j8,by omega,hs8⟩
  ·skip
   have hA4:Acc n tk' 1 (.sl (.own t e) 1 (u8L (acc++(s.extract j j9).data.toList))) (u8L (acc++(s.extract j j9).data.toList)):=.own _ _ _ q0 q1
   have hb4:(⟨st3.heap,tk'⟩:St).heap[st.heap.length]? = some [.ptr p 0]:=hb3
   have hs4:Sc ⟨st3.heap,tk'⟩ p s j9:=⟨hs3.at',hs3.le,hs3.max⟩
   have M4:Mv n (·=p) st ⟨st3.heap,tk'⟩:=M3.tks q2 (fun q hq=>(q3 q hq))
   have hdec9:decS s (k+1) []=decS s j9 (acc++(s.extract j j9).data.toList):=hdec0.trans hrun
   have hl9:(acc++(s.extract j j9).data.toList).length<=j9:=by rw [List.length_append,blen,hxs]; omega
   refine ⟨_,hb4,?_⟩
   refine .s (ZCk (n:=(⟨st3.heap,tk'⟩:St).tk.length) hs4 (Nat.le_refl _) 34 (fun e34 st5 m5 hs5=>?_) (fun e34 hk34 st5 m5 hs5=>?_))
   rotate_left
   ·have hf:decS s (k+1) []=some ((acc++(s.extract j j9).data.toList),j9+1):=by rw [hdec9,ZKn e34]
    refine ⟨⟨(acc++(s.extract j j9).data.toList).toArray⟩,?_,?_⟩
    ·show _=(List.toArray _).toList.map _
     rw [List.toList_toArray]
     rfl
    ·exact h2 _ _ (hcode2 _ _ hf) st5 (M4.trans (m5.mono M4.tl) (fun q _ e=>e)) hs5
   have hb5:=m5.at' hb4 (fun e=>by omega)
   have M5:=M4.trans (m5.mono M4.tl) (fun q _ e=>e)
   have hA5:=hA4.mvT m5
   refine ⟨_,hb5,?_⟩
   refine .s (ZCk (n:=st5.tk.length) hs5 (Nat.le_refl _) 37 (fun e37 st6 m6 hs6=>?_) (fun e37 hk37 st6 m6 hs6=>?_))
   ·have hf:decS s (k+1) []=none:=by rw [hdec9,ZGq e34 hstop e37]
    exact h1 (hcode hf) st6 (M5.trans (m6.mono M5.tl) (fun q _ e=>e)) ⟨j9,by omega,hs6⟩
   have hb6:=m6.at' hb5 (fun e=>by omega)
   have M6:=M5.trans (m6.mono M5.tl) (fun q _ e=>e)
   have hA6:=hA5.mvT m6
   have hpc:decS s (k+1) []=_:=hdec9.trans (ZHe (acc:=(acc++(s.extract j j9).data.toList)) e37)
   refine .any (ZJG (by kernel_rfl) ⟨_,rfl,?_⟩ ?_)
   ·refine ⟨_,hb6,?_⟩
    refine ⟨?_,?_⟩
    ·skip
     refine .s (ZCB (n:=st6.tk.length) hs6 (Nat.le_refl _) (fun i1 hi1 st7 m7 hs7=>?_) (fun hno1 st7 j7 m7 hj7 hs7=>?_))
     ·have hb7:=m7.at' hb6 (fun e=>by omega)
      have M7:=M6.trans (m7.mono M6.tl) (fun q _ e=>e)
      have hA7:=hA6.mvT m7
      refine ⟨_,hb7,?_⟩
      refine .s (ZCB (n:=st7.tk.length) hs7 (Nat.le_refl _) (fun i2 hi2 st8 m8 hs8=>?_) (fun hno st8 j8 m8 hj8 hs8=>?_))
      ·skip
       skip
       have hi1b:i1<16:=by obtain ⟨x,_,hx⟩:=Option.bind_eq_some_iff.1 hi1; exact ZA4 hx
       have hi2b:i2<16:=by obtain ⟨x,_,hx⟩:=Option.bind_eq_some_iff.1 hi2; exact ZA4 hx
       have hj2:j9+2<s.size:=by
        obtain ⟨x,hx,_⟩:=Option.bind_eq_some_iff.1 hi2
        have:=(List.getElem?_eq_some_iff.1 hx).1
        rw [blen] at this
        exact this
       refine ⟨by decide,?_⟩
       intro c hc
       rw [shl4 _ hi1b] at hc
       subst hc
       intro c2 hc2
       rw [IntWalk.i64_in _ (by omega)] at hc2
       obtain rfl:c2=((i1*16+i2:Nat):Int):=by omega
       intro c3 hc3
       rw [ZDq _ (by omega)] at hc3
       subst hc3
       refine .p rfl (ZB6 _ (by omega) (by omega)) ?_
       have M8:=M7.trans (m8.mono M7.tl) (fun q _ e=>e)
       refine ZAA (fun hp=>?_) (fun hp=>?_)
       ·have hf:decS s (k+1) []=none:=by rw [hpc,hi1,hi2]; simp only [hp,if_true]
        exact h1 (hcode hf) st8 M8 ⟨_,by omega,hs8⟩
       ·have hf:decS s (k+1) []=decS s (j9+3) ((acc++(s.extract j j9).data.toList)++[UInt8.ofNat (i1*16+i2)]):=by rw [hpc,hi1,hi2]; simp only [hp,Bool.false_eq_true,if_false]
        refine ⟨by decide,?_⟩
        intro c hc
        rw [shl4 _ hi1b] at hc
        subst hc
        intro c2 hc2
        rw [IntWalk.i64_in _ (by omega)] at hc2
        obtain rfl:c2=((i1*16+i2:Nat):Int):=by omega
        intro c3 hc3
        rw [ZDq _ (by omega)] at hc3
        subst hc3
        have hb8:=m8.at' hb7 (fun e=>by omega)
        have hA8:=hA7.mvT m8
        have hu8:AV.int .u8 ((i1*16+i2:Nat):Int)=.u8 (UInt8.ofNat (i1*16+i2)):=by
         show AV.lit (.int .u8 _)=AV.lit (.int .u8 _)
         rw [UInt8.toNat_ofNat_of_lt' (show i1*16+i2<UInt8.size by show _<256; omega)]
        refine Acc.app (n:=n) (i:=ti5) hA8 M8.tl (List.cons_ne_nil _ _) ?_ ?_ (fun t9 e9 tk9 q0 q1 q2 q3=>?_)
        ·show (List.length _+1)*1<=_; rw [ZAE]; omega
        ·show List.length _+1<=9223372036854775807; rw [ZAE]; omega
        refine ⟨s.size - (j9+3),by omega,j9+3,(acc++(s.extract j j9).data.toList)++[UInt8.ofNat (i1*16+i2)],_,by omega,rfl,by omega,by rw [List.length_append]; show _+1<=_; omega,M8.tks q2 q3,hb8,⟨hs8.at',hs8.le,hs8.max⟩,?_,hf⟩
        have hul:u8L ((acc++(s.extract j j9).data.toList)++[UInt8.ofNat (i1*16+i2)])=u8L (acc++(s.extract j j9).data.toList)++[[AV.int .u8 ((i1*16+i2:Nat):Int)]]:=by rw [hu8]; simp [u8L]
        rw [hul]
        exact .own _ _ _ q0 q1
      ·skip
       skip
       have hf:decS s (k+1) []=none:=by rw [hpc]; rw [hi1,hno]
       exact h1 (hcode hf) st8 (M7.trans (m8.mono M7.tl) (fun q _ e=>e)) ⟨j8,by omega,hs8⟩
     ·have hb7:=m7.at' hb6 (fun e=>by omega)
      have M7:=M6.trans (m7.mono M6.tl) (fun q _ e=>e)
      refine ⟨_,hb7,?_⟩
      refine .s (ZCB (n:=st7.tk.length) hs7 (Nat.le_refl _) (fun i2 hi2 st8 m8 hs8=>?_) (fun hno st8 j8 m8 hj8 hs8=>?_))
      ·skip
       skip
       have hf:decS s (k+1) []=none:=by rw [hpc]; rw [hno1]
       exact h1 (hcode hf) st8 (M7.trans (m8.mono M7.tl) (fun q _ e=>e)) ⟨_,by omega,hs8⟩
      ·skip
       skip
       have hf:decS s (k+1) []=none:=by rw [hpc]; rw [hno1]
       exact h1 (hcode hf) st8 (M7.trans (m8.mono M7.tl) (fun q _ e=>e)) ⟨j8,by omega,hs8⟩
    ·refine ⟨_,hb6,?_⟩
     refine .s (ZCB (n:=st6.tk.length) hs6 (Nat.le_refl _) (fun i1 hi1 st7 m7 hs7=>?_) (fun hno1 st7 j7 m7 hj7 hs7=>?_))
     ·have hb7:=m7.at' hb6 (fun e=>by omega)
      have M7:=M6.trans (m7.mono M6.tl) (fun q _ e=>e)
      have hA7:=hA6.mvT m7
      skip
      refine .s (ZCB (n:=st7.tk.length) hs7 (Nat.le_refl _) (fun i2 hi2 st8 m8 hs8=>?_) (fun hno st8 j8 m8 hj8 hs8=>?_))
      ·skip
       skip
       have hi1b:i1<16:=by obtain ⟨x,_,hx⟩:=Option.bind_eq_some_iff.1 hi1; exact ZA4 hx
       have hi2b:i2<16:=by obtain ⟨x,_,hx⟩:=Option.bind_eq_some_iff.1 hi2; exact ZA4 hx
       have hj2:j9+2<s.size:=by
        obtain ⟨x,hx,_⟩:=Option.bind_eq_some_iff.1 hi2
        have:=(List.getElem?_eq_some_iff.1 hx).1
        rw [blen] at this
        exact this
       refine ⟨by decide,?_⟩
       intro c hc
       rw [shl4 _ hi1b] at hc
       subst hc
       intro c2 hc2
       rw [IntWalk.i64_in _ (by omega)] at hc2
       obtain rfl:c2=((i1*16+i2:Nat):Int):=by omega
       intro c3 hc3
       rw [ZDq _ (by omega)] at hc3
       subst hc3
       refine .p rfl (ZB6 _ (by omega) (by omega)) ?_
       have M8:=M7.trans (m8.mono M7.tl) (fun q _ e=>e)
       refine ZAA (fun hp=>?_) (fun hp=>?_)
       ·have hf:decS s (k+1) []=none:=by rw [hpc,hi1,hi2]; simp only [hp,if_true]
        exact h1 (hcode hf) st8 M8 ⟨_,by omega,hs8⟩
       ·have hf:decS s (k+1) []=decS s (j9+3) ((acc++(s.extract j j9).data.toList)++[UInt8.ofNat (i1*16+i2)]):=by rw [hpc,hi1,hi2]; simp only [hp,Bool.false_eq_true,if_false]
        refine ⟨by decide,?_⟩
        intro c hc
        rw [shl4 _ hi1b] at hc
        subst hc
        intro c2 hc2
        rw [IntWalk.i64_in _ (by omega)] at hc2
        obtain rfl:c2=((i1*16+i2:Nat):Int):=by omega
        intro c3 hc3
        rw [ZDq _ (by omega)] at hc3
        subst hc3
        have hb8:=m8.at' hb7 (fun e=>by omega)
        have hA8:=hA7.mvT m8
        have hu8:AV.int .u8 ((i1*16+i2:Nat):Int)=.u8 (UInt8.ofNat (i1*16+i2)):=by
         show AV.lit (.int .u8 _)=AV.lit (.int .u8 _)
         rw [UInt8.toNat_ofNat_of_lt' (show i1*16+i2<UInt8.size by show _<256; omega)]
        refine Acc.app (n:=n) (i:=ti5) hA8 M8.tl (List.cons_ne_nil _ _) ?_ ?_ (fun t9 e9 tk9 q0 q1 q2 q3=>?_)
        ·show (List.length _+1)*1<=_; rw [ZAE]; omega
        ·show List.length _+1<=9223372036854775807; rw [ZAE]; omega
        refine ⟨s.size - (j9+3),by omega,j9+3,(acc++(s.extract j j9).data.toList)++[UInt8.ofNat (i1*16+i2)],_,by omega,rfl,by omega,by rw [List.length_append]; show _+1<=_; omega,M8.tks q2 q3,hb8,⟨hs8.at',hs8.le,hs8.max⟩,?_,hf⟩
        have hul:u8L ((acc++(s.extract j j9).data.toList)++[UInt8.ofNat (i1*16+i2)])=u8L (acc++(s.extract j j9).data.toList)++[[AV.int .u8 ((i1*16+i2:Nat):Int)]]:=by rw [hu8]; simp [u8L]
        rw [hul]
        exact .own _ _ _ q0 q1
      ·skip
       skip
       have hf:decS s (k+1) []=none:=by rw [hpc]; rw [hi1,hno]
       exact h1 (hcode hf) st8 (M7.trans (m8.mono M7.tl) (fun q _ e=>e)) ⟨j8,by omega,hs8⟩
     ·have hb7:=m7.at' hb6 (fun e=>by omega)
      have M7:=M6.trans (m7.mono M6.tl) (fun q _ e=>e)
      skip
      refine .s (ZCB (n:=st7.tk.length) hs7 (Nat.le_refl _) (fun i2 hi2 st8 m8 hs8=>?_) (fun hno st8 j8 m8 hj8 hs8=>?_))
      ·skip
       skip
       have hf:decS s (k+1) []=none:=by rw [hpc]; rw [hno1]
       exact h1 (hcode hf) st8 (M7.trans (m8.mono M7.tl) (fun q _ e=>e)) ⟨_,by omega,hs8⟩
      ·skip
       skip
       have hf:decS s (k+1) []=none:=by rw [hpc]; rw [hno1]
       exact h1 (hcode hf) st8 (M7.trans (m8.mono M7.tl) (fun q _ e=>e)) ⟨j8,by omega,hs8⟩
   ·refine ⟨_,hb6,?_⟩
    refine ⟨_,hb6,?_⟩
    refine .s (ZCB (n:=st6.tk.length) hs6 (Nat.le_refl _) (fun i1 hi1 st7 m7 hs7=>?_) (fun hno1 st7 j7 m7 hj7 hs7=>?_))
    ·have hb7:=m7.at' hb6 (fun e=>by omega)
     have M7:=M6.trans (m7.mono M6.tl) (fun q _ e=>e)
     have hA7:=hA6.mvT m7
     skip
     refine .s (ZCB (n:=st7.tk.length) hs7 (Nat.le_refl _) (fun i2 hi2 st8 m8 hs8=>?_) (fun hno st8 j8 m8 hj8 hs8=>?_))
     ·skip
      skip
      have hi1b:i1<16:=by obtain ⟨x,_,hx⟩:=Option.bind_eq_some_iff.1 hi1; exact ZA4 hx
      have hi2b:i2<16:=by obtain ⟨x,_,hx⟩:=Option.bind_eq_some_iff.1 hi2; exact ZA4 hx
      have hj2:j9+2<s.size:=by
       obtain ⟨x,hx,_⟩:=Option.bind_eq_some_iff.1 hi2
       have:=(List.getElem?_eq_some_iff.1 hx).1
       rw [blen] at this
       exact this
      refine ⟨by decide,?_⟩
      intro c hc
      rw [shl4 _ hi1b] at hc
      subst hc
      intro c2 hc2
      rw [IntWalk.i64_in _ (by omega)] at hc2
      obtain rfl:c2=((i1*16+i2:Nat):Int):=by omega
      intro c3 hc3
      rw [ZDq _ (by omega)] at hc3
      subst hc3
      refine .p rfl (ZB6 _ (by omega) (by omega)) ?_
      have M8:=M7.trans (m8.mono M7.tl) (fun q _ e=>e)
      refine ZAA (fun hp=>?_) (fun hp=>?_)
      ·have hf:decS s (k+1) []=none:=by rw [hpc,hi1,hi2]; simp only [hp,if_true]
       exact h1 (hcode hf) st8 M8 ⟨_,by omega,hs8⟩
      ·have hf:decS s (k+1) []=decS s (j9+3) ((acc++(s.extract j j9).data.toList)++[UInt8.ofNat (i1*16+i2)]):=by rw [hpc,hi1,hi2]; simp only [hp,Bool.false_eq_true,if_false]
       refine ⟨by decide,?_⟩
       intro c hc
       rw [shl4 _ hi1b] at hc
       subst hc
       intro c2 hc2
       rw [IntWalk.i64_in _ (by omega)] at hc2
       obtain rfl:c2=((i1*16+i2:Nat):Int):=by omega
       intro c3 hc3
       rw [ZDq _ (by omega)] at hc3
       subst hc3
       have hb8:=m8.at' hb7 (fun e=>by omega)
       have hA8:=hA7.mvT m8
       have hu8:AV.int .u8 ((i1*16+i2:Nat):Int)=.u8 (UInt8.ofNat (i1*16+i2)):=by
        show AV.lit (.int .u8 _)=AV.lit (.int .u8 _)
        rw [UInt8.toNat_ofNat_of_lt' (show i1*16+i2<UInt8.size by show _<256; omega)]
       refine Acc.app (n:=n) (i:=ti5) hA8 M8.tl (List.cons_ne_nil _ _) ?_ ?_ (fun t9 e9 tk9 q0 q1 q2 q3=>?_)
       ·show (List.length _+1)*1<=_; rw [ZAE]; omega
       ·show List.length _+1<=9223372036854775807; rw [ZAE]; omega
       refine ⟨s.size - (j9+3),by omega,j9+3,(acc++(s.extract j j9).data.toList)++[UInt8.ofNat (i1*16+i2)],_,by omega,rfl,by omega,by rw [List.length_append]; show _+1<=_; omega,M8.tks q2 q3,hb8,⟨hs8.at',hs8.le,hs8.max⟩,?_,hf⟩
       have hul:u8L ((acc++(s.extract j j9).data.toList)++[UInt8.ofNat (i1*16+i2)])=u8L (acc++(s.extract j j9).data.toList)++[[AV.int .u8 ((i1*16+i2:Nat):Int)]]:=by rw [hu8]; simp [u8L]
       rw [hul]
       exact .own _ _ _ q0 q1
     ·skip
      skip
      have hf:decS s (k+1) []=none:=by rw [hpc]; rw [hi1,hno]
      exact h1 (hcode hf) st8 (M7.trans (m8.mono M7.tl) (fun q _ e=>e)) ⟨j8,by omega,hs8⟩
    ·have hb7:=m7.at' hb6 (fun e=>by omega)
     have M7:=M6.trans (m7.mono M6.tl) (fun q _ e=>e)
     skip
     refine .s (ZCB (n:=st7.tk.length) hs7 (Nat.le_refl _) (fun i2 hi2 st8 m8 hs8=>?_) (fun hno st8 j8 m8 hj8 hs8=>?_))
     ·skip
      skip
      have hf:decS s (k+1) []=none:=by rw [hpc]; rw [hno1]
      exact h1 (hcode hf) st8 (M7.trans (m8.mono M7.tl) (fun q _ e=>e)) ⟨_,by omega,hs8⟩
     ·skip
      skip
      have hf:decS s (k+1) []=none:=by rw [hpc]; rw [hno1]
      exact h1 (hcode hf) st8 (M7.trans (m8.mono M7.tl) (fun q _ e=>e)) ⟨j8,by omega,hs8⟩
 ·refine ⟨_,hb2,?_⟩
  refine .s (ZIt (n:=st2.tk.length) ZB6 hs2 (Nat.le_refl _) hj9 (fun st3 m3 hs3=>?_))
  have hA3:=hA2.mvT m3
  have hb3:=m3.at' hb2 (fun e=>by omega)
  have M3:=M2.trans (m3.mono M2.tl) (fun q _ e=>e)
  refine Acc.appT (n:=n) rfl rfl hA3 M3.tl (by omega) (fun hz0 _=>by cases hz0) (fun t e tk' q0 q1 q2 q3=>?_)
  have hA4:Acc n tk' 1 (.sl (.own t e) 1 (u8L (acc++(s.extract j j9).data.toList))) (u8L (acc++(s.extract j j9).data.toList)):=.own _ _ _ q0 q1
  have hb4:(⟨st3.heap,tk'⟩:St).heap[st.heap.length]? = some [.ptr p 0]:=hb3
  have hs4:Sc ⟨st3.heap,tk'⟩ p s j9:=⟨hs3.at',hs3.le,hs3.max⟩
  have M4:Mv n (·=p) st ⟨st3.heap,tk'⟩:=M3.tks q2 (fun q hq=>(q3 q hq))
  have hdec9:decS s (k+1) []=decS s j9 (acc++(s.extract j j9).data.toList):=hdec0.trans hrun
  have hl9:(acc++(s.extract j j9).data.toList).length<=j9:=by rw [List.length_append,blen,hxs]; omega
  refine ⟨_,hb4,?_⟩
  refine .s (ZCk (n:=(⟨st3.heap,tk'⟩:St).tk.length) hs4 (Nat.le_refl _) 34 (fun e34 st5 m5 hs5=>?_) (fun e34 hk34 st5 m5 hs5=>?_))
  rotate_left
  ·have hf:decS s (k+1) []=some ((acc++(s.extract j j9).data.toList),j9+1):=by rw [hdec9,ZKn e34]
   refine ⟨⟨(acc++(s.extract j j9).data.toList).toArray⟩,?_,?_⟩
   ·show _=(List.toArray _).toList.map _
    rw [List.toList_toArray]
    rfl
   ·exact h2 _ _ (hcode2 _ _ hf) st5 (M4.trans (m5.mono M4.tl) (fun q _ e=>e)) hs5
  have hb5:=m5.at' hb4 (fun e=>by omega)
  have M5:=M4.trans (m5.mono M4.tl) (fun q _ e=>e)
  have hA5:=hA4.mvT m5
  refine ⟨_,hb5,?_⟩
  refine .s (ZCk (n:=st5.tk.length) hs5 (Nat.le_refl _) 37 (fun e37 st6 m6 hs6=>?_) (fun e37 hk37 st6 m6 hs6=>?_))
  ·have hf:decS s (k+1) []=none:=by rw [hdec9,ZGq e34 hstop e37]
   exact h1 (hcode hf) st6 (M5.trans (m6.mono M5.tl) (fun q _ e=>e)) ⟨j9,by omega,hs6⟩
  have hb6:=m6.at' hb5 (fun e=>by omega)
  have M6:=M5.trans (m6.mono M5.tl) (fun q _ e=>e)
  have hA6:=hA5.mvT m6
  have hpc:decS s (k+1) []=_:=hdec9.trans (ZHe (acc:=(acc++(s.extract j j9).data.toList)) e37)
  refine .any (ZJG (by kernel_rfl) ⟨_,rfl,?_⟩ ?_)
  ·refine ⟨_,hb6,?_⟩
   refine ⟨?_,?_⟩
   ·skip
    refine .s (ZCB (n:=st6.tk.length) hs6 (Nat.le_refl _) (fun i1 hi1 st7 m7 hs7=>?_) (fun hno1 st7 j7 m7 hj7 hs7=>?_))
    ·have hb7:=m7.at' hb6 (fun e=>by omega)
     have M7:=M6.trans (m7.mono M6.tl) (fun q _ e=>e)
     have hA7:=hA6.mvT m7
     refine ⟨_,hb7,?_⟩
     refine .s (ZCB (n:=st7.tk.length) hs7 (Nat.le_refl _) (fun i2 hi2 st8 m8 hs8=>?_) (fun hno st8 j8 m8 hj8 hs8=>?_))
     ·skip
      skip
      have hi1b:i1<16:=by obtain ⟨x,_,hx⟩:=Option.bind_eq_some_iff.1 hi1; exact ZA4 hx
      have hi2b:i2<16:=by obtain ⟨x,_,hx⟩:=Option.bind_eq_some_iff.1 hi2; exact ZA4 hx
      have hj2:j9+2<s.size:=by
       obtain ⟨x,hx,_⟩:=Option.bind_eq_some_iff.1 hi2
       have:=(List.getElem?_eq_some_iff.1 hx).1
       rw [blen] at this
       exact this
      refine ⟨by decide,?_⟩
      intro c hc
      rw [shl4 _ hi1b] at hc
      subst hc
      intro c2 hc2
      rw [IntWalk.i64_in _ (by omega)] at hc2
      obtain rfl:c2=((i1*16+i2:Nat):Int):=by omega
      intro c3 hc3
      rw [ZDq _ (by omega)] at hc3
      subst hc3
      refine .p rfl (ZB6 _ (by omega) (by omega)) ?_
      have M8:=M7.trans (m8.mono M7.tl) (fun q _ e=>e)
      refine ZAA (fun hp=>?_) (fun hp=>?_)
      ·have hf:decS s (k+1) []=none:=by rw [hpc,hi1,hi2]; simp only [hp,if_true]
       exact h1 (hcode hf) st8 M8 ⟨_,by omega,hs8⟩
      ·have hf:decS s (k+1) []=decS s (j9+3) ((acc++(s.extract j j9).data.toList)++[UInt8.ofNat (i1*16+i2)]):=by rw [hpc,hi1,hi2]; simp only [hp,Bool.false_eq_true,if_false]
       refine ⟨by decide,?_⟩
       intro c hc
       rw [shl4 _ hi1b] at hc
       subst hc
       intro c2 hc2
       rw [IntWalk.i64_in _ (by omega)] at hc2
       obtain rfl:c2=((i1*16+i2:Nat):Int):=by omega
       intro c3 hc3
       rw [ZDq _ (by omega)] at hc3
       subst hc3
       have hb8:=m8.at' hb7 (fun e=>by omega)
       have hA8:=hA7.mvT m8
       have hu8:AV.int .u8 ((i1*16+i2:Nat):Int)=.u8 (UInt8.ofNat (i1*16+i2)):=by
        show AV.lit (.int .u8 _)=AV.lit (.int .u8 _)
        rw [UInt8.toNat_ofNat_of_lt' (show i1*16+i2<UInt8.size by show _<256; omega)]
       refine Acc.app (n:=n) (i:=ti5) hA8 M8.tl (List.cons_ne_nil _ _) ?_ ?_ (fun t9 e9 tk9 q0 q1 q2 q3=>?_)
       ·show (List.length _+1)*1<=_; rw [ZAE]; omega
       ·show List.length _+1<=9223372036854775807; rw [ZAE]; omega
       refine ⟨s.size - (j9+3),by omega,j9+3,(acc++(s.extract j j9).data.toList)++[UInt8.ofNat (i1*16+i2)],_,by omega,rfl,by omega,by rw [List.length_append]; show _+1<=_; omega,M8.tks q2 q3,hb8,⟨hs8.at',hs8.le,hs8.max⟩,?_,hf⟩
       have hul:u8L ((acc++(s.extract j j9).data.toList)++[UInt8.ofNat (i1*16+i2)])=u8L (acc++(s.extract j j9).data.toList)++[[AV.int .u8 ((i1*16+i2:Nat):Int)]]:=by rw [hu8]; simp [u8L]
       rw [hul]
       exact .own _ _ _ q0 q1
     ·skip
      skip
      have hf:decS s (k+1) []=none:=by rw [hpc]; rw [hi1,hno]
      exact h1 (hcode hf) st8 (M7.trans (m8.mono M7.tl) (fun q _ e=>e)) ⟨j8,by omega,hs8⟩
    ·have hb7:=m7.at' hb6 (fun e=>by omega)
     have M7:=M6.trans (m7.mono M6.tl) (fun q _ e=>e)
     refine ⟨_,hb7,?_⟩
     refine .s (ZCB (n:=st7.tk.length) hs7 (Nat.le_refl _) (fun i2 hi2 st8 m8 hs8=>?_) (fun hno st8 j8 m8 hj8 hs8=>?_))
     ·skip
      skip
      have hf:decS s (k+1) []=none:=by rw [hpc]; rw [hno1]
      exact h1 (hcode hf) st8 (M7.trans (m8.mono M7.tl) (fun q _ e=>e)) ⟨_,by omega,hs8⟩
     ·skip
      skip
      have hf:decS s (k+1) []=none:=by rw [hpc]; rw [hno1]
      exact h1 (hcode hf) st8 (M7.trans (m8.mono M7.tl) (fun q _ e=>e)) ⟨j8,by omega,hs8⟩
   ·refine ⟨_,hb6,?_⟩
    refine .s (ZCB (n:=st6.tk.length) hs6 (Nat.le_refl _) (fun i1 hi1 st7 m7 hs7=>?_) (fun hno1 st7 j7 m7 hj7 hs7=>?_))
    ·have hb7:=m7.at' hb6 (fun e=>by omega)
     have M7:=M6.trans (m7.mono M6.tl) (fun q _ e=>e)
     have hA7:=hA6.mvT m7
     skip
     refine .s (ZCB (n:=st7.tk.length) hs7 (Nat.le_refl _) (fun i2 hi2 st8 m8 hs8=>?_) (fun hno st8 j8 m8 hj8 hs8=>?_))
     ·skip
      skip
      have hi1b:i1<16:=by obtain ⟨x,_,hx⟩:=Option.bind_eq_some_iff.1 hi1; exact ZA4 hx
      have hi2b:i2<16:=by obtain ⟨x,_,hx⟩:=Option.bind_eq_some_iff.1 hi2; exact ZA4 hx
      have hj2:j9+2<s.size:=by
       obtain ⟨x,hx,_⟩:=Option.bind_eq_some_iff.1 hi2
       have:=(List.getElem?_eq_some_iff.1 hx).1
       rw [blen] at this
       exact this
      refine ⟨by decide,?_⟩
      intro c hc
      rw [shl4 _ hi1b] at hc
      subst hc
      intro c2 hc2
      rw [IntWalk.i64_in _ (by omega)] at hc2
      obtain rfl:c2=((i1*16+i2:Nat):Int):=by omega
      intro c3 hc3
      rw [ZDq _ (by omega)] at hc3
      subst hc3
      refine .p rfl (ZB6 _ (by omega) (by omega)) ?_
      have M8:=M7.trans (m8.mono M7.tl) (fun q _ e=>e)
      refine ZAA (fun hp=>?_) (fun hp=>?_)
      ·have hf:decS s (k+1) []=none:=by rw [hpc,hi1,hi2]; simp only [hp,if_true]
       exact h1 (hcode hf) st8 M8 ⟨_,by omega,hs8⟩
      ·have hf:decS s (k+1) []=decS s (j9+3) ((acc++(s.extract j j9).data.toList)++[UInt8.ofNat (i1*16+i2)]):=by rw [hpc,hi1,hi2]; simp only [hp,Bool.false_eq_true,if_false]
       refine ⟨by decide,?_⟩
       intro c hc
       rw [shl4 _ hi1b] at hc
       subst hc
       intro c2 hc2
       rw [IntWalk.i64_in _ (by omega)] at hc2
       obtain rfl:c2=((i1*16+i2:Nat):Int):=by omega
       intro c3 hc3
       rw [ZDq _ (by omega)] at hc3
       subst hc3
       have hb8:=m8.at' hb7 (fun e=>by omega)
       have hA8:=hA7.mvT m8
       have hu8:AV.int .u8 ((i1*16+i2:Nat):Int)=.u8 (UInt8.ofNat (i1*16+i2)):=by
        show AV.lit (.int .u8 _)=AV.lit (.int .u8 _)
        rw [UInt8.toNat_ofNat_of_lt' (show i1*16+i2<UInt8.size by show _<256; omega)]
       refine Acc.app (n:=n) (i:=ti5) hA8 M8.tl (List.cons_ne_nil _ _) ?_ ?_ (fun t9 e9 tk9 q0 q1 q2 q3=>?_)
       ·show (List.length _+1)*1<=_; rw [ZAE]; omega
       ·show List.length _+1<=9223372036854775807; rw [ZAE]; omega
       refine ⟨s.size - (j9+3),by omega,j9+3,(acc++(s.extract j j9).data.toList)++[UInt8.ofNat (i1*16+i2)],_,by omega,rfl,by omega,by rw [List.length_append]; show _+1<=_; omega,M8.tks q2 q3,hb8,⟨hs8.at',hs8.le,hs8.max⟩,?_,hf⟩
       have hul:u8L ((acc++(s.extract j j9).data.toList)++[UInt8.ofNat (i1*16+i2)])=u8L (acc++(s.extract j j9).data.toList)++[[AV.int .u8 ((i1*16+i2:Nat):Int)]]:=by rw [hu8]; simp [u8L]
       rw [hul]
       exact .own _ _ _ q0 q1
     ·skip
      skip
      have hf:decS s (k+1) []=none:=by rw [hpc]; rw [hi1,hno]
      exact h1 (hcode hf) st8 (M7.trans (m8.mono M7.tl) (fun q _ e=>e)) ⟨j8,by omega,hs8⟩
    ·have hb7:=m7.at' hb6 (fun e=>by omega)
     have M7:=M6.trans (m7.mono M6.tl) (fun q _ e=>e)
     skip
     refine .s (ZCB (n:=st7.tk.length) hs7 (Nat.le_refl _) (fun i2 hi2 st8 m8 hs8=>?_) (fun hno st8 j8 m8 hj8 hs8=>?_))
     ·skip
      skip
      have hf:decS s (k+1) []=none:=by rw [hpc]; rw [hno1]
      exact h1 (hcode hf) st8 (M7.trans (m8.mono M7.tl) (fun q _ e=>e)) ⟨_,by omega,hs8⟩
     ·skip
      skip
      have hf:decS s (k+1) []=none:=by rw [hpc]; rw [hno1]
      exact h1 (hcode hf) st8 (M7.trans (m8.mono M7.tl) (fun q _ e=>e)) ⟨j8,by omega,hs8⟩
  ·refine ⟨_,hb6,?_⟩
   refine ⟨_,hb6,?_⟩
   refine .s (ZCB (n:=st6.tk.length) hs6 (Nat.le_refl _) (fun i1 hi1 st7 m7 hs7=>?_) (fun hno1 st7 j7 m7 hj7 hs7=>?_))
   ·have hb7:=m7.at' hb6 (fun e=>by omega)
    have M7:=M6.trans (m7.mono M6.tl) (fun q _ e=>e)
    have hA7:=hA6.mvT m7
    skip
    refine .s (ZCB (n:=st7.tk.length) hs7 (Nat.le_refl _) (fun i2 hi2 st8 m8 hs8=>?_) (fun hno st8 j8 m8 hj8 hs8=>?_))
    ·skip
     skip
     have hi1b:i1<16:=by obtain ⟨x,_,hx⟩:=Option.bind_eq_some_iff.1 hi1; exact ZA4 hx
     have hi2b:i2<16:=by obtain ⟨x,_,hx⟩:=Option.bind_eq_some_iff.1 hi2; exact ZA4 hx
     have hj2:j9+2<s.size:=by
      obtain ⟨x,hx,_⟩:=Option.bind_eq_some_iff.1 hi2
      have:=(List.getElem?_eq_some_iff.1 hx).1
      rw [blen] at this
      exact this
     refine ⟨by decide,?_⟩
     intro c hc
     rw [shl4 _ hi1b] at hc
     subst hc
     intro c2 hc2
     rw [IntWalk.i64_in _ (by omega)] at hc2
     obtain rfl:c2=((i1*16+i2:Nat):Int):=by omega
     intro c3 hc3
     rw [ZDq _ (by omega)] at hc3
     subst hc3
     refine .p rfl (ZB6 _ (by omega) (by omega)) ?_
     have M8:=M7.trans (m8.mono M7.tl) (fun q _ e=>e)
     refine ZAA (fun hp=>?_) (fun hp=>?_)
     ·have hf:decS s (k+1) []=none:=by rw [hpc,hi1,hi2]; simp only [hp,if_true]
      exact h1 (hcode hf) st8 M8 ⟨_,by omega,hs8⟩
     ·have hf:decS s (k+1) []=decS s (j9+3) ((acc++(s.extract j j9).data.toList)++[UInt8.ofNat (i1*16+i2)]):=by rw [hpc,hi1,hi2]; simp only [hp,Bool.false_eq_true,if_false]
      refine ⟨by decide,?_⟩
      intro c hc
      rw [shl4 _ hi1b] at hc
      subst hc
      intro c2 hc2
      rw [IntWalk.i64_in _ (by omega)] at hc2
      obtain rfl:c2=((i1*16+i2:Nat):Int):=by omega
      intro c3 hc3
      rw [ZDq _ (by omega)] at hc3
      subst hc3
      have hb8:=m8.at' hb7 (fun e=>by omega)
      have hA8:=hA7.mvT m8
      have hu8:AV.int .u8 ((i1*16+i2:Nat):Int)=.u8 (UInt8.ofNat (i1*16+i2)):=by
       show AV.lit (.int .u8 _)=AV.lit (.int .u8 _)
       rw [UInt8.toNat_ofNat_of_lt' (show i1*16+i2<UInt8.size by show _<256; omega)]
      refine Acc.app (n:=n) (i:=ti5) hA8 M8.tl (List.cons_ne_nil _ _) ?_ ?_ (fun t9 e9 tk9 q0 q1 q2 q3=>?_)
      ·show (List.length _+1)*1<=_; rw [ZAE]; omega
      ·show List.length _+1<=9223372036854775807; rw [ZAE]; omega
      refine ⟨s.size - (j9+3),by omega,j9+3,(acc++(s.extract j j9).data.toList)++[UInt8.ofNat (i1*16+i2)],_,by omega,rfl,by omega,by rw [List.length_append]; show _+1<=_; omega,M8.tks q2 q3,hb8,⟨hs8.at',hs8.le,hs8.max⟩,?_,hf⟩
      have hul:u8L ((acc++(s.extract j j9).data.toList)++[UInt8.ofNat (i1*16+i2)])=u8L (acc++(s.extract j j9).data.toList)++[[AV.int .u8 ((i1*16+i2:Nat):Int)]]:=by rw [hu8]; simp [u8L]
      rw [hul]
      exact .own _ _ _ q0 q1
    ·skip
     skip
     have hf:decS s (k+1) []=none:=by rw [hpc]; rw [hi1,hno]
     exact h1 (hcode hf) st8 (M7.trans (m8.mono M7.tl) (fun q _ e=>e)) ⟨j8,by omega,hs8⟩
   ·have hb7:=m7.at' hb6 (fun e=>by omega)
    have M7:=M6.trans (m7.mono M6.tl) (fun q _ e=>e)
    skip
    refine .s (ZCB (n:=st7.tk.length) hs7 (Nat.le_refl _) (fun i2 hi2 st8 m8 hs8=>?_) (fun hno st8 j8 m8 hj8 hs8=>?_))
    ·skip
     skip
     have hf:decS s (k+1) []=none:=by rw [hpc]; rw [hno1]
     exact h1 (hcode hf) st8 (M7.trans (m8.mono M7.tl) (fun q _ e=>e)) ⟨_,by omega,hs8⟩
    ·skip
     skip
     have hf:decS s (k+1) []=none:=by rw [hpc]; rw [hno1]
     exact h1 (hcode hf) st8 (M7.trans (m8.mono M7.tl) (fun q _ e=>e)) ⟨j8,by omega,hs8⟩
end
end
end Go.Proofs.YticbonkojpabnaaGreatDoor
