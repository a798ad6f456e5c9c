/- Lines, as the program ZAq them. No statement of its own. -/
import Derived.Test.YticbonkojpabnaaGreatDoorSLnc
import Derived.Test.YticbonkojpabnaaGreatDoorSRqt
set_option linter.unusedSimpArgs false
set_option linter.unusedVariables false
set_option maxRecDepth 100000
namespace Go.Proofs.YticbonkojpabnaaGreatDoor
open Go.RowKit
section
def sp1:ByteArray:=⟨#[32]⟩
/-- a line's bytes: a word and coded texts -/
def rowL (w:ByteArray) (l:List ByteArray):List UInt8:=w.data.toList++l.flatMap fun x=>32::ZBR x.data.toList
theorem ZM0 (w:ByteArray) (l:List ByteArray):∀ k,k<=l.length->(ZBU sp1 (w::(l.take k).map ZAo)).data.toList=rowL w (l.take k):=by
 intro k
 induction k with
 | zero=>intro _; rw [List.take_zero,List.map_nil,ZCH]; simp [rowL]
 | succ k ih =>
  intro hk
  have h:=ih (by omega)
  rw [List.take_succ_eq_append_getElem (by omega:k<l.length),List.map_append,<- List.cons_append]
  show (ZBU sp1 (_++[ZAo l[k]])).data.toList=_
  rw [ZH3 _ _ _ (List.cons_ne_nil _ _),ZAp,ZAp,h,ZBT]
  simp only [rowL,List.flatMap_append,List.flatMap_cons,List.flatMap_nil,List.append_nil,List.append_assoc]
  rfl
attribute [local irreducible] ZAn
theorem row_a {st:St} {R:AV->St->Prop} {p m:Nat} {a:AV} {Lb:List UInt8} {tg:Tk} (w:ByteArray) (l:List ByteArray) (hl:l.length<=1000) (hz:∀ x∈l,x.size<=1099511627776) (hp:st.heap[p]? = some [a,.i m]) (hAq:Acc 0 st.tk 1 a (u8L Lb))
  (hsz:Lb.length+(rowL w l).length+1<=m) (hm:m<=1099511627776)
  (h:∀ a' st',st'.heap[p]? = some [a',.i m]->Acc 0 st'.tk 1 a' (u8L (Lb++(rowL w l++[10])))->Mv 0 (·=p) st st'->R (.tup []) st'):ZAB Tryz.prog 26 [.agg [.ptr p 0],.s w,.sl tg 1 (strL l)] st R:=by
 have hmx:maxLen=9223372036854775807:=rfl
 have el:=ZAH l
 refine ZAB.of_vc T_ok mixed Tryz.func26 rfl Tryz.call26 ?_
 refine ⟨ZBC hp,?_⟩
 refine ZAF [6,13] (fun g vals st'=>∃ (k:Nat) (b:AV),k+g=l.length/\vals=[b,.i k]/\Acc2 st.tk.length st'.tk 1 b (strL (w::(l.take k).map ZAo))/\st'.heap[st.heap.length]? = some [.ptr p 0]/\st'.heap[p]? = some [a,.i m]/\Mv st.tk.length (·=p) st st') l.length rfl ⟨0,_,by omega,rfl,.tight _ _,ZAK _ _,ap hp,(Mv.refl (Nat.le_refl _)).alloc _⟩ ?_
 rintro g vals st1 ⟨k,b,hk,rfl,hA,hb1,hp1,m1⟩
 have hA0:=hA
 generalize hes:strL (w::(l.take k).map ZAo)=es at hA0
 cases hA0 with
 | tight e0 es9 =>
  skip
  refine ZAA (fun hd=>?_) (fun hd=>?_)
  ·have hd:=of_decide_eq_true hd
   have k1:k<l.length:=by omega
   refine ⟨k,_,rfl,ZAS k1,?_⟩
   refine .p rfl (code_p l[k] (hz _ (List.getElem_mem k1))) ?_
   refine Acc2.app (n:=st.tk.length) (i:=ti9) hA m1.tl (List.cons_ne_nil _ _) ?_ ?_ (fun t1 e1 tk1 q0 q1 q2 q3=>?_)
   ·show ((strL (w::(l.take k).map ZAo)).length+1)*16<=_; rw [ZAH,List.length_cons,List.length_map,List.length_take]; omega
   ·show (strL (w::(l.take k).map ZAo)).length+1<=_; rw [ZAH,List.length_cons,List.length_map,List.length_take]; omega
   intro c hc
   rw [IntWalk.i64_in _ (by omega)] at hc
   obtain rfl:c=((k+1:Nat):Int):=by omega
   refine ⟨g - 1,by omega,k+1,_,by omega,rfl,?_,hb1,hp1,m1.tks q2 q3⟩
   rw [List.take_succ_eq_append_getElem k1,List.map_append,<- List.cons_append,ZAh]
   exact .own _ _ _ q0 q1
  ·have hd:=of_decide_eq_false hd
   obtain rfl:k=l.length:=by omega
   have hj:=ZM0 w l l.length (Nat.le_refl _)
   rw [List.take_length] at hA hj hes
   have hA1:=hAq.mvT (m1.mono (Nat.le_refl _))
   have hjz:(ZBU sp1 (w::l.map ZAo)).size=(rowL w l).length:=by rw [<- hj,blen]
   refine .n (.one 0 (.one 1 (.one 2 (.one 3 (.one 4 (.only 5 .done)))))) (by kernel_rfl) ?_
   refine ⟨_,hb1,?_⟩
   have hqj:=ZF2 sp1 (w::l.map ZAo) (by rw [List.length_cons,List.length_map]; omega) (by omega)
   rw [hes] at hqj
   refine .p rfl hqj ?_
   refine .s (ZEA (a:=a) (m:=m) (Lb:=Lb) [ZBU sp1 (w::l.map ZAo),⟨#[10]⟩] (by simp) hp1 hA1 ?_ hm (fun a' st' r1 r2 r3=>?_))
   ·simp only [catL,List.flatMap_cons,List.flatMap_nil,List.length_append,blen,hjz]
    simp
    omega
   refine h a' st' r1 ?_ ?_
   ·have e:catL [ZBU sp1 (w::l.map ZAo),⟨#[10]⟩]=rowL w l++[10]:=by
     simp only [catL,List.flatMap_cons,List.flatMap_nil,hj]
     rfl
    rw [e] at r2
    exact r2
   ·exact (m1.mono (Nat.zero_le _)).trans r3 (fun q _ e=>e)
 | own t0 e0 _ hn0 ht0 =>
  skip
  refine ZAA (fun hd=>?_) (fun hd=>?_)
  ·have hd:=of_decide_eq_true hd
   have k1:k<l.length:=by omega
   refine ⟨k,_,rfl,ZAS k1,?_⟩
   refine .p rfl (code_p l[k] (hz _ (List.getElem_mem k1))) ?_
   refine Acc2.app (n:=st.tk.length) (i:=ti9) hA m1.tl (List.cons_ne_nil _ _) ?_ ?_ (fun t1 e1 tk1 q0 q1 q2 q3=>?_)
   ·show ((strL (w::(l.take k).map ZAo)).length+1)*16<=_; rw [ZAH,List.length_cons,List.length_map,List.length_take]; omega
   ·show (strL (w::(l.take k).map ZAo)).length+1<=_; rw [ZAH,List.length_cons,List.length_map,List.length_take]; omega
   intro c hc
   rw [IntWalk.i64_in _ (by omega)] at hc
   obtain rfl:c=((k+1:Nat):Int):=by omega
   refine ⟨g - 1,by omega,k+1,_,by omega,rfl,?_,hb1,hp1,m1.tks q2 q3⟩
   rw [List.take_succ_eq_append_getElem k1,List.map_append,<- List.cons_append,ZAh]
   exact .own _ _ _ q0 q1
  ·have hd:=of_decide_eq_false hd
   obtain rfl:k=l.length:=by omega
   have hj:=ZM0 w l l.length (Nat.le_refl _)
   rw [List.take_length] at hA hj hes
   have hA1:=hAq.mvT (m1.mono (Nat.le_refl _))
   have hjz:(ZBU sp1 (w::l.map ZAo)).size=(rowL w l).length:=by rw [<- hj,blen]
   refine .n (.one 0 (.one 1 (.one 2 (.one 3 (.one 4 (.only 5 .done)))))) (by kernel_rfl) ?_
   refine ⟨_,hb1,?_⟩
   have hqj:=ZF2 sp1 (w::l.map ZAo) (by rw [List.length_cons,List.length_map]; omega) (by omega)
   rw [hes] at hqj
   refine .p rfl hqj ?_
   refine .s (ZEA (a:=a) (m:=m) (Lb:=Lb) [ZBU sp1 (w::l.map ZAo),⟨#[10]⟩] (by simp) hp1 hA1 ?_ hm (fun a' st' r1 r2 r3=>?_))
   ·simp only [catL,List.flatMap_cons,List.flatMap_nil,List.length_append,blen,hjz]
    simp
    omega
   refine h a' st' r1 ?_ ?_
   ·have e:catL [ZBU sp1 (w::l.map ZAo),⟨#[10]⟩]=rowL w l++[10]:=by
     simp only [catL,List.flatMap_cons,List.flatMap_nil,hj]
     rfl
    rw [e] at r2
    exact r2
   ·exact (m1.mono (Nat.zero_le _)).trans r3 (fun q _ e=>e)
end
section
abbrev Swp:=ByteArray × ByteArray
/-- lines of swaps -/
def swpL (w:ByteArray) (l:List Swp):List UInt8:=l.flatMap fun x=>rowL w [x.1,x.2]++[10]
theorem ZKF {w:ByteArray} {l:List Swp} {k:Nat} (h:k<l.length):swpL w (l.take (k+1))=swpL w (l.take k)++(rowL w [l[k].1,l[k].2]++[10]):=by
 unfold swpL
 rw [List.take_succ_eq_append_getElem h,List.flatMap_append]
 simp
theorem swpL_le (w:ByteArray) (l:List Swp) (k:Nat):(swpL w (l.take k)).length<=(swpL w l).length:=by
 conv=>rhs; rw [<- List.take_append_drop k l]
 unfold swpL
 rw [List.flatMap_append,List.length_append]
 omega
theorem swaps_a {st:St} {R:AV->St->Prop} {p m:Nat} {a:AV} {Lb:List UInt8} {tg:Tk} (w:ByteArray) (l:List Swp) (hl:l.length<=1000000) (hz:∀ x∈l,x.1.size<=1099511627776/\x.2.size<=1099511627776) (hp:st.heap[p]? = some [a,.i m]) (hAq:Acc 0 st.tk 1 a (u8L Lb))
  (hsz:Lb.length+(swpL w l).length<=m) (hm:m<=1099511627776)
  (h:∀ a' st',st'.heap[p]? = some [a',.i m]->Acc 0 st'.tk 1 a' (u8L (Lb++swpL w l))->Mv 0 (·=p) st st'->R (.tup []) st'):ZAB Tryz.prog 27 [.agg [.ptr p 0],.s w,.sl tg 2 (fldL l)] st R:=by
 have hmx:maxLen=9223372036854775807:=rfl
 have el:=ZA5 l
 have hpl:=ZBC hp
 refine ZAB.of_vc T_ok mixed Tryz.func27 rfl Tryz.call27 ?_
 refine ⟨hpl,?_⟩
 refine ZAF [10] (fun g vals st'=>∃ (k:Nat) (b:AV),k+g=l.length/\vals=[.i k]/\st'.heap[st.heap.length]? = some [.ptr p 0]/\st'.heap[p]? = some [b,.i m]/\Acc 0 st'.tk 1 b (u8L (Lb++swpL w (l.take k)))/\Mv 0 (·=p) st st') l.length rfl ⟨0,a,by omega,rfl,ZAK _ _,ap hp,by rw [List.take_zero]; simpa [swpL] using hAq,(Mv.refl (Nat.zero_le _)).alloc _⟩ ?_
 rintro g vals st1 ⟨k,b,hk,rfl,hb1,hp1,hA,m1⟩
 refine ZAA (fun hd=>?_) (fun hd=>?_)
 ·have hd:=of_decide_eq_true hd
  have k1:k<l.length:=by omega
  have hzk:=hz _ (List.getElem_mem k1)
  have hsk:=swpL_le w l (k+1)
  rw [ZKF k1,List.length_append,List.length_append,List.length_singleton] at hsk
  refine ⟨k,_,rfl,ZBj k1,?_⟩
  refine ⟨_,ZAK _ _,?_⟩
  have hb2:=(List.getElem?_set_ne (l:=st1.heap++[[.s ⟨#[]⟩,.s ⟨#[]⟩]]) (i:=st1.heap.length) (a:=[.s l[k].1,.s l[k].2]) (by have:=ZBC hb1; omega)).trans (ap hb1)
  have hp2:=(List.getElem?_set_ne (l:=st1.heap++[[.s ⟨#[]⟩,.s ⟨#[]⟩]]) (i:=st1.heap.length) (a:=[.s l[k].1,.s l[k].2]) (by have:=ZBC hp1; omega)).trans (ap hp1)
  refine ⟨_,hb2,?_⟩
  refine ⟨_,ZAL _ _ _,?_⟩
  refine ⟨_,ZAL _ _ _,?_⟩
  refine .s (row_a (a:=b) (m:=m) (Lb:=Lb++swpL w (l.take k)) w [l[k].1,l[k].2] (by simp) (fun x hx=>?_) hp2 hA (by rw [List.length_append]; omega) hm (fun a' st' r1 r2 r3=>?_))
  ·rcases List.mem_cons.1 hx with rfl | hx
   ·exact hzk.1
   ·rw [List.mem_singleton.1 hx]; exact hzk.2
  ·skip
   intro c hc
   rw [IntWalk.i64_in _ (by omega)] at hc
   obtain rfl:c=((k+1:Nat):Int):=by omega
   refine ⟨g - 1,by omega,k+1,a',by omega,rfl,r3.at' hb2 (fun e=>by omega),r1,?_,?_⟩
   ·rw [ZKF k1,<- List.append_assoc]
    exact r2
   ·exact ((m1.alloc _).set (fun e=>absurd e (by have:=m1.len; omega)) _).trans r3 (fun q _ e=>e)
 ·have hd:=of_decide_eq_false hd
  obtain rfl:k=l.length:=by omega
  rw [List.take_length] at hA
  exact h b st1 hp1 hA m1
end
section
def envW:ByteArray:=⟨#[101,110,118]⟩
def domW:ByteArray:=⟨#[100,111,109,97,105,110]⟩
def plcW:ByteArray:=⟨#[112,108,97,99,101]⟩
def rulW:ByteArray:=⟨#[114,117,108,101]⟩
def rulP:ByteArray:=⟨#[114,117,108,101,32]⟩
def evtW:ByteArray:=⟨#[101,118,101,110,116]⟩
def evtP:ByteArray:=⟨#[101,118,101,110,116,32]⟩
def enC:ByteArray:=⟨#[101,110,100,115,32,99,108,105,101,110,116]⟩
def enU:ByteArray:=⟨#[101,110,100,115,32,117,112,115,116,114,101,97,109]⟩
inductive Ln where
 | env (a b c d:ByteArray)
 | dom (a b:ByteArray)
 | plc (a b:ByteArray)
 | caps (h c q:Int)
 | rule (r:Rl)
 | cli (s:ByteArray)
 | ups (s:ByteArray)
 | ce
 | ue
 | ev (k n:Int)
def ZEd (h c q:Int):List UInt8:=ZD3.data.toList++32::((numT h).data.toList++32::((numT c).data.toList++32::(numT q).data.toList))
def Ln.bytes:Ln->List UInt8
 | .env a b c d=>rowL envW [a,b,c,d]
 | .dom a b=>rowL domW [a,b]
 | .plc a b=>rowL plcW [a,b]
 | .caps h c q=>ZEd h c q
 | .rule r=>rulP.data.toList++(ZAx r).data.toList
 | .cli s=>rowL cliW [s]
 | .ups s=>rowL upsW [s]
 | .ce=>enC.data.toList
 | .ue=>enU.data.toList
 | .ev k n=>evtP.data.toList++(evT k n).data.toList
def Ln.rank:Ln->Nat
 | .env ..=>0
 | .dom ..=>1
 | .plc ..=>2
 | .caps ..=>3
 | .rule ..=>4
 | .cli ..=>5
 | .ups ..=>6
 | .ce=>7
 | .ue=>8
 | .ev ..=>9
def Ln.Ok:Ln->Prop
 | .caps h c q=>inR h/\inR c/\inR q
 | .rule r=>ZAO r=0
 | .ev k n=>evOk k n=true
 | _=>True
def ZAm (x w:ByteArray):ByteArray:=⟨(Lib.trimPrefix x.data.toList w.data.toList).toArray⟩
def wd4:List ByteArray × Bool->Option Ln
 | ([a,b,c,d],true)=>some (.env a b c d)
 | _=>none
def wd2 (f:ByteArray->ByteArray->Ln):List ByteArray × Bool->Option Ln
 | ([a,b],true)=>some (f a b)
 | _=>none
def wd1 (f:ByteArray->Ln):List ByteArray × Bool->Option Ln
 | ([a],true)=>some (f a)
 | _=>none
def ZDe (t:ByteArray):Option Ln:=if (ZAT t).2=0/\ZAx (ZAT t).1=t then some (.rule (ZAT t).1) else none
def ZHc (x:ByteArray):Option Ln:=(ZHx x).map fun t=>.caps t.1 t.2.1 t.2.2
def evO (t:ByteArray):Option Ln:=(evP t).map fun t=>.ev t.1 t.2
def lnK:Nat->ByteArray->Option Ln
 | 0,x=>wd4 (ZAu x envW 4)
 | 1,x=>wd2 .dom (ZAu x domW 2)
 | 2,x=>wd2 .plc (ZAu x plcW 2)
 | 3,x=>ZHc x
 | 4,x=>if begB x rulP=true then ZDe (ZAm x rulP) else none
 | 5,x=>wd1 .cli (ZAu x cliW 1)
 | 6,x=>wd1 .ups (ZAu x upsW 1)
 | 7,_=>some .ce
 | 8,_=>some .ue
 | _,x=>if begB x evtP=true then evO (ZAm x evtP) else none
/-- a line, as the program reads it -/
def ZEa (x:ByteArray):Option Ln:=if (ZBq x).2=true then lnK (ZBq x).1.toNat x else none
def capW (x:ByteArray):Bool:=decide ((ZAa x).head? = some ZD3/\(ZAa x).length=4)
def ZCz (x:ByteArray):Option Ln :=
 if capW x=true then ZHc x else if begB x rulP=true then ZDe (ZAm x rulP) else if begB x evtP=true then evO (ZAm x evtP) else none
/-- a line, as the document reads it -/
def ZHP (x:ByteArray):Option Ln :=
 if (ZAs x envW 4).2=true then wd4 (ZAs x envW 4)
 else if (ZAs x domW 2).2=true then wd2 .dom (ZAs x domW 2)
 else if (ZAs x plcW 2).2=true then wd2 .plc (ZAs x plcW 2)
 else if (ZAs x cliW 1).2=true then wd1 .cli (ZAs x cliW 1)
 else if (ZAs x upsW 1).2=true then wd1 .ups (ZAs x upsW 1)
 else if x=enC then some .ce
 else if x=enU then some .ue
 else ZCz x
theorem ZMk {W:List ByteArray × Bool} {y:Ln} (h:wd4 W=some y):∃ a b c d,W=([a,b,c,d],true)/\y=.env a b c d:=by
 unfold wd4 at h
 split at h
 ·cases h; exact ⟨_,_,_,_,rfl,rfl⟩
 ·cases h
theorem ZIp {f:ByteArray->ByteArray->Ln} {W:List ByteArray × Bool} {y:Ln} (h:wd2 f W=some y):∃ a b,W=([a,b],true)/\y=f a b:=by
 unfold wd2 at h
 split at h
 ·cases h; exact ⟨_,_,rfl,rfl⟩
 ·cases h
theorem ZIw {f:ByteArray->Ln} {W:List ByteArray × Bool} {y:Ln} (h:wd1 f W=some y):∃ a,W=([a],true)/\y=f a:=by
 unfold wd1 at h
 split at h
 ·cases h; exact ⟨_,rfl,rfl⟩
 ·cases h
theorem ZLV {x w:ByteArray} {n:Nat} {l:List ByteArray} (h:ZAu x w n=(l,true)):x.data.toList=rowL w l:=by
 have:=(ZCi (s:=x) (w:=w) (n:=n) (by rw [h])).1
 rw [h] at this
 exact this
theorem ZHl {x w:ByteArray} {n:Nat} {l:List ByteArray} (h:ZAs x w n=(l,true)):x.data.toList=rowL w l:=by
 have:=(ZBO (s:=x) (w:=w) (n:=n) (by rw [h])).1
 rw [h] at this
 exact this
theorem ZEO {x w:ByteArray} (h:begB x w=true):x.data.toList=w.data.toList++(ZAm x w).data.toList:=by
 obtain ⟨r,hr⟩:=ZCc.1 h
 unfold ZAm
 have h':Lib.hasPrefix x.data.toList w.data.toList=true:=h
 show _=_++(List.toArray _).toList
 rw [List.toList_toArray,Lib.trimPrefix,if_pos h',hr,List.drop_left]
theorem ZJD {x w t:ByteArray} (h:x.data.toList=w.data.toList++t.data.toList):begB x w=true/\ZAm x w=t:=by
 have hb:begB x w=true:=ZCc.2 ⟨_,h⟩
 refine ⟨hb,inL ?_⟩
 have:=ZEO hb
 rw [h] at this
 exact (List.append_cancel_left this).symm
theorem ZGX {x w:ByteArray} (h:begB x w=true):x.extract w.size x.size=ZAm x w:=by
 apply inL
 have e:=ZEO h
 have hx:(x.extract w.size x.size).data.toList=x.data.toList.drop w.size:=by
  have hz:x.data.toList.length=x.size:=blen x
  rw [ByteArray.data_extract,Array.toList_extract]
  simp only [List.extract_eq_take_drop]
  rw [<- hz,<- List.length_drop,List.take_length]
 rw [hx,e,<- blen w,List.drop_left]
theorem ZF1 {t:ByteArray} {y:Ln} (h:ZDe t=some y):∃ r,y=.rule r/\ZAO r=0/\ZAx r=t:=by
 unfold ZDe at h
 split at h
 ·rename_i hc; cases h; exact ⟨_,rfl,ZCq hc.1,hc.2⟩
 ·cases h
theorem ZL2 {r:Rl} (h:ZAO r=0):ZDe (ZAx r)=some (.rule r):=by
 unfold ZDe
 rw [ZKS h]
 exact if_pos ⟨rfl,rfl⟩
theorem ZIS {t:ByteArray} {y:Ln} (h:evO t=some y):∃ k n,y=.ev k n/\evOk k n=true/\evT k n=t:=by
 unfold evO at h
 cases he:evP t with
 | none=>rw [he] at h; cases h
 | some p =>
  obtain ⟨k,n⟩:=p
  rw [he] at h
  cases h
  obtain ⟨h1,h2⟩:=ZMs he
  exact ⟨k,n,rfl,h1,h2.symm⟩
theorem evO_of {k n:Int} (h:evOk k n=true):evO (evT k n)=some (.ev k n):=by
 unfold evO
 rw [evP_of h]
 rfl
/-- what was cut, joined again -/
def ZNW (c:UInt8):List (List UInt8)->List UInt8
 | []=>[]
 | [x]=>x
 | x::y::r=>x++c::ZNW c (y::r)
theorem ZHE (c:UInt8) (l:List UInt8):cutL c l≠[]:=by
 cases l with
 | nil=>exact List.cons_ne_nil _ _
 | cons b r =>
  unfold cutL
  split
  ·exact List.cons_ne_nil _ _
  ·split <;> exact List.cons_ne_nil _ _
theorem ZI0 (c:UInt8):∀ l:List UInt8,ZNW c (cutL c l)=l
 | []=>rfl
 | b::r=>by
  have ih:=ZI0 c r
  unfold cutL
  split
  ·rename_i e
   subst e
   cases hr:cutL b r with
   | nil=>exact absurd hr (ZHE _ _)
   | cons x t =>
    rw [hr] at ih
    show []++b::ZNW b (x::t)=_
    rw [ih]
    rfl
  ·split
   ·rename_i hr; exact absurd hr (ZHE _ _)
   ·rename_i x t hr
    rw [hr] at ih
    cases t with
    | nil=>show b::x=_; rw [<- ih]; rfl
    | cons y t=>show (b::x)++c::ZNW c (y::t)=_; rw [<- ih]; rfl
theorem ZH0 {x:ByteArray} {y:Ln} (h:ZHc x=some y):y.Ok/\x.data.toList=y.bytes/\y.rank=3:=by
 unfold ZHc at h
 cases hc:ZHx x with
 | none=>rw [hc] at h; cases h
 | some t =>
  obtain ⟨a,b,c⟩:=t
  rw [hc] at h
  cases h
  unfold ZHx ZHp at hc
  split at hc
  ·rename_i w1 w2 w3 w4 hw
   split at hc
   ·rename_i h1
    split at hc
    ·rename_i n1 n2 n3 e1 e2 e3
     cases hc
     obtain ⟨rfl,r1⟩:=ZCE e1
     obtain ⟨rfl,r2⟩:=ZCE e2
     obtain ⟨rfl,r3⟩:=ZCE e3
     refine ⟨⟨r1,r2,r3⟩,?_,rfl⟩
     have hj:=ZI0 32 x.data.toList
     have hl:cutL 32 x.data.toList=(ZAa x).map fun z=>z.data.toList:=by
      unfold ZAa
      rw [List.map_map]
      exact (List.map_id _).symm
     rw [hl,hw,h1] at hj
     exact hj.symm
    ·cases hc
   ·cases hc
  ·cases hc
theorem ZMJ {h c q:Int} {x:ByteArray} (h1:inR h) (h2:inR c) (h3:inR q) (hx:x.data.toList=ZEd h c q):ZAa x=[ZD3,numT h,numT c,numT q]/\ZHc x=some (.caps h c q):=by
 have hw:ZAa x=[ZD3,numT h,numT c,numT q]:=by
  unfold ZAa
  rw [hx]
  unfold ZEd
  rw [ZBz (by decide),ZBz (fun b hb=>(ZC6 b hb).2),ZBz (fun b hb=>(ZC6 b hb).2),ZCP (fun b hb=>(ZC6 b hb).2)]
  rfl
 refine ⟨hw,?_⟩
 unfold ZHc ZHx
 rw [hw]
 unfold ZHp
 simp only [if_true,ZJd h1,ZJd h2,ZJd h3]
 rfl
theorem lnK_some {k:Nat} {x:ByteArray} {y:Ln} (hk:k<=9) (h:lnK k x=some y) (h7:k=7->x=enC) (h8:k=8->x=enU):y.Ok/\x.data.toList=y.bytes/\y.rank=k:=by
 obtain rfl | rfl | rfl | rfl | rfl | rfl | rfl | rfl | rfl | rfl:k=0 \/ k=1 \/ k=2 \/ k=3 \/ k=4 \/ k=5 \/ k=6 \/ k=7 \/ k=8 \/ k=9:=by omega
 ·obtain ⟨a,b,c,d,e,rfl⟩:=ZMk h; exact ⟨trivial,ZLV e,rfl⟩
 iterate 2
  ·obtain ⟨a,b,e,rfl⟩:=ZIp h; exact ⟨trivial,ZLV e,rfl⟩
 ·exact ZH0 h
 ·have h:(if begB x rulP=true then ZDe (ZAm x rulP) else none)=some y:=h
  split at h
  ·rename_i hb
   obtain ⟨r,rfl,h1,h2⟩:=ZF1 h
   have:=ZEO hb
   rw [<- h2] at this
   exact ⟨h1,this,rfl⟩
  ·cases h
 iterate 2
  ·obtain ⟨a,e,rfl⟩:=ZIw h; exact ⟨trivial,ZLV e,rfl⟩
 ·cases h; exact ⟨trivial,by rw [h7 rfl]; rfl,rfl⟩
 ·cases h; exact ⟨trivial,by rw [h8 rfl]; rfl,rfl⟩
 ·have h:(if begB x evtP=true then evO (ZAm x evtP) else none)=some y:=h
  split at h
  ·rename_i hb
   obtain ⟨a,b,rfl,h1,h2⟩:=ZIS h
   have:=ZEO hb
   rw [<- h2] at this
   exact ⟨h1,this,rfl⟩
  ·cases h
theorem kind_le (x:ByteArray):0<=(ZBq x).1/\(ZBq x).1<=9:=by
 unfold ZBq
 repeat' split
 all_goals simp
theorem kind_end {x:ByteArray} (h:(ZBq x).2=true):((ZBq x).1=7->x=enC)/\((ZBq x).1=8->x=enU):=by
 unfold ZBq at h ⊢
 repeat' split
 all_goals first
  | exact ⟨fun e=>absurd e (by decide),fun e=>absurd e (by decide)⟩
  | exact ⟨fun _=>by assumption,fun e=>absurd e (by decide)⟩
  | skip
 ·refine ⟨fun e=>absurd (show (8:Int)=7 from e) (by decide),fun _=>?_⟩
  simp only [*,if_true,if_false] at h
  exact of_decide_eq_true h
 ·exact ⟨fun e=>absurd (show (9:Int)=7 from e) (by decide),fun e=>absurd (show (9:Int)=8 from e) (by decide)⟩
theorem ZMl {x:ByteArray} {y:Ln} (h:ZEa x=some y):y.Ok/\x.data.toList=y.bytes/\ZBq x=((y.rank:Int),true):=by
 unfold ZEa at h
 split at h
 ·rename_i hk
  obtain ⟨k1,k2⟩:=kind_le x
  obtain ⟨e1,e2⟩:=kind_end hk
  obtain ⟨r1,r2,r3⟩:=lnK_some (by omega) h (fun e=>e1 (by omega)) (fun e=>e2 (by omega))
  exact ⟨r1,r2,Prod.ext (by show (ZBq x).1=(y.rank:Int); omega) hk⟩
 ·cases h
theorem ZFQ (w a:ByteArray) (l:List ByteArray):rowL w (a::l)=w.data.toList++32::(ZBR a.data.toList++l.flatMap fun x=>32::ZBR x.data.toList):=by simp [rowL]
theorem ZDZ {x w:ByteArray} {r:List UInt8} (h:∀ b∈w.data.toList,b≠32) (hs:x.data.toList=w.data.toList++32::r):ZEp x=w/\(ZAa x).head? = some w:=by
 have:=ZI6 (s:=x) (a:=w) (b:=⟨r.toArray⟩) h (by rw [hs])
 exact ⟨this.1,by rw [this.2.2]; rfl⟩
theorem kind_of {y:Ln} {x:ByteArray} (hx:x.data.toList=y.bytes):ZBq x=((y.rank:Int),true):=by
 cases y with
 | env a b c d =>
  have hw:=ZDZ (x:=x) (w:=envW) (by decide) (hx.trans (ZFQ _ _ _))
  unfold ZBq
  rw [hw.1]
  exact (if_pos rfl)
 | dom a b =>
  have hw:=ZDZ (x:=x) (w:=domW) (by decide) (hx.trans (ZFQ _ _ _))
  unfold ZBq
  rw [hw.1]
  exact ((if_neg (by decide)).trans (if_pos rfl))
 | plc a b =>
  have hw:=ZDZ (x:=x) (w:=plcW) (by decide) (hx.trans (ZFQ _ _ _))
  unfold ZBq
  rw [hw.1]
  exact ((if_neg (by decide)).trans ((if_neg (by decide)).trans (if_pos rfl)))
 | caps h c q =>
  have hw:=ZDZ (x:=x) (w:=ZD3) (by decide) hx
  unfold ZBq
  rw [hw.1]
  exact ((if_neg (by decide)).trans ((if_neg (by decide)).trans ((if_neg (by decide)).trans (if_pos rfl))))
 | rule r =>
  have hw:=ZDZ (x:=x) (w:=rulW) (by decide) (r:=(ZAx r).data.toList) hx
  unfold ZBq
  rw [hw.1]
  exact ((if_neg (by decide)).trans ((if_neg (by decide)).trans ((if_neg (by decide)).trans ((if_neg (by decide)).trans (if_pos rfl)))))
 | cli a =>
  have hw:=ZDZ (x:=x) (w:=cliW) (by decide) (hx.trans (ZFQ _ _ _))
  unfold ZBq
  rw [hw.1]
  exact ((if_neg (by decide)).trans ((if_neg (by decide)).trans ((if_neg (by decide)).trans ((if_neg (by decide)).trans ((if_neg (by decide)).trans (if_pos rfl))))))
 | ups a =>
  have hw:=ZDZ (x:=x) (w:=upsW) (by decide) (hx.trans (ZFQ _ _ _))
  unfold ZBq
  rw [hw.1]
  exact ((if_neg (by decide)).trans ((if_neg (by decide)).trans ((if_neg (by decide)).trans ((if_neg (by decide)).trans ((if_neg (by decide)).trans ((if_neg (by decide)).trans (if_pos rfl)))))))
 | ce =>
  obtain rfl:x=enC:=inL hx
  kernel_rfl
 | ue =>
  obtain rfl:x=enU:=inL hx
  kernel_rfl
 | ev k n =>
  have hw:=ZDZ (x:=x) (w:=evtW) (by decide) (r:=(evT k n).data.toList) hx
  unfold ZBq
  rw [hw.1]
  exact ((if_neg (by decide)).trans ((if_neg (by decide)).trans ((if_neg (by decide)).trans ((if_neg (by decide)).trans ((if_neg (by decide)).trans ((if_neg (by decide)).trans ((if_neg (by decide)).trans (if_neg (by decide)))))))))
theorem P_of {y:Ln} {x:ByteArray} (hy:y.Ok) (hx:x.data.toList=y.bytes):ZEa x=some y:=by
 have hk:=kind_of hx
 unfold ZEa
 rw [hk]
 show lnK y.rank x=some y
 cases y with
 | env a b c d=>show wd4 (ZAu x envW [a,b,c,d].length)=_; rw [ZD9 hx]; rfl
 | dom a b=>show wd2 .dom (ZAu x domW [a,b].length)=_; rw [ZD9 hx]; rfl
 | plc a b=>show wd2 .plc (ZAu x plcW [a,b].length)=_; rw [ZD9 hx]; rfl
 | caps h c q=>exact (ZMJ hy.1 hy.2.1 hy.2.2 hx).2
 | rule r =>
  obtain ⟨h1,h2⟩:=ZJD (x:=x) (w:=rulP) (t:=ZAx r) hx
  show (if begB x rulP=true then ZDe (ZAm x rulP) else none)=_
  rw [if_pos h1,h2,ZL2 hy]
 | cli a=>show wd1 .cli (ZAu x cliW [a].length)=_; rw [ZD9 hx]; rfl
 | ups a=>show wd1 .ups (ZAu x upsW [a].length)=_; rw [ZD9 hx]; rfl
 | ce=>rfl
 | ue=>rfl
 | ev k n =>
  obtain ⟨h1,h2⟩:=ZJD (x:=x) (w:=evtP) (t:=evT k n) hx
  show (if begB x evtP=true then evO (ZAm x evtP) else none)=_
  rw [if_pos h1,h2,evO_of hy]
theorem ZLp {x:ByteArray} {y:Ln} (h:ZCz x=some y):y.Ok/\x.data.toList=y.bytes:=by
 unfold ZCz at h
 split at h
 ·obtain ⟨h1,h2,_⟩:=ZH0 h; exact ⟨h1,h2⟩
 ·split at h
  ·rename_i hb
   obtain ⟨r,rfl,h1,h2⟩:=ZF1 h
   have:=ZEO hb
   rw [<- h2] at this
   exact ⟨h1,this⟩
  ·split at h
   ·rename_i hb
    obtain ⟨a,b,rfl,h1,h2⟩:=ZIS h
    have:=ZEO hb
    rw [<- h2] at this
    exact ⟨h1,this⟩
   ·cases h
theorem R_some {x:ByteArray} {y:Ln} (h:ZHP x=some y):y.Ok/\x.data.toList=y.bytes:=by
 unfold ZHP at h
 split at h
 ·obtain ⟨a,b,c,d,e,rfl⟩:=ZMk h; exact ⟨trivial,ZHl e⟩
 split at h
 ·obtain ⟨a,b,e,rfl⟩:=ZIp h; exact ⟨trivial,ZHl e⟩
 split at h
 ·obtain ⟨a,b,e,rfl⟩:=ZIp h; exact ⟨trivial,ZHl e⟩
 split at h
 ·obtain ⟨a,e,rfl⟩:=ZIw h; exact ⟨trivial,ZHl e⟩
 split at h
 ·obtain ⟨a,e,rfl⟩:=ZIw h; exact ⟨trivial,ZHl e⟩
 split at h
 ·rename_i e; cases h; exact ⟨trivial,by rw [e]; rfl⟩
 split at h
 ·rename_i e; cases h; exact ⟨trivial,by rw [e]; rfl⟩
 exact ZLp h
theorem cF_wd4 {x w:ByteArray} (h:(ZAs x w 4).2=true):∃ y,wd4 (ZAs x w 4)=some y:=by
 have hl:=(ZBO h).2
 generalize ZAs x w 4=W at h hl
 obtain ⟨l,b⟩:=W
 cases h
 match l,hl with
 | [a,b,c,d],_=>exact ⟨_,rfl⟩
theorem cF_wd2 {f:ByteArray->ByteArray->Ln} {x w:ByteArray} (h:(ZAs x w 2).2=true):∃ y,wd2 f (ZAs x w 2)=some y:=by
 have hl:=(ZBO h).2
 generalize ZAs x w 2=W at h hl
 obtain ⟨l,b⟩:=W
 cases h
 match l,hl with
 | [a,b],_=>exact ⟨_,rfl⟩
theorem cF_wd1 {f:ByteArray->Ln} {x w:ByteArray} (h:(ZAs x w 1).2=true):∃ y,wd1 f (ZAs x w 1)=some y:=by
 have hl:=(ZBO h).2
 generalize ZAs x w 1=W at h hl
 obtain ⟨l,b⟩:=W
 cases h
 match l,hl with
 | [a],_=>exact ⟨_,rfl⟩
theorem R_has {y:Ln} {x:ByteArray} (hy:y.Ok) (hx:x.data.toList=y.bytes):∃ z,ZHP x=some z:=by
 unfold ZHP
 split
 ·rename_i h; exact cF_wd4 h
 rename_i h1
 split
 ·rename_i h; exact cF_wd2 h
 rename_i h2
 split
 ·rename_i h; exact cF_wd2 h
 rename_i h3
 split
 ·rename_i h; exact cF_wd1 h
 rename_i h4
 split
 ·rename_i h; exact cF_wd1 h
 rename_i h5
 split
 ·exact ⟨_,rfl⟩
 rename_i h6
 split
 ·exact ⟨_,rfl⟩
 rename_i h7
 have hcap:∀ {w:ByteArray} {r:List UInt8},(∀ b∈w.data.toList,b≠32)->w≠ZD3->x.data.toList=w.data.toList++32::r->¬ capW x=true:=fun hw hne hs hc=>by
  have:=(of_decide_eq_true hc).1
  rw [(ZDZ hw hs).2] at this
  exact hne (Option.some.inj this)
 cases y with
 | env a b c d=>exact absurd (by rw [show (4:Nat)=[a,b,c,d].length from rfl,ZD6 hx]) h1
 | dom a b=>exact absurd (by rw [show (2:Nat)=[a,b].length from rfl,ZD6 hx]) h2
 | plc a b=>exact absurd (by rw [show (2:Nat)=[a,b].length from rfl,ZD6 hx]) h3
 | caps h c q =>
  obtain ⟨e1,e2⟩:=ZMJ hy.1 hy.2.1 hy.2.2 hx
  refine ⟨.caps h c q,?_⟩
  ·unfold ZCz
   have hc:capW x=true:=decide_eq_true (by rw [e1]; exact ⟨rfl,rfl⟩)
   rw [if_pos hc]
   exact e2
 | rule r =>
  obtain ⟨e1,e2⟩:=ZJD (x:=x) (w:=rulP) (t:=ZAx r) hx
  refine ⟨.rule r,?_⟩
  ·unfold ZCz
   rw [if_neg (hcap (w:=rulW) (r:=(ZAx r).data.toList) (by decide) (by decide) hx),if_pos e1,e2]
   exact ZL2 hy
 | cli a=>exact absurd (by rw [show (1:Nat)=[a].length from rfl,ZD6 hx]) h4
 | ups a=>exact absurd (by rw [show (1:Nat)=[a].length from rfl,ZD6 hx]) h5
 | ce=>exact absurd (inL hx) h6
 | ue=>exact absurd (inL hx) h7
 | ev k n =>
  obtain ⟨e1,e2⟩:=ZJD (x:=x) (w:=evtP) (t:=evT k n) hx
  have hnr:¬ begB x rulP=true:=fun e=>by
   obtain ⟨r,hr⟩:=ZCc.1 e
   have:x.data.toList=evtP.data.toList++(evT k n).data.toList:=hx
   rw [this] at hr
   have:=(List.cons.inj hr).1
   exact absurd this (by decide)
  refine ⟨.ev k n,?_⟩
  ·unfold ZCz
   rw [if_neg (hcap (w:=evtW) (r:=(evT k n).data.toList) (by decide) (by decide) hx),if_neg hnr,if_pos e1,e2]
   exact evO_of hy
theorem line_eq (x:ByteArray):ZHP x=ZEa x:=by
 cases h:ZHP x with
 | some y =>
  obtain ⟨h1,h2⟩:=R_some h
  exact (P_of h1 h2).symm
 | none =>
  cases h2:ZEa x with
  | none=>rfl
  | some y =>
   obtain ⟨e1,e2,_⟩:=ZMl h2
   obtain ⟨z,hz⟩:=R_has e1 e2
   rw [h] at hz
   cases hz
end
section
structure Scr where
 ec:ByteArray
 eh:ByteArray
 es:ByteArray
 eb:ByteArray
 doms:List Swp
 locs:List Swp
 ch:Int
 cc:Int
 cq:Int
 rules:List Rl
 cl:ByteArray
 up:ByteArray
 ce:Bool
 ue:Bool
 evs:List (Int × Int)
def e0:ByteArray:=⟨#[]⟩
def s0:Scr:=⟨e0,e0,e0,e0,[],[],0,0,0,[],e0,e0,false,false,[]⟩
def apL (s:Scr):Ln->Scr
 | .env a b c d=>{ s with ec:=a,eh:=b,es:=c,eb:=d }
 | .dom a b=>{ s with doms:=s.doms++[(a,b)] }
 | .plc a b=>{ s with locs:=s.locs++[(a,b)] }
 | .caps h c q=>{ s with ch:=h,cc:=c,cq:=q }
 | .rule r=>{ s with rules:=s.rules++[r] }
 | .cli a=>{ s with cl:=a }
 | .ups a=>{ s with up:=a }
 | .ce=>{ s with ce:=true }
 | .ue=>{ s with ue:=true }
 | .ev k n=>{ s with evs:=s.evs++[(k,n)] }
def ZBu (p:Scr × Nat) (y:Ln):Option (Scr × Nat):=if ZCU p.2 y.rank=true then some (apL p.1 y,y.rank+1) else none
def ZCA:List Ln->Scr × Nat->Option (Scr × Nat)
 | [],p=>some p
 | y::r,p=>match ZBu p y with
  | none=>none
  | some q=>ZCA r q
theorem ZBm:∀ {a b:List Ln} {p q:Scr × Nat},ZCA a p=some q->ZCA (a++b) p=ZCA b q
 | [],_,_,_,h=>by cases h; rfl
 | y::r,b,p,q,h=>by
  have h:(match ZBu p y with | none=>none | some q=>ZCA r q)=some q:=h
  show (match ZBu p y with | none=>none | some q=>ZCA (r++b) q)=_
  cases hs:ZBu p y with
  | none=>rw [hs] at h; cases h
  | some z=>rw [hs] at h; exact ZBm h
def bI {α:Type} (b:Bool) (x:α):List α:=if b=true then [x] else []
def domN (x:Swp):Ln:=.dom x.1 x.2
def plcN (x:Swp):Ln:=.plc x.1 x.2
def evN (x:Int × Int):Ln:=.ev x.1 x.2
/-- a script's lines, as far as they have come -/
def prG (s:Scr) (l:Nat):List Ln :=
 bI (decide (1<=l)) (.env s.ec s.eh s.es s.eb)++(s.doms.map domN++(s.locs.map plcN++(bI (decide (4<=l)) (.caps s.ch s.cc s.cq)++(s.rules.map .rule++(bI (decide (6<=l)) (.cli s.cl)++(bI (decide (7<=l)) (.ups s.up)++(bI s.ce .ce++(bI s.ue .ue++s.evs.map evN))))))))
def prL (s:Scr):List Ln:=prG s 7
structure InvS (s:Scr) (l:Nat):Prop where
 doms:l<2->s.doms=[]
 locs:l<3->s.locs=[]
 rules:l<5->s.rules=[]
 ce:l<8->s.ce=false
 ue:l<9->s.ue=false
 evs:l<10->s.evs=[]
 l1:l<1->s.ec=e0/\s.eh=e0/\s.es=e0/\s.eb=e0
 l4:l<4->s.ch=0/\s.cc=0/\s.cq=0
 l6:l<6->s.cl=e0
 l7:l<7->s.up=e0
theorem InvS.zero:InvS s0 0:=⟨fun _=>rfl,fun _=>rfl,fun _=>rfl,fun _=>rfl,fun _=>rfl,fun _=>rfl,fun _=>⟨rfl,rfl,rfl,rfl⟩,fun _=>⟨rfl,rfl,rfl⟩,fun _=>rfl,fun _=>rfl⟩
theorem ZK3 (y:Ln):y.rank+1<=10:=by cases y <;> simp [Ln.rank]
theorem ZMV {s s':Scr} {l l':Nat} {y:Ln} (hi:InvS s l) (hl:l<=10) (h:ZBu (s,l) y=some (s',l')):InvS s' l'/\l'<=10/\prG s' l'=prG s l++[y]:=by
 unfold ZBu at h
 split at h
 ·rename_i hf
  have hf:ZCU l y.rank=true:=hf
  cases h
  obtain ⟨i1,i2,i3,i4,i5,i6,i7,i8,i9,i10⟩:=hi
  obtain rfl | rfl | rfl | rfl | rfl | rfl | rfl | rfl | rfl | rfl | rfl:l=0 \/ l=1 \/ l=2 \/ l=3 \/ l=4 \/ l=5 \/ l=6 \/ l=7 \/ l=8 \/ l=9 \/ l=10:=by omega
  all_goals
   cases y
   all_goals first
    | (exfalso; simp [Ln.rank,ZCU] at hf; done)
    | (refine ⟨?_,ZK3 _,?_⟩
       ·constructor <;> simp_all [apL,Ln.rank]
       ·(simp_all [prG,apL,Ln.rank,bI,domN,plcN,evN]) <;> rfl)
 ·cases h
theorem ZMC:∀ {ys:List Ln} {zs:List Ln} {p q:Scr × Nat},InvS p.1 p.2->p.2<=10->prG p.1 p.2=zs->ZCA ys p=some q->InvS q.1 q.2/\q.2<=10/\prG q.1 q.2=zs++ys
 | [],zs,p,q,h1,h2,h3,h=>by cases h; exact ⟨h1,h2,by rw [h3,List.append_nil]⟩
 | y::ys,zs,(s,l),q,h1,h2,h3,h=>by
  unfold ZCA at h
  cases hs:ZBu (s,l) y with
  | none=>rw [hs] at h; cases h
  | some z =>
   obtain ⟨s',l'⟩:=z
   rw [hs] at h
   obtain ⟨k1,k2,k3⟩:=ZMV h1 h2 hs
   have:=ZMC (zs:=zs++[y]) k1 k2 (by rw [k3]; exact congrArg (·++[y]) h3) h
   rw [List.append_assoc] at this
   exact this
theorem prG_7 {s:Scr} {l:Nat} (h:7<=l):prG s l=prL s:=by
 unfold prL prG
 rw [decide_eq_true (show 1<=l by omega),decide_eq_true (show 4<=l by omega),decide_eq_true (show 6<=l by omega),decide_eq_true h]
 rfl
theorem ZKm:∀ (ds:List Swp) (s:Scr) (l:Nat),(l=1 \/ l=2)->∃ l',(l'=1 \/ l'=2)/\ZCA (ds.map domN) (s,l)=some ({ s with doms:=s.doms++ds },l')
 | [],s,l,h=>⟨l,h,by show some (s,l)=_; rw [List.append_nil]⟩
 | d::ds,s,l,h=>by
  obtain ⟨l',h1,h2⟩:=ZKm ds (apL s (domN d)) 2 (.inr rfl)
  refine ⟨l',h1,?_⟩
  have hs:ZBu (s,l) (domN d)=some (apL s (domN d),2):=by rcases h with rfl | rfl <;> rfl
  rw [List.map_cons]
  unfold ZCA
  rw [hs]
  refine h2.trans ?_
  simp [apL,domN]
theorem ZJe:∀ (ds:List Swp) (s:Scr) (l:Nat),(l=1 \/ l=2 \/ l=3)->∃ l',(l'=1 \/ l'=2 \/ l'=3)/\ZCA (ds.map plcN) (s,l)=some ({ s with locs:=s.locs++ds },l')
 | [],s,l,h=>⟨l,h,by show some (s,l)=_; rw [List.append_nil]⟩
 | d::ds,s,l,h=>by
  obtain ⟨l',h1,h2⟩:=ZJe ds (apL s (plcN d)) 3 (.inr (.inr rfl))
  refine ⟨l',h1,?_⟩
  have hs:ZBu (s,l) (plcN d)=some (apL s (plcN d),3):=by rcases h with rfl | rfl | rfl <;> rfl
  rw [List.map_cons]
  unfold ZCA
  rw [hs]
  refine h2.trans ?_
  simp [apL,plcN]
theorem ZH7:∀ (ds:List Rl) (s:Scr) (l:Nat),(l=4 \/ l=5)->∃ l',(l'=4 \/ l'=5)/\ZCA (ds.map .rule) (s,l)=some ({ s with rules:=s.rules++ds },l')
 | [],s,l,h=>⟨l,h,by show some (s,l)=_; rw [List.append_nil]⟩
 | d::ds,s,l,h=>by
  obtain ⟨l',h1,h2⟩:=ZH7 ds (apL s (.rule d)) 5 (.inr rfl)
  refine ⟨l',h1,?_⟩
  have hs:ZBu (s,l) (.rule d)=some (apL s (.rule d),5):=by rcases h with rfl | rfl <;> rfl
  rw [List.map_cons]
  unfold ZCA
  rw [hs]
  refine h2.trans ?_
  simp [apL]
theorem ZL0:∀ (ds:List (Int × Int)) (s:Scr) (l:Nat),7<=l->∃ l',7<=l'/\ZCA (ds.map evN) (s,l)=some ({ s with evs:=s.evs++ds },l')
 | [],s,l,h=>⟨l,h,by show some (s,l)=_; rw [List.append_nil]⟩
 | d::ds,s,l,h=>by
  obtain ⟨l',h1,h2⟩:=ZL0 ds (apL s (evN d)) 10 (by decide)
  refine ⟨l',h1,?_⟩
  have hs:ZBu (s,l) (evN d)=some (apL s (evN d),10):=by
   show (if ZCU l 9=true then some (apL s (evN d),10) else none)=_
   rw [if_pos (show ZCU l 9=true from decide_eq_true h)]
  rw [List.map_cons]
  unfold ZCA
  rw [hs]
  refine h2.trans ?_
  simp [apL,evN]
theorem ZGl {s:Scr} {l:Nat} {y:Ln} (h:ZCU l y.rank=true):ZCA [y] (s,l)=some (apL s y,y.rank+1):=by
 unfold ZCA ZBu
 rw [if_pos h]
 rfl
theorem fold_pr (s:Scr):∃ l,7<=l/\ZCA (prL s) (s0,0)=some (s,l):=by
 obtain ⟨ec,eh,es,eb,doms,locs,ch,cc,cq,rules,cl,up,ce,ue,evs⟩:=s
 unfold prL prG
 have t1:decide (1<=7)=true:=rfl
 have t4:decide (4<=7)=true:=rfl
 have t6:decide (6<=7)=true:=rfl
 have t7:decide (7<=7)=true:=rfl
 rw [t1,t4,t6,t7]
 have h1:=ZGl (s:=s0) (l:=0) (y:=.env ec eh es eb) rfl
 rw [show bI true (Ln.env ec eh es eb)=[.env ec eh es eb] from rfl,ZBm h1]
 obtain ⟨l2,k2,h2⟩:=ZKm doms (apL s0 (.env ec eh es eb)) 1 (.inl rfl)
 rw [show ((Ln.env ec eh es eb).rank+1)=1 from rfl,ZBm h2]
 obtain ⟨l3,k3,h3⟩:=ZJe locs { apL s0 (.env ec eh es eb) with doms:=(apL s0 (.env ec eh es eb)).doms++doms } l2 (by omega)
 rw [ZBm h3]
 have h4:=ZGl (s:=⟨ec,eh,es,eb,doms,locs,0,0,0,[],e0,e0,false,false,[]⟩) (l:=l3) (y:=.caps ch cc cq) (by rcases k3 with rfl | rfl | rfl <;> rfl)
 rw [show bI true (Ln.caps ch cc cq)=[.caps ch cc cq] from rfl]
 obtain ⟨l5,k5,h5⟩:=ZH7 rules ⟨ec,eh,es,eb,doms,locs,ch,cc,cq,[],e0,e0,false,false,[]⟩ 4 (.inl rfl)
 have h6:=ZGl (s:=⟨ec,eh,es,eb,doms,locs,ch,cc,cq,rules,e0,e0,false,false,[]⟩) (l:=l5) (y:=.cli cl) (by rcases k5 with rfl | rfl <;> rfl)
 have h7:=ZGl (s:=⟨ec,eh,es,eb,doms,locs,ch,cc,cq,rules,cl,e0,false,false,[]⟩) (l:=6) (y:=.ups up) rfl
 have h8:∃ l8,7<=l8/\l8<=8/\ZCA (bI ce .ce) (⟨ec,eh,es,eb,doms,locs,ch,cc,cq,rules,cl,up,false,false,[]⟩,7)=some (⟨ec,eh,es,eb,doms,locs,ch,cc,cq,rules,cl,up,ce,false,[]⟩,l8):=by
  cases ce
  ·exact ⟨7,by decide,by decide,rfl⟩
  ·exact ⟨8,by decide,by decide,rfl⟩
 obtain ⟨l8,k8,k8',h8⟩:=h8
 have h9:∃ l9,7<=l9/\ZCA (bI ue .ue) (⟨ec,eh,es,eb,doms,locs,ch,cc,cq,rules,cl,up,ce,false,[]⟩,l8)=some (⟨ec,eh,es,eb,doms,locs,ch,cc,cq,rules,cl,up,ce,ue,[]⟩,l9):=by
  cases ue
  ·exact ⟨l8,k8,rfl⟩
  ·obtain rfl | rfl:l8=7 \/ l8=8:=by omega
   ·exact ⟨9,by decide,rfl⟩
   ·exact ⟨9,by decide,rfl⟩
 obtain ⟨l9,k9,h9⟩:=h9
 obtain ⟨lA,kA,hA⟩:=ZL0 evs ⟨ec,eh,es,eb,doms,locs,ch,cc,cq,rules,cl,up,ce,ue,[]⟩ l9 k9
 refine ⟨lA,kA,?_⟩
 refine (ZBm (b:=rules.map .rule++(bI true (.cli cl)++(bI true (.ups up)++(bI ce .ce++(bI ue .ue++evs.map evN))))) (a:=[.caps ch cc cq]) (q:=(⟨ec,eh,es,eb,doms,locs,ch,cc,cq,[],e0,e0,false,false,[]⟩,4)) ?_).trans ?_
 ·exact h4
 refine (ZBm h5).trans ?_
 refine (ZBm (a:=bI true (.cli cl)) h6).trans ?_
 refine (ZBm (a:=bI true (.ups up)) h7).trans ?_
 refine (ZBm h8).trans ?_
 refine (ZBm h9).trans ?_
 exact hA
/-- lines' bytes -/
def linesOf (l:List Ln):List UInt8:=l.flatMap fun y=>y.bytes++[10]
theorem linesOf_app (a b:List Ln):linesOf (a++b)=linesOf a++linesOf b:=by simp [linesOf]
def lnB (y:Ln):ByteArray:=⟨y.bytes.toArray⟩
theorem ZHG (y:Ln):(lnB y).data.toList=y.bytes:=by
 unfold lnB
 show (List.toArray _).toList=_
 rw [List.toList_toArray]
theorem ZFG (w:ByteArray) (l:List ByteArray) (hw:∀ b∈w.data.toList,b≠10):∀ b∈rowL w l,b≠10:=fun b hb=>by
 rcases List.mem_append.1 hb with h | h
 ·exact hw b h
 ·obtain ⟨x,_,hx⟩:=List.mem_flatMap.1 h
  rcases List.mem_cons.1 hx with rfl | hx
  ·decide
  ·exact ZNE _ b hx
theorem caps_no10 (h c q:Int):∀ b∈ZEd h c q,b≠10:=fun b hb=>by
 unfold ZEd at hb
 rcases List.mem_append.1 hb with k | k
 ·exact (by decide:∀ b∈ZD3.data.toList,b≠10) b k
 rcases List.mem_cons.1 k with rfl | k
 ·decide
 rcases List.mem_append.1 k with k | k
 ·exact (ZC6 b k).1
 rcases List.mem_cons.1 k with rfl | k
 ·decide
 rcases List.mem_append.1 k with k | k
 ·exact (ZC6 b k).1
 rcases List.mem_cons.1 k with rfl | k
 ·decide
 exact (ZC6 b k).1
theorem evT_no10 {k n:Int} (h:evOk k n=true):∀ b∈(evT k n).data.toList,b≠10:=fun b hb=>by
 obtain ⟨w,r,e,_,_,hc⟩:=ZGh h
 rw [e] at hb
 rcases hc with ⟨rfl,_,rfl,_⟩ | ⟨rfl,_,rfl,_⟩ | ⟨rfl,_,_,rfl⟩ | ⟨rfl,_,_,rfl⟩
 ·rcases List.mem_append.1 hb with h | h
  ·exact (by decide:∀ b∈cliW.data.toList,b≠10) b h
  ·rcases List.mem_cons.1 h with rfl | h
   ·decide
   ·exact (ZC6 b h).1
 ·rcases List.mem_append.1 hb with h | h
  ·exact (by decide:∀ b∈upsW.data.toList,b≠10) b h
  ·rcases List.mem_cons.1 h with rfl | h
   ·decide
   ·exact (ZC6 b h).1
 ·exact (by decide:∀ b∈cliW.data.toList++32::endB.data.toList,b≠10) b hb
 ·exact (by decide:∀ b∈upsW.data.toList++32::endB.data.toList,b≠10) b hb
theorem ln_no10 {y:Ln} (hy:y.Ok):∀ b∈y.bytes,b≠10:=by
 cases y with
 | env a b c d=>exact ZFG _ _ (by decide)
 | dom a b=>exact ZFG _ _ (by decide)
 | plc a b=>exact ZFG _ _ (by decide)
 | caps h c q=>exact caps_no10 h c q
 | rule r =>
  intro b hb
  rcases List.mem_append.1 hb with h | h
  ·exact (by decide:∀ b∈rulP.data.toList,b≠10) b h
  ·exact text_no10 hy b h
 | cli a=>exact ZFG _ _ (by decide)
 | ups a=>exact ZFG _ _ (by decide)
 | ce=>show ∀ b∈enC.data.toList,b≠10; decide
 | ue=>show ∀ b∈enU.data.toList,b≠10; decide
 | ev k n =>
  intro b hb
  rcases List.mem_append.1 hb with h | h
  ·exact (by decide:∀ b∈evtP.data.toList,b≠10) b h
  ·exact evT_no10 hy b h
theorem ZJq:∀ {l:List Ln},(∀ y∈l,y.Ok)->cutL 10 (linesOf l)=l.map Ln.bytes++[[]]
 | [],_=>rfl
 | y::l,h=>by
  have e:linesOf (y::l)=y.bytes++10::linesOf l:=by simp [linesOf]
  rw [e,ZBz (ln_no10 (h y (.head _))),ZJq (fun x hx=>h x (.tail _ hx))]
  rfl
theorem linesB_of {s:ByteArray} {l:List Ln} (h:∀ y∈l,y.Ok) (hs:s.data.toList=linesOf l):linesB s=l.map lnB++[e0]:=by
 unfold linesB
 rw [hs,ZJq h,List.map_append,List.map_map]
 rfl
/-- a script, read line by line -/
def ZDG (p:Scr × Nat) (x:ByteArray):Option (Scr × Nat):=match ZEa x with
 | none=>none
 | some y=>ZBu p y
def runS:List ByteArray->Nat->Scr->Nat->Scr × Int × Int
 | [],i,_,_=>(s0,(i:Int),2)
 | [x],i,s,l=>if x=e0/\7<=l then (s,0,0) else (s0,((i+1:Nat):Int),2)
 | x::y::r,i,s,l=>match ZDG (s,l) x with
  | none=>(s0,((i+1:Nat):Int),2)
  | some (s',l')=>runS (y::r) (i+1) s' l'
def ZCd (t:ByteArray):Scr × Int × Int:=if 4194304<t.size then (s0,0,3) else runS (linesB t) 0 s0 0
theorem ZD2 {x:ByteArray} {L:List ByteArray} (h:L≠[]) (i:Nat) (s:Scr) (l:Nat):runS (x::L) i s l=match ZDG (s,l) x with
  | none=>(s0,((i+1:Nat):Int),2)
  | some (s',l')=>runS L (i+1) s' l':=by
 cases L with
 | nil=>exact absurd rfl h
 | cons y r=>rfl
theorem run_ok:∀ {ys:List Ln} {i:Nat} {s:Scr} {l:Nat} {q:Scr × Nat},(∀ y∈ys,y.Ok)->ZCA ys (s,l)=some q->7<=q.2->runS (ys.map lnB++[e0]) i s l=(q.1,0,0)
 | [],i,s,l,q,_,h,h7=>by
  cases h
  show (if e0=e0/\7<=l then (s,(0:Int),(0:Int)) else _)=_
  rw [if_pos ⟨rfl,h7⟩]
 | y::ys,i,s,l,q,hy,h,h7=>by
  rw [List.map_cons,List.cons_append,ZD2 (by simp)]
  unfold ZDG
  rw [P_of (hy y (.head _)) (ZHG y)]
  unfold ZCA at h
  cases hs:ZBu (s,l) y with
  | none=>rw [hs] at h; cases h
  | some z =>
   obtain ⟨s',l'⟩:=z
   rw [hs] at h
   show (match ZBu (s,l) y with | none=>(s0,((i+1:Nat):Int),(2:Int)) | some (s',l')=>runS (List.map lnB ys++[e0]) (i+1) s' l')=_
   rw [hs]
   exact run_ok (fun x hx=>hy x (.tail _ hx)) h h7
theorem ZMZ:∀ {L:List ByteArray} {i:Nat} {s r:Scr} {l:Nat} {n:Int},runS L i s l=(r,n,0)->n=0/\∃ (ys:List Ln) (m:Nat),L=ys.map lnB++[e0]/\(∀ y∈ys,y.Ok)/\ZCA ys (s,l)=some (r,m)/\7<=m
 | [],i,s,r,l,n,h=>by cases h
 | [x],i,s,r,l,n,h=>by
  have h:(if x=e0/\7<=l then (s,(0:Int),(0:Int)) else (s0,((i+1:Nat):Int),2))=(r,n,0):=h
  split at h
  ·rename_i hc
   cases h
   exact ⟨rfl,[],l,by rw [hc.1]; rfl,fun y hy=>by (cases hy),rfl,hc.2⟩
  ·cases h
 | x::y::L,i,s,r,l,n,h=>by
  rw [ZD2 (List.cons_ne_nil _ _)] at h
  unfold ZDG at h
  cases hp:ZEa x with
  | none=>rw [hp] at h; cases h
  | some z =>
   rw [hp] at h
   cases hs:ZBu (s,l) z with
   | none=>simp only [hs] at h; cases h
   | some p =>
    obtain ⟨s',l'⟩:=p
    simp only [hs] at h
    obtain ⟨k0,ys,m,k1,k2,k3,k4⟩:=ZMZ h
    obtain ⟨o1,o2,_⟩:=ZMl hp
    refine ⟨k0,z::ys,m,?_,?_,?_,k4⟩
    ·rw [List.map_cons,List.cons_append,<- k1]
     exact congrArg (·::_) (inL (o2.trans (ZHG z).symm))
    ·intro q hq
     rcases List.mem_cons.1 hq with rfl | hq
     ·exact o1
     ·exact k2 q hq
    ·unfold ZCA
     rw [hs]
     exact k3
theorem ZH8:∀ (ys:List Ln),ZNW 10 (ys.map Ln.bytes++[[]])=linesOf ys
 | []=>rfl
 | y::ys=>by
  have ih:=ZH8 ys
  rw [List.map_cons,List.cons_append]
  cases hq:ys.map Ln.bytes++[[]] with
  | nil=>simp at hq
  | cons a b =>
   rw [hq] at ih
   show y.bytes++10::ZNW 10 (a::b)=_
   rw [ih]
   simp [linesOf]
def prB (s:Scr):List UInt8:=linesOf (prL s)
def okRu (s:Scr):Bool:=s.rules.all fun r=>decide (ZAO r=0)
def okEv (s:Scr):Bool:=s.evs.all fun x=>evOk x.1 x.2
def ZAv (s:Scr):ByteArray × Int :=
 if okRu s=false then (e0,9) else if okEv s=false then (e0,1) else if 4194304<(prB s).length then (e0,3) else (⟨(prB s).toArray⟩,0)
theorem ZLx {s:Scr} (h:(ZAv s).2=0):okRu s=true/\okEv s=true/\(prB s).length<=4194304/\ZAv s=(⟨(prB s).toArray⟩,0):=by
 unfold ZAv at h ⊢
 split at h
 ·cases h
 split at h
 ·cases h
 split at h
 ·cases h
 rename_i h1 h2 h3
 refine ⟨by simpa using h1,by simpa using h2,by omega,?_⟩
 rw [if_neg h1,if_neg h2,if_neg h3]
structure Scr.In (s:Scr):Prop where
 h:inR s.ch
 c:inR s.cc
 q:inR s.cq
theorem pr_all {s:Scr} (h1:okRu s=true) (h2:okEv s=true) (hi:s.In):∀ y∈prL s,y.Ok:=by
 have h1:=List.all_eq_true.1 h1
 have h2:=List.all_eq_true.1 h2
 intro y hy
 unfold prL prG bI at hy
 simp only [List.mem_append,List.mem_map] at hy
 rcases hy with hy | ⟨x,_,rfl⟩ | ⟨x,_,rfl⟩ | hy | ⟨x,hx,rfl⟩ | hy | hy | hy | hy | ⟨x,hx,rfl⟩
 ·rw [if_pos (by decide),List.mem_singleton] at hy; subst hy; exact trivial
 ·exact trivial
 ·exact trivial
 ·rw [if_pos (by decide),List.mem_singleton] at hy; subst hy; exact ⟨hi.h,hi.c,hi.q⟩
 ·exact (show ZAO x=0 from of_decide_eq_true (h1 x hx))
 iterate 2
  ·rw [if_pos (by decide),List.mem_singleton] at hy; subst hy; exact trivial
 iterate 2
  ·split at hy
   ·rw [List.mem_singleton] at hy; subst hy; exact trivial
   ·cases hy
 ·exact h2 x hx
/-- what is printed is read again -/
theorem ZLo {s:Scr} {t:ByteArray} (h1:okRu s=true) (h2:okEv s=true) (hi:s.In) (ht:t.data.toList=prB s) (hz:t.size<=4194304):ZCd t=(s,0,0):=by
 obtain ⟨l,hl,hf⟩:=fold_pr s
 have ho:=pr_all h1 h2 hi
 unfold ZCd
 rw [if_neg (by omega),linesB_of ho ht,run_ok ho hf hl]
theorem foldS_ok {ys:List Ln} (h:∀ y∈ys,y.Ok):∀ {p q:Scr × Nat},okRu p.1=true->okEv p.1=true->p.1.In->ZCA ys p=some q->okRu q.1=true/\okEv q.1=true/\q.1.In:=by
 induction ys with
 | nil=>intro p q h1 h2 h3 hf; cases hf; exact ⟨h1,h2,h3⟩
 | cons y ys ih =>
  intro p q h1 h2 h3 hf
  unfold ZCA at hf
  cases hs:ZBu p y with
  | none=>rw [hs] at hf; cases hf
  | some z =>
   rw [hs] at hf
   have hy:=h y (.head _)
   unfold ZBu at hs
   split at hs
   ·cases hs
    refine ih (fun x hx=>h x (.tail _ hx)) ?_ ?_ ?_ hf
    ·cases y <;> first
      | exact h1
      | (show List.all (_++[_]) _=true; rw [List.all_append]; have h1:List.all _ _=true:=h1; rw [h1]; have hy:ZAO _=0:=hy; simp [hy])
    ·cases y <;> first
      | exact h2
      | (show List.all (_++[_]) _=true; rw [List.all_append]; have h2:List.all _ _=true:=h2; rw [h2]; have hy:evOk _ _=true:=hy; simp [hy])
    ·cases y <;> first
      | exact ⟨h3.h,h3.c,h3.q⟩
      | exact ⟨hy.1,hy.2.1,hy.2.2⟩
   ·cases hs
/-- what was read is printed again -/
theorem pr_read {s:Scr} {t:ByteArray} {n:Int} (h:ZCd t=(s,n,0)):n=0/\t.size<=4194304/\okRu s=true/\okEv s=true/\s.In/\t.data.toList=prB s:=by
 unfold ZCd at h
 split at h
 ·cases h
 ·rename_i hz
  obtain ⟨h0,ys,m,h1,h2,h3,h4⟩:=ZMZ h
  obtain ⟨_,_,i3⟩:=ZMC (zs:=[]) (p:=(s0,0)) InvS.zero (by decide) rfl h3
  rw [prG_7 h4,List.nil_append] at i3
  obtain ⟨k1,k2,k3⟩:=foldS_ok h2 (p:=(s0,0)) rfl rfl ⟨by decide,by decide,by decide⟩ h3
  refine ⟨h0,by omega,k1,k2,k3,?_⟩
  have hj:=ZI0 10 t.data.toList
  have hl:cutL 10 t.data.toList=(linesB t).map fun z=>z.data.toList:=by
   unfold linesB
   rw [List.map_map]
   exact (List.map_id _).symm
  rw [hl,h1,List.map_append,List.map_map] at hj
  have he:ys.map ((fun z:ByteArray=>z.data.toList) ∘ lnB)=ys.map Ln.bytes:=List.map_congr_left fun y _=>ZHG y
  rw [he] at hj
  have hj2:=ZH8 ys
  unfold prB
  rw [i3,<- hj2]
  exact hj.symm
end
section
def evL (l:List (Int × Int)):List (List AV):=l.map fun x=>[AV.i x.1,AV.i x.2]
theorem ZBN (l:List (Int × Int)):(evL l).length=l.length:=by simp [evL]
theorem ZEi {l:List (Int × Int)} {k:Nat} (h:k<l.length):(evL l)[k]? = some [.i l[k].1,.i l[k].2]:=by simp [evL,h]
theorem ZFJ (l:List (Int × Int)) (x:Int × Int):evL l++[[.i x.1,.i x.2]]=evL (l++[x]):=by simp [evL]
def Scr.cells (s:Scr):List AV:=[.s s.ec,.s s.eh,.s s.es,.s s.eb,.sl .no 2 (fldL s.doms),.sl .no 2 (fldL s.locs),.i s.ch,.i s.cc,.i s.cq,.sl .no 8 (rlL s.rules),.s s.cl,.s s.up,.b s.ce,.b s.ue,.sl .no 2 (evL s.evs)]
def Scr.av (s:Scr):AV:=.agg s.cells
section
variable {st:St} {R:AV->St->Prop} {p m:Nat} {a:AV} {Lb:List UInt8}
theorem qnewL_a (h:R (.ptr st.heap.length 0) ⟨st.heap++[[.nilS,.i 1099511627776]],st.tk⟩):ZAB Tryz.prog 25 [.i 1099511627776] st R:=by
 refine ZAB.of_vc T_ok mixed Tryz.func25 rfl Tryz.call25 ?_
 exact h
theorem qlen_a (hp:st.heap[p]? = some [a,.i m]) (hA:Acc 0 st.tk 1 a (u8L Lb)) (h:R (.i Lb.length) st):ZAB Tryz.prog 33 [.ptr p 0] st R:=by
 have hl:=ZAE Lb
 rcases hA.form with rfl | ⟨t,e,rfl⟩
 ·have h0:=ZEw hA
  subst h0
  refine ZAB.of_vc T_ok mixed Tryz.func33 rfl Tryz.call33 ?_
  refine ⟨_,hp,?_⟩
  exact h
 ·rw [<- hl] at h
  refine ZAB.of_vc T_ok mixed Tryz.func33 rfl Tryz.call33 ?_
  refine ⟨_,hp,?_⟩
  exact h
end
def evsB (l:List (Int × Int)):List UInt8:=linesOf (l.map evN)
theorem ZCQ {l:List (Int × Int)} {k:Nat} (h:k<l.length):evsB (l.take (k+1))=evsB (l.take k)++(evtP.data.toList++(evT l[k].1 l[k].2).data.toList++[10]):=by
 unfold evsB
 rw [List.take_succ_eq_append_getElem h,List.map_append,linesOf_app]
 simp [linesOf,evN,Ln.bytes]
theorem ZJI (l:List (Int × Int)) (k:Nat):(evsB (l.take k)).length<=(evsB l).length:=by
 conv=>rhs; rw [<- List.take_append_drop k l]
 unfold evsB
 rw [List.map_append,linesOf_app,List.length_append]
 omega
/-- the lines behind the rules -/
def ZFY (s:Scr):List Ln:=[.cli s.cl,.ups s.up]++(bI s.ce .ce++(bI s.ue .ue++s.evs.map evN))
theorem ZCX {k n:Int} (h:evOk k n=true):evC k n=0/\evTX k n=evT k n:=by
 unfold evC evTX
 rw [if_pos h,if_pos h]
 exact ⟨rfl,rfl⟩
theorem ZGE {k n:Int} (h:evOk k n=false):evC k n=1:=by
 unfold evC
 rw [if_neg (by rw [h]; decide)]
def encN:ByteArray:=⟨#[101,110,100,115,32,99,108,105,101,110,116,10]⟩
def enuN:ByteArray:=⟨#[101,110,100,115,32,117,112,115,116,114,101,97,109,10]⟩
theorem ce_cat:linesOf (bI true .ce)=catL [encN]:=by decide +kernel
theorem ue_cat:linesOf (bI true .ue)=catL [enuN]:=by decide +kernel
attribute [local irreducible] ZAn
theorem tail_a {st:St} {R:AV->St->Prop} {p m:Nat} {a:AV} {Lb:List UInt8} (s:Scr) (hl:s.evs.length<=1000000) (hc:s.cl.size<=1099511627776) (hu:s.up.size<=1099511627776) (hp:st.heap[p]? = some [a,.i m]) (hAq:Acc 0 st.tk 1 a (u8L Lb))
  (hsz:Lb.length+(linesOf (ZFY s)).length<=m) (hm:m<=1099511627776)
  (h0:okEv s=true->∀ a' st',st'.heap[p]? = some [a',.i m]->Acc 0 st'.tk 1 a' (u8L (Lb++linesOf (ZFY s)))->Mv 0 (·=p) st st'->R (.i 0) st') (h1:okEv s=false->∀ st',R (.i 1) st'):ZAB Tryz.prog 32 [.agg [.ptr p 0],s.av] st R:=by
 have hmx:maxLen=9223372036854775807:=rfl
 refine ZAB.of_vc T_ok mixed Tryz.func32 rfl Tryz.call32 ?_
 refine ⟨ZBC hp,?_⟩
 have hb0:(st.heap++[[AV.ptr p 0]]++[s.cells])[st.heap.length]? = some [.ptr p 0]:=ap (ZAK _ _)
 have hs0:(st.heap++[[AV.ptr p 0]]++[s.cells])[(st.heap++[[AV.ptr p 0]]).length]? = some s.cells:=ZAK _ _
 have hp0:(st.heap++[[AV.ptr p 0]]++[s.cells])[p]? = some [a,.i m]:=ap (ap hp)
 have hpl:=ZBC hp
 have hln:(st.heap++[[AV.ptr p 0]]).length=st.heap.length+1:=by simp
 refine ⟨_,hb0,?_⟩
 refine ⟨_,hs0,?_⟩
 have hT:linesOf (ZFY s)=(rowL cliW [s.cl]++[10])++((rowL upsW [s.up]++[10])++(linesOf (bI s.ce .ce)++(linesOf (bI s.ue .ue)++evsB s.evs))):=by
  unfold ZFY evsB
  rw [linesOf_app,linesOf_app,linesOf_app]
  simp [linesOf,Ln.bytes]
 rw [hT] at hsz
 simp only [List.length_append,List.length_singleton] at hsz
 refine .s (row_a (a:=a) (m:=m) (Lb:=Lb) cliW [s.cl] (by simp) (fun x hx=>by rw [List.mem_singleton.1 hx]; exact hc) hp0 hAq (by omega) hm (fun a1 st1 hp1 hA1 m1=>?_))
 have hb1:=m1.at' hb0 (fun e=>by omega)
 have hs1:=m1.at' hs0 (fun e=>by omega)
 refine ⟨_,hb1,?_⟩
 refine ⟨_,hs1,?_⟩
 refine .s (row_a (a:=a1) (m:=m) upsW [s.up] (by simp) (fun x hx=>by rw [List.mem_singleton.1 hx]; exact hu) hp1 hA1 (by simp only [List.length_append,List.length_singleton]; omega) hm (fun a2 st2 hp2 hA2 m2=>?_))
 have hb2:=m2.at' hb1 (fun e=>by omega)
 have hs2:=m2.at' hs1 (fun e=>by omega)
 have mm2:=((((Mv.refl (C:=(·=p)) (st:=st) (Nat.zero_le _)).alloc [AV.ptr p 0]).alloc s.cells).trans m1 (fun q _ e=>e)).trans m2 (fun q _ e=>e)
 clear hb0 hb1 hs0 hs1 hp0 hp1 m1 m2
 generalize hL2:Lb++(rowL cliW [s.cl]++[10])++(rowL upsW [s.up]++[10])=L2 at hA2
 have hz2:L2.length+(linesOf (bI s.ce .ce)).length+(linesOf (bI s.ue .ue)).length+(evsB s.evs).length<=m:=by
  rw [<- hL2]
  simp only [List.length_append,List.length_singleton]
  omega
 have hfin:Lb++linesOf (ZFY s)=L2++(linesOf (bI s.ce .ce)++(linesOf (bI s.ue .ue)++evsB s.evs)):=by
  rw [hT,<- hL2]
  simp only [List.append_assoc]
 rw [hfin] at h0
 clear hfin hT hsz hA1 hAq hL2
 have zc:s.ce=true->linesOf (bI s.ce .ce)=catL [encN]:=fun h=>by rw [h]; exact ce_cat
 have zu:s.ue=true->linesOf (bI s.ue .ue)=catL [enuN]:=fun h=>by rw [h]; exact ue_cat
 have nc:s.ce=false->linesOf (bI s.ce .ce)=[]:=fun h=>by rw [h]; rfl
 have nu:s.ue=false->linesOf (bI s.ue .ue)=[]:=fun h=>by rw [h]; rfl
 refine ⟨_,hs2,?_⟩
 refine ZAA (fun hce=>?_) (fun hce=>?_)
 ·rw [zc hce] at hz2 h0
  refine ⟨_,hb2,?_⟩
  have z3:L2.length+(catL [encN]).length<=m:=by omega
  refine .s (ZEA (a:=a2) (m:=m) (Lb:=L2) [encN] (by show 1<=_; omega) hp2 hA2 z3 hm (fun a3 st3 hp3 hA3 m3=>?_))
  have hb3:=m3.at' hb2 (fun e=>by omega)
  have hs3:=m3.at' hs2 (fun e=>by omega)
  refine ⟨_,hs3,?_⟩
  rw [<- List.append_assoc] at h0
  refine ZAA (fun hue=>?_) (fun hue=>?_)
  ·rw [zu hue] at hz2 h0
   refine ⟨_,hb3,?_⟩
   have z4:(L2++catL [encN]).length+(catL [enuN]).length<=m:=by rw [List.length_append]; omega
   refine .s (ZEA (a:=a3) (m:=m) (Lb:=L2++catL [encN]) [enuN] (by show 1<=_; omega) hp3 hA3 z4 hm (fun a4 st4 hp4 hA4 m4=>?_))
   have hb4:=m4.at' hb3 (fun e=>by omega)
   have hs4:=m4.at' hs3 (fun e=>by omega)
   rw [<- List.append_assoc] at h0
   refine ⟨_,hs4,?_⟩
   generalize hL5:L2++catL [encN]++catL [enuN]=L5 at hA4 h0
   have z5:L5.length+(evsB s.evs).length<=m:=by
    rw [<- hL5]
    simp only [List.length_append]; omega
   clear hL5 hz2
   have el:=ZBN s.evs
   refine ZAF [34] (fun g vals st'=>∃ (k:Nat) (b:AV),k+g=s.evs.length/\vals=[.i k]/\st'.heap[st.heap.length]? = some [.ptr p 0]/\st'.heap[p]? = some [b,.i m]/\Acc 0 st'.tk 1 b (u8L (L5++evsB (s.evs.take k)))/\Mv 0 (·=p) st st'/\∀ x∈s.evs.take k,evOk x.1 x.2=true) s.evs.length rfl ⟨0,a4,by omega,rfl,hb4,hp4,by rw [List.take_zero]; simpa [evsB,linesOf] using hA4,((mm2.trans m3 (fun q _ e=>e)).trans m4 (fun q _ e=>e)),fun x hx=>by rw [List.take_zero] at hx; cases hx⟩ ?_
   rintro g vals st7 ⟨k,b,hk,rfl,hb7,hp7,hA7,m7,hall⟩
   refine ZAA (fun hd=>?_) (fun hd=>?_)
   ·have hd:=of_decide_eq_true hd
    have k1:k<s.evs.length:=by omega
    have hes:=ZJI s.evs (k+1)
    rw [ZCQ k1,List.length_append] at hes
    have ht:=ZC0 s.evs[k].1 s.evs[k].2
    refine ⟨k,_,rfl,ZEi k1,?_⟩
    refine ⟨_,ZAK _ _,?_⟩
    have hb8:=(List.getElem?_set_ne (l:=st7.heap++[[.i 0,.i 0]]) (i:=st7.heap.length) (a:=[.i s.evs[k].1,.i s.evs[k].2]) (by have:=ZBC hb7; omega)).trans (ap hb7)
    have hp8:=(List.getElem?_set_ne (l:=st7.heap++[[.i 0,.i 0]]) (i:=st7.heap.length) (a:=[.i s.evs[k].1,.i s.evs[k].2]) (by have:=ZBC hp7; omega)).trans (ap hp7)
    refine ⟨_,ZAL _ _ _,?_⟩
    cases hev:evOk s.evs[k].1 s.evs[k].2 with
    | true =>
     rw [(ZCX hev).1,(ZCX hev).2] at ht
     refine .p rfl ht ?_
     refine ⟨_,hb8,?_⟩
     refine .s (ZEA (a:=b) (m:=m) (Lb:=L5++evsB (s.evs.take k)) [evtP,evT s.evs[k].1 s.evs[k].2,⟨#[10]⟩] (by show 3<=_; omega) hp8 hA7 (by simp only [catL,List.flatMap_cons,List.flatMap_nil,List.length_append,List.length_nil] at hes ⊢; simp at hes ⊢; omega) hm (fun a' st' r1 r2 r3=>?_))
     intro c hc
     rw [IntWalk.i64_in _ (by omega)] at hc
     obtain rfl:c=((k+1:Nat):Int):=by omega
     refine ⟨g - 1,by omega,k+1,a',by omega,rfl,r3.at' hb8 (fun e=>by omega),r1,?_,((m7.alloc _).set (fun e=>absurd e (by have:=m7.len; omega)) _).trans r3 (fun q _ e=>e),?_⟩
     ·rw [ZCQ k1]
      have e:catL [evtP,evT s.evs[k].1 s.evs[k].2,⟨#[10]⟩]=evtP.data.toList++(evT s.evs[k].1 s.evs[k].2).data.toList++[10]:=by simp [catL]
      rw [e,List.append_assoc] at r2
      exact r2
     ·intro x hx
      rw [List.take_succ_eq_append_getElem k1] at hx
      rcases List.mem_append.1 hx with hx | hx
      ·exact hall x hx
      ·rw [List.mem_singleton.1 hx]; exact hev
    | false =>
     rw [ZGE hev] at ht
     refine .p rfl ht ?_
     refine h1 ?_ _
     rw [Bool.eq_false_iff]
     intro e
     have:=List.all_eq_true.1 e _ (List.getElem_mem k1)
     rw [hev] at this
     cases this
   ·have hd:=of_decide_eq_false hd
    obtain rfl:k=s.evs.length:=by omega
    rw [List.take_length] at hA7 hall
    exact h0 (List.all_eq_true.2 hall) b st7 hp7 hA7 m7
  ·rw [nu hue,List.nil_append] at h0
   rw [nu hue] at hz2
   simp only [List.length_nil] at hz2
   refine ⟨_,hs3,?_⟩
   generalize hL5:L2++catL [encN]=L5 at hA3 h0
   have z5:L5.length+(evsB s.evs).length<=m:=by
    rw [<- hL5]
    simp only [List.length_append]; omega
   clear hL5 hz2
   have el:=ZBN s.evs
   refine ZAF [34] (fun g vals st'=>∃ (k:Nat) (b:AV),k+g=s.evs.length/\vals=[.i k]/\st'.heap[st.heap.length]? = some [.ptr p 0]/\st'.heap[p]? = some [b,.i m]/\Acc 0 st'.tk 1 b (u8L (L5++evsB (s.evs.take k)))/\Mv 0 (·=p) st st'/\∀ x∈s.evs.take k,evOk x.1 x.2=true) s.evs.length rfl ⟨0,a3,by omega,rfl,hb3,hp3,by rw [List.take_zero]; simpa [evsB,linesOf] using hA3,(mm2.trans m3 (fun q _ e=>e)),fun x hx=>by rw [List.take_zero] at hx; cases hx⟩ ?_
   rintro g vals st7 ⟨k,b,hk,rfl,hb7,hp7,hA7,m7,hall⟩
   refine ZAA (fun hd=>?_) (fun hd=>?_)
   ·have hd:=of_decide_eq_true hd
    have k1:k<s.evs.length:=by omega
    have hes:=ZJI s.evs (k+1)
    rw [ZCQ k1,List.length_append] at hes
    have ht:=ZC0 s.evs[k].1 s.evs[k].2
    refine ⟨k,_,rfl,ZEi k1,?_⟩
    refine ⟨_,ZAK _ _,?_⟩
    have hb8:=(List.getElem?_set_ne (l:=st7.heap++[[.i 0,.i 0]]) (i:=st7.heap.length) (a:=[.i s.evs[k].1,.i s.evs[k].2]) (by have:=ZBC hb7; omega)).trans (ap hb7)
    have hp8:=(List.getElem?_set_ne (l:=st7.heap++[[.i 0,.i 0]]) (i:=st7.heap.length) (a:=[.i s.evs[k].1,.i s.evs[k].2]) (by have:=ZBC hp7; omega)).trans (ap hp7)
    refine ⟨_,ZAL _ _ _,?_⟩
    cases hev:evOk s.evs[k].1 s.evs[k].2 with
    | true =>
     rw [(ZCX hev).1,(ZCX hev).2] at ht
     refine .p rfl ht ?_
     refine ⟨_,hb8,?_⟩
     refine .s (ZEA (a:=b) (m:=m) (Lb:=L5++evsB (s.evs.take k)) [evtP,evT s.evs[k].1 s.evs[k].2,⟨#[10]⟩] (by show 3<=_; omega) hp8 hA7 (by simp only [catL,List.flatMap_cons,List.flatMap_nil,List.length_append,List.length_nil] at hes ⊢; simp at hes ⊢; omega) hm (fun a' st' r1 r2 r3=>?_))
     intro c hc
     rw [IntWalk.i64_in _ (by omega)] at hc
     obtain rfl:c=((k+1:Nat):Int):=by omega
     refine ⟨g - 1,by omega,k+1,a',by omega,rfl,r3.at' hb8 (fun e=>by omega),r1,?_,((m7.alloc _).set (fun e=>absurd e (by have:=m7.len; omega)) _).trans r3 (fun q _ e=>e),?_⟩
     ·rw [ZCQ k1]
      have e:catL [evtP,evT s.evs[k].1 s.evs[k].2,⟨#[10]⟩]=evtP.data.toList++(evT s.evs[k].1 s.evs[k].2).data.toList++[10]:=by simp [catL]
      rw [e,List.append_assoc] at r2
      exact r2
     ·intro x hx
      rw [List.take_succ_eq_append_getElem k1] at hx
      rcases List.mem_append.1 hx with hx | hx
      ·exact hall x hx
      ·rw [List.mem_singleton.1 hx]; exact hev
    | false =>
     rw [ZGE hev] at ht
     refine .p rfl ht ?_
     refine h1 ?_ _
     rw [Bool.eq_false_iff]
     intro e
     have:=List.all_eq_true.1 e _ (List.getElem_mem k1)
     rw [hev] at this
     cases this
   ·have hd:=of_decide_eq_false hd
    obtain rfl:k=s.evs.length:=by omega
    rw [List.take_length] at hA7 hall
    exact h0 (List.all_eq_true.2 hall) b st7 hp7 hA7 m7
 ·rw [nc hce,List.nil_append] at h0
  rw [nc hce] at hz2
  simp only [List.length_nil] at hz2
  refine ⟨_,hs2,?_⟩
  refine ZAA (fun hue=>?_) (fun hue=>?_)
  ·rw [zu hue] at hz2 h0
   refine ⟨_,hb2,?_⟩
   have z4:L2.length+(catL [enuN]).length<=m:=by omega
   refine .s (ZEA (a:=a2) (m:=m) (Lb:=L2) [enuN] (by show 1<=_; omega) hp2 hA2 z4 hm (fun a4 st4 hp4 hA4 m4=>?_))
   have hb4:=m4.at' hb2 (fun e=>by omega)
   have hs4:=m4.at' hs2 (fun e=>by omega)
   rw [<- List.append_assoc] at h0
   refine ⟨_,hs4,?_⟩
   generalize hL5:L2++catL [enuN]=L5 at hA4 h0
   have z5:L5.length+(evsB s.evs).length<=m:=by
    rw [<- hL5]
    simp only [List.length_append]; omega
   clear hL5 hz2
   have el:=ZBN s.evs
   refine ZAF [34] (fun g vals st'=>∃ (k:Nat) (b:AV),k+g=s.evs.length/\vals=[.i k]/\st'.heap[st.heap.length]? = some [.ptr p 0]/\st'.heap[p]? = some [b,.i m]/\Acc 0 st'.tk 1 b (u8L (L5++evsB (s.evs.take k)))/\Mv 0 (·=p) st st'/\∀ x∈s.evs.take k,evOk x.1 x.2=true) s.evs.length rfl ⟨0,a4,by omega,rfl,hb4,hp4,by rw [List.take_zero]; simpa [evsB,linesOf] using hA4,(mm2.trans m4 (fun q _ e=>e)),fun x hx=>by rw [List.take_zero] at hx; cases hx⟩ ?_
   rintro g vals st7 ⟨k,b,hk,rfl,hb7,hp7,hA7,m7,hall⟩
   refine ZAA (fun hd=>?_) (fun hd=>?_)
   ·have hd:=of_decide_eq_true hd
    have k1:k<s.evs.length:=by omega
    have hes:=ZJI s.evs (k+1)
    rw [ZCQ k1,List.length_append] at hes
    have ht:=ZC0 s.evs[k].1 s.evs[k].2
    refine ⟨k,_,rfl,ZEi k1,?_⟩
    refine ⟨_,ZAK _ _,?_⟩
    have hb8:=(List.getElem?_set_ne (l:=st7.heap++[[.i 0,.i 0]]) (i:=st7.heap.length) (a:=[.i s.evs[k].1,.i s.evs[k].2]) (by have:=ZBC hb7; omega)).trans (ap hb7)
    have hp8:=(List.getElem?_set_ne (l:=st7.heap++[[.i 0,.i 0]]) (i:=st7.heap.length) (a:=[.i s.evs[k].1,.i s.evs[k].2]) (by have:=ZBC hp7; omega)).trans (ap hp7)
    refine ⟨_,ZAL _ _ _,?_⟩
    cases hev:evOk s.evs[k].1 s.evs[k].2 with
    | true =>
     rw [(ZCX hev).1,(ZCX hev).2] at ht
     refine .p rfl ht ?_
     refine ⟨_,hb8,?_⟩
     refine .s (ZEA (a:=b) (m:=m) (Lb:=L5++evsB (s.evs.take k)) [evtP,evT s.evs[k].1 s.evs[k].2,⟨#[10]⟩] (by show 3<=_; omega) hp8 hA7 (by simp only [catL,List.flatMap_cons,List.flatMap_nil,List.length_append,List.length_nil] at hes ⊢; simp at hes ⊢; omega) hm (fun a' st' r1 r2 r3=>?_))
     intro c hc
     rw [IntWalk.i64_in _ (by omega)] at hc
     obtain rfl:c=((k+1:Nat):Int):=by omega
     refine ⟨g - 1,by omega,k+1,a',by omega,rfl,r3.at' hb8 (fun e=>by omega),r1,?_,((m7.alloc _).set (fun e=>absurd e (by have:=m7.len; omega)) _).trans r3 (fun q _ e=>e),?_⟩
     ·rw [ZCQ k1]
      have e:catL [evtP,evT s.evs[k].1 s.evs[k].2,⟨#[10]⟩]=evtP.data.toList++(evT s.evs[k].1 s.evs[k].2).data.toList++[10]:=by simp [catL]
      rw [e,List.append_assoc] at r2
      exact r2
     ·intro x hx
      rw [List.take_succ_eq_append_getElem k1] at hx
      rcases List.mem_append.1 hx with hx | hx
      ·exact hall x hx
      ·rw [List.mem_singleton.1 hx]; exact hev
    | false =>
     rw [ZGE hev] at ht
     refine .p rfl ht ?_
     refine h1 ?_ _
     rw [Bool.eq_false_iff]
     intro e
     have:=List.all_eq_true.1 e _ (List.getElem_mem k1)
     rw [hev] at this
     cases this
   ·have hd:=of_decide_eq_false hd
    obtain rfl:k=s.evs.length:=by omega
    rw [List.take_length] at hA7 hall
    exact h0 (List.all_eq_true.2 hall) b st7 hp7 hA7 m7
  ·rw [nu hue,List.nil_append] at h0
   rw [nu hue] at hz2
   simp only [List.length_nil] at hz2
   refine ⟨_,hs2,?_⟩
   generalize hL5:L2=L5 at hA2 h0
   have z5:L5.length+(evsB s.evs).length<=m:=by
    rw [<- hL5]
    omega
   clear hL5 hz2
   have el:=ZBN s.evs
   refine ZAF [34] (fun g vals st'=>∃ (k:Nat) (b:AV),k+g=s.evs.length/\vals=[.i k]/\st'.heap[st.heap.length]? = some [.ptr p 0]/\st'.heap[p]? = some [b,.i m]/\Acc 0 st'.tk 1 b (u8L (L5++evsB (s.evs.take k)))/\Mv 0 (·=p) st st'/\∀ x∈s.evs.take k,evOk x.1 x.2=true) s.evs.length rfl ⟨0,a2,by omega,rfl,hb2,hp2,by rw [List.take_zero]; simpa [evsB,linesOf] using hA2,mm2,fun x hx=>by rw [List.take_zero] at hx; cases hx⟩ ?_
   rintro g vals st7 ⟨k,b,hk,rfl,hb7,hp7,hA7,m7,hall⟩
   refine ZAA (fun hd=>?_) (fun hd=>?_)
   ·have hd:=of_decide_eq_true hd
    have k1:k<s.evs.length:=by omega
    have hes:=ZJI s.evs (k+1)
    rw [ZCQ k1,List.length_append] at hes
    have ht:=ZC0 s.evs[k].1 s.evs[k].2
    refine ⟨k,_,rfl,ZEi k1,?_⟩
    refine ⟨_,ZAK _ _,?_⟩
    have hb8:=(List.getElem?_set_ne (l:=st7.heap++[[.i 0,.i 0]]) (i:=st7.heap.length) (a:=[.i s.evs[k].1,.i s.evs[k].2]) (by have:=ZBC hb7; omega)).trans (ap hb7)
    have hp8:=(List.getElem?_set_ne (l:=st7.heap++[[.i 0,.i 0]]) (i:=st7.heap.length) (a:=[.i s.evs[k].1,.i s.evs[k].2]) (by have:=ZBC hp7; omega)).trans (ap hp7)
    refine ⟨_,ZAL _ _ _,?_⟩
    cases hev:evOk s.evs[k].1 s.evs[k].2 with
    | true =>
     rw [(ZCX hev).1,(ZCX hev).2] at ht
     refine .p rfl ht ?_
     refine ⟨_,hb8,?_⟩
     refine .s (ZEA (a:=b) (m:=m) (Lb:=L5++evsB (s.evs.take k)) [evtP,evT s.evs[k].1 s.evs[k].2,⟨#[10]⟩] (by show 3<=_; omega) hp8 hA7 (by simp only [catL,List.flatMap_cons,List.flatMap_nil,List.length_append,List.length_nil] at hes ⊢; simp at hes ⊢; omega) hm (fun a' st' r1 r2 r3=>?_))
     intro c hc
     rw [IntWalk.i64_in _ (by omega)] at hc
     obtain rfl:c=((k+1:Nat):Int):=by omega
     refine ⟨g - 1,by omega,k+1,a',by omega,rfl,r3.at' hb8 (fun e=>by omega),r1,?_,((m7.alloc _).set (fun e=>absurd e (by have:=m7.len; omega)) _).trans r3 (fun q _ e=>e),?_⟩
     ·rw [ZCQ k1]
      have e:catL [evtP,evT s.evs[k].1 s.evs[k].2,⟨#[10]⟩]=evtP.data.toList++(evT s.evs[k].1 s.evs[k].2).data.toList++[10]:=by simp [catL]
      rw [e,List.append_assoc] at r2
      exact r2
     ·intro x hx
      rw [List.take_succ_eq_append_getElem k1] at hx
      rcases List.mem_append.1 hx with hx | hx
      ·exact hall x hx
      ·rw [List.mem_singleton.1 hx]; exact hev
    | false =>
     rw [ZGE hev] at ht
     refine .p rfl ht ?_
     refine h1 ?_ _
     rw [Bool.eq_false_iff]
     intro e
     have:=List.all_eq_true.1 e _ (List.getElem_mem k1)
     rw [hev] at this
     cases this
   ·have hd:=of_decide_eq_false hd
    obtain rfl:k=s.evs.length:=by omega
    rw [List.take_length] at hA7 hall
    exact h0 (List.all_eq_true.2 hall) b st7 hp7 hA7 m7
end
section
structure Scr.Sz (s:Scr):Prop where
 ec:s.ec.size<=1099511627776
 eh:s.eh.size<=1099511627776
 es:s.es.size<=1099511627776
 eb:s.eb.size<=1099511627776
 dl:s.doms.length<=1000000
 dz:∀ x∈s.doms,x.1.size<=1099511627776/\x.2.size<=1099511627776
 ll:s.locs.length<=1000000
 lz:∀ x∈s.locs,x.1.size<=1099511627776/\x.2.size<=1099511627776
 inn:s.In
 rl:s.rules.length<=1000000
 rok:∀ r∈s.rules,r.Ok
 cl:s.cl.size<=1099511627776
 up:s.up.size<=1099511627776
 el:s.evs.length<=1000000
 tot:(prB s).length<=1099511627776
def rulB (l:List Rl):List UInt8:=linesOf (l.map .rule)
theorem ZKV {l:List Rl} {k:Nat} (h:k<l.length):rulB (l.take (k+1))=rulB (l.take k)++(rulP.data.toList++(ZAx l[k]).data.toList++[10]):=by
 unfold rulB
 rw [List.take_succ_eq_append_getElem h,List.map_append,linesOf_app]
 simp [linesOf,Ln.bytes]
theorem rulB_le (l:List Rl) (k:Nat):(rulB (l.take k)).length<=(rulB l).length:=by
 conv=>rhs; rw [<- List.take_append_drop k l]
 unfold rulB
 rw [List.map_append,linesOf_app,List.length_append]
 omega
theorem caps_join (h c q:Int):(ZBU sp1 [ZD3,numT h,numT c,numT q]).data.toList=ZEd h c q:=by
 rw [ZEQ (by simp),ZEQ (by simp),ZEQ (by simp),ZCH]
 simp only [ZAp]
 unfold ZEd
 simp [sp1]
theorem ZHJ (w:ByteArray) (f:Swp->Ln) (hf:∀ x:Swp,(f x).bytes=rowL w [x.1,x.2]):∀ l:List Swp,linesOf (l.map f)=swpL w l
 | []=>rfl
 | x::l=>by
  have ih:=ZHJ w f hf l
  unfold swpL linesOf at ih ⊢
  rw [List.map_cons,List.flatMap_cons,List.flatMap_cons,ih,hf]
theorem prB_eq (s:Scr):prB s=(rowL envW [s.ec,s.eh,s.es,s.eb]++[10])++(swpL domW s.doms++(swpL plcW s.locs++((ZEd s.ch s.cc s.cq++[10])++(rulB s.rules++linesOf (ZFY s))))):=by
 unfold prB prL prG ZFY rulB
 have t1:decide (1<=7)=true:=rfl
 have t4:decide (4<=7)=true:=rfl
 have t6:decide (6<=7)=true:=rfl
 have t7:decide (7<=7)=true:=rfl
 rw [t1,t4,t6,t7]
 have e1:bI true (Ln.env s.ec s.eh s.es s.eb)=[.env s.ec s.eh s.es s.eb]:=rfl
 have e4:bI true (Ln.caps s.ch s.cc s.cq)=[.caps s.ch s.cc s.cq]:=rfl
 have e6:bI true (Ln.cli s.cl)=[.cli s.cl]:=rfl
 have e7:bI true (Ln.ups s.up)=[.ups s.up]:=rfl
 rw [e1,e4,e6,e7]
 simp only [linesOf_app]
 rw [ZHJ domW domN (fun _=>rfl),ZHJ plcW plcN (fun _=>rfl)]
 have f1:linesOf [Ln.env s.ec s.eh s.es s.eb]=rowL envW [s.ec,s.eh,s.es,s.eb]++[10]:=by simp [linesOf,Ln.bytes]
 have f4:linesOf [Ln.caps s.ch s.cc s.cq]=ZEd s.ch s.cc s.cq++[10]:=by simp [linesOf,Ln.bytes]
 have f6:linesOf [Ln.cli s.cl,Ln.ups s.up]=linesOf [Ln.cli s.cl]++linesOf [Ln.ups s.up]:=by rw [<- linesOf_app]; rfl
 rw [f1,f4,f6]
 simp only [List.append_assoc]
theorem ZJ9 {s:Scr} (h:okRu s=false):ZAv s=(e0,9):=by unfold ZAv; rw [if_pos h]
theorem ZE4 {s:Scr} (h:okRu s=true) (h2:okEv s=false):ZAv s=(e0,1):=by unfold ZAv; rw [if_neg (by rw [h]; decide),if_pos h2]
theorem ZDI {s:Scr} (h:okRu s=true) (h2:okEv s=true) (h3:4194304<(prB s).length):ZAv s=(e0,3):=by unfold ZAv; rw [if_neg (by rw [h]; decide),if_neg (by rw [h2]; decide),if_pos h3]
theorem ZDS {s:Scr} (h:okRu s=true) (h2:okEv s=true) (h3:¬ 4194304<(prB s).length):ZAv s=(tBy (prB s),0):=by unfold ZAv; rw [if_neg (by rw [h]; decide),if_neg (by rw [h2]; decide),if_neg h3]; rfl
attribute [local irreducible] ZAn
theorem print_p (s:Scr) (hz:s.Sz):ZAC Tryz.prog 12 [s.av] (.tup [.s (ZAv s).1,.i (ZAv s).2]) []:=by
 have hmx:maxLen=9223372036854775807:=rfl
 have hT:=prB_eq s
 have htot:=hz.tot
 rw [hT] at htot
 simp only [List.length_append,List.length_singleton] at htot
 obtain ⟨X,hX⟩:∃ X,ZAv s=X:=⟨_,rfl⟩
 rw [hX]
 refine ZAC.of rfl (ZAB.of_vc T_ok mixed Tryz.func12 rfl Tryz.call12 ?_)
 refine .s (qnewL_a ?_)
 iterate 6 refine ⟨_,rfl,?_⟩
 refine .s (row_a (p:=1) (a:=.nilS) (m:=1099511627776) (Lb:=[]) envW [s.ec,s.eh,s.es,s.eb] (by simp) (fun x hx=>?_) rfl .nil ?_ (Nat.le_refl _) (fun a1 st1 hp1 hA1 m1=>?_))
 ·simp only [List.mem_cons,List.not_mem_nil,or_false] at hx
  rcases hx with rfl | rfl | rfl | rfl
  ·exact hz.ec
  ·exact hz.eh
  ·exact hz.es
  ·exact hz.eb
 ·simp only [List.length_nil]; omega
 have hs1:=m1.at' (q:=0) (cs:=s.cells) rfl (fun e=>by cases e)
 have hb1:=m1.at' (q:=2) (cs:=[.ptr 1 0]) rfl (fun e=>by cases e)
 clear m1
 rw [List.nil_append] at hA1
 refine ⟨_,hb1,?_⟩
 refine ⟨_,hs1,?_⟩
 refine .s (swaps_a (p:=1) (a:=a1) (m:=1099511627776) domW s.doms hz.dl hz.dz hp1 hA1 (by simp only [List.length_append,List.length_singleton]; omega) (Nat.le_refl _) (fun a2 st2 hp2 hA2 m2=>?_))
 have hs2:=m2.at' hs1 (fun e=>by cases e)
 have hb2:=m2.at' hb1 (fun e=>by cases e)
 clear m2 hs1 hb1 hp1 hA1
 refine ⟨_,hb2,?_⟩
 refine ⟨_,hs2,?_⟩
 refine .s (swaps_a (p:=1) (a:=a2) (m:=1099511627776) plcW s.locs hz.ll hz.lz hp2 hA2 (by simp only [List.length_append,List.length_singleton]; omega) (Nat.le_refl _) (fun a3 st3 hp3 hA3 m3=>?_))
 have hs3:=m3.at' hs2 (fun e=>by cases e)
 have hb3:=m3.at' hb2 (fun e=>by cases e)
 clear m3 hs2 hb2 hp2 hA2
 refine .x (by kernel_rfl) ?_
 refine ⟨_,hs3,?_⟩
 refine .p rfl (ZIE s.ch hz.inn.h) ?_
 refine ⟨_,hs3,?_⟩
 refine .p rfl (ZIE s.cc hz.inn.c) ?_
 refine ⟨_,hs3,?_⟩
 refine .p rfl (ZIE s.cq hz.inn.q) ?_
 refine .n (.one 0 (.one 1 (.one 2 (.one 3 (.one 4 (.only 5 .done)))))) (by kernel_rfl) ?_
 refine ⟨_,hb3,?_⟩
 have hjl:=caps_join s.ch s.cc s.cq
 have hjz:(ZBU sp1 [ZD3,numT s.ch,numT s.cc,numT s.cq]).size=(ZEd s.ch s.cc s.cq).length:=by rw [<- hjl,blen]
 refine .p rfl (ZF2 sp1 [ZD3,numT s.ch,numT s.cc,numT s.cq] (by show 4<=_; omega) (by omega)) ?_
 refine .s (ZEA (p:=1) (a:=a3) (m:=1099511627776) [ZBU sp1 [ZD3,numT s.ch,numT s.cc,numT s.cq],⟨#[10]⟩] (by show 2<=_; omega) hp3 hA3 ?_ (Nat.le_refl _) (fun a4 st4 hp4 hA4 m4=>?_))
 ·simp only [catL,List.flatMap_cons,List.flatMap_nil,List.length_append,blen,hjz,List.length_singleton]
  simp
  omega
 have hs4:=m4.at' hs3 (fun e=>by cases e)
 have hb4:=m4.at' hb3 (fun e=>by cases e)
 clear m4 hs3 hb3 hp3 hA3
 have hcat:catL [ZBU sp1 [ZD3,numT s.ch,numT s.cc,numT s.cq],⟨#[10]⟩]=ZEd s.ch s.cc s.cq++[10]:=by
  simp only [catL,List.flatMap_cons,List.flatMap_nil,hjl]
  rfl
 rw [hcat] at hA4
 have hfin:prB s=((rowL envW [s.ec,s.eh,s.es,s.eb]++[10])++swpL domW s.doms++swpL plcW s.locs++(ZEd s.ch s.cc s.cq++[10]))++(rulB s.rules++linesOf (ZFY s)):=by
  rw [hT]
  simp only [List.append_assoc]
 have htot:=hz.tot
 generalize (rowL envW [s.ec,s.eh,s.es,s.eb]++[10])++swpL domW s.doms++swpL plcW s.locs++(ZEd s.ch s.cc s.cq++[10])=L4 at hA4 hfin
 rw [hfin] at htot
 simp only [List.length_append] at htot
 clear hcat hjz hjl hT
 have el:=ZBk s.rules
 have hrl:=hz.rl
 refine ⟨_,hs4,?_⟩
 refine ZAF [60] (fun g vals st'=>∃ (k:Nat) (b:AV),k+g=s.rules.length/\vals=[.i k]/\st'.heap[0]? = some s.cells/\st'.heap[2]? = some [.ptr 1 0]/\st'.heap[1]? = some [b,.i ((1099511627776:Nat):Int)]/\Acc 0 st'.tk 1 b (u8L (L4++rulB (s.rules.take k)))/\∀ x∈s.rules.take k,ZAO x=0) s.rules.length rfl ⟨0,a4,by omega,rfl,hs4,hb4,hp4,by rw [List.take_zero]; simpa [rulB,linesOf] using hA4,fun x hx=>by rw [List.take_zero] at hx; cases hx⟩ ?_
 rintro g vals st7 ⟨k,b,hk,rfl,hs7,hb7,hp7,hA7,hall⟩
 refine ZAA (fun hd=>?_) (fun hd=>?_)
 ·have hd:=of_decide_eq_true hd
  have k1:k<s.rules.length:=by omega
  have hes:=rulB_le s.rules (k+1)
  rw [ZKV k1,List.length_append] at hes
  have ht:=rtext_p s.rules[k] (hz.rok _ (List.getElem_mem k1))
  refine ⟨k,_,rfl,ZIF k1,?_⟩
  refine ⟨_,ZAK _ _,?_⟩
  have n7:∀ (z c:List AV) (q:Nat) (v:List AV),st7.heap[q]? = some v->((st7.heap++[z]).set st7.heap.length c)[q]? = some v:=fun z c q v h=>ZBe (n:=q) (by have:=ZBC h; omega) (ap h)
  refine ⟨_,ZAL _ _ _,?_⟩
  by_cases hev:ZAO s.rules[k]=0
  ·rw [ZDW hev] at ht
   refine .p rfl ht ?_
   refine ⟨_,n7 _ _ _ _ hb7,?_⟩
   have e7:catL [rulP,ZAx s.rules[k],⟨#[10]⟩]=rulP.data.toList++(ZAx s.rules[k]).data.toList++[10]:=by simp [catL]
   have z7:(L4++rulB (s.rules.take k)).length+(catL [rulP,ZAx s.rules[k],⟨#[10]⟩]).length<=1099511627776:=by
    rw [e7,List.length_append]
    omega
   refine .s (ZEA (p:=1) (a:=b) (m:=1099511627776) (Lb:=L4++rulB (s.rules.take k)) [rulP,ZAx s.rules[k],⟨#[10]⟩] (by show 3<=_; omega) (n7 _ _ _ _ hp7) hA7 z7 (Nat.le_refl _) (fun a' st' r1 r2 r3=>?_))
   intro c hc
   rw [IntWalk.i64_in _ (by omega)] at hc
   obtain rfl:c=((k+1:Nat):Int):=by omega
   refine ⟨g - 1,by omega,k+1,a',by omega,rfl,r3.at' (n7 _ _ _ _ hs7) (fun e=>by cases e),r3.at' (n7 _ _ _ _ hb7) (fun e=>by cases e),r1,?_,?_⟩
   ·rw [ZKV k1]
    have e:catL [rulP,ZAx s.rules[k],⟨#[10]⟩]=rulP.data.toList++(ZAx s.rules[k]).data.toList++[10]:=by simp [catL]
    rw [e,List.append_assoc] at r2
    exact r2
   ·intro x hx
    rw [List.take_succ_eq_append_getElem k1] at hx
    rcases List.mem_append.1 hx with hx | hx
    ·exact hall x hx
    ·rw [List.mem_singleton.1 hx]; exact hev
  ·have hbad:okRu s=false:=by
    rw [Bool.eq_false_iff]
    intro e
    have:=List.all_eq_true.1 e _ (List.getElem_mem k1)
    exact hev (of_decide_eq_true this)
   rw [ZGW hev,(ZJb _).resolve_left hev] at ht
   refine .p rfl ht ?_
   rw [ZJ9 hbad] at hX
   subst hX
   rfl
 ·have hd:=of_decide_eq_false hd
  obtain rfl:k=s.rules.length:=by omega
  rw [List.take_length] at hA7 hall
  have hru:okRu s=true:=List.all_eq_true.2 fun x hx=>decide_eq_true (hall x hx)
  refine ⟨_,hb7,?_⟩
  refine ⟨_,hs7,?_⟩
  have z8:(L4++rulB s.rules).length+(linesOf (ZFY s)).length<=1099511627776:=by
   rw [List.length_append]
   exact Nat.le_trans (Nat.le_of_eq (Nat.add_assoc _ _ _)) htot
  refine .s (tail_a (p:=1) (a:=b) (m:=1099511627776) s hz.el hz.cl hz.up hp7 hA7 z8 (Nat.le_refl _) (fun hev a8 st8 hp8 hA8 m8=>?_) (fun hev st8=>?_))
  ·have hb8:=m8.at' hb7 (fun e=>by cases e)
   have e8:L4++rulB s.rules++linesOf (ZFY s)=prB s:=by rw [hfin,List.append_assoc]
   rw [e8] at hA8
   refine ⟨_,hb8,?_⟩
   refine .s (qlen_a (p:=1) (m:=1099511627776) hp8 hA8 ?_)
   refine ZAA (fun hg=>?_) (fun hg=>?_)
   ·have hg:=of_decide_eq_true hg
    rw [ZDI hru hev (by omega)] at hX
    subst hX
    rfl
   ·have hg:=of_decide_eq_false hg
    rw [ZDS hru hev (by omega)] at hX
    subst hX
    refine ⟨_,hb8,?_⟩
    refine .s (qtake_a (p:=1) (m:=1099511627776) hp8 hA8 ?_)
    rfl
  ·rw [ZE4 hru hev] at hX
   subst hX
   rfl
end
end Go.Proofs.YticbonkojpabnaaGreatDoor
