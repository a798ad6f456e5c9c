/- A script's lines ahead of the rules, as the document ZAq them. No statement of its own. -/
import Derived.Test.YticbonkojpabnaaGreatDoorSLnd
import Derived.Test.YticbonkojpabnaaGreatDoorSLnb
set_option linter.unusedSimpArgs false
set_option linter.unusedVariables false
set_option maxRecDepth 100000
namespace Go.Proofs.YticbonkojpabnaaGreatDoor
open Go.RowKit
section
def ZJ2 (s:Scr):List Ln:=.env s.ec s.eh s.es s.eb::(s.doms.map domN++(s.locs.map plcN++[.caps s.ch s.cc s.cq]))
def swN (w:ByteArray) (x:Swp):ByteArray:=(w++ZAo x.1)++⟨#[32]⟩++ZAo x.2
theorem ZAZ (l:List ByteArray) (x:ByteArray):strL l++[[.s x]]=strL (l++[x]):=by simp [strL]
theorem ZMT (x:Swp):swN ⟨#[100,111,109,97,105,110,32]⟩ x=lnB (domN x):=by
 apply inL
 rw [ZHG]
 unfold swN domN
 simp only [ZAp,ZBT,Ln.bytes,rowL]
 simp [domW]
theorem ZGI (x:Swp):swN ⟨#[112,108,97,99,101,32]⟩ x=lnB (plcN x):=by
 apply inL
 rw [ZHG]
 unfold swN plcN
 simp only [ZAp,ZBT,Ln.bytes,rowL]
 simp [plcW]
theorem envN_eq (a b c d:ByteArray):((((((⟨#[101,110,118,32]⟩++ZAo a)++⟨#[32]⟩)++ZAo b)++⟨#[32]⟩)++ZAo c)++⟨#[32]⟩)++ZAo d=lnB (.env a b c d):=by
 apply inL
 rw [ZHG]
 simp only [ZAp,ZBT,Ln.bytes,rowL]
 simp [envW]
theorem ZGb (h c q:Int):((((⟨#[99,97,112,115,32]⟩++numT h)++⟨#[32]⟩)++numT c)++⟨#[32]⟩)++numT q=lnB (.caps h c q):=by
 apply inL
 rw [ZHG]
 simp only [ZAp,Ln.bytes,ZEd]
 simp [ZD3]
def hpr1 (s:Scr) (k:Nat):List ByteArray:=(Ln.env s.ec s.eh s.es s.eb::(s.doms.take k).map domN).map lnB
def hpr2 (s:Scr) (k:Nat):List ByteArray:=(Ln.env s.ec s.eh s.es s.eb::(s.doms.map domN++(s.locs.take k).map plcN)).map lnB
theorem ZMR (s:Scr) (k:Nat):(hpr1 s k).length<=s.doms.length+1:=by
 unfold hpr1
 simp only [List.length_map,List.length_cons,List.length_take]
 omega
theorem ZC2 (s:Scr) (k:Nat):(hpr2 s k).length<=s.doms.length+s.locs.length+1:=by
 unfold hpr2
 simp only [List.length_map,List.length_cons,List.length_append,List.length_take]
 omega
theorem ZFT {s:Scr} {k:Nat} (h:k<s.doms.length):hpr1 s k++[lnB (domN s.doms[k])]=hpr1 s (k+1):=by
 unfold hpr1
 rw [List.take_succ_eq_append_getElem h,List.map_append,<- List.cons_append,List.map_append]
 rfl
theorem ZCG {s:Scr} {k:Nat} (h:k<s.locs.length):hpr2 s k++[lnB (plcN s.locs[k])]=hpr2 s (k+1):=by
 unfold hpr2
 rw [List.take_succ_eq_append_getElem h,List.map_append,<- List.append_assoc,<- List.cons_append,<- List.cons_append,List.map_append (l₂:=List.map plcN [_])]
 rfl
theorem ZL4 (s:Scr):hpr1 s s.doms.length=hpr2 s 0:=by
 unfold hpr1 hpr2
 rw [List.take_length,List.take_zero]
 simp
theorem ZIl (s:Scr):hpr2 s s.locs.length++[lnB (.caps s.ch s.cc s.cq)]=(ZJ2 s).map lnB:=by
 unfold hpr2 ZJ2
 rw [List.take_length]
 simp
section
attribute [local irreducible] ZAn
set_option maxHeartbeats 2000000 in
theorem headR_a {st:St} {R:AV->St->Prop} (s:Scr) (hz:s.Sz) (h:∀ t e st',st'.tk[t]? = some e->Mv 0 (fun _=>False) st st'->R (.sl (.own t e) 1 (strL ((ZJ2 s).map lnB))) st'):ZAB Tryz.prog 35 [s.av] st R:=by
 have hmx:maxLen=9223372036854775807:=rfl
 have c1:=ZAt s.ec hz.ec
 have c2:=ZAt s.eh hz.eh
 have c3:=ZAt s.es hz.es
 have c4:=ZAt s.eb hz.eb
 have z1:=(ZAb s.ec).1
 have z2:=(ZAb s.eh).1
 have z3:=(ZAb s.es).1
 have z4:=(ZAb s.eb).1
 have y1:=hz.ec
 have y2:=hz.eh
 have y3:=hz.es
 have y4:=hz.eb
 have y5:=hz.dl
 have y6:=hz.ll
 have n1:(⟨#[101,110,118,32]⟩:ByteArray).size=4:=rfl
 have n2:(⟨#[32]⟩:ByteArray).size=1:=rfl
 have n3:(⟨#[100,111,109,97,105,110,32]⟩:ByteArray).size=7:=rfl
 have n4:(⟨#[112,108,97,99,101,32]⟩:ByteArray).size=6:=rfl
 have n5:(⟨#[99,97,112,115,32]⟩:ByteArray).size=5:=rfl
 have el1:=ZA5 s.doms
 have el2:=ZA5 s.locs
 refine ZAB.of_vc T_ok mixed Tryz.func35 rfl Tryz.call35 ?_
 refine ⟨_,ZAK _ _,?_⟩
 refine ⟨_,ZAK _ _,?_⟩
 refine .x (by kernel_rfl) ?_
 refine ⟨_,ZAL _ _ _,?_⟩
 refine .p rfl c1 ?_
 refine ⟨by (try simp only [ZAD]); omega,?_⟩
 refine ⟨by (try simp only [ZAD]); omega,?_⟩
 refine ⟨_,ZAL _ _ _,?_⟩
 refine .p rfl c2 ?_
 refine ⟨by (try simp only [ZAD]); omega,?_⟩
 refine ⟨by (try simp only [ZAD]); omega,?_⟩
 refine ⟨_,ZAL _ _ _,?_⟩
 refine .p rfl c3 ?_
 refine ⟨by (try simp only [ZAD]); omega,?_⟩
 refine ⟨by (try simp only [ZAD]); omega,?_⟩
 refine ⟨_,ZAL _ _ _,?_⟩
 refine .p rfl c4 ?_
 refine ⟨by (try simp only [ZAD]); omega,?_⟩
 rw [envN_eq]
 refine ZAF [4,5] (fun g vals st'=>∃ (k:Nat) (b:AV),k+g=s.doms.length/\vals=[b,.i k]/\st'.heap[st.heap.length]? = some s.cells/\st'.heap[(st.heap++[s.cells]).length]? = some [.s s.ec,.s s.eh,.s s.es,.s s.eb,.sl .no 2 (fldL s.doms),.sl .no 2 (fldL s.locs)]/\Mv 0 (fun _=>False) st st'/\Acc2 0 st'.tk 1 b (strL (hpr1 s k))) s.doms.length rfl ⟨0,_,by omega,rfl,(List.getElem?_set_ne (by simp)).trans (ap (ZAK _ _)),ZAL _ _ _,⟨by simp,fun q hq _=>(List.getElem?_set_ne (by simp; omega)).trans ((List.getElem?_append_left (by simp; omega)).trans (List.getElem?_append_left hq)),Nat.zero_le _,fun t ht=>by omega⟩,.tight _ _⟩ ?_
 rintro g vals st5 ⟨k,b,hk,rfl,hb0,he,mm,hA⟩
 have hA0:=hA
 generalize hes:strL (hpr1 s k)=es at hA0
 cases hA0 with
 | tight f0 fs =>
  refine ⟨_,he,?_⟩
  refine ZAA (fun hd=>?_) (fun hd=>?_)
  ·skip
   have hd:=of_decide_eq_true hd
   have k1:k<s.doms.length:=by omega
   have hx:=hz.dz _ (List.getElem_mem k1)
   have c1:=ZAt s.doms[k].1 hx.1
   have c2:=ZAt s.doms[k].2 hx.2
   have z1:=(ZAb s.doms[k].1).1
   have z2:=(ZAb s.doms[k].2).1
   have ep:=ZAH (hpr1 s k)
   have ep2:=ZMR s k
   refine .x (by kernel_rfl) ?_
   refine ⟨_,he,?_⟩
   refine ⟨k,_,rfl,ZBj k1,?_⟩
   refine .p rfl c1 ?_
   refine ⟨by (try simp only [ZAD]); omega,?_⟩
   refine ⟨by (try simp only [ZAD]); omega,?_⟩
   refine ⟨_,he,?_⟩
   refine ⟨k,_,rfl,ZBj k1,?_⟩
   refine .p rfl c2 ?_
   refine ⟨by (try simp only [ZAD]); omega,?_⟩
   refine Acc2.app (n:=0) (i:=ti9) hA (Nat.zero_le _) (List.cons_ne_nil _ _) ?_ ?_ (fun t1 e1 tk1 q0 q1 q2 q3=>?_)
   ·show ((strL (hpr1 s k)).length+1)*16<=_; omega
   ·show (strL (hpr1 s k)).length+1<=_; omega
   intro c hc
   rw [IntWalk.i64_in _ (by omega)] at hc
   obtain rfl:c=((k+1:Nat):Int):=by omega
   refine ⟨g - 1,by omega,k+1,_,by omega,rfl,hb0,he,mm.tks q2 q3,?_⟩
   have hnew:=Acc2.own (sz:=1) t1 e1 (strL (hpr1 s k)++[[.s (swN ⟨#[100,111,109,97,105,110,32]⟩ s.doms[k])]]) q0 q1
   rw [ZMT,ZAZ,ZFT k1] at hnew
   rw [<- ZFT k1,<- ZAZ,<- ZMT] at hnew ⊢
   exact hnew
  ·have hd:=of_decide_eq_false hd
   obtain rfl:k=s.doms.length:=by omega
   rw [ZL4] at hA hes
   refine ZAF [4,6] (fun g vals st'=>∃ (k:Nat) (b:AV),k+g=s.locs.length/\vals=[b,.i k]/\st'.heap[st.heap.length]? = some s.cells/\st'.heap[(st.heap++[s.cells]).length]? = some [.s s.ec,.s s.eh,.s s.es,.s s.eb,.sl .no 2 (fldL s.doms),.sl .no 2 (fldL s.locs)]/\Mv 0 (fun _=>False) st st'/\Acc2 0 st'.tk 1 b (strL (hpr2 s k))) s.locs.length rfl ⟨0,_,by omega,rfl,hb0,he,mm,hA⟩ ?_
   clear hA hes hb0 he hd hk mm
   rintro g vals st5 ⟨k,b,hk,rfl,hb0,he,mm,hA⟩
   have hA0:=hA
   generalize hes:strL (hpr2 s k)=es at hA0
   cases hA0 with
   | tight f0 fs =>
    refine ⟨_,he,?_⟩
    refine ZAA (fun hd=>?_) (fun hd=>?_)
    ·skip
     have hd:=of_decide_eq_true hd
     have k1:k<s.locs.length:=by omega
     have hx:=hz.lz _ (List.getElem_mem k1)
     have c1:=ZAt s.locs[k].1 hx.1
     have c2:=ZAt s.locs[k].2 hx.2
     have z1:=(ZAb s.locs[k].1).1
     have z2:=(ZAb s.locs[k].2).1
     have ep:=ZAH (hpr2 s k)
     have ep2:=ZC2 s k
     refine .x (by kernel_rfl) ?_
     refine ⟨_,he,?_⟩
     refine ⟨k,_,rfl,ZBj k1,?_⟩
     refine .p rfl c1 ?_
     refine ⟨by (try simp only [ZAD]); omega,?_⟩
     refine ⟨by (try simp only [ZAD]); omega,?_⟩
     refine ⟨_,he,?_⟩
     refine ⟨k,_,rfl,ZBj k1,?_⟩
     refine .p rfl c2 ?_
     refine ⟨by (try simp only [ZAD]); omega,?_⟩
     refine Acc2.app (n:=0) (i:=ti9) hA (Nat.zero_le _) (List.cons_ne_nil _ _) ?_ ?_ (fun t1 e1 tk1 q0 q1 q2 q3=>?_)
     ·show ((strL (hpr2 s k)).length+1)*16<=_; omega
     ·show (strL (hpr2 s k)).length+1<=_; omega
     intro c hc
     rw [IntWalk.i64_in _ (by omega)] at hc
     obtain rfl:c=((k+1:Nat):Int):=by omega
     refine ⟨g - 1,by omega,k+1,_,by omega,rfl,hb0,he,mm.tks q2 q3,?_⟩
     have hnew:=Acc2.own (sz:=1) t1 e1 (strL (hpr2 s k)++[[.s (swN ⟨#[112,108,97,99,101,32]⟩ s.locs[k])]]) q0 q1
     rw [ZGI,ZAZ,ZCG k1] at hnew
     rw [<- ZCG k1,<- ZAZ,<- ZGI] at hnew ⊢
     exact hnew
    ·skip
     have hd:=of_decide_eq_false hd
     obtain rfl:k=s.locs.length:=by omega
     have x1:=ZAk hz.inn.h
     have x2:=ZAk hz.inn.c
     have x3:=ZAk hz.inn.q
     have ep:=ZAH (hpr2 s s.locs.length)
     have ep2:=ZC2 s s.locs.length
     refine .x (by kernel_rfl) ?_
     refine ⟨_,hb0,?_⟩
     refine .p rfl (ZA3 s.ch hz.inn.h) ?_
     refine ⟨by (try simp only [ZAD]); omega,?_⟩
     refine ⟨by (try simp only [ZAD]); omega,?_⟩
     refine ⟨_,hb0,?_⟩
     refine .p rfl (ZA3 s.cc hz.inn.c) ?_
     refine ⟨by (try simp only [ZAD]); omega,?_⟩
     refine ⟨by (try simp only [ZAD]); omega,?_⟩
     refine ⟨_,hb0,?_⟩
     refine .p rfl (ZA3 s.cq hz.inn.q) ?_
     refine ⟨by (try simp only [ZAD]); omega,?_⟩
     refine Acc2.app (n:=0) (i:=ti9) hA (Nat.zero_le _) (List.cons_ne_nil _ _) ?_ ?_ (fun t1 e1 tk1 q0 q1 q2 q3=>?_)
     ·show ((strL (hpr2 s s.locs.length)).length+1)*16<=_; omega
     ·show (strL (hpr2 s s.locs.length)).length+1<=_; omega
     have hfin:=h t1 e1 ⟨st5.heap,tk1⟩ q1 (mm.tks q2 q3)
     rw [<- ZIl,<- ZGb,<- ZAZ] at hfin
     exact hfin
   | own t e _ hn ht =>
    refine ⟨_,he,?_⟩
    refine ZAA (fun hd=>?_) (fun hd=>?_)
    ·skip
     have hd:=of_decide_eq_true hd
     have k1:k<s.locs.length:=by omega
     have hx:=hz.lz _ (List.getElem_mem k1)
     have c1:=ZAt s.locs[k].1 hx.1
     have c2:=ZAt s.locs[k].2 hx.2
     have z1:=(ZAb s.locs[k].1).1
     have z2:=(ZAb s.locs[k].2).1
     have ep:=ZAH (hpr2 s k)
     have ep2:=ZC2 s k
     refine .x (by kernel_rfl) ?_
     refine ⟨_,he,?_⟩
     refine ⟨k,_,rfl,ZBj k1,?_⟩
     refine .p rfl c1 ?_
     refine ⟨by (try simp only [ZAD]); omega,?_⟩
     refine ⟨by (try simp only [ZAD]); omega,?_⟩
     refine ⟨_,he,?_⟩
     refine ⟨k,_,rfl,ZBj k1,?_⟩
     refine .p rfl c2 ?_
     refine ⟨by (try simp only [ZAD]); omega,?_⟩
     refine Acc2.app (n:=0) (i:=ti9) hA (Nat.zero_le _) (List.cons_ne_nil _ _) ?_ ?_ (fun t1 e1 tk1 q0 q1 q2 q3=>?_)
     ·show ((strL (hpr2 s k)).length+1)*16<=_; omega
     ·show (strL (hpr2 s k)).length+1<=_; omega
     intro c hc
     rw [IntWalk.i64_in _ (by omega)] at hc
     obtain rfl:c=((k+1:Nat):Int):=by omega
     refine ⟨g - 1,by omega,k+1,_,by omega,rfl,hb0,he,mm.tks q2 q3,?_⟩
     have hnew:=Acc2.own (sz:=1) t1 e1 (strL (hpr2 s k)++[[.s (swN ⟨#[112,108,97,99,101,32]⟩ s.locs[k])]]) q0 q1
     rw [ZGI,ZAZ,ZCG k1] at hnew
     rw [<- ZCG k1,<- ZAZ,<- ZGI] at hnew ⊢
     exact hnew
    ·skip
     have hd:=of_decide_eq_false hd
     obtain rfl:k=s.locs.length:=by omega
     have x1:=ZAk hz.inn.h
     have x2:=ZAk hz.inn.c
     have x3:=ZAk hz.inn.q
     have ep:=ZAH (hpr2 s s.locs.length)
     have ep2:=ZC2 s s.locs.length
     refine .x (by kernel_rfl) ?_
     refine ⟨_,hb0,?_⟩
     refine .p rfl (ZA3 s.ch hz.inn.h) ?_
     refine ⟨by (try simp only [ZAD]); omega,?_⟩
     refine ⟨by (try simp only [ZAD]); omega,?_⟩
     refine ⟨_,hb0,?_⟩
     refine .p rfl (ZA3 s.cc hz.inn.c) ?_
     refine ⟨by (try simp only [ZAD]); omega,?_⟩
     refine ⟨by (try simp only [ZAD]); omega,?_⟩
     refine ⟨_,hb0,?_⟩
     refine .p rfl (ZA3 s.cq hz.inn.q) ?_
     refine ⟨by (try simp only [ZAD]); omega,?_⟩
     refine Acc2.app (n:=0) (i:=ti9) hA (Nat.zero_le _) (List.cons_ne_nil _ _) ?_ ?_ (fun t1 e1 tk1 q0 q1 q2 q3=>?_)
     ·show ((strL (hpr2 s s.locs.length)).length+1)*16<=_; omega
     ·show (strL (hpr2 s s.locs.length)).length+1<=_; omega
     have hfin:=h t1 e1 ⟨st5.heap,tk1⟩ q1 (mm.tks q2 q3)
     rw [<- ZIl,<- ZGb,<- ZAZ] at hfin
     exact hfin
 | own t e _ hn ht =>
  refine ⟨_,he,?_⟩
  refine ZAA (fun hd=>?_) (fun hd=>?_)
  ·skip
   have hd:=of_decide_eq_true hd
   have k1:k<s.doms.length:=by omega
   have hx:=hz.dz _ (List.getElem_mem k1)
   have c1:=ZAt s.doms[k].1 hx.1
   have c2:=ZAt s.doms[k].2 hx.2
   have z1:=(ZAb s.doms[k].1).1
   have z2:=(ZAb s.doms[k].2).1
   have ep:=ZAH (hpr1 s k)
   have ep2:=ZMR s k
   refine .x (by kernel_rfl) ?_
   refine ⟨_,he,?_⟩
   refine ⟨k,_,rfl,ZBj k1,?_⟩
   refine .p rfl c1 ?_
   refine ⟨by (try simp only [ZAD]); omega,?_⟩
   refine ⟨by (try simp only [ZAD]); omega,?_⟩
   refine ⟨_,he,?_⟩
   refine ⟨k,_,rfl,ZBj k1,?_⟩
   refine .p rfl c2 ?_
   refine ⟨by (try simp only [ZAD]); omega,?_⟩
   refine Acc2.app (n:=0) (i:=ti9) hA (Nat.zero_le _) (List.cons_ne_nil _ _) ?_ ?_ (fun t1 e1 tk1 q0 q1 q2 q3=>?_)
   ·show ((strL (hpr1 s k)).length+1)*16<=_; omega
   ·show (strL (hpr1 s k)).length+1<=_; omega
   intro c hc
   rw [IntWalk.i64_in _ (by omega)] at hc
   obtain rfl:c=((k+1:Nat):Int):=by omega
   refine ⟨g - 1,by omega,k+1,_,by omega,rfl,hb0,he,mm.tks q2 q3,?_⟩
   have hnew:=Acc2.own (sz:=1) t1 e1 (strL (hpr1 s k)++[[.s (swN ⟨#[100,111,109,97,105,110,32]⟩ s.doms[k])]]) q0 q1
   rw [ZMT,ZAZ,ZFT k1] at hnew
   rw [<- ZFT k1,<- ZAZ,<- ZMT] at hnew ⊢
   exact hnew
  ·have hd:=of_decide_eq_false hd
   obtain rfl:k=s.doms.length:=by omega
   rw [ZL4] at hA hes
   refine ZAF [4,6] (fun g vals st'=>∃ (k:Nat) (b:AV),k+g=s.locs.length/\vals=[b,.i k]/\st'.heap[st.heap.length]? = some s.cells/\st'.heap[(st.heap++[s.cells]).length]? = some [.s s.ec,.s s.eh,.s s.es,.s s.eb,.sl .no 2 (fldL s.doms),.sl .no 2 (fldL s.locs)]/\Mv 0 (fun _=>False) st st'/\Acc2 0 st'.tk 1 b (strL (hpr2 s k))) s.locs.length rfl ⟨0,_,by omega,rfl,hb0,he,mm,hA⟩ ?_
   clear hA hes hb0 he hd hk mm
   rintro g vals st5 ⟨k,b,hk,rfl,hb0,he,mm,hA⟩
   have hA0:=hA
   generalize hes:strL (hpr2 s k)=es at hA0
   cases hA0 with
   | tight f0 fs =>
    refine ⟨_,he,?_⟩
    refine ZAA (fun hd=>?_) (fun hd=>?_)
    ·skip
     have hd:=of_decide_eq_true hd
     have k1:k<s.locs.length:=by omega
     have hx:=hz.lz _ (List.getElem_mem k1)
     have c1:=ZAt s.locs[k].1 hx.1
     have c2:=ZAt s.locs[k].2 hx.2
     have z1:=(ZAb s.locs[k].1).1
     have z2:=(ZAb s.locs[k].2).1
     have ep:=ZAH (hpr2 s k)
     have ep2:=ZC2 s k
     refine .x (by kernel_rfl) ?_
     refine ⟨_,he,?_⟩
     refine ⟨k,_,rfl,ZBj k1,?_⟩
     refine .p rfl c1 ?_
     refine ⟨by (try simp only [ZAD]); omega,?_⟩
     refine ⟨by (try simp only [ZAD]); omega,?_⟩
     refine ⟨_,he,?_⟩
     refine ⟨k,_,rfl,ZBj k1,?_⟩
     refine .p rfl c2 ?_
     refine ⟨by (try simp only [ZAD]); omega,?_⟩
     refine Acc2.app (n:=0) (i:=ti9) hA (Nat.zero_le _) (List.cons_ne_nil _ _) ?_ ?_ (fun t1 e1 tk1 q0 q1 q2 q3=>?_)
     ·show ((strL (hpr2 s k)).length+1)*16<=_; omega
     ·show (strL (hpr2 s k)).length+1<=_; omega
     intro c hc
     rw [IntWalk.i64_in _ (by omega)] at hc
     obtain rfl:c=((k+1:Nat):Int):=by omega
     refine ⟨g - 1,by omega,k+1,_,by omega,rfl,hb0,he,mm.tks q2 q3,?_⟩
     have hnew:=Acc2.own (sz:=1) t1 e1 (strL (hpr2 s k)++[[.s (swN ⟨#[112,108,97,99,101,32]⟩ s.locs[k])]]) q0 q1
     rw [ZGI,ZAZ,ZCG k1] at hnew
     rw [<- ZCG k1,<- ZAZ,<- ZGI] at hnew ⊢
     exact hnew
    ·skip
     have hd:=of_decide_eq_false hd
     obtain rfl:k=s.locs.length:=by omega
     have x1:=ZAk hz.inn.h
     have x2:=ZAk hz.inn.c
     have x3:=ZAk hz.inn.q
     have ep:=ZAH (hpr2 s s.locs.length)
     have ep2:=ZC2 s s.locs.length
     refine .x (by kernel_rfl) ?_
     refine ⟨_,hb0,?_⟩
     refine .p rfl (ZA3 s.ch hz.inn.h) ?_
     refine ⟨by (try simp only [ZAD]); omega,?_⟩
     refine ⟨by (try simp only [ZAD]); omega,?_⟩
     refine ⟨_,hb0,?_⟩
     refine .p rfl (ZA3 s.cc hz.inn.c) ?_
     refine ⟨by (try simp only [ZAD]); omega,?_⟩
     refine ⟨by (try simp only [ZAD]); omega,?_⟩
     refine ⟨_,hb0,?_⟩
     refine .p rfl (ZA3 s.cq hz.inn.q) ?_
     refine ⟨by (try simp only [ZAD]); omega,?_⟩
     refine Acc2.app (n:=0) (i:=ti9) hA (Nat.zero_le _) (List.cons_ne_nil _ _) ?_ ?_ (fun t1 e1 tk1 q0 q1 q2 q3=>?_)
     ·show ((strL (hpr2 s s.locs.length)).length+1)*16<=_; omega
     ·show (strL (hpr2 s s.locs.length)).length+1<=_; omega
     have hfin:=h t1 e1 ⟨st5.heap,tk1⟩ q1 (mm.tks q2 q3)
     rw [<- ZIl,<- ZGb,<- ZAZ] at hfin
     exact hfin
   | own t e _ hn ht =>
    refine ⟨_,he,?_⟩
    refine ZAA (fun hd=>?_) (fun hd=>?_)
    ·skip
     have hd:=of_decide_eq_true hd
     have k1:k<s.locs.length:=by omega
     have hx:=hz.lz _ (List.getElem_mem k1)
     have c1:=ZAt s.locs[k].1 hx.1
     have c2:=ZAt s.locs[k].2 hx.2
     have z1:=(ZAb s.locs[k].1).1
     have z2:=(ZAb s.locs[k].2).1
     have ep:=ZAH (hpr2 s k)
     have ep2:=ZC2 s k
     refine .x (by kernel_rfl) ?_
     refine ⟨_,he,?_⟩
     refine ⟨k,_,rfl,ZBj k1,?_⟩
     refine .p rfl c1 ?_
     refine ⟨by (try simp only [ZAD]); omega,?_⟩
     refine ⟨by (try simp only [ZAD]); omega,?_⟩
     refine ⟨_,he,?_⟩
     refine ⟨k,_,rfl,ZBj k1,?_⟩
     refine .p rfl c2 ?_
     refine ⟨by (try simp only [ZAD]); omega,?_⟩
     refine Acc2.app (n:=0) (i:=ti9) hA (Nat.zero_le _) (List.cons_ne_nil _ _) ?_ ?_ (fun t1 e1 tk1 q0 q1 q2 q3=>?_)
     ·show ((strL (hpr2 s k)).length+1)*16<=_; omega
     ·show (strL (hpr2 s k)).length+1<=_; omega
     intro c hc
     rw [IntWalk.i64_in _ (by omega)] at hc
     obtain rfl:c=((k+1:Nat):Int):=by omega
     refine ⟨g - 1,by omega,k+1,_,by omega,rfl,hb0,he,mm.tks q2 q3,?_⟩
     have hnew:=Acc2.own (sz:=1) t1 e1 (strL (hpr2 s k)++[[.s (swN ⟨#[112,108,97,99,101,32]⟩ s.locs[k])]]) q0 q1
     rw [ZGI,ZAZ,ZCG k1] at hnew
     rw [<- ZCG k1,<- ZAZ,<- ZGI] at hnew ⊢
     exact hnew
    ·skip
     have hd:=of_decide_eq_false hd
     obtain rfl:k=s.locs.length:=by omega
     have x1:=ZAk hz.inn.h
     have x2:=ZAk hz.inn.c
     have x3:=ZAk hz.inn.q
     have ep:=ZAH (hpr2 s s.locs.length)
     have ep2:=ZC2 s s.locs.length
     refine .x (by kernel_rfl) ?_
     refine ⟨_,hb0,?_⟩
     refine .p rfl (ZA3 s.ch hz.inn.h) ?_
     refine ⟨by (try simp only [ZAD]); omega,?_⟩
     refine ⟨by (try simp only [ZAD]); omega,?_⟩
     refine ⟨_,hb0,?_⟩
     refine .p rfl (ZA3 s.cc hz.inn.c) ?_
     refine ⟨by (try simp only [ZAD]); omega,?_⟩
     refine ⟨by (try simp only [ZAD]); omega,?_⟩
     refine ⟨_,hb0,?_⟩
     refine .p rfl (ZA3 s.cq hz.inn.q) ?_
     refine ⟨by (try simp only [ZAD]); omega,?_⟩
     refine Acc2.app (n:=0) (i:=ti9) hA (Nat.zero_le _) (List.cons_ne_nil _ _) ?_ ?_ (fun t1 e1 tk1 q0 q1 q2 q3=>?_)
     ·show ((strL (hpr2 s s.locs.length)).length+1)*16<=_; omega
     ·show (strL (hpr2 s s.locs.length)).length+1<=_; omega
     have hfin:=h t1 e1 ⟨st5.heap,tk1⟩ q1 (mm.tks q2 q3)
     rw [<- ZIl,<- ZGb,<- ZAZ] at hfin
     exact hfin
end
end
section
theorem prL_split (s:Scr):prL s=ZJ2 s++(s.rules.map .rule++ZFY s):=by
 unfold prL prG ZJ2 ZFY
 have t1:decide (1<=7)=true:=rfl
 have t4:decide (4<=7)=true:=rfl
 have t6:decide (6<=7)=true:=rfl
 have t7:decide (7<=7)=true:=rfl
 rw [t1,t4,t6,t7]
 have e1:bI true (Ln.env s.ec s.eh s.es s.eb)=[.env s.ec s.eh s.es s.eb]:=rfl
 have e4:bI true (Ln.caps s.ch s.cc s.cq)=[.caps s.ch s.cc s.cq]:=rfl
 have e6:bI true (Ln.cli s.cl)=[.cli s.cl]:=rfl
 have e7:bI true (Ln.ups s.up)=[.ups s.up]:=rfl
 rw [e1,e4,e6,e7]
 simp only [List.cons_append,List.nil_append,List.append_assoc]
theorem rule_eq (r:Rl):(⟨#[114,117,108,101,32]⟩:ByteArray)++ZAx r=lnB (.rule r):=by
 apply inL
 rw [ZHG,ZAp]
 rfl
theorem ev_eq (k n:Int):(⟨#[101,118,101,110,116,32]⟩:ByteArray)++evT k n=lnB (.ev k n):=by
 apply inL
 rw [ZHG,ZAp]
 rfl
theorem cli_eq (a:ByteArray):(⟨#[99,108,105,101,110,116,32]⟩:ByteArray)++ZAo a=lnB (.cli a):=by
 apply inL
 rw [ZHG,ZAp,ZBT]
 simp [Ln.bytes,rowL,cliW]
theorem ups_eq (a:ByteArray):(⟨#[117,112,115,116,114,101,97,109,32]⟩:ByteArray)++ZAo a=lnB (.ups a):=by
 apply inL
 rw [ZHG,ZAp,ZBT]
 simp [Ln.bytes,rowL,upsW]
end
section
def hlB (s:Scr) (k:Nat):List ByteArray:=(ZJ2 s++(s.rules.take k).map Ln.rule).map lnB
theorem ZLM (s:Scr) (k:Nat):(hlB s k).length<=s.doms.length+s.locs.length+s.rules.length+2:=by
 unfold hlB ZJ2
 simp only [List.length_map,List.length_append,List.length_cons,List.length_nil,List.length_take]
 omega
theorem hlB_snoc {s:Scr} {k:Nat} (h:k<s.rules.length):hlB s k++[lnB (.rule s.rules[k])]=hlB s (k+1):=by
 unfold hlB
 rw [List.take_succ_eq_append_getElem h]
 simp only [List.map_append,List.append_assoc]
 rfl
def EN (s:Scr) (c u:Bool):List ByteArray:=hlB s s.rules.length++[lnB (.cli s.cl),lnB (.ups s.up)]++(bI c (lnB .ce)++bI u (lnB .ue))
theorem EN_fin (s:Scr):EN s s.ce s.ue++(s.evs.map evN).map lnB=(prL s).map lnB:=by
 rw [prL_split]
 unfold EN hlB ZFY
 rw [List.take_length]
 have e1:∀ (b:Bool) (y:Ln),(bI b y).map lnB=bI b (lnB y):=fun b y=>by cases b <;> rfl
 simp only [List.map_append,List.append_assoc,e1]
 rfl
theorem EN_len (s:Scr) (c u:Bool):(EN s c u).length<=s.doms.length+s.locs.length+s.rules.length+6:=by
 have h:=ZLM s s.rules.length
 unfold EN bI
 cases c <;> cases u <;> simp <;> omega
def evB (E:List ByteArray) (l:List (Int × Int)) (k:Nat):List ByteArray:=E++((l.take k).map evN).map lnB
theorem ZIh (E:List ByteArray) (l:List (Int × Int)) (k:Nat):(evB E l k).length<=E.length+l.length:=by
 unfold evB
 simp only [List.length_map,List.length_append,List.length_take]
 omega
theorem ZGU {E:List ByteArray} {l:List (Int × Int)} {k:Nat} (h:k<l.length):evB E l k++[lnB (.ev l[k].1 l[k].2)]=evB E l (k+1):=by
 unfold evB
 rw [List.take_succ_eq_append_getElem h,List.map_append,List.map_append,<- List.append_assoc]
 rfl
theorem ZGu {k n:Int} (h:evOk k n=true):(evT k n).size<=100:=by
 obtain ⟨w,r,e,_,_,hc⟩:=ZGh h
 have hz:=congrArg List.length e
 rw [blen,List.length_append,List.length_cons,blen,blen] at hz
 rcases hc with ⟨rfl,_,rfl,_,m,rfl,hm⟩ | ⟨rfl,_,rfl,_,m,rfl,hm⟩ | ⟨rfl,_,_,rfl⟩ | ⟨rfl,_,_,rfl⟩
 ·have:=ZAk (n:=(m:Int)) ⟨by omega,by omega⟩
  have e1:cliW.size=6:=rfl
  omega
 ·have:=ZAk (n:=(m:Int)) ⟨by omega,by omega⟩
  have e1:upsW.size=8:=rfl
  omega
 ·have e1:cliW.size=6:=rfl
  have e2:endB.size=3:=rfl
  omega
 ·have e1:upsW.size=8:=rfl
  have e2:endB.size=3:=rfl
  omega
/-- lines' bytes, one behind the other -/
def outB (L:List ByteArray):List UInt8:=L.flatMap fun x=>x.data.toList++[10]
theorem ZCF {L:List ByteArray} {k:Nat} (h:k<L.length):outB (L.take (k+1))=outB (L.take k)++(L[k].data.toList++[10]):=by
 unfold outB
 rw [List.take_succ_eq_append_getElem h,List.flatMap_append]
 simp
theorem ZD5 (L:List ByteArray) (k:Nat):(outB (L.take k)).length<=(outB L).length:=by
 conv=>rhs; rw [<- List.take_append_drop k L]
 unfold outB
 rw [List.flatMap_append,List.length_append]
 omega
theorem ZNe (l:List Ln):outB (l.map lnB)=linesOf l:=by
 unfold outB linesOf
 rw [List.flatMap_map]
 congr 1
section
attribute [local irreducible] ZAn
set_option maxHeartbeats 4000000 in
theorem ZL7 (s:Scr) (hz:s.Sz) (hrz:∀ r∈s.rules,(ZAx r).size<=1099511627776):ZAC Tryz.prog 13 [s.av] (.tup [.s (ZAv s).1,.i (ZAv s).2]) []:=by
 have hmx:maxLen=9223372036854775807:=rfl
 have hT:=ZNe (prL s)
 have htot:=hz.tot
 have er:=ZBk s.rules
 have ee:=ZBN s.evs
 have y1:=hz.dl
 have y2:=hz.ll
 have y3:=hz.rl
 have y4:=hz.el
 have c1:=ZAt s.cl hz.cl
 have c2:=ZAt s.up hz.up
 have z1:=(ZAb s.cl).1
 have z2:=(ZAb s.up).1
 have y5:=hz.cl
 have y6:=hz.up
 have n1:(⟨#[114,117,108,101,32]⟩:ByteArray).size=5:=rfl
 have n2:(⟨#[99,108,105,101,110,116,32]⟩:ByteArray).size=7:=rfl
 have n3:(⟨#[117,112,115,116,114,101,97,109,32]⟩:ByteArray).size=9:=rfl
 have n4:(⟨#[101,118,101,110,116,32]⟩:ByteArray).size=6:=rfl
 obtain ⟨X,hX⟩:∃ X,ZAv s=X:=⟨_,rfl⟩
 rw [hX]
 refine ZAC.of rfl (ZAB.of_vc T_ok mixed Tryz.func13 rfl Tryz.call13 ?_)
 refine ⟨_,rfl,?_⟩
 refine .s (headR_a s hz (fun t0 e0' st1 ht0 m1=>?_))
 have hs1:=m1.at' (q:=0) (cs:=s.cells) rfl (fun e=>e)
 have h00:(ZJ2 s).map lnB=hlB s 0:=by unfold hlB; rw [List.take_zero]; simp
 rw [h00]
 refine ZAF [4,5] (fun g vals st'=>∃ (k t e:Nat),k+g=s.rules.length/\vals=[.sl (.own t e) 1 (strL (hlB s k)),.i k]/\st'.tk[t]? = some e/\st'.heap[0]? = some s.cells/\∀ x∈s.rules.take k,ZAO x=0) s.rules.length rfl ⟨0,t0,e0',by omega,rfl,ht0,hs1,fun x hx=>by rw [List.take_zero] at hx; cases hx⟩ ?_
 rintro g vals st2 ⟨k,t,e,hk,rfl,ht,hs2,hall⟩
 refine ⟨_,hs2,?_⟩
 refine ZAA (fun hd=>?_) (fun hd=>?_)
 ·have hd:=of_decide_eq_true hd
  have k1:k<s.rules.length:=by omega
  have hx:=ZIP s.rules[k] (hz.rok _ (List.getElem_mem k1))
  have hrk:=hrz _ (List.getElem_mem k1)
  have ep:=ZAH (hlB s k)
  have ep2:=ZLM s k
  refine ⟨_,hs2,?_⟩
  refine ⟨k,_,rfl,ZIF k1,?_⟩
  by_cases hev:ZAO s.rules[k]=0
  ·rw [ZDW hev] at hx
   refine .p rfl hx ?_
   refine ⟨by (try simp only [ZAD]); omega,?_⟩
   refine Acc.app (n:=0) (i:=ti9) (Acc.own t e (strL (hlB s k)) (Nat.zero_le _) ht) (Nat.zero_le _) (List.cons_ne_nil _ _) ?_ ?_ (fun t1 e1 tk1 q0 q1 q2 q3=>?_)
   ·show ((strL (hlB s k)).length+1)*16<=_; omega
   ·show (strL (hlB s k)).length+1<=_; omega
   rw [rule_eq]
   intro c hc
   rw [IntWalk.i64_in _ (by omega)] at hc
   obtain rfl:c=((k+1:Nat):Int):=by omega
   refine ⟨g - 1,by omega,k+1,t1,e1,by omega,?_,q1,hs2,?_⟩
   ·rw [<- hlB_snoc k1,<- ZAZ (hlB s k)]
    rfl
   ·intro x hx
    rw [List.take_succ_eq_append_getElem k1] at hx
    rcases List.mem_append.1 hx with hx | hx
    ·exact hall x hx
    ·rw [List.mem_singleton.1 hx]; exact hev
  ·have hbad:okRu s=false:=by
    rw [Bool.eq_false_iff]
    intro e
    have:=List.all_eq_true.1 e _ (List.getElem_mem k1)
    exact hev (of_decide_eq_true this)
   rw [ZGW hev,(ZJb _).resolve_left hev] at hx
   refine .p rfl hx ?_
   rw [ZJ9 hbad] at hX
   subst hX
   rfl
 ·have hd:=of_decide_eq_false hd
  obtain rfl:k=s.rules.length:=by omega
  rw [List.take_length] at hall
  have hru:okRu s=true:=List.all_eq_true.2 fun x hx=>decide_eq_true (hall x hx)
  have ep:=ZAH (hlB s s.rules.length)
  have ep2:=ZLM s s.rules.length
  refine .x (by kernel_rfl) ?_
  refine ⟨_,hs2,?_⟩
  refine .p rfl c1 ?_
  refine ⟨by (try simp only [ZAD]); omega,?_⟩
  refine ⟨_,hs2,?_⟩
  refine .p rfl c2 ?_
  refine ⟨by (try simp only [ZAD]); omega,?_⟩
  refine Acc.app (n:=0) (i:=ti9) (Acc.own t e (strL (hlB s s.rules.length)) (Nat.zero_le _) ht) (Nat.zero_le _) (List.cons_ne_nil _ _) ?_ ?_ (fun t1 e1 tk1 q0 q1 q2 q3=>?_)
  ·show ((strL (hlB s s.rules.length)).length+2)*16<=_; omega
  ·show (strL (hlB s s.rules.length)).length+2<=_; omega
  rw [cli_eq,ups_eq]
  have eE:strL (hlB s s.rules.length)++[[.s (lnB (.cli s.cl))],[.s (lnB (.ups s.up))]]=strL (hlB s s.rules.length++[lnB (.cli s.cl),lnB (.ups s.up)]):=by simp [strL]
  rw [eE]
  have hfin:=EN_fin s
  have hEl:=EN_len s s.ce s.ue
  have hposL:linesOf (prL s)≠[]:=by
   intro e
   have:(prB s).length=0:=by unfold prB; rw [e]; rfl
   rw [prB_eq] at this
   simp at this
  change outB ((prL s).map lnB)=prB s at hT
  generalize (prL s).map lnB=L at hfin hT
  have hEN:EN s s.ce s.ue=EN s s.ce s.ue:=rfl
  refine ⟨_,hs2,?_⟩
  refine ZAA (fun hce=>?_) (fun hce=>?_)
  ·have ep3:=ZAH (hlB s s.rules.length++[lnB (.cli s.cl),lnB (.ups s.up)])
   rw [List.length_append] at ep3
   have l2:([lnB (.cli s.cl),lnB (.ups s.up)]:List ByteArray).length=2:=rfl
   refine Acc.app (n:=0) (i:=ti9) (Acc.own t1 e1 (strL (hlB s s.rules.length++[lnB (.cli s.cl),lnB (.ups s.up)])) (Nat.zero_le _) q1) (Nat.zero_le _) (List.cons_ne_nil _ _) ?_ ?_ (fun t2 e2 tk2 r0 r1 r2 r3=>?_)
   ·show ((strL (hlB s s.rules.length++[lnB (.cli s.cl),lnB (.ups s.up)])).length+1)*16<=_; omega
   ·show (strL (hlB s s.rules.length++[lnB (.cli s.cl),lnB (.ups s.up)])).length+1<=_; omega
   rw [ZAZ]
   refine ⟨_,hs2,?_⟩
   refine ZAA (fun hue=>?_) (fun hue=>?_)
   ·have ep4:=ZAH (hlB s s.rules.length++[lnB (.cli s.cl),lnB (.ups s.up)]++[enC])
    rw [List.length_append,List.length_append] at ep4
    have l1:([enC]:List ByteArray).length=1:=rfl
    refine Acc.app (n:=0) (i:=ti9) (Acc.own t2 e2 (strL (hlB s s.rules.length++[lnB (.cli s.cl),lnB (.ups s.up)]++[enC])) (Nat.zero_le _) r1) (Nat.zero_le _) (List.cons_ne_nil _ _) ?_ ?_ (fun t3 e3 tk3 v0 v1 v2 v3=>?_)
    ·show ((strL (hlB s s.rules.length++[lnB (.cli s.cl),lnB (.ups s.up)]++[enC])).length+1)*16<=_; omega
    ·show (strL (hlB s s.rules.length++[lnB (.cli s.cl),lnB (.ups s.up)]++[enC])).length+1<=_; omega
    rw [ZAZ]
    have hE0:hlB s s.rules.length++[lnB (.cli s.cl),lnB (.ups s.up)]++[enC]++[(⟨#[101,110,100,115,32,117,112,115,116,114,101,97,109]⟩:ByteArray)]=EN s s.ce s.ue:=by rw [show s.ce=true from hce,show s.ue=true from hue]; simp only [EN,bI,if_true,List.append_assoc]; rfl
    rw [hE0]
    generalize EN s s.ce s.ue=E at *
    refine ZAF [4,8] (fun g vals st'=>∃ (k t e:Nat),k+g=s.evs.length/\vals=[.sl (.own t e) 1 (strL (evB E s.evs k)),.i k]/\st'.tk[t]? = some e/\st'.heap[0]? = some s.cells/\∀ x∈s.evs.take k,evOk x.1 x.2=true) s.evs.length rfl ⟨0,t3,e3,by omega,by unfold evB; rw [List.take_zero,List.map_nil,List.map_nil,List.append_nil]; rfl,v1,hs2,fun x hx=>by rw [List.take_zero] at hx; cases hx⟩ ?_
    clear hall hd hk ht
    rintro g vals st4 ⟨k,t,e,hk,rfl,ht,hs4,hall⟩
    have ep:=ZAH (evB E s.evs k)
    have ep2:=ZIh E s.evs k
    refine ⟨_,hs4,?_⟩
    refine ZAA (fun hd=>?_) (fun hd=>?_)
    ·have hd:=of_decide_eq_true hd
     have k1:k<s.evs.length:=by omega
     have hx:=ZGo s.evs[k].1 s.evs[k].2
     refine ⟨_,hs4,?_⟩
     refine ⟨k,_,rfl,ZEi k1,?_⟩
     cases hev:evOk s.evs[k].1 s.evs[k].2 with
     | true =>
      have hes:=ZGu hev
      rw [(ZCX hev).1,(ZCX hev).2] at hx
      refine .p rfl hx ?_
      refine ⟨by (try simp only [ZAD]); omega,?_⟩
      refine Acc.app (n:=0) (i:=ti9) (Acc.own t e (strL (evB E s.evs k)) (Nat.zero_le _) ht) (Nat.zero_le _) (List.cons_ne_nil _ _) ?_ ?_ (fun t1 e1 tk1 q0 q1 q2 q3=>?_)
      ·show ((strL (evB E s.evs k)).length+1)*16<=_; omega
      ·show (strL (evB E s.evs k)).length+1<=_; omega
      rw [ev_eq]
      intro c hc
      rw [IntWalk.i64_in _ (by omega)] at hc
      obtain rfl:c=((k+1:Nat):Int):=by omega
      refine ⟨g - 1,by omega,k+1,t1,e1,by omega,?_,q1,hs4,?_⟩
      ·rw [<- ZGU k1,<- ZAZ (evB E s.evs k)]
       rfl
      ·intro x hx
       rw [List.take_succ_eq_append_getElem k1] at hx
       rcases List.mem_append.1 hx with hx | hx
       ·exact hall x hx
       ·rw [List.mem_singleton.1 hx]; exact hev
     | false =>
      rw [ZGE hev] at hx
      refine .p rfl hx ?_
      have hbe:okEv s=false:=by
       rw [Bool.eq_false_iff]
       intro e
       have:=List.all_eq_true.1 e _ (List.getElem_mem k1)
       rw [hev] at this
       cases this
      rw [ZE4 hru hbe] at hX
      subst hX
      rfl
    ·have hd:=of_decide_eq_false hd
     obtain rfl:k=s.evs.length:=by omega
     rw [List.take_length] at hall
     have hok:okEv s=true:=List.all_eq_true.2 hall
     have hev:evB E s.evs s.evs.length=L:=by unfold evB; rw [List.take_length]; exact hfin
     have hLl:L.length<=E.length+s.evs.length:=by rw [<- hev]; exact ep2
     rw [hev] at ep
     rw [hev]
     refine ZAF [11,12] (fun g vals st'=>∃ (k:Nat) (b:AV),k+g=L.length/\vals=[b,.i k]/\Acc 0 st'.tk 1 b (u8L (outB (L.take k)))) L.length rfl ⟨0,_,by omega,rfl,.nil⟩ ?_
     rintro g vals st5 ⟨k,b,hk,rfl,hA⟩
     rcases hA.form with rfl | ⟨t7,e7,rfl⟩
     ·skip
      refine ZAA (fun hd=>?_) (fun hd=>?_)
      ·have hd:=of_decide_eq_true hd
       have k1:k<L.length:=by omega
       have hle:=ZD5 L (k+1)
       have htk:=ZCF k1
       rw [htk,List.length_append,List.length_append,blen] at hle
       have hT2:(outB L).length<=1099511627776:=by rw [hT]; exact htot
       refine ⟨k,_,rfl,ZAS k1,?_⟩
       refine ⟨by show _+1<=_; omega,?_⟩
       have hsz:(L[k]++(⟨#[10]⟩:ByteArray)).size=L[k].size+1:=by rw [ZAD]; rfl
       refine Acc.appS rfl rfl hA (by rw [hsz]; omega) (fun hz0 _=>by omega) (fun t9 e9 tk9 q0 q1 q2 q3=>?_)
       intro c hc
       rw [IntWalk.i64_in _ (by omega)] at hc
       obtain rfl:c=((k+1:Nat):Int):=by omega
       refine ⟨g - 1,by omega,k+1,_,by omega,rfl,?_⟩
       rw [htk]
       have e9:(L[k]++(⟨#[10]⟩:ByteArray)).data.toList=L[k].data.toList++[10]:=by rw [ZAp]
       rw [<- e9]
       exact .own _ _ _ (Nat.zero_le _) q0
      ·have hd:=of_decide_eq_false hd
       have hlen:L.length=k:=by omega
       exfalso
       have h0:=ZEw hA
       rw [<- hlen,List.take_length] at h0
       rw [h0] at hT
       exact hposL hT.symm
     ·skip
      refine ZAA (fun hd=>?_) (fun hd=>?_)
      ·have hd:=of_decide_eq_true hd
       have k1:k<L.length:=by omega
       have hle:=ZD5 L (k+1)
       have htk:=ZCF k1
       rw [htk,List.length_append,List.length_append,blen] at hle
       have hT2:(outB L).length<=1099511627776:=by rw [hT]; exact htot
       refine ⟨k,_,rfl,ZAS k1,?_⟩
       refine ⟨by show _+1<=_; omega,?_⟩
       have hsz:(L[k]++(⟨#[10]⟩:ByteArray)).size=L[k].size+1:=by rw [ZAD]; rfl
       refine Acc.appS rfl rfl hA (by rw [hsz]; omega) (fun hz0 _=>by omega) (fun t9 e9 tk9 q0 q1 q2 q3=>?_)
       intro c hc
       rw [IntWalk.i64_in _ (by omega)] at hc
       obtain rfl:c=((k+1:Nat):Int):=by omega
       refine ⟨g - 1,by omega,k+1,_,by omega,rfl,?_⟩
       rw [htk]
       have e9:(L[k]++(⟨#[10]⟩:ByteArray)).data.toList=L[k].data.toList++[10]:=by rw [ZAp]
       rw [<- e9]
       exact .own _ _ _ (Nat.zero_le _) q0
      ·have hd:=of_decide_eq_false hd
       have hlen:L.length=k:=by omega
       rw [<- hlen,List.take_length] at hA ⊢
       rw [hT] at hA ⊢
       have hul:=ZAE (prB s)
       refine ZAA (fun hg=>?_) (fun hg=>?_)
       ·have hg:=of_decide_eq_true hg
        rw [ZDI hru hok (by omega)] at hX
        subst hX
        rfl
       ·have hg:=of_decide_eq_false hg
        rw [ZDS hru hok (by omega)] at hX
        subst hX
        refine ⟨tBy (prB s),?_,?_⟩
        ·rw [ZJU]; rfl
        ·rfl
   ·have hE0:hlB s s.rules.length++[lnB (.cli s.cl),lnB (.ups s.up)]++[(⟨#[101,110,100,115,32,99,108,105,101,110,116]⟩:ByteArray)]=EN s s.ce s.ue:=by rw [show s.ce=true from hce,show s.ue=false from hue]; simp only [EN,bI,if_true,List.append_assoc]; rfl
    rw [hE0]
    generalize EN s s.ce s.ue=E at *
    refine ZAF [4,8] (fun g vals st'=>∃ (k t e:Nat),k+g=s.evs.length/\vals=[.sl (.own t e) 1 (strL (evB E s.evs k)),.i k]/\st'.tk[t]? = some e/\st'.heap[0]? = some s.cells/\∀ x∈s.evs.take k,evOk x.1 x.2=true) s.evs.length rfl ⟨0,t2,e2,by omega,by unfold evB; rw [List.take_zero,List.map_nil,List.map_nil,List.append_nil]; rfl,r1,hs2,fun x hx=>by rw [List.take_zero] at hx; cases hx⟩ ?_
    clear hall hd hk ht
    rintro g vals st4 ⟨k,t,e,hk,rfl,ht,hs4,hall⟩
    have ep:=ZAH (evB E s.evs k)
    have ep2:=ZIh E s.evs k
    refine ⟨_,hs4,?_⟩
    refine ZAA (fun hd=>?_) (fun hd=>?_)
    ·have hd:=of_decide_eq_true hd
     have k1:k<s.evs.length:=by omega
     have hx:=ZGo s.evs[k].1 s.evs[k].2
     refine ⟨_,hs4,?_⟩
     refine ⟨k,_,rfl,ZEi k1,?_⟩
     cases hev:evOk s.evs[k].1 s.evs[k].2 with
     | true =>
      have hes:=ZGu hev
      rw [(ZCX hev).1,(ZCX hev).2] at hx
      refine .p rfl hx ?_
      refine ⟨by (try simp only [ZAD]); omega,?_⟩
      refine Acc.app (n:=0) (i:=ti9) (Acc.own t e (strL (evB E s.evs k)) (Nat.zero_le _) ht) (Nat.zero_le _) (List.cons_ne_nil _ _) ?_ ?_ (fun t1 e1 tk1 q0 q1 q2 q3=>?_)
      ·show ((strL (evB E s.evs k)).length+1)*16<=_; omega
      ·show (strL (evB E s.evs k)).length+1<=_; omega
      rw [ev_eq]
      intro c hc
      rw [IntWalk.i64_in _ (by omega)] at hc
      obtain rfl:c=((k+1:Nat):Int):=by omega
      refine ⟨g - 1,by omega,k+1,t1,e1,by omega,?_,q1,hs4,?_⟩
      ·rw [<- ZGU k1,<- ZAZ (evB E s.evs k)]
       rfl
      ·intro x hx
       rw [List.take_succ_eq_append_getElem k1] at hx
       rcases List.mem_append.1 hx with hx | hx
       ·exact hall x hx
       ·rw [List.mem_singleton.1 hx]; exact hev
     | false =>
      rw [ZGE hev] at hx
      refine .p rfl hx ?_
      have hbe:okEv s=false:=by
       rw [Bool.eq_false_iff]
       intro e
       have:=List.all_eq_true.1 e _ (List.getElem_mem k1)
       rw [hev] at this
       cases this
      rw [ZE4 hru hbe] at hX
      subst hX
      rfl
    ·have hd:=of_decide_eq_false hd
     obtain rfl:k=s.evs.length:=by omega
     rw [List.take_length] at hall
     have hok:okEv s=true:=List.all_eq_true.2 hall
     have hev:evB E s.evs s.evs.length=L:=by unfold evB; rw [List.take_length]; exact hfin
     have hLl:L.length<=E.length+s.evs.length:=by rw [<- hev]; exact ep2
     rw [hev] at ep
     rw [hev]
     refine ZAF [11,12] (fun g vals st'=>∃ (k:Nat) (b:AV),k+g=L.length/\vals=[b,.i k]/\Acc 0 st'.tk 1 b (u8L (outB (L.take k)))) L.length rfl ⟨0,_,by omega,rfl,.nil⟩ ?_
     rintro g vals st5 ⟨k,b,hk,rfl,hA⟩
     rcases hA.form with rfl | ⟨t7,e7,rfl⟩
     ·skip
      refine ZAA (fun hd=>?_) (fun hd=>?_)
      ·have hd:=of_decide_eq_true hd
       have k1:k<L.length:=by omega
       have hle:=ZD5 L (k+1)
       have htk:=ZCF k1
       rw [htk,List.length_append,List.length_append,blen] at hle
       have hT2:(outB L).length<=1099511627776:=by rw [hT]; exact htot
       refine ⟨k,_,rfl,ZAS k1,?_⟩
       refine ⟨by show _+1<=_; omega,?_⟩
       have hsz:(L[k]++(⟨#[10]⟩:ByteArray)).size=L[k].size+1:=by rw [ZAD]; rfl
       refine Acc.appS rfl rfl hA (by rw [hsz]; omega) (fun hz0 _=>by omega) (fun t9 e9 tk9 q0 q1 q2 q3=>?_)
       intro c hc
       rw [IntWalk.i64_in _ (by omega)] at hc
       obtain rfl:c=((k+1:Nat):Int):=by omega
       refine ⟨g - 1,by omega,k+1,_,by omega,rfl,?_⟩
       rw [htk]
       have e9:(L[k]++(⟨#[10]⟩:ByteArray)).data.toList=L[k].data.toList++[10]:=by rw [ZAp]
       rw [<- e9]
       exact .own _ _ _ (Nat.zero_le _) q0
      ·have hd:=of_decide_eq_false hd
       have hlen:L.length=k:=by omega
       exfalso
       have h0:=ZEw hA
       rw [<- hlen,List.take_length] at h0
       rw [h0] at hT
       exact hposL hT.symm
     ·skip
      refine ZAA (fun hd=>?_) (fun hd=>?_)
      ·have hd:=of_decide_eq_true hd
       have k1:k<L.length:=by omega
       have hle:=ZD5 L (k+1)
       have htk:=ZCF k1
       rw [htk,List.length_append,List.length_append,blen] at hle
       have hT2:(outB L).length<=1099511627776:=by rw [hT]; exact htot
       refine ⟨k,_,rfl,ZAS k1,?_⟩
       refine ⟨by show _+1<=_; omega,?_⟩
       have hsz:(L[k]++(⟨#[10]⟩:ByteArray)).size=L[k].size+1:=by rw [ZAD]; rfl
       refine Acc.appS rfl rfl hA (by rw [hsz]; omega) (fun hz0 _=>by omega) (fun t9 e9 tk9 q0 q1 q2 q3=>?_)
       intro c hc
       rw [IntWalk.i64_in _ (by omega)] at hc
       obtain rfl:c=((k+1:Nat):Int):=by omega
       refine ⟨g - 1,by omega,k+1,_,by omega,rfl,?_⟩
       rw [htk]
       have e9:(L[k]++(⟨#[10]⟩:ByteArray)).data.toList=L[k].data.toList++[10]:=by rw [ZAp]
       rw [<- e9]
       exact .own _ _ _ (Nat.zero_le _) q0
      ·have hd:=of_decide_eq_false hd
       have hlen:L.length=k:=by omega
       rw [<- hlen,List.take_length] at hA ⊢
       rw [hT] at hA ⊢
       have hul:=ZAE (prB s)
       refine ZAA (fun hg=>?_) (fun hg=>?_)
       ·have hg:=of_decide_eq_true hg
        rw [ZDI hru hok (by omega)] at hX
        subst hX
        rfl
       ·have hg:=of_decide_eq_false hg
        rw [ZDS hru hok (by omega)] at hX
        subst hX
        refine ⟨tBy (prB s),?_,?_⟩
        ·rw [ZJU]; rfl
        ·rfl
  ·refine ⟨_,hs2,?_⟩
   refine ZAA (fun hue=>?_) (fun hue=>?_)
   ·have ep3:=ZAH (hlB s s.rules.length++[lnB (.cli s.cl),lnB (.ups s.up)])
    rw [List.length_append] at ep3
    have l2:([lnB (.cli s.cl),lnB (.ups s.up)]:List ByteArray).length=2:=rfl
    refine Acc.app (n:=0) (i:=ti9) (Acc.own t1 e1 (strL (hlB s s.rules.length++[lnB (.cli s.cl),lnB (.ups s.up)])) (Nat.zero_le _) q1) (Nat.zero_le _) (List.cons_ne_nil _ _) ?_ ?_ (fun t2 e2 tk2 r0 r1 r2 r3=>?_)
    ·show ((strL (hlB s s.rules.length++[lnB (.cli s.cl),lnB (.ups s.up)])).length+1)*16<=_; omega
    ·show (strL (hlB s s.rules.length++[lnB (.cli s.cl),lnB (.ups s.up)])).length+1<=_; omega
    rw [ZAZ]
    have hE0:hlB s s.rules.length++[lnB (.cli s.cl),lnB (.ups s.up)]++[(⟨#[101,110,100,115,32,117,112,115,116,114,101,97,109]⟩:ByteArray)]=EN s s.ce s.ue:=by rw [show s.ce=false from hce,show s.ue=true from hue]; simp only [EN,bI,if_true,List.append_assoc]; rfl
    rw [hE0]
    generalize EN s s.ce s.ue=E at *
    refine ZAF [4,8] (fun g vals st'=>∃ (k t e:Nat),k+g=s.evs.length/\vals=[.sl (.own t e) 1 (strL (evB E s.evs k)),.i k]/\st'.tk[t]? = some e/\st'.heap[0]? = some s.cells/\∀ x∈s.evs.take k,evOk x.1 x.2=true) s.evs.length rfl ⟨0,t2,e2,by omega,by unfold evB; rw [List.take_zero,List.map_nil,List.map_nil,List.append_nil]; rfl,r1,hs2,fun x hx=>by rw [List.take_zero] at hx; cases hx⟩ ?_
    clear hall hd hk ht
    rintro g vals st4 ⟨k,t,e,hk,rfl,ht,hs4,hall⟩
    have ep:=ZAH (evB E s.evs k)
    have ep2:=ZIh E s.evs k
    refine ⟨_,hs4,?_⟩
    refine ZAA (fun hd=>?_) (fun hd=>?_)
    ·have hd:=of_decide_eq_true hd
     have k1:k<s.evs.length:=by omega
     have hx:=ZGo s.evs[k].1 s.evs[k].2
     refine ⟨_,hs4,?_⟩
     refine ⟨k,_,rfl,ZEi k1,?_⟩
     cases hev:evOk s.evs[k].1 s.evs[k].2 with
     | true =>
      have hes:=ZGu hev
      rw [(ZCX hev).1,(ZCX hev).2] at hx
      refine .p rfl hx ?_
      refine ⟨by (try simp only [ZAD]); omega,?_⟩
      refine Acc.app (n:=0) (i:=ti9) (Acc.own t e (strL (evB E s.evs k)) (Nat.zero_le _) ht) (Nat.zero_le _) (List.cons_ne_nil _ _) ?_ ?_ (fun t1 e1 tk1 q0 q1 q2 q3=>?_)
      ·show ((strL (evB E s.evs k)).length+1)*16<=_; omega
      ·show (strL (evB E s.evs k)).length+1<=_; omega
      rw [ev_eq]
      intro c hc
      rw [IntWalk.i64_in _ (by omega)] at hc
      obtain rfl:c=((k+1:Nat):Int):=by omega
      refine ⟨g - 1,by omega,k+1,t1,e1,by omega,?_,q1,hs4,?_⟩
      ·rw [<- ZGU k1,<- ZAZ (evB E s.evs k)]
       rfl
      ·intro x hx
       rw [List.take_succ_eq_append_getElem k1] at hx
       rcases List.mem_append.1 hx with hx | hx
       ·exact hall x hx
       ·rw [List.mem_singleton.1 hx]; exact hev
     | false =>
      rw [ZGE hev] at hx
      refine .p rfl hx ?_
      have hbe:okEv s=false:=by
       rw [Bool.eq_false_iff]
       intro e
       have:=List.all_eq_true.1 e _ (List.getElem_mem k1)
       rw [hev] at this
       cases this
      rw [ZE4 hru hbe] at hX
      subst hX
      rfl
    ·have hd:=of_decide_eq_false hd
     obtain rfl:k=s.evs.length:=by omega
     rw [List.take_length] at hall
     have hok:okEv s=true:=List.all_eq_true.2 hall
     have hev:evB E s.evs s.evs.length=L:=by unfold evB; rw [List.take_length]; exact hfin
     have hLl:L.length<=E.length+s.evs.length:=by rw [<- hev]; exact ep2
     rw [hev] at ep
     rw [hev]
     refine ZAF [11,12] (fun g vals st'=>∃ (k:Nat) (b:AV),k+g=L.length/\vals=[b,.i k]/\Acc 0 st'.tk 1 b (u8L (outB (L.take k)))) L.length rfl ⟨0,_,by omega,rfl,.nil⟩ ?_
     rintro g vals st5 ⟨k,b,hk,rfl,hA⟩
     rcases hA.form with rfl | ⟨t7,e7,rfl⟩
     ·skip
      refine ZAA (fun hd=>?_) (fun hd=>?_)
      ·have hd:=of_decide_eq_true hd
       have k1:k<L.length:=by omega
       have hle:=ZD5 L (k+1)
       have htk:=ZCF k1
       rw [htk,List.length_append,List.length_append,blen] at hle
       have hT2:(outB L).length<=1099511627776:=by rw [hT]; exact htot
       refine ⟨k,_,rfl,ZAS k1,?_⟩
       refine ⟨by show _+1<=_; omega,?_⟩
       have hsz:(L[k]++(⟨#[10]⟩:ByteArray)).size=L[k].size+1:=by rw [ZAD]; rfl
       refine Acc.appS rfl rfl hA (by rw [hsz]; omega) (fun hz0 _=>by omega) (fun t9 e9 tk9 q0 q1 q2 q3=>?_)
       intro c hc
       rw [IntWalk.i64_in _ (by omega)] at hc
       obtain rfl:c=((k+1:Nat):Int):=by omega
       refine ⟨g - 1,by omega,k+1,_,by omega,rfl,?_⟩
       rw [htk]
       have e9:(L[k]++(⟨#[10]⟩:ByteArray)).data.toList=L[k].data.toList++[10]:=by rw [ZAp]
       rw [<- e9]
       exact .own _ _ _ (Nat.zero_le _) q0
      ·have hd:=of_decide_eq_false hd
       have hlen:L.length=k:=by omega
       exfalso
       have h0:=ZEw hA
       rw [<- hlen,List.take_length] at h0
       rw [h0] at hT
       exact hposL hT.symm
     ·skip
      refine ZAA (fun hd=>?_) (fun hd=>?_)
      ·have hd:=of_decide_eq_true hd
       have k1:k<L.length:=by omega
       have hle:=ZD5 L (k+1)
       have htk:=ZCF k1
       rw [htk,List.length_append,List.length_append,blen] at hle
       have hT2:(outB L).length<=1099511627776:=by rw [hT]; exact htot
       refine ⟨k,_,rfl,ZAS k1,?_⟩
       refine ⟨by show _+1<=_; omega,?_⟩
       have hsz:(L[k]++(⟨#[10]⟩:ByteArray)).size=L[k].size+1:=by rw [ZAD]; rfl
       refine Acc.appS rfl rfl hA (by rw [hsz]; omega) (fun hz0 _=>by omega) (fun t9 e9 tk9 q0 q1 q2 q3=>?_)
       intro c hc
       rw [IntWalk.i64_in _ (by omega)] at hc
       obtain rfl:c=((k+1:Nat):Int):=by omega
       refine ⟨g - 1,by omega,k+1,_,by omega,rfl,?_⟩
       rw [htk]
       have e9:(L[k]++(⟨#[10]⟩:ByteArray)).data.toList=L[k].data.toList++[10]:=by rw [ZAp]
       rw [<- e9]
       exact .own _ _ _ (Nat.zero_le _) q0
      ·have hd:=of_decide_eq_false hd
       have hlen:L.length=k:=by omega
       rw [<- hlen,List.take_length] at hA ⊢
       rw [hT] at hA ⊢
       have hul:=ZAE (prB s)
       refine ZAA (fun hg=>?_) (fun hg=>?_)
       ·have hg:=of_decide_eq_true hg
        rw [ZDI hru hok (by omega)] at hX
        subst hX
        rfl
       ·have hg:=of_decide_eq_false hg
        rw [ZDS hru hok (by omega)] at hX
        subst hX
        refine ⟨tBy (prB s),?_,?_⟩
        ·rw [ZJU]; rfl
        ·rfl
   ·have hE0:hlB s s.rules.length++[lnB (.cli s.cl),lnB (.ups s.up)]=EN s s.ce s.ue:=by rw [show s.ce=false from hce,show s.ue=false from hue]; simp [EN,bI]
    rw [hE0]
    generalize EN s s.ce s.ue=E at *
    refine ZAF [4,8] (fun g vals st'=>∃ (k t e:Nat),k+g=s.evs.length/\vals=[.sl (.own t e) 1 (strL (evB E s.evs k)),.i k]/\st'.tk[t]? = some e/\st'.heap[0]? = some s.cells/\∀ x∈s.evs.take k,evOk x.1 x.2=true) s.evs.length rfl ⟨0,t1,e1,by omega,by unfold evB; rw [List.take_zero,List.map_nil,List.map_nil,List.append_nil]; rfl,q1,hs2,fun x hx=>by rw [List.take_zero] at hx; cases hx⟩ ?_
    clear hall hd hk ht
    rintro g vals st4 ⟨k,t,e,hk,rfl,ht,hs4,hall⟩
    have ep:=ZAH (evB E s.evs k)
    have ep2:=ZIh E s.evs k
    refine ⟨_,hs4,?_⟩
    refine ZAA (fun hd=>?_) (fun hd=>?_)
    ·have hd:=of_decide_eq_true hd
     have k1:k<s.evs.length:=by omega
     have hx:=ZGo s.evs[k].1 s.evs[k].2
     refine ⟨_,hs4,?_⟩
     refine ⟨k,_,rfl,ZEi k1,?_⟩
     cases hev:evOk s.evs[k].1 s.evs[k].2 with
     | true =>
      have hes:=ZGu hev
      rw [(ZCX hev).1,(ZCX hev).2] at hx
      refine .p rfl hx ?_
      refine ⟨by (try simp only [ZAD]); omega,?_⟩
      refine Acc.app (n:=0) (i:=ti9) (Acc.own t e (strL (evB E s.evs k)) (Nat.zero_le _) ht) (Nat.zero_le _) (List.cons_ne_nil _ _) ?_ ?_ (fun t1 e1 tk1 q0 q1 q2 q3=>?_)
      ·show ((strL (evB E s.evs k)).length+1)*16<=_; omega
      ·show (strL (evB E s.evs k)).length+1<=_; omega
      rw [ev_eq]
      intro c hc
      rw [IntWalk.i64_in _ (by omega)] at hc
      obtain rfl:c=((k+1:Nat):Int):=by omega
      refine ⟨g - 1,by omega,k+1,t1,e1,by omega,?_,q1,hs4,?_⟩
      ·rw [<- ZGU k1,<- ZAZ (evB E s.evs k)]
       rfl
      ·intro x hx
       rw [List.take_succ_eq_append_getElem k1] at hx
       rcases List.mem_append.1 hx with hx | hx
       ·exact hall x hx
       ·rw [List.mem_singleton.1 hx]; exact hev
     | false =>
      rw [ZGE hev] at hx
      refine .p rfl hx ?_
      have hbe:okEv s=false:=by
       rw [Bool.eq_false_iff]
       intro e
       have:=List.all_eq_true.1 e _ (List.getElem_mem k1)
       rw [hev] at this
       cases this
      rw [ZE4 hru hbe] at hX
      subst hX
      rfl
    ·have hd:=of_decide_eq_false hd
     obtain rfl:k=s.evs.length:=by omega
     rw [List.take_length] at hall
     have hok:okEv s=true:=List.all_eq_true.2 hall
     have hev:evB E s.evs s.evs.length=L:=by unfold evB; rw [List.take_length]; exact hfin
     have hLl:L.length<=E.length+s.evs.length:=by rw [<- hev]; exact ep2
     rw [hev] at ep
     rw [hev]
     refine ZAF [11,12] (fun g vals st'=>∃ (k:Nat) (b:AV),k+g=L.length/\vals=[b,.i k]/\Acc 0 st'.tk 1 b (u8L (outB (L.take k)))) L.length rfl ⟨0,_,by omega,rfl,.nil⟩ ?_
     rintro g vals st5 ⟨k,b,hk,rfl,hA⟩
     rcases hA.form with rfl | ⟨t7,e7,rfl⟩
     ·skip
      refine ZAA (fun hd=>?_) (fun hd=>?_)
      ·have hd:=of_decide_eq_true hd
       have k1:k<L.length:=by omega
       have hle:=ZD5 L (k+1)
       have htk:=ZCF k1
       rw [htk,List.length_append,List.length_append,blen] at hle
       have hT2:(outB L).length<=1099511627776:=by rw [hT]; exact htot
       refine ⟨k,_,rfl,ZAS k1,?_⟩
       refine ⟨by show _+1<=_; omega,?_⟩
       have hsz:(L[k]++(⟨#[10]⟩:ByteArray)).size=L[k].size+1:=by rw [ZAD]; rfl
       refine Acc.appS rfl rfl hA (by rw [hsz]; omega) (fun hz0 _=>by omega) (fun t9 e9 tk9 q0 q1 q2 q3=>?_)
       intro c hc
       rw [IntWalk.i64_in _ (by omega)] at hc
       obtain rfl:c=((k+1:Nat):Int):=by omega
       refine ⟨g - 1,by omega,k+1,_,by omega,rfl,?_⟩
       rw [htk]
       have e9:(L[k]++(⟨#[10]⟩:ByteArray)).data.toList=L[k].data.toList++[10]:=by rw [ZAp]
       rw [<- e9]
       exact .own _ _ _ (Nat.zero_le _) q0
      ·have hd:=of_decide_eq_false hd
       have hlen:L.length=k:=by omega
       exfalso
       have h0:=ZEw hA
       rw [<- hlen,List.take_length] at h0
       rw [h0] at hT
       exact hposL hT.symm
     ·skip
      refine ZAA (fun hd=>?_) (fun hd=>?_)
      ·have hd:=of_decide_eq_true hd
       have k1:k<L.length:=by omega
       have hle:=ZD5 L (k+1)
       have htk:=ZCF k1
       rw [htk,List.length_append,List.length_append,blen] at hle
       have hT2:(outB L).length<=1099511627776:=by rw [hT]; exact htot
       refine ⟨k,_,rfl,ZAS k1,?_⟩
       refine ⟨by show _+1<=_; omega,?_⟩
       have hsz:(L[k]++(⟨#[10]⟩:ByteArray)).size=L[k].size+1:=by rw [ZAD]; rfl
       refine Acc.appS rfl rfl hA (by rw [hsz]; omega) (fun hz0 _=>by omega) (fun t9 e9 tk9 q0 q1 q2 q3=>?_)
       intro c hc
       rw [IntWalk.i64_in _ (by omega)] at hc
       obtain rfl:c=((k+1:Nat):Int):=by omega
       refine ⟨g - 1,by omega,k+1,_,by omega,rfl,?_⟩
       rw [htk]
       have e9:(L[k]++(⟨#[10]⟩:ByteArray)).data.toList=L[k].data.toList++[10]:=by rw [ZAp]
       rw [<- e9]
       exact .own _ _ _ (Nat.zero_le _) q0
      ·have hd:=of_decide_eq_false hd
       have hlen:L.length=k:=by omega
       rw [<- hlen,List.take_length] at hA ⊢
       rw [hT] at hA ⊢
       have hul:=ZAE (prB s)
       refine ZAA (fun hg=>?_) (fun hg=>?_)
       ·have hg:=of_decide_eq_true hg
        rw [ZDI hru hok (by omega)] at hX
        subst hX
        rfl
       ·have hg:=of_decide_eq_false hg
        rw [ZDS hru hok (by omega)] at hX
        subst hX
        refine ⟨tBy (prB s),?_,?_⟩
        ·rw [ZJU]; rfl
        ·rfl
end
end
end Go.Proofs.YticbonkojpabnaaGreatDoor
