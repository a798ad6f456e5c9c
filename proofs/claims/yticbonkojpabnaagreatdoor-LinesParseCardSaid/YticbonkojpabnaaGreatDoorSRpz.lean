/- Lines of rules: plain words. No program in sight. -/
import Derived.Test.YticbonkojpabnaaGreatDoorSRu
set_option linter.unusedSimpArgs false
set_option linter.unusedVariables false
set_option maxRecDepth 100000
namespace Go.Proofs.YticbonkojpabnaaGreatDoor
open Go.RowKit
def kSet:ByteArray:=⟨#[115,101,116]⟩
def kAdd:ByteArray:=⟨#[97,100,100]⟩
def kRem:ByteArray:=⟨#[114,101,109,111,118,101]⟩
def kRen:ByteArray:=⟨#[114,101,110,97,109,101]⟩
def kHas:ByteArray:=⟨#[104,97,115]⟩
def ZA8:ByteArray:=⟨#[108,97,99,107,115]⟩
def kIs:ByteArray:=⟨#[105,115]⟩
def kIf:ByteArray:=⟨#[105,102]⟩
def kReq:ByteArray:=⟨#[114,101,113,117,101,115,116]⟩
def kRes:ByteArray:=⟨#[114,101,115,112,111,110,115,101]⟩
/-- blanks, of which there must be one but at the line's ends -/
def gapS (s:ByteArray) (k:Nat):Option Nat:=if tw blkI s k=0/\k≠0/\k<s.size then none else some (k+tw blkI s k)
def ZCT (s:ByteArray) (k:Nat):Option (ByteArray × Nat) :=
 if tw tokI s k=0 then none else match gapS s (k+tw tokI s k) with
  | none=>none
  | some j=>some (s.extract k (k+tw tokI s k),j)
def ZCu (s:ByteArray) (k:Nat):Option (ByteArray × Nat) :=
 match ZAw s k with
 | none=>none
 | some (v,i)=>match gapS s i with
  | none=>none
  | some j=>some (⟨v.toArray⟩,j)
def ZCy (s:ByteArray) (k:Nat):Option (List Prt × Bool × Nat) :=
 match ZCu s k with
 | none=>none
 | some (v,j)=>if (ZAM v).2=0 \/ (ZAM v).2=3 then some ((ZAM v).1,decide ((ZAM v).2=3),j) else none
abbrev Gd:=Int × ByteArray × ByteArray
def ZDo (s:ByteArray) (k:Nat):Option (Gd × Nat) :=
 match ZCT s k with
 | none=>none
 | some (w,i)=>match ZCT s i with
  | none=>none
  | some (n,j)=>if w=kHas then some ((1,n,⟨#[]⟩),j) else if w=ZA8 then some ((2,n,⟨#[]⟩),j) else if w=kIs then
    (match ZCu s j with
    | none=>none
    | some (v,j)=>some ((3,n,v),j)) else none
abbrev Ac:=Int × ByteArray × List Prt × Bool
def setS (z:Int) (s:ByteArray) (k:Nat):Option (Ac × Nat):=match ZCy s k with
 | none=>none
 | some (l,b,j)=>some ((z,⟨#[]⟩,l,b),j)
def renS (s:ByteArray) (k:Nat):Option (Ac × Nat):=match ZCT s k with
 | none=>none
 | some (t,j)=>some ((4,t,[],false),j)
def actS (w:ByteArray) (s:ByteArray) (k:Nat):Option (Ac × Nat) :=
 if w=kSet then setS 1 s k else if w=kAdd then setS 2 s k else if w=kRem then some ((3,⟨#[]⟩,[],false),k) else if w=kRen then renS s k else none
def ZGT (s:ByteArray) (k:Nat):Option (Int × Nat) :=
 match ZCT s k with
 | none=>none
 | some (w,j)=>if w=kReq then some (1,j) else if w=kRes then some (2,j) else none
/-- what stands behind a guard -/
def ZFV (s:ByteArray) (sd:Int) (g:Gd) (w:ByteArray) (k:Nat):Option (Rl × Bool) :=
 match ZCT s k with
 | none=>none
 | some (nm,i)=>match actS w s i with
  | none=>none
  | some ((z,tz,ps,b),j)=>if j<s.size then none else some (⟨sd,g.1,g.2.1,g.2.2,z,nm,tz,ps⟩,b)
def ZDa (s:ByteArray):Option (Rl × Bool) :=
 match ZGT s (tw blkI s 0) with
 | none=>none
 | some (sd,i)=>match ZCT s i with
  | none=>none
  | some (w,j)=>if w=kIf then
    (match ZDo s j with
    | none=>none
    | some (g,k)=>match ZCT s k with
     | none=>none
     | some (w,k)=>ZFV s sd g w k)
   else ZFV s sd (0,⟨#[]⟩,⟨#[]⟩) w j
def ZBw:Rl:=⟨0,0,⟨#[]⟩,⟨#[]⟩,0,⟨#[]⟩,⟨#[]⟩,[]⟩
def ZAT (s:ByteArray):Rl × Int :=
 match ZDa s with
 | none=>(ZBw,2)
 | some (x,b)=>if b=true then (ZBw,3) else if ZAO x=0 then (x,0) else (ZBw,ZAO x)

theorem ZFx {s:ByteArray} {k j:Nat} (hk:k<=s.size) (h:gapS s k=some j):k<=j/\j<=s.size:=by
 have:=ZCR blkI s k hk
 unfold gapS at h
 split at h
 ·cases h
 ·cases h; omega
theorem ZC4 {s t:ByteArray} {k j:Nat} (hk:k<=s.size) (h:ZCT s k=some (t,j)):k<j/\j<=s.size/\t.size<=s.size:=by
 have h1:=ZCR tokI s k hk
 unfold ZCT at h
 split at h
 ·cases h
 ·rename_i h0
  split at h
  ·cases h
  ·rename_i j' hg
   cases h
   have:=ZFx (by omega) hg
   refine ⟨by omega,this.2,?_⟩
   rw [ByteArray.size_extract]; omega
theorem ZFe {s t:ByteArray} {k j:Nat} (hk:k<=s.size) (h:ZCu s k=some (t,j)):k<j/\j<=s.size/\t.size<=s.size:=by
 unfold ZCu at h
 split at h
 ·cases h
 ·rename_i v i hf
  unfold ZAw at hf
  split at hf
  ·rename_i h0
   have hk0:k<s.size:=(ZBG h0).1
   have hl:=ZCo _ _ _ _ _ rfl hf
   split at h
   ·cases h
   ·rename_i j' hg
    cases h
    have:=ZFx (by omega) hg
    refine ⟨by omega,this.2,?_⟩
    show v.toArray.size<=_
    have h9:([]:List UInt8).length=0:=rfl
    rw [List.size_toArray]
    omega
  ·cases hf
theorem guardS_le {s:ByteArray} {k j:Nat} {g:Gd} (hk:k<=s.size) (h:ZDo s k=some (g,j)):k<j/\j<=s.size/\g.2.1.size<=s.size/\g.2.2.size<=s.size:=by
 unfold ZDo at h
 split at h
 ·cases h
 ·rename_i w i h1
  have l1:=ZC4 hk h1
  split at h
  ·cases h
  ·rename_i n j2 h2
   have l2:=ZC4 l1.2.1 h2
   split at h
   ·cases h; exact ⟨by omega,l2.2.1,l2.2.2,Nat.zero_le _⟩
   ·split at h
    ·cases h; exact ⟨by omega,l2.2.1,l2.2.2,Nat.zero_le _⟩
    ·split at h
     ·split at h
      ·cases h
      ·rename_i v j3 h3
       cases h
       have l3:=ZFe l2.2.1 h3
       exact ⟨by omega,l3.2.1,l2.2.2,l3.2.2⟩
     ·cases h
theorem partsS_le {s:ByteArray} {k j:Nat} {l:List Prt} {b:Bool} (hk:k<=s.size) (h:ZCy s k=some (l,b,j)):k<j/\j<=s.size/\l.length<=32/\sumT l<=s.size:=by
 unfold ZCy at h
 split at h
 ·cases h
 ·rename_i v i h1
  have l1:=ZFe hk h1
  split at h
  ·cases h
   have:=ZDL v
   exact ⟨l1.1,l1.2.1,this.1,by omega⟩
  ·cases h
theorem actS_le {w s:ByteArray} {k j:Nat} {z:Int} {tz:ByteArray} {ps:List Prt} {b:Bool} (hk:k<=s.size) (h:actS w s k=some ((z,tz,ps,b),j)):k<=j/\j<=s.size/\tz.size<=s.size/\ps.length<=32/\sumT ps<=s.size:=by
 have set:∀ y,setS y s k=some ((z,tz,ps,b),j)->k<=j/\j<=s.size/\tz.size<=s.size/\ps.length<=32/\sumT ps<=s.size:=by
  intro y h
  unfold setS at h
  split at h
  ·cases h
  ·rename_i l b' i h1
   cases h
   have:=partsS_le hk h1
   exact ⟨by omega,this.2.1,Nat.zero_le _,this.2.2.1,this.2.2.2⟩
 have h0:sumT []=0:=rfl
 unfold actS at h
 split at h
 ·exact set _ h
 ·split at h
  ·exact set _ h
  ·split at h
   ·cases h
    exact ⟨Nat.le_refl _,hk,Nat.zero_le _,Nat.zero_le _,by rw [h0]; exact Nat.zero_le _⟩
   ·split at h
    ·unfold renS at h
     split at h
     ·cases h
     ·rename_i t i h1
      cases h
      have:=ZC4 hk h1
      exact ⟨by omega,this.2.1,this.2.2,Nat.zero_le _,by rw [h0]; exact Nat.zero_le _⟩
    ·cases h
theorem sideS_le {s:ByteArray} {k j:Nat} {d:Int} (hk:k<=s.size) (h:ZGT s k=some (d,j)):k<j/\j<=s.size:=by
 unfold ZGT at h
 split at h
 ·cases h
 ·rename_i w i h1
  have:=ZC4 hk h1
  split at h
  ·cases h; exact ⟨this.1,this.2.1⟩
  ·split at h
   ·cases h; exact ⟨this.1,this.2.1⟩
   ·cases h
theorem ZMq {s:ByteArray} {sd:Int} {g:Gd} {w:ByteArray} {k:Nat} {x:Rl} {b:Bool} (hk:k<=s.size) (hs:s.size<=100000) (h1:g.2.1.size<=s.size) (h2:g.2.2.size<=s.size) (h:ZFV s sd g w k=some (x,b)):x.Ok:=by
 unfold ZFV at h
 split at h
 ·cases h
 ·rename_i nm i h3
  have l3:=ZC4 hk h3
  split at h
  ·cases h
  ·rename_i z tz ps b' j h4
   have l4:=actS_le l3.2.1 h4
   split at h
   ·cases h
   ·cases h
    exact ⟨by show g.2.1.size<=_; omega,by show g.2.2.size<=_; omega,by show nm.size<=_; omega,by show tz.size<=_; omega,by show ps.length<=_; omega,by show sumT ps<=_; omega⟩
theorem ZIf {s:ByteArray} {x:Rl} {b:Bool} (hs:s.size<=100000) (h:ZDa s=some (x,b)):x.Ok:=by
 have h0:=ZCR blkI s 0 (Nat.zero_le _)
 unfold ZDa at h
 split at h
 ·cases h
 ·rename_i sd i h1
  have l1:=sideS_le (by omega) h1
  split at h
  ·cases h
  ·rename_i w j h2
   have l2:=ZC4 l1.2 h2
   split at h
   ·split at h
    ·cases h
    ·rename_i g k h3
     have l3:=guardS_le l2.2.1 h3
     split at h
     ·cases h
     ·rename_i w' k' h4
      have l4:=ZC4 l3.2.1 h4
      exact ZMq l4.2.1 hs l3.2.2.1 l3.2.2.2 h
   ·exact ZMq l2.2.1 hs (Nat.zero_le _) (Nat.zero_le _) h
theorem ZHI (r:Rl):ZAO r=0 \/ ZAO r=9:=by unfold ZAO; split <;> simp
abbrev Wd:=ByteArray × Bool
/-- the words from a place on; and whether there is nothing else -/
def ZAV (s:ByteArray) (k:Nat):List Wd × Bool :=
 if k<s.size then
  match ZB8 s k with
  | none=>([],false)
  | some (t,e)=>match gapS s e with
   | none=>([(t,atB s k 34)],false)
   | some j=>if _h:k<j/\j<=s.size then ((t,atB s k 34)::(ZAV s j).1,(ZAV s j).2) else ([],false)
 else ([],true)
termination_by s.size - k
def ZBB (s:ByteArray):List Wd × Bool:=ZAV s (tw blkI s 0)
theorem ZBt {s:ByteArray} {k:Nat} (h:s.size<=k):ZAV s k=([],true):=by rw [ZAV,if_neg (by omega)]
theorem ZBX {s:ByteArray} {k:Nat} (h:k<s.size) (h1:ZB8 s k=none):ZAV s k=([],false):=by rw [ZAV,if_pos h,h1]
theorem ZB5 {s t:ByteArray} {k e:Nat} (h:k<s.size) (h1:ZB8 s k=some (t,e)) (h2:gapS s e=none):ZAV s k=([(t,atB s k 34)],false):=by rw [ZAV,if_pos h,h1]; simp only [h2]
theorem ZA0 {s t:ByteArray} {k e j:Nat} (h:k<s.size) (h1:ZB8 s k=some (t,e)) (h2:gapS s e=some j):ZAV s k=((t,atB s k 34)::(ZAV s j).1,(ZAV s j).2):=by
 have l1:=ZDT (by omega) h1
 have l2:=ZFx l1.2 h2
 rw [ZAV,if_pos h,h1]
 simp only [h2]
 rw [dif_pos ⟨by omega,l2.2⟩]
theorem ZEC {s:ByteArray} {k:Nat} (h:tw tokI s k≠0):ZB8 s k=some (s.extract k (k+tw tokI s k),k+tw tokI s k):=by unfold ZB8; rw [if_pos (by omega)]
theorem ZEH {s:ByteArray} {k:Nat} (h:tw tokI s k=0):ZB8 s k=(ZAw s k).map fun x=>(⟨x.1.toArray⟩,x.2):=by unfold ZB8; rw [if_neg (by omega)]
theorem tok_lt {s:ByteArray} {k:Nat} (hk:k<=s.size) (h:tw tokI s k≠0):∃ h:k<s.size,tokI (s[k].toNat:Int)=true:=ZNI (Nat.le_refl _) (by omega) hk
theorem tokq34:tokI 34=false:=by decide +kernel
theorem ZGn {s:ByteArray} {k:Nat} (hk:k<=s.size) (h:tw tokI s k≠0):k<s.size/\atB s k 34=false:=by
 obtain ⟨h1,h2⟩:=tok_lt hk h
 refine ⟨h1,?_⟩
 rw [ZAj h1]
 refine beq_eq_false_iff_ne.2 fun e=>?_
 rw [e,tokq34] at h2
 cases h2
theorem ZJM {s:ByteArray} {k:Nat} (hk:k<=s.size) (h:atB s k 34=true):tw tokI s k=0:=Decidable.byContradiction fun hc=>by rw [(ZGn hk hc).2] at h; cases h

def ZA7:List Wd->Option (ByteArray × List Wd)
 | (t,false)::r=>some (t,r)
 | _=>none
def ZCJ:List Wd->Option (ByteArray × List Wd)
 | (t,true)::r=>some (t,r)
 | _=>none
/-- what is read at a place is what the words say -/
theorem ZHb {s:ByteArray} {k:Nat} {l:List Wd} (hk:k<=s.size) (h:ZAV s k=(l,true)):(ZCT s k=none/\ZA7 l=none) \/ ∃ t j r,ZCT s k=some (t,j)/\ZA7 l=some (t,r)/\ZAV s j=(r,true)/\j<=s.size:=by
 unfold ZCT
 by_cases h0:tw tokI s k=0
 ·rw [if_pos h0]
  refine .inl ⟨rfl,?_⟩
  by_cases hlt:k<s.size
  ·have hw:=ZEH h0
   cases hf:ZAw s k with
   | none =>
    rw [hf] at hw
    rw [ZBX hlt hw] at h
    cases h
   | some x =>
    rw [hf] at hw
    have hq:atB s k 34=true:=by
     unfold ZAw at hf
     split at hf
     ·rename_i h; exact h
     ·cases hf
    cases hg:gapS s x.2 with
    | none=>rw [ZB5 hlt hw hg] at h; cases h
    | some j =>
     rw [ZA0 hlt hw hg,hq] at h
     have h9:=congrArg Prod.fst h
     simp only at h9
     rw [<- h9]
     rfl
  ·rw [ZBt (by omega)] at h
   cases h
   rfl
 ·rw [if_neg h0]
  obtain ⟨hlt,hq⟩:=ZGn hk h0
  have hw:=ZEC h0
  have l1:=ZCR tokI s k hk
  cases hg:gapS s (k+tw tokI s k) with
  | none=>rw [ZB5 hlt hw hg] at h; cases h
  | some j =>
   rw [ZA0 hlt hw hg,hq] at h
   have l2:=ZFx l1 hg
   cases h1:ZAV s j with
   | mk r ok =>
    rw [h1] at h
    cases h
    exact .inr ⟨_,j,r,rfl,rfl,h1,l2.2⟩
theorem value_L {s:ByteArray} {k:Nat} {l:List Wd} (hk:k<=s.size) (h:ZAV s k=(l,true)):(ZCu s k=none/\ZCJ l=none) \/ ∃ t j r,ZCu s k=some (t,j)/\ZCJ l=some (t,r)/\ZAV s j=(r,true)/\j<=s.size:=by
 unfold ZCu
 cases hf:ZAw s k with
 | none =>
  refine .inl ⟨rfl,?_⟩
  by_cases hlt:k<s.size
  ·by_cases h0:tw tokI s k=0
   ·have hw:=ZEH h0
    rw [hf] at hw
    rw [ZBX hlt hw] at h
    cases h
   ·obtain ⟨_,hq⟩:=ZGn hk h0
    have hw:=ZEC h0
    cases hg:gapS s (k+tw tokI s k) with
    | none=>rw [ZB5 hlt hw hg] at h; cases h
    | some j =>
     rw [ZA0 hlt hw hg,hq] at h
     have h9:=congrArg Prod.fst h
     simp only at h9
     rw [<- h9]
     rfl
  ·rw [ZBt (by omega)] at h
   cases h
   rfl
 | some x =>
  obtain ⟨v,i⟩:=x
  have hq:atB s k 34=true:=by
   unfold ZAw at hf
   split at hf
   ·rename_i h; exact h
   ·cases hf
  have hlt:=(ZBG hq).1
  have h0:=ZJM hk hq
  have hw:=ZEH h0
  rw [hf] at hw
  have hw:ZB8 s k=some (⟨v.toArray⟩,i):=hw
  have l1:=ZDT hk hw
  cases hg:gapS s i with
  | none=>rw [ZB5 hlt hw hg] at h; cases h
  | some j =>
   rw [ZA0 hlt hw hg,hq] at h
   have l2:=ZFx l1.2 hg
   cases h1:ZAV s j with
   | mk r ok =>
    rw [h1] at h
    cases h
    exact .inr ⟨_,j,r,by simp only [hg],rfl,h1,l2.2⟩
/-- what is read says that the rest is words -/
theorem ZEj {s t:ByteArray} {k j:Nat} (hk:k<=s.size) (h:ZCT s k=some (t,j)):(ZAV s k).2=(ZAV s j).2/\j<=s.size:=by
 have l0:=ZC4 hk h
 unfold ZCT at h
 split at h
 ·cases h
 ·rename_i h0
  split at h
  ·cases h
  ·rename_i j' hg
   cases h
   rw [ZA0 (ZGn hk h0).1 (ZEC h0) hg]
   exact ⟨rfl,l0.2.1⟩
theorem ZMo {s t:ByteArray} {k j:Nat} (hk:k<=s.size) (h:ZCu s k=some (t,j)):(ZAV s k).2=(ZAV s j).2/\j<=s.size:=by
 have l0:=ZFe hk h
 unfold ZCu at h
 split at h
 ·cases h
 ·rename_i v i hf
  have hq:atB s k 34=true:=by
   unfold ZAw at hf
   split at hf
   ·rename_i h; exact h
   ·cases hf
  have hw:=ZEH (ZJM hk hq)
  rw [hf] at hw
  split at h
  ·cases h
  ·rename_i j' hg
   cases h
   rw [ZA0 (ZBG hq).1 hw hg]
   exact ⟨rfl,l0.2.1⟩
def ZCw (l:List Wd):Option (List Prt × Bool × List Wd) :=
 match ZCJ l with
 | none=>none
 | some (v,j)=>if (ZAM v).2=0 \/ (ZAM v).2=3 then some ((ZAM v).1,decide ((ZAM v).2=3),j) else none
def ZBD (l:List Wd):Option (Gd × List Wd) :=
 match ZA7 l with
 | none=>none
 | some (w,i)=>match ZA7 i with
  | none=>none
  | some (n,j)=>if w=kHas then some ((1,n,⟨#[]⟩),j) else if w=ZA8 then some ((2,n,⟨#[]⟩),j) else if w=kIs then
    (match ZCJ j with
    | none=>none
    | some (v,j)=>some ((3,n,v),j)) else none
def setL (z:Int) (l:List Wd):Option (Ac × List Wd):=match ZCw l with
 | none=>none
 | some (p,b,j)=>some ((z,⟨#[]⟩,p,b),j)
def renL (l:List Wd):Option (Ac × List Wd):=match ZA7 l with
 | none=>none
 | some (t,j)=>some ((4,t,[],false),j)
def actL (w:ByteArray) (l:List Wd):Option (Ac × List Wd) :=
 if w=kSet then setL 1 l else if w=kAdd then setL 2 l else if w=kRem then some ((3,⟨#[]⟩,[],false),l) else if w=kRen then renL l else none
def ZE0 (l:List Wd):Option (Int × List Wd) :=
 match ZA7 l with
 | none=>none
 | some (w,j)=>if w=kReq then some (1,j) else if w=kRes then some (2,j) else none
def ZBa (sd:Int) (g:Gd) (w:ByteArray) (l:List Wd):Option (Rl × Bool) :=
 match ZA7 l with
 | none=>none
 | some (nm,i)=>match actL w i with
  | none=>none
  | some ((z,tz,ps,b),j)=>if j≠[] then none else some (⟨sd,g.1,g.2.1,g.2.2,z,nm,tz,ps⟩,b)
def ZEc (l:List Wd):Option (Rl × Bool) :=
 match ZE0 l with
 | none=>none
 | some (sd,i)=>match ZA7 i with
  | none=>none
  | some (w,j)=>if w=kIf then
    (match ZBD j with
    | none=>none
    | some (g,k)=>match ZA7 k with
     | none=>none
     | some (w,k)=>ZBa sd g w k)
   else ZBa sd (0,⟨#[]⟩,⟨#[]⟩) w j
section
variable {s:ByteArray} {k:Nat} {l:List Wd}
theorem parts_L (hk:k<=s.size) (h:ZAV s k=(l,true)):(ZCy s k=none/\ZCw l=none) \/ ∃ p b j r,ZCy s k=some (p,b,j)/\ZCw l=some (p,b,r)/\ZAV s j=(r,true)/\j<=s.size:=by
 unfold ZCy ZCw
 rcases value_L hk h with ⟨h1,h2⟩ | ⟨t,j,r,h1,h2,h3,h4⟩
 ·rw [h1,h2]; exact .inl ⟨rfl,rfl⟩
 ·rw [h1,h2]
  simp only
  split
  ·exact .inr ⟨_,_,j,r,rfl,rfl,h3,h4⟩
  ·exact .inl ⟨rfl,rfl⟩
theorem guard_L (hk:k<=s.size) (h:ZAV s k=(l,true)):(ZDo s k=none/\ZBD l=none) \/ ∃ g j r,ZDo s k=some (g,j)/\ZBD l=some (g,r)/\ZAV s j=(r,true)/\j<=s.size:=by
 unfold ZDo ZBD
 rcases ZHb hk h with ⟨h1,h2⟩ | ⟨w,i,r,h1,h2,h3,h4⟩
 ·rw [h1,h2]; exact .inl ⟨rfl,rfl⟩
 ·rw [h1,h2]
  simp only
  rcases ZHb h4 h3 with ⟨h5,h6⟩ | ⟨n,j,r2,h5,h6,h7,h8⟩
  ·rw [h5,h6]; exact .inl ⟨rfl,rfl⟩
  ·rw [h5,h6]
   simp only
   split
   ·exact .inr ⟨_,j,r2,rfl,rfl,h7,h8⟩
   ·split
    ·exact .inr ⟨_,j,r2,rfl,rfl,h7,h8⟩
    ·split
     ·rcases value_L h8 h7 with ⟨h9,h10⟩ | ⟨v,j3,r3,h9,h10,h11,h12⟩
      ·rw [h9,h10]; exact .inl ⟨rfl,rfl⟩
      ·rw [h9,h10]; exact .inr ⟨_,j3,r3,rfl,rfl,h11,h12⟩
     ·exact .inl ⟨rfl,rfl⟩
theorem act_L (w:ByteArray) (hk:k<=s.size) (h:ZAV s k=(l,true)):(actS w s k=none/\actL w l=none) \/ ∃ g j r,actS w s k=some (g,j)/\actL w l=some (g,r)/\ZAV s j=(r,true)/\j<=s.size:=by
 have set:∀ z,(setS z s k=none/\setL z l=none) \/ ∃ g j r,setS z s k=some (g,j)/\setL z l=some (g,r)/\ZAV s j=(r,true)/\j<=s.size:=by
  intro z
  unfold setS setL
  rcases parts_L hk h with ⟨h1,h2⟩ | ⟨p,b,j,r,h1,h2,h3,h4⟩
  ·rw [h1,h2]; exact .inl ⟨rfl,rfl⟩
  ·rw [h1,h2]; exact .inr ⟨_,j,r,rfl,rfl,h3,h4⟩
 unfold actS actL
 split
 ·exact set 1
 ·split
  ·exact set 2
  ·split
   ·exact .inr ⟨_,k,l,rfl,rfl,h,hk⟩
   ·split
    ·unfold renS renL
     rcases ZHb hk h with ⟨h1,h2⟩ | ⟨t,j,r,h1,h2,h3,h4⟩
     ·rw [h1,h2]; exact .inl ⟨rfl,rfl⟩
     ·rw [h1,h2]; exact .inr ⟨_,j,r,rfl,rfl,h3,h4⟩
    ·exact .inl ⟨rfl,rfl⟩
theorem side_L (hk:k<=s.size) (h:ZAV s k=(l,true)):(ZGT s k=none/\ZE0 l=none) \/ ∃ g j r,ZGT s k=some (g,j)/\ZE0 l=some (g,r)/\ZAV s j=(r,true)/\j<=s.size:=by
 unfold ZGT ZE0
 rcases ZHb hk h with ⟨h1,h2⟩ | ⟨w,j,r,h1,h2,h3,h4⟩
 ·rw [h1,h2]; exact .inl ⟨rfl,rfl⟩
 ·rw [h1,h2]
  simp only
  split
  ·exact .inr ⟨_,j,r,rfl,rfl,h3,h4⟩
  ·split
   ·exact .inr ⟨_,j,r,rfl,rfl,h3,h4⟩
   ·exact .inl ⟨rfl,rfl⟩
theorem words_nil (hk:k<=s.size):ZAV s k=([],true) ↔ ¬ k<s.size:=by
 constructor
 ·intro h hlt
  cases hw:ZB8 s k with
  | none=>rw [ZBX hlt hw] at h; cases h
  | some x =>
   obtain ⟨t,e⟩:=x
   cases hg:gapS s e with
   | none=>rw [ZB5 hlt hw hg] at h; cases h
   | some j=>rw [ZA0 hlt hw hg] at h; cases h
 ·intro h
  exact ZBt (by omega)
theorem tail_L (sd:Int) (g:Gd) (w:ByteArray) (hk:k<=s.size) (h:ZAV s k=(l,true)):ZFV s sd g w k=ZBa sd g w l:=by
 unfold ZFV ZBa
 rcases ZHb hk h with ⟨h1,h2⟩ | ⟨nm,i,r,h1,h2,h3,h4⟩
 ·rw [h1,h2]
 ·rw [h1,h2]
  simp only
  rcases act_L w h4 h3 with ⟨h5,h6⟩ | ⟨a,j,r2,h5,h6,h7,h8⟩
  ·rw [h5,h6]
  ·rw [h5,h6]
   obtain ⟨z,tz,ps,b⟩:=a
   simp only
   have:=words_nil h8
   rw [h7] at this
   by_cases e:r2=[]
   ·rw [if_neg (this.1 (by rw [e])),if_neg (by simpa using e)]
   ·have hj:j<s.size:=Decidable.byContradiction fun hc=>e (by have:=this.2 hc; exact congrArg Prod.fst this)
    rw [if_pos hj,if_pos e]
theorem rule_L (h:ZBB s=(l,true)):ZDa s=ZEc l:=by
 have h0:=ZCR blkI s 0 (Nat.zero_le _)
 unfold ZDa ZEc
 rcases side_L (by omega) h with ⟨h1,h2⟩ | ⟨sd,i,r,h1,h2,h3,h4⟩
 ·rw [h1,h2]
 ·rw [h1,h2]
  simp only
  rcases ZHb h4 h3 with ⟨h5,h6⟩ | ⟨w,j,r2,h5,h6,h7,h8⟩
  ·rw [h5,h6]
  ·rw [h5,h6]
   simp only
   split
   ·rcases guard_L h8 h7 with ⟨h9,h10⟩ | ⟨g,j3,r3,h9,h10,h11,h12⟩
    ·rw [h9,h10]
    ·rw [h9,h10]
     simp only
     rcases ZHb h12 h11 with ⟨h13,h14⟩ | ⟨w',j4,r4,h13,h14,h15,h16⟩
     ·rw [h13,h14]
     ·rw [h13,h14]
      exact tail_L _ _ _ h16 h15
   ·exact tail_L _ _ _ h8 h7
theorem parts_ok {p:List Prt} {b:Bool} {j:Nat} (hk:k<=s.size) (h:ZCy s k=some (p,b,j)):(ZAV s k).2=(ZAV s j).2/\j<=s.size:=by
 unfold ZCy at h
 split at h
 ·cases h
 ·rename_i v i h1
  have:=ZMo hk h1
  split at h
  ·cases h; exact this
  ·cases h
theorem guard_ok {g:Gd} {j:Nat} (hk:k<=s.size) (h:ZDo s k=some (g,j)):(ZAV s k).2=(ZAV s j).2/\j<=s.size:=by
 unfold ZDo at h
 split at h
 ·cases h
 ·rename_i w i h1
  have l1:=ZEj hk h1
  split at h
  ·cases h
  ·rename_i n j2 h2
   have l2:=ZEj l1.2 h2
   split at h
   ·cases h; exact ⟨l1.1.trans l2.1,l2.2⟩
   ·split at h
    ·cases h; exact ⟨l1.1.trans l2.1,l2.2⟩
    ·split at h
     ·split at h
      ·cases h
      ·rename_i v j3 h3
       cases h
       have l3:=ZMo l2.2 h3
       exact ⟨(l1.1.trans l2.1).trans l3.1,l3.2⟩
     ·cases h
theorem act_ok {w:ByteArray} {a:Ac} {j:Nat} (hk:k<=s.size) (h:actS w s k=some (a,j)):(ZAV s k).2=(ZAV s j).2/\j<=s.size:=by
 have set:∀ z,setS z s k=some (a,j)->(ZAV s k).2=(ZAV s j).2/\j<=s.size:=by
  intro z h
  unfold setS at h
  split at h
  ·cases h
  ·rename_i l b' i h1
   cases h
   exact parts_ok hk h1
 unfold actS at h
 split at h
 ·exact set _ h
 ·split at h
  ·exact set _ h
  ·split at h
   ·cases h; exact ⟨rfl,hk⟩
   ·split at h
    ·unfold renS at h
     split at h
     ·cases h
     ·rename_i t i h1
      cases h
      exact ZEj hk h1
    ·cases h
theorem side_ok {d:Int} {j:Nat} (hk:k<=s.size) (h:ZGT s k=some (d,j)):(ZAV s k).2=(ZAV s j).2/\j<=s.size:=by
 unfold ZGT at h
 split at h
 ·cases h
 ·rename_i w i h1
  have:=ZEj hk h1
  split at h
  ·cases h; exact this
  ·split at h
   ·cases h; exact this
   ·cases h
theorem tail_ok {sd:Int} {g:Gd} {w:ByteArray} {x:Rl × Bool} (hk:k<=s.size) (h:ZFV s sd g w k=some x):(ZAV s k).2=true:=by
 unfold ZFV at h
 split at h
 ·cases h
 ·rename_i nm i h1
  have l1:=ZEj hk h1
  split at h
  ·cases h
  ·rename_i z tz ps b j h2
   have l2:=act_ok l1.2 h2
   split at h
   ·cases h
   ·rename_i hj
    rw [l1.1,l2.1,ZBt (by omega)]
theorem rule_ok {x:Rl × Bool} (h:ZDa s=some x):(ZBB s).2=true:=by
 have h0:=ZCR blkI s 0 (Nat.zero_le _)
 unfold ZDa at h
 unfold ZBB
 split at h
 ·cases h
 ·rename_i sd i h1
  have l1:=side_ok (by omega) h1
  split at h
  ·cases h
  ·rename_i w j h2
   have l2:=ZEj l1.2 h2
   split at h
   ·split at h
    ·cases h
    ·rename_i g j3 h3
     have l3:=guard_ok l2.2 h3
     split at h
     ·cases h
     ·rename_i w' j4 h4
      have l4:=ZEj l3.2 h4
      rw [l1.1,l2.1,l3.1,l4.1]
      exact tail_ok l4.2 h
   ·rw [l1.1,l2.1]
    exact tail_ok l2.2 h
end
/-- what is made of what was read -/
def outR (o:Option (Rl × Bool)):Rl × Int :=
 match o with
 | none=>(ZBw,2)
 | some (x,b)=>if b=true then (ZBw,3) else if ZAO x=0 then (x,0) else (ZBw,ZAO x)
theorem ZMF (s:ByteArray):ZAT s=if (ZBB s).2=true then outR (ZEc (ZBB s).1) else (ZBw,2):=by
 have e:ZAT s=outR (ZDa s):=rfl
 rw [e]
 cases hw:ZBB s with
 | mk l ok =>
  cases ok with
  | true=>rw [if_pos rfl,rule_L hw]
  | false =>
   rw [if_neg (by simp)]
   cases hr:ZDa s with
   | none=>rfl
   | some x=>have:=rule_ok hr; rw [hw] at this; cases this
end Go.Proofs.YticbonkojpabnaaGreatDoor
