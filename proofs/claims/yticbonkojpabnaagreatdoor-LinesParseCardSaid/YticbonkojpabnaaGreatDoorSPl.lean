/- Plain words on bytes, digits, quoted texts: no program in sight. -/
import Derived.WalkKit
import Derived.Lib.Bytealg
import Derived.Lib.Strings
import Derived.Sort.Walk0
set_option linter.unusedSimpArgs false
set_option linter.unusedVariables false
set_option maxRecDepth 100000
namespace Go.Proofs.YticbonkojpabnaaGreatDoor
open Go.RowKit

def lowI (n:Int):Int:=if 65<=n/\n<=90 then n+32 else n
def digI (n:Int):Bool:=decide (48<=n) && decide (n<=57)
def alpI (n:Int):Bool:=decide (97<=lowI n) && decide (lowI n<=122)
def blkI (n:Int):Bool:=n == 32 || n == 9
def visI (n:Int):Bool:=decide (32<n) && decide (n<127)
def tokS:List UInt8:=[33,35,36,37,38,39,42,43,45,46,94,95,96,124,126]
def tokI (n:Int):Bool:=alpI n || digI n || decide (0<=Lib.indexByte tokS n.toNat.toUInt8)
def valI (n:Int):Bool:=visI n || blkI n || decide (127<n)
theorem lowI_b (n:Int) (h0:0<=n) (h1:n<=255):0<=lowI n/\lowI n<=255:=by unfold lowI; split <;> omega
def allI (p:Int->Bool) (s:ByteArray):Bool:=s.data.toList.all fun b=>p (b.toNat:Int)
theorem blen (s:ByteArray):s.data.toList.length=s.size:=by rw [Array.length_toList]; rfl
theorem bget (s:ByteArray) (k:Nat) (h:k<s.size):s.data.toList[k]'(by rw [blen]; exact h)=s[k]:=rfl
theorem ZB1 {p:Int->Bool} {s:ByteArray} (h:∀ k (hk:k<s.size),p (s[k].toNat:Int)=true):allI p s=true:=by
 unfold allI
 rw [List.all_eq_true]
 intro x hx
 obtain ⟨k,hk,rfl⟩:=List.getElem_of_mem hx
 exact h k (by rw [<- blen]; exact hk)
theorem ZB4 {p:Int->Bool} {s:ByteArray} {k:Nat} (hk:k<s.size) (h:p (s[k].toNat:Int)=false):allI p s=false:=by
 unfold allI
 rw [List.all_eq_false]
 exact ⟨s[k],List.mem_iff_getElem.2 ⟨k,by rw [blen]; exact hk,rfl⟩,by simp [h]⟩
def ARel (p:Int->Bool) (s:ByteArray) (k:Nat):Prop:=∀ j (hj:j<s.size),j<k->p (s[j].toNat:Int)=true
def tokB (s:ByteArray):Bool:=decide (0<s.size) && allI tokI s
def inI (l:ByteArray) (n:Int):Bool:=l.data.toList.any fun b=>(b.toNat:Int) == n
theorem inI_true {l:ByteArray} {n:Int} {k:Nat} (hk:k<l.size) (h:((l[k].toNat:Int) == n)=true):inI l n=true:=by
 unfold inI
 rw [List.any_eq_true]
 exact ⟨l[k],List.mem_iff_getElem.2 ⟨k,by rw [blen]; exact hk,rfl⟩,h⟩
theorem inI_false {l:ByteArray} {n:Int} (h:∀ k (hk:k<l.size),((l[k].toNat:Int) == n)=false):inI l n=false:=by
 unfold inI
 rw [List.any_eq_false]
 intro x hx
 obtain ⟨k,hk,rfl⟩:=List.getElem_of_mem hx
 have:=h k (by rw [<- blen]; exact hk)
 intro e
 rw [beq_eq_false_iff_ne] at this
 exact this (beq_iff_eq.1 e)
def tokC:ByteArray:=⟨#[97,98,99,100,101,102,103,104,105,106,107,108,109,110,111,112,113,114,115,116,117,118,119,120,121,122,65,66,67,68,69,70,71,72,73,74,75,76,77,78,79,80,81,82,83,84,85,86,87,88,89,90,48,49,50,51,52,53,54,55,56,57,33,35,36,37,38,39,42,43,45,46,94,95,96,124,126]⟩
theorem tokC_eq:∀ m:Nat,m<256->inI tokC (m:Int)=tokI (m:Int):=by decide +kernel
def r1valI (n:Int):Bool:=(decide (32<=n) && !(n == 127)) || n == 9
theorem valI_eq:∀ m:Nat,m<256->r1valI (m:Int)=valI (m:Int):=by decide +kernel
/-- how many bytes from a place on are so -/
def tw (q:Int->Bool) (s:ByteArray) (k:Nat):Nat:=((s.data.toList.drop k).takeWhile fun b=>q (b.toNat:Int)).length
theorem ZFj {α:Type} (q:α->Bool):∀ (l:List α) (j:Nat),(∀ i (hi:i<l.length),i<j->q l[i]=true)->(j<=l.length)->(∀ (hj:j<l.length),q l[j]=false)->(l.takeWhile q).length=j
 | [],j,_,h2,_=>by simp at h2; simp [h2]
 | x::r,0,_,_,h3=>by have:=h3 (by simp); simp at this; simp [this]
 | x::r,j+1,h1,h2,h3=>by
  have hx:q x=true:=h1 0 (by simp) (by omega)
  rw [List.takeWhile_cons_of_pos hx,List.length_cons]
  congr 1
  exact ZFj q r j (fun i hi hij=>h1 (i+1) (by simpa using hi) (by omega)) (by simpa using h2) (fun hj=>h3 (by simpa using hj))
theorem tw_eq {q:Int->Bool} {s:ByteArray} {k j:Nat} (h1:∀ i (hi:k+i<s.size),i<j->q (s[k+i].toNat:Int)=true) (h2:k+j<=s.size) (h3:∀ (hj:k+j<s.size),q (s[k+j].toNat:Int)=false):tw q s k=j:=by
 unfold tw
 have hl:=blen s
 refine ZFj _ _ _ (fun i hi hij=>?_) ?_ (fun hj=>?_)
 ·rw [List.getElem_drop]
  rw [List.length_drop] at hi
  exact h1 i (by omega) hij
 ·rw [List.length_drop]; omega
 ·rw [List.getElem_drop]
  rw [List.length_drop] at hj
  exact h3 (by omega)
theorem ZDc {q:Int->Bool} {s:ByteArray} {k m:Nat} (h1:∀ i (hi:i<s.size),k<=i->i<m->q (s[i].toNat:Int)=true) (h0:k<=m) (h2:m<=s.size) (h3:∀ (hj:m<s.size),q (s[m].toNat:Int)=false):k+tw q s k=m:=by
 obtain ⟨j,rfl⟩:∃ j,m=k+j:=⟨m - k,by omega⟩
 rw [tw_eq (j:=j) (fun i hi hij=>h1 (k+i) hi (by omega) (by omega)) h2 h3]
theorem ZCR (q:Int->Bool) (s:ByteArray) (k:Nat) (hk:k<=s.size):k+tw q s k<=s.size:=by
 unfold tw
 have:=List.takeWhile_prefix (fun b:UInt8=>q (b.toNat:Int)) (l:=s.data.toList.drop k)
 have h2:=this.length_le
 rw [List.length_drop,blen] at h2
 omega
def hexI (n:Int):Bool:=digI n || (decide (97<=lowI n) && decide (lowI n<=102))
def ZAr (n:Int):Int:=if digI n then n - 48 else lowI n - 87
def rdL (base most:Int):List UInt8->Int->Int × Int
 | [],n=>(n,0)
 | b::r,n=>if most<ZAr (b.toNat:Int) \/ (most - ZAr (b.toNat:Int)) / base<n then (0,7) else rdL base most r (n*base+ZAr (b.toNat:Int))
theorem allI_at {p:Int->Bool} {s:ByteArray} (h:allI p s=true) (k:Nat) (hk:k<s.size):p (s[k].toNat:Int)=true :=
 List.all_eq_true.1 h s[k] (List.mem_iff_getElem.2 ⟨k,by rw [blen]; exact hk,rfl⟩)
def dgt (k:Nat):UInt8:=UInt8.ofNat (if k<10 then 48+k else 87+k)
theorem dgt_lt:∀ a,a<16->∀ b,b<16->(dgt a<dgt b ↔ a<b):=by decide +kernel
theorem dgt_inj:∀ a,a<16->∀ b,b<16->(dgt a=dgt b ↔ a=b):=by decide +kernel
def valN (B:Nat) (l:List Nat):Nat:=l.foldl (fun n d=>n*B+d) 0
theorem ZIr (B:Nat) (l:List Nat) (n:Nat):l.foldl (fun n d=>n*B+d) n=n*B ^ l.length+valN B l:=by
 induction l generalizing n with
 | nil=>simp [valN]
 | cons d r ih =>
  unfold valN
  rw [List.foldl_cons,List.foldl_cons,ih,ih (0*B+d),List.length_cons,Nat.pow_succ,Nat.add_mul,Nat.zero_mul,Nat.zero_add,Nat.mul_assoc,Nat.mul_comm B,Nat.add_assoc]
theorem ZFA (B d:Nat) (r:List Nat):valN B (d::r)=d*B ^ r.length+valN B r:=by
 have:=ZIr B r (0*B+d)
 rw [Nat.zero_mul,Nat.zero_add] at this
 exact (by unfold valN; rw [List.foldl_cons,Nat.zero_mul,Nat.zero_add]:valN B (d::r)=List.foldl (fun n d=>n*B+d) d r).trans this
theorem ZMY {B:Nat} (hB:0<B):∀ (l:List Nat),(∀ d∈l,d<B)->valN B l<B ^ l.length
 | [],_=>by simp [valN]
 | d::r,h=>by
  rw [ZFA,List.length_cons,Nat.pow_succ]
  have h1:=ZMY hB r (fun x hx=>h x (.tail _ hx))
  have h2:(d+1)*B ^ r.length<=B*B ^ r.length:=Nat.mul_le_mul_right _ (h d (.head _))
  rw [Nat.add_mul,Nat.one_mul,Nat.mul_comm B] at h2
  omega
theorem val_ge {B d:Nat} {r:List Nat} (hd:d≠0):B ^ r.length<=valN B (d::r):=by
 rw [ZFA]
 have:1*B ^ r.length<=d*B ^ r.length:=Nat.mul_le_mul_right _ (by omega)
 omega
theorem val_app (B:Nat) (l:List Nat) (d:Nat):valN B (l++[d])=valN B l*B+d:=by
 unfold valN
 rw [List.foldl_append]
 rfl
/-- digits of equal length are ordered as their numbers. -/
theorem lex_val {B:Nat} (hB:0<B) (h16:B<=16):∀ (a p:List Nat),a.length=p.length->(∀ d∈a,d<B)->(∀ d∈p,d<B)->(a.map dgt<p.map dgt ↔ valN B a<valN B p)
 | [],[],_,_,_=>by simp [valN]
 | [],_::_,h,_,_=>by simp at h
 | _::_,[],h,_,_=>by simp at h
 | x::a,y::p,h,ha,hp=>by
  have hl:a.length=p.length:=by simpa using h
  have hx:=ha x (.head _)
  have hy:=hp y (.head _)
  have ih:=lex_val hB h16 a p hl (fun d hd=>ha d (.tail _ hd)) (fun d hd=>hp d (.tail _ hd))
  have va:=ZMY hB a (fun d hd=>ha d (.tail _ hd))
  have vp:=ZMY hB p (fun d hd=>hp d (.tail _ hd))
  rw [List.map_cons,List.map_cons,List.cons_lt_cons_iff,dgt_lt x (by omega) y (by omega),dgt_inj x (by omega) y (by omega),ih,ZFA,ZFA,hl]
  rw [hl] at va
  rcases Nat.lt_trichotomy x y with hxy | hxy | hxy
  ·have:(x+1)*B ^ p.length<=y*B ^ p.length:=Nat.mul_le_mul_right _ hxy
   rw [Nat.add_mul,Nat.one_mul] at this
   exact ⟨fun _=>by omega,fun _=>.inl hxy⟩
  ·subst hxy
   constructor
   ·rintro (h | ⟨_,h⟩)
    ·omega
    ·omega
   ·intro h; exact .inr ⟨rfl,by omega⟩
  ·have:(y+1)*B ^ p.length<=x*B ^ p.length:=Nat.mul_le_mul_right _ hxy
   rw [Nat.add_mul,Nat.one_mul] at this
   constructor
   ·rintro (h | ⟨h,_⟩) <;> omega
   ·intro h; omega
/-- no nought ahead. -/
def ZNJ (l:List Nat):Prop:=l≠[]/\(2<=l.length->l.head?≠some 0)
theorem less_val {B:Nat} (hB:0<B) (h16:B<=16) (a p:List Nat) (ha:∀ d∈a,d<B) (hp:∀ d∈p,d<B) (ca:ZNJ a) (cp:ZNJ p) :
  (a.length<p.length \/ a.length=p.length/\a.map dgt<p.map dgt) ↔ valN B a<valN B p:=by
 have key:∀ a p:List Nat,(∀ d∈a,d<B)->ZNJ a->ZNJ p->a.length<p.length->valN B a<valN B p:=by
  intro a p ha ca cp hl
  cases p with
  | nil=>simp at hl
  | cons y p =>
   have h1:=ZMY hB a ha
   have hpos:0<a.length:=List.length_pos_iff.2 ca.1
   have hy:y≠0:=fun e=>cp.2 (by simp at hl ⊢; omega) (by simp [e])
   have h2:=val_ge (B:=B) (r:=p) hy
   have h3:B ^ a.length<=B ^ p.length:=Nat.pow_le_pow_right hB (by simp at hl; omega)
   omega
 rcases Nat.lt_trichotomy a.length p.length with h | h | h
 ·exact ⟨fun _=>key a p ha ca cp h,fun _=>.inl h⟩
 ·rw [lex_val hB h16 a p h ha hp]
  constructor
  ·rintro (h1 | ⟨_,h1⟩)
   ·omega
   ·exact h1
  ·intro h1; exact .inr ⟨h,h1⟩
 ·have:=key p a hp cp ca h
  constructor
  ·rintro (h1 | ⟨h1,_⟩) <;> omega
  ·intro h1; omega
def digs (B n:Nat):List Nat:=if _h:n<B \/ B<2 then [n] else digs B (n / B)++[n % B]
termination_by n
decreasing_by exact Nat.div_lt_self (by omega) (by omega)
theorem ZFX {B n:Nat} (h:n<B):digs B n=[n]:=by unfold digs; rw [dif_pos (.inl h)]
theorem ZFn {B n:Nat} (h:¬ n<B) (h2:2<=B):digs B n=digs B (n / B)++[n % B]:=by rw [digs,dif_neg (by omega)]
theorem ZH1 {B:Nat} (h2:2<=B) (n:Nat):valN B (digs B n)=n/\(∀ d∈digs B n,d<B)/\ZNJ (digs B n)/\(n≠0->(digs B n).head?≠some 0):=by
 induction n using Nat.strongRecOn with
 | _ n ih =>
  by_cases h:n<B
  ·rw [ZFX h]
   exact ⟨by simp [valN],by simp [h],⟨by simp,by simp⟩,by simp⟩
  ·have hd:n / B<n:=Nat.div_lt_self (by omega) (by omega)
   obtain ⟨i1,i2,i3,i4⟩:=ih (n / B) hd
   have hne:n / B≠0:=by have:=Nat.div_pos (Nat.le_of_not_lt h) (by omega:0<B); omega
   have hh:(digs B (n / B)++[n % B]).head? = (digs B (n / B)).head?:=by
    cases hc:digs B (n / B) with
    | nil=>exact absurd hc i3.1
    | cons x r=>rfl
   rw [ZFn h h2]
   refine ⟨?_,?_,⟨by simp,fun _=>?_⟩,fun _=>?_⟩
   ·rw [val_app,i1,Nat.mul_comm]; exact Nat.div_add_mod n B
   ·intro d hd'
    rcases List.mem_append.1 hd' with hd' | hd'
    ·exact i2 d hd'
    ·rw [List.mem_singleton.1 hd']; exact Nat.mod_lt _ (by omega)
   ·rw [hh]; exact i4 hne
   ·rw [hh]; exact i4 hne
def ZCn (l:List Nat):List Nat:=if l.dropWhile (· == 0)=[] then [0] else l.dropWhile (· == 0)
theorem val_drop (B:Nat) (l:List Nat):valN B (l.dropWhile (· == 0))=valN B l:=by
 induction l with
 | nil=>rfl
 | cons d r ih =>
  by_cases h:d=0
  ·subst h
   rw [List.dropWhile_cons_of_pos (by simp),ih,ZFA]
   omega
  ·rw [List.dropWhile_cons_of_neg (by simp [h])]
theorem ZHj (B:Nat) (hB:0<B) (l:List Nat) (h:∀ d∈l,d<B):valN B (ZCn l)=valN B l/\(∀ d∈ZCn l,d<B)/\ZNJ (ZCn l):=by
 unfold ZCn
 have hv:=val_drop B l
 by_cases he:l.dropWhile (· == 0)=[]
 ·rw [if_pos he]
  rw [he] at hv
  exact ⟨by rw [<- hv]; simp [valN],by simp [hB],by simp,by simp⟩
 ·rw [if_neg he]
  refine ⟨hv,fun d hd=>h d ((List.dropWhile_sublist _).subset hd),he,fun _=>?_⟩
  intro h0
  have:=List.head?_dropWhile_not (· == 0) l
  rw [h0] at this
  simp at this
theorem rdL_val (B most:Nat) (hB:0<B):∀ (l:List UInt8) (n:Nat),(∀ b∈l,0<=ZAr (b.toNat:Int))->n<=most ->
  rdL B most l n=if most<(l.map fun b=>(ZAr (b.toNat:Int)).toNat).foldl (fun n d=>n*B+d) n then (0,7) else ((((l.map fun b=>(ZAr (b.toNat:Int)).toNat).foldl (fun n d=>n*B+d) n:Nat):Int),0)
 | [],n,_,hn=>by
  rw [List.map_nil,List.foldl_nil,if_neg (by omega)]; rfl
 | b::r,n,h,hn=>by
  have hb:=h b (.head _)
  obtain ⟨d,hd⟩:=Int.eq_ofNat_of_zero_le hb
  have ih:=rdL_val B most hB r
  rw [List.map_cons,List.foldl_cons]
  unfold rdL
  rw [hd,Int.toNat_natCast]
  have hc:((most:Int)<(d:Int) \/ ((most:Int) - (d:Int)) / (B:Int)<(n:Int)) ↔ most<n*B+d:=by
   by_cases h1:most<d
   ·exact ⟨fun _=>by omega,fun _=>.inl (by omega)⟩
   ·rw [show ((most:Int) - (d:Int))=((most - d:Nat):Int) from by omega,<- Int.natCast_ediv]
    have:=Nat.div_lt_iff_lt_mul (x:=most - d) (y:=n) hB
    constructor
    ·rintro (h | h)
     ·omega
     ·have:=this.1 (by omega); omega
    ·intro h; exact .inr (by have:=this.2 (by omega); omega)
  by_cases h1:most<n*B+d
  ·rw [if_pos (hc.2 h1),if_pos]
   refine Nat.lt_of_lt_of_le h1 ?_
   rw [ZIr,List.length_map]
   have h3:(n*B+d)*1<=(n*B+d)*B ^ r.length:=Nat.mul_le_mul_left _ (Nat.pow_pos hB)
   rw [Nat.mul_one] at h3
   exact Nat.le_trans h3 (Nat.le_add_right _ _)
  ·rw [if_neg (fun h=>h1 (hc.1 h))]
   have:=ih (n*B+d) (fun x hx=>h x (.tail _ hx)) (by omega)
   rw [<- this]
   congr 1
def lowU (b:UInt8):UInt8:=(lowI (b.toNat:Int)).toNat.toUInt8
def foldL (l:List UInt8):List UInt8:=l.map lowU
def ZD4 (s:ByteArray):ByteArray:=⟨(foldL s.data.toList).toArray⟩
theorem lowU_nat (b:UInt8):((lowU b).toNat:Int)=lowI (b.toNat:Int):=by
 have h:=lowI_b (b.toNat:Int) (by omega) (by have:=b.toNat_lt; omega)
 unfold lowU
 rw [show (lowI (b.toNat:Int)).toNat.toUInt8.toNat=(lowI (b.toNat:Int)).toNat from by show (UInt8.ofNat _).toNat=_; rw [UInt8.toNat_ofNat']; omega]
 omega
def hexD:ByteArray:=⟨#[48,49,50,51,52,53,54,55,56,57,97,98,99,100,101,102]⟩
def hexG:ByteArray:=⟨#[48,49,50,51,52,53,54,55,56,57,65,66,67,68,69,70]⟩
/-- a digit of the base's: a digit or a letter, worth less than the base. -/
def isD (B:Nat) (n:Int):Bool:=hexI n && decide (ZAr n<B)
theorem hex_hit:∀ n:Nat,n<256->∀ k:Nat,(hk:k<16)->((hexD[k]'hk).toNat=n \/ (hexG[k]'hk).toNat=n)->hexI (n:Int)=true/\ZAr (n:Int)=(k:Int):=by decide +kernel
theorem hex_miss:∀ n:Nat,n<256->hexI (n:Int)=true->∃ k:Nat,∃ hk:k<16,ZAr (n:Int)=(k:Int)/\((hexD[k]'hk).toNat=n \/ (hexG[k]'hk).toNat=n):=by
 have:∀ n:Nat,n<256->hexI (n:Int)=true->ZAr (n:Int)=((ZAr (n:Int)).toNat:Int)/\∃ hk:(ZAr (n:Int)).toNat<16,((hexD[(ZAr (n:Int)).toNat]'hk).toNat=n \/ (hexG[(ZAr (n:Int)).toNat]'hk).toNat=n):=by decide +kernel
 intro n h1 h2
 obtain ⟨a,hk,b⟩:=this n h1 h2
 exact ⟨_,hk,a,b⟩
def digB (B n:Nat):ByteArray:=⟨((digs B n).map dgt).toArray⟩
theorem hexD_at:∀ k:Nat,k<16->hexD.extract k (k+1)=⟨#[dgt k]⟩:=by decide +kernel
theorem ZJC {B:Nat} (h2:2<=B):∀ (e n:Nat),n<2 ^ e->(digs B n).length<=e+1
 | 0,n,h=>by rw [ZFX (by omega)]; simp
 | e+1,n,h=>by
  by_cases hl:n<B
  ·rw [ZFX hl]; simp
  ·rw [ZFn hl h2,List.length_append]
   have hd:n / B<2 ^ e:=by
    have h3:n / B<=n / 2:=Nat.div_le_div_left h2 (by omega)
    rw [Nat.pow_succ] at h
    omega
   have:=ZJC h2 e (n / B) hd
   simp
   omega
theorem digB_size {B n:Nat} (h2:2<=B) (h:n<2 ^ 63):(digB B n).size<=64:=by
 show ((digs B n).map dgt).toArray.size<=64
 rw [List.size_toArray,List.length_map]
 exact ZJC h2 63 n h
theorem ZGY {B n:Nat} (h:n<B):digB B n=⟨#[dgt n]⟩:=by unfold digB; rw [ZFX h]; rfl
theorem ZKd {B n:Nat} (h:¬ n<B) (h2:2<=B):digB B n=digB B (n / B)++⟨#[dgt (n % B)]⟩:=by
 unfold digB
 rw [ZFn h h2,List.map_append]
 apply ByteArray.ext
 rw [ByteArray.data_append]
 simp
def digV (s:ByteArray):List Nat:=s.data.toList.map fun b=>(ZAr (b.toNat:Int)).toNat
/-- digits without noughts ahead, up to a place. -/
def ZCK (l:List Nat):List Nat:=l.dropWhile (· == 0)
theorem ZKx (l:List Nat) (d:Nat):ZCK (l++[d])=if ZCK l=[]/\d=0 then [] else ZCK l++[d]:=by
 unfold ZCK
 induction l with
 | nil=>by_cases h:d=0 <;> simp [h]
 | cons x r ih =>
  by_cases hx:x=0
  ·subst hx
   rw [List.cons_append,List.dropWhile_cons_of_pos (by simp),List.dropWhile_cons_of_pos (by simp)]
   exact ih
  ·rw [List.cons_append,List.dropWhile_cons_of_neg (by simp [hx]),List.dropWhile_cons_of_neg (by simp [hx]),if_neg (by simp)]
   rfl
theorem ZKM (l:List Nat):ZCn l=if ZCK l=[] then [0] else ZCK l:=rfl
def ZGF (l:List Nat):ByteArray:=⟨((ZCK l).map dgt).toArray⟩
theorem ZK2 (l:List Nat):(ZGF l).size=(ZCK l).length:=by
 show ((ZCK l).map dgt).toArray.size=_
 rw [List.size_toArray,List.length_map]
def plR (B:Nat) (s:ByteArray):ByteArray × Bool:=(if allI (isD B) s then ⟨((ZCn (digV s)).map dgt).toArray⟩ else ⟨#[]⟩,allI (isD B) s && decide (0<s.size))
def lessB (a b:ByteArray):Bool:=decide (a.size<b.size) || (decide (a.size=b.size) && Op.bytesLess a.toList b.toList)
theorem lessB_val {B:Nat} (h2:2<=B) (h16:B<=16) (most:Nat) (ds:List Nat) (h:∀ d∈ds,d<B):lessB (digB B most) ⟨((ZCn ds).map dgt).toArray⟩=decide (most<valN B ds):=by
 obtain ⟨d1,d2,d3,_⟩:=ZH1 h2 most
 obtain ⟨s1,s2,s3⟩:=ZHj B (by omega) ds h
 have:=less_val (by omega) h16 (digs B most) (ZCn ds) d2 s2 d3 s3
 rw [d1,s1] at this
 have e1:(digB B most).size=(digs B most).length:=by show ((digs B most).map dgt).toArray.size=_; rw [List.size_toArray,List.length_map]
 have e2:(⟨((ZCn ds).map dgt).toArray⟩:ByteArray).size=(ZCn ds).length:=by show ((ZCn ds).map dgt).toArray.size=_; rw [List.size_toArray,List.length_map]
 unfold lessB
 rw [e1,e2,bytesLess_eq,Lib.toList_data,Lib.toList_data,Bool.eq_iff_iff]
 simp only [Bool.or_eq_true,Bool.and_eq_true,decide_eq_true_eq]
 rw [<- this]
 simp [digB]
def ZA6 (B:Nat) (s:ByteArray) (most:Nat):Int × Int :=
 if s.size=0 \/ allI (isD B) s=false then (0,2) else if most<valN B (digV s) then (0,7) else ((valN B (digV s):Nat),0)
theorem dgt_worth:∀ d:Nat,d<16->hexI ((dgt d).toNat:Int)=true/\ZAr ((dgt d).toNat:Int)=d:=by decide +kernel
theorem val_take (B:Nat) (l:List Nat) (k:Nat) (hB:0<B):valN B (l.take k)<=valN B l:=by
 have e:valN B l=valN B (l.take k)*B ^ (l.drop k).length+valN B (l.drop k):=by
  conv=>lhs; rw [<- List.take_append_drop k l]
  show ((l.take k)++(l.drop k)).foldl (fun n d=>n*B+d) 0=_
  rw [List.foldl_append]
  exact ZIr B (l.drop k) _
 rw [e]
 have:valN B (l.take k)*1<=valN B (l.take k)*B ^ (l.drop k).length:=Nat.mul_le_mul_left _ (Nat.pow_pos hB)
 rw [Nat.mul_one] at this
 exact Nat.le_trans this (Nat.le_add_right _ _)
def atB (s:ByteArray) (k:Nat) (b:Int):Bool:=(s.data.toList[k]?).any fun x=>(x.toNat:Int) == b
theorem ZAj {s:ByteArray} {k:Nat} (h:k<s.size) (b:Int):atB s k b=((s[k].toNat:Int) == b):=by
 unfold atB
 rw [List.getElem?_eq_getElem (by rw [blen]; exact h)]
 rfl
theorem ZCY {s:ByteArray} {k:Nat} (h:s.size<=k) (b:Int):atB s k b=false:=by
 unfold atB
 rw [List.getElem?_eq_none (by rw [blen]; exact h)]
 rfl
theorem ZDp {s:ByteArray} {k:Nat} (h:k<s.size):s.data.toList[k]? = some s[k]:=by
 rw [List.getElem?_eq_getElem (by rw [blen]; exact h)]
 rfl
def nxt (s:ByteArray) (k:Nat):Option (UInt8 × Nat) :=
 match s.data.toList[if atB s k 92=true then k+1 else k]? with
 | some b=>if valI (b.toNat:Int)=true then some (b,(if atB s k 92=true then k+1 else k)+1) else none
 | none=>none
theorem ZHR {s:ByteArray} {k j:Nat} {b:UInt8} (h:nxt s k=some (b,j)):k<j/\j<=s.size:=by
 unfold nxt at h
 generalize hq:(if atB s k 92=true then k+1 else k)=i at h
 have hki:k<=i:=by rw [<- hq]; split <;> omega
 by_cases hi:i<s.size
 ·rw [ZDp hi] at h
  simp only at h
  split at h
  ·simp at h; omega
  ·cases h
 ·rw [List.getElem?_eq_none (by rw [blen]; omega)] at h
  cases h
/-- what a quoted text stands for, from behind its first quote on; and where it ends. -/
def ZBQ (s:ByteArray) (k:Nat) (acc:List UInt8):Option (List UInt8 × Nat) :=
 if atB s k 34=true then some (acc,k+1) else
 match _h:nxt s k with
 | none=>none
 | some (b,j)=>ZBQ s j (acc++[b])
termination_by s.size - k
decreasing_by have:=ZHR _h; omega
theorem ZBf {s:ByteArray} {k:Nat} (acc:List UInt8) (h:atB s k 34=true):ZBQ s k acc=some (acc,k+1):=by rw [ZBQ,if_pos h]
theorem ZAy {s:ByteArray} {k:Nat} (acc:List UInt8) (h:atB s k 34=false) (hn:nxt s k=none):ZBQ s k acc=none:=by
 rw [ZBQ,if_neg (by rw [h]; decide)]
 split
 ·rfl
 ·rename_i b j h2; rw [hn] at h2; cases h2
theorem ZA2 {s:ByteArray} {k j:Nat} {b:UInt8} (acc:List UInt8) (h:atB s k 34=false) (hn:nxt s k=some (b,j)):ZBQ s k acc=ZBQ s j (acc++[b]):=by
 rw [ZBQ,if_neg (by rw [h]; decide)]
 split
 ·rename_i h2; rw [hn] at h2; cases h2
 ·rename_i b' j' h2; rw [hn] at h2; cases h2; rfl
def ZAw (s:ByteArray) (k:Nat):Option (List UInt8 × Nat):=if atB s k 34=true then ZBQ s (k+1) [] else none
theorem ZCo {s:ByteArray}:∀ (m k:Nat) (acc v:List UInt8) (j:Nat),s.size - k=m->ZBQ s k acc=some (v,j)->k<j/\j<=s.size/\v.length+k+1<=acc.length+j:=by
 intro m
 induction m using Nat.strongRecOn with
 | _ m ih =>
  intro k acc v j hm h
  cases hq:atB s k 34
  ·cases hn:nxt s k with
   | none=>rw [ZAy acc hq hn] at h; cases h
   | some bj =>
    obtain ⟨b,i⟩:=bj
    rw [ZA2 acc hq hn] at h
    have:=ZHR hn
    have:=ih (s.size - i) (by omega) i (acc++[b]) v j rfl h
    simp at this
    omega
  ·rw [ZBf acc hq] at h
   simp at h
   have:k<s.size:=by
    apply Decidable.byContradiction
    intro hk
    rw [ZCY (by omega)] at hq
    cases hq
   obtain ⟨rfl,rfl⟩:=h
   omega
/-- a token, or a quoted text: what it stands for, and where it ends. -/
def ZB8 (s:ByteArray) (k:Nat):Option (ByteArray × Nat) :=
 if 0<tw tokI s k then some (s.extract k (k+tw tokI s k),k+tw tokI s k) else (ZAw s k).map fun x=>(⟨x.1.toArray⟩,x.2)
theorem ZDT {s:ByteArray} {k j:Nat} {v:ByteArray} (hk:k<=s.size) (h:ZB8 s k=some (v,j)):k<j/\j<=s.size:=by
 unfold ZB8 at h
 by_cases h0:0<tw tokI s k
 ·rw [if_pos h0] at h
  have:=ZCR tokI s k hk
  simp at h
  omega
 ·rw [if_neg h0] at h
  unfold ZAw at h
  cases hq:atB s k 34
  ·rw [hq,if_neg (by decide)] at h; cases h
  ·rw [hq,if_pos rfl] at h
   cases hf:ZBQ s (k+1) [] with
   | none=>rw [hf] at h; cases h
   | some x =>
    rw [hf] at h
    obtain ⟨x1,x2⟩:=x
    have:=ZCo _ _ _ _ _ rfl hf
    simp at h
    omega
def ZEG (s:ByteArray):ByteArray × Int:=match ZAw s 0 with
 | some (v,j)=>(⟨v.toArray⟩,(j:Int))
 | none=>(⟨#[]⟩,0)
theorem ext1 (s:ByteArray) (k:Nat) (hk:k<s.size):s.extract k (k+1)=⟨#[s[k]]⟩:=by
 apply ByteArray.ext
 apply Array.ext
 ·have:s.data.size=s.size:=rfl
  simp; omega
 ·intro i h1 h2
  have:i=0:=by simp at h2; omega
  subst this
  simp
  rfl
def ZDO (s:ByteArray):ByteArray × Int:=match ZB8 s 0 with
 | some (v,j)=>(v,(j:Int))
 | none=>(⟨#[]⟩,0)
theorem exL (s:ByteArray) (a b:Nat):(s.extract a b).data.toList=(s.data.toList.take b).drop a:=by
 rw [ByteArray.data_extract,Array.toList_extract,List.extract_eq_take_drop,List.drop_take]
theorem inL {a b:ByteArray} (h:a.data.toList=b.data.toList):a=b:=ByteArray.ext (Array.toList_inj.1 h)
theorem ZHB (s:ByteArray) (m:Nat):(s.extract m s.size).data.toList=s.data.toList.drop m:=by
 rw [exL,<- blen,List.take_length]
theorem ZJA (s:ByteArray) (m:Nat):(s.extract m s.size).size=s.size - m:=by rw [ByteArray.size_extract]; omega
theorem ZEq (s:ByteArray) (m k:Nat) (b:Int):atB (s.extract m s.size) k b=atB s (m+k) b:=by
 unfold atB
 rw [ZHB,List.getElem?_drop]
theorem cut_tw (q:Int->Bool) (s:ByteArray) (m k:Nat):tw q (s.extract m s.size) k=tw q s (m+k):=by
 unfold tw
 rw [ZHB,List.drop_drop]
theorem ZLf (s:ByteArray) (m a:Nat):(s.extract m s.size).extract a (s.extract m s.size).size=s.extract (m+a) s.size:=by
 apply inL
 rw [ZHB,ZHB,ZHB,List.drop_drop]
theorem ZLa (s:ByteArray) (m a b:Nat):(s.extract m s.size).extract a b=s.extract (m+a) (m+b):=by
 apply inL
 rw [exL,ZHB,exL,List.drop_take,List.drop_take,List.drop_drop]
 congr 1
 omega
theorem cut_nxt (s:ByteArray) (m k:Nat):nxt (s.extract m s.size) k=(nxt s (m+k)).map fun x=>(x.1,x.2 - m):=by
 unfold nxt
 rw [ZEq]
 cases atB s (m+k) 92
 ·simp only [Bool.false_eq_true,if_false,ZHB,List.getElem?_drop]
  cases s.data.toList[m+k]? with
  | none=>rfl
  | some b =>
   simp only
   split
   ·simp <;> omega
   ·rfl
 ·simp only [if_true,ZHB,List.getElem?_drop,Nat.add_assoc]
  cases s.data.toList[m+(k+1)]? with
  | none=>rfl
  | some b =>
   simp only
   split
   ·simp <;> omega
   ·rfl
theorem cut_front (s:ByteArray) (m:Nat) (hm:m<=s.size):∀ (z k:Nat) (acc:List UInt8),s.size - (m+k)=z->ZBQ (s.extract m s.size) k acc=(ZBQ s (m+k) acc).map fun x=>(x.1,x.2 - m):=by
 intro z
 induction z using Nat.strongRecOn with
 | _ z ih =>
  intro k acc hz
  have hc:=ZEq s m k 34
  cases hq:atB s (m+k) 34
  ·rw [hq] at hc
   have hn:=cut_nxt s m k
   cases hx:nxt s (m+k) with
   | none=>rw [hx] at hn; rw [ZAy acc hc hn,ZAy acc hq hx]; rfl
   | some bj =>
    obtain ⟨b,j⟩:=bj
    have hl:=ZHR hx
    rw [hx] at hn
    rw [ZA2 acc hc hn,ZA2 acc hq hx]
    have:=ih (s.size - j) (by omega) (j - m) (acc++[b]) (by omega)
    rw [show m+(j - m)=j from by omega] at this
    exact this
  ·rw [hq] at hc
   rw [ZBf acc hc,ZBf acc hq]
   simp <;> omega
theorem cut_word (s:ByteArray) (m:Nat) (hm:m<=s.size):ZB8 (s.extract m s.size) 0=(ZB8 s m).map fun x=>(x.1,x.2 - m):=by
 unfold ZB8
 have ht:=cut_tw tokI s m 0
 have hl:=ZCR tokI s m hm
 rw [Nat.add_zero] at ht
 rw [ht,Nat.zero_add]
 by_cases h0:0<tw tokI s m
 ·rw [if_pos h0,if_pos h0,ZLa]
  simp
 ·rw [if_neg h0,if_neg h0]
  unfold ZAw
  have ha:=ZEq s m 0 34
  rw [Nat.add_zero] at ha
  rw [ha]
  cases atB s m 34
  ·rfl
  ·rw [if_pos rfl,if_pos rfl]
   have:=cut_front s m hm _ 1 [] rfl
   rw [Nat.zero_add,this]
   cases ZBQ s (m+1) [] <;> rfl
abbrev Fld:=ByteArray × ByteArray
theorem ZAp (a b:ByteArray):(a++b).data.toList=a.data.toList++b.data.toList:=by rw [ByteArray.data_append]; simp
def memB (l:List ByteArray) (t:ByteArray):Bool:=l.any fun x=>decide (x=t)
end Go.Proofs.YticbonkojpabnaaGreatDoor
