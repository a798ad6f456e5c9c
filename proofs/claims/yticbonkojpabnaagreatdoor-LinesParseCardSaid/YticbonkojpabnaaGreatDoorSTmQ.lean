/- Templates: plain words: what is written of parts. No program in sight. -/
import Derived.Test.YticbonkojpabnaaGreatDoorSTmP
import Derived.Lib.ReplaceLaws
set_option linter.unusedSimpArgs false
set_option linter.unusedVariables false
set_option maxRecDepth 100000
namespace Go.Proofs.YticbonkojpabnaaGreatDoor
open Go.RowKit
theorem ext_all (s:ByteArray):s.extract 0 s.size=s:=by
 apply inL
 rw [ZHB]; rfl
def escL:List UInt8->List UInt8
 | []=>[]
 | b::r=>if b=36 then 36::36::escL r else b::escL r
def escB (s:ByteArray):ByteArray:=⟨(escL s.data.toList).toArray⟩
theorem escL_app (a b:List UInt8):escL (a++b)=escL a++escL b:=by
 induction a with
 | nil=>rfl
 | cons x r ih =>
  simp only [List.cons_append,escL,ih]
  split <;> simp
theorem ZMc (l:List UInt8):(escL l).length<=2*l.length:=by
 induction l with
 | nil=>exact Nat.le_refl _
 | cons x r ih =>
  simp only [escL]
  split <;> simp <;> omega
theorem escB_size (s:ByteArray):(escB s).size<=2*s.size:=by
 have:=ZMc s.data.toList
 rw [blen] at this
 show (escL s.data.toList).toArray.size<=_
 rw [List.size_toArray]
 exact this
theorem ZGJ:∀ l:List UInt8,Lib.replaceK [36] [36,36] (Lib.count l [36]) l=escL l
 | []=>rfl
 | b::l=>by
  have ih:=ZGJ l
  by_cases h:b=36
  ·subst h
   rw [Lib.count_cons_eq,Nat.add_comm,Lib.replaceK_hit [36] [36,36] _ _ 0 (by rw [Lib.index_one]; rfl)]
   simp only [List.take_zero,List.nil_append,List.length_singleton,Nat.zero_add,List.drop_succ_cons,List.drop_zero,escL,if_pos]
   rw [ih]
   rfl
  ·rw [Lib.count_cons_ne _ _ _ h]
   simp only [escL,if_neg h]
   rw [<- ih]
   cases hc:Lib.count l [36] with
   | zero=>rfl
   | succ k =>
    obtain ⟨i,hi⟩:=Lib.index_of_count (s:=l) (old:=[36]) (by omega)
    have hi2:Lib.index (b::l) [36]=((i+1:Nat):Int):=by
     rw [Lib.index_one] at hi ⊢
     unfold Lib.indexByte
     have hb:(b == 36)=false:=by simpa using h
     rw [hb,hi]
     have:((i:Int) == -1)=false:=by rw [beq_eq_false_iff_ne]; omega
     simp [this]
    rw [Lib.replaceK_hit _ _ _ _ _ hi2,Lib.replaceK_hit _ _ _ _ _ hi]
    simp
theorem ZHv (s:ByteArray):(⟨(Lib.replaceAll s.data.toList (⟨#[36]⟩:ByteArray).data.toList (⟨#[36,36]⟩:ByteArray).data.toList).toArray⟩:ByteArray)=escB s:=by
 show (⟨(Lib.replaceAll s.data.toList [36] [36,36]).toArray⟩:ByteArray)=escB s
 unfold escB Lib.replaceAll Lib.replace
 rw [if_neg (by decide),<- ZGJ]
 congr 2
/-- a part's text -/
def wr1 (p:Prt):ByteArray:=if p.1=1 then escB p.2 else if p.1=2 then ⟨#[36,123]⟩++p.2++⟨#[125]⟩ else if p.1=3 then ⟨#[36,123,64]⟩++p.2++⟨#[125]⟩ else ⟨#[]⟩
def wrL (l:List Prt):ByteArray:=l.foldl (fun s p=>s++wr1 p) ⟨#[]⟩
theorem wrL_app (l:List Prt) (p:Prt):wrL (l++[p])=wrL l++wr1 p:=by unfold wrL; rw [List.foldl_append]; rfl
theorem wrL_take {l:List Prt} {k:Nat} (h:k<l.length):wrL (l.take (k+1))=wrL (l.take k)++wr1 l[k]:=by rw [List.take_succ_eq_append_getElem h,wrL_app]
theorem ZLt (a:ByteArray):(⟨#[]⟩:ByteArray)++a=a:=by
 refine inL ?_
 rw [ZAp]; rfl
theorem ZHo (a:ByteArray):a++(⟨#[]⟩:ByteArray)=a:=by
 refine inL ?_
 rw [ZAp]; simp
theorem wrL_fold (s:ByteArray) (l:List Prt):l.foldl (fun s p=>s++wr1 p) s=s++wrL l:=by
 induction l generalizing s with
 | nil=>exact (ZHo s).symm
 | cons p r ih =>
  unfold wrL
  simp only [List.foldl_cons]
  rw [ih,ih,ZLt,ByteArray.append_assoc]
theorem ZMK (p:Prt) (l:List Prt):wrL (p::l)=wr1 p++wrL l:=by
 show (p::l).foldl (fun s p=>s++wr1 p) ⟨#[]⟩=_
 rw [List.foldl_cons,wrL_fold,ZLt]
theorem wr1_size (p:Prt):(wr1 p).size<=2*p.2.size+4:=by
 have:=escB_size p.2
 unfold wr1
 split
 ·omega
 ·split
  ·rw [ByteArray.size_append,ByteArray.size_append]; show 2+_+1<=_; omega
  ·split
   ·rw [ByteArray.size_append,ByteArray.size_append]; show 3+_+1<=_; omega
   ·exact Nat.zero_le _
theorem ZEZ (l:List Prt):(wrL l).size<=2*sumT l+4*l.length:=by
 induction l with
 | nil=>exact Nat.zero_le _
 | cons p r ih =>
  have:=wr1_size p
  rw [ZMK,ByteArray.size_append]
  simp only [sumT,List.map_cons,List.sum_cons,List.length_cons] at ih ⊢
  omega
/-- what a template's text is, or that it is none -/
def ZB9 (l:List Prt):ByteArray × Int:=if (ZAM (wrL l)).2≠0 \/ (ZAM (wrL l)).1≠l then (⟨#[]⟩,2) else (wrL l,0)
theorem ext_one (s:ByteArray) {k:Nat} (h:k<s.size):s.extract k (k+1)=⟨#[s[k]]⟩:=by
 refine inL ?_
 rw [exL,List.take_succ_eq_append_getElem (by rw [blen]; exact h),List.drop_append,List.drop_of_length_le (by rw [List.length_take]; omega),List.length_take,Nat.min_eq_left (by rw [blen]; omega),Nat.sub_self,bget s k h]
 rfl
theorem ZND (s:ByteArray):∀ (z k:Nat) (acc l:List Prt),s.size - k<=z->acc.length<=k->sumT acc<=k->k<=s.size->tpW s k acc=some l->l.length<=s.size/\sumT l<=s.size:=by
 intro z
 induction z with
 | zero =>
  intro k acc l hz h1 h2 hk h
  rw [ZHV (by omega)] at h
  cases h
  omega
 | succ z ih =>
  intro k acc l hz h1 h2 hk h
  by_cases hlt:k<s.size
  ·cases ho:oneT s k with
   | none=>rw [ZDb hlt ho] at h; cases h
   | some x =>
    obtain ⟨p,j⟩:=x
    obtain ⟨j1,j2⟩:=ZG9 ho
    rw [ZCs hlt ho] at h
    have hp:p.2.size<=j - k:=by
     unfold oneT at ho
     have ez:∀ a b,(s.extract a b).size<=b - a:=fun a b=>by rw [ByteArray.size_extract]; omega
     repeat' split at ho
     all_goals first
      | (cases ho; done)
      | (cases ho; first | (show 1<=_; omega) | (refine Nat.le_trans (ez _ _) ?_; omega))
    have hl:=ZJL acc p
    have hs:sumT (putT acc p)<=sumT acc+p.2.size:=by
     unfold putT
     split
     ·rw [ZId]; exact Nat.le_refl _
     ·simp [sumT]
    exact ih j _ l (by omega) (by omega) (by omega) j2 h
  ·rw [ZHV hlt] at h
   cases h
   omega
theorem ZDL (s:ByteArray):(ZAM s).1.length<=32/\(ZAM s).1.length<=s.size/\sumT (ZAM s).1<=s.size:=by
 have hP:ZAM s=match tpW s 0 [] with
  | none=>([],2)
  | some l=>if 32<l.length then ([],3) else (l,0):=rfl
 cases ht:tpW s 0 [] with
 | none =>
  rw [ht] at hP
  rw [hP]
  exact ⟨by decide,Nat.zero_le _,Nat.zero_le _⟩
 | some l =>
  have:=ZND s _ 0 [] l (Nat.le_refl _) (Nat.le_refl _) (Nat.le_refl _) (Nat.zero_le _) ht
  rw [ht] at hP
  simp only at hP
  rw [hP]
  split
  ·exact ⟨by decide,Nat.zero_le _,Nat.zero_le _⟩
  ·exact ⟨by show l.length<=32; omega,this.1,this.2⟩
/-- the names that must be known -/
def namT (l:List Prt):List ByteArray:=l.foldl (fun acc p=>if p.1=2/\memB acc p.2=false then acc++[p.2] else acc) []
theorem ZEE {l:List Prt} {k:Nat} (h:k<l.length):namT (l.take (k+1))=if l[k].1=2/\memB (namT (l.take k)) l[k].2=false then namT (l.take k)++[l[k].2] else namT (l.take k):=by
 rw [List.take_succ_eq_append_getElem h]
 unfold namT
 rw [List.foldl_append]
 rfl
theorem ZFD (l:List Prt):∀ k,k<=l.length->(namT (l.take k)).length<=k
 | 0,_=>by simp [namT]
 | k+1,h=>by
  have ih:=ZFD l k (by omega)
  rw [ZEE (by omega)]
  split
  ·simp; omega
  ·omega
end Go.Proofs.YticbonkojpabnaaGreatDoor
