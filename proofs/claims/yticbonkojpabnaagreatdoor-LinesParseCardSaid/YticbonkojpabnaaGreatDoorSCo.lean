/- slices.Contains at rows of texts. No statement of its own. -/
import Derived.Test.YticbonkojpabnaaGreatDoorSMs
set_option linter.unusedSimpArgs false
set_option linter.unusedVariables false
set_option maxRecDepth 100000
namespace Go.Proofs.YticbonkojpabnaaGreatDoor
open Go.RowKit
theorem memB_true {l:List ByteArray} {t:ByteArray} (h:t∈l):memB l t=true:=List.any_eq_true.2 ⟨t,h,decide_eq_true rfl⟩
theorem ZM7 {l:List ByteArray} {t:ByteArray} (h:t ∉ l):memB l t=false:=List.any_eq_false.2 fun x hx e=>h (of_decide_eq_true e ▸ hx)
theorem ZJi:∀ {l:List ByteArray} {t:ByteArray},t∈l->∃ (k:Nat) (hk:k<l.length),l[k]=t/\∀ i (hi:i<l.length),i<k->l[i]≠t
 | x::r,t,h=>by
  by_cases e:x=t
  ·exact ⟨0,by simp,e,fun i _ h=>absurd h (by omega)⟩
  ·obtain ⟨k,hk,h1,h2⟩:=ZJi (l:=r) ((List.mem_cons.1 h).resolve_left (fun e'=>e e'.symm))
   refine ⟨k+1,by simp; omega,by simpa using h1,fun i hi hik=>?_⟩
   cases i with
   | zero=>exact e
   | succ i=>simpa using h2 i (by simpa using hi) (by omega)
/-- is a text among these? -/
theorem index_p (l:List ByteArray) (t:ByteArray) (hl:l.length<=1099511627776):∃ v:Int,decide (v >= 0)=memB l t/\ZAC Tryz.prog 217 [.sl .no 1 (strL l),.s t] (.i v) []:=by
 have el:=ZAH l
 have key:∀ v:Int,(v=-1/\t ∉ l) \/ (∃ (k:Nat) (hk:k<l.length),v=k/\l[k]=t/\∀ i (hi:i<l.length),i<k->l[i]≠t)->ZAC Tryz.prog 217 [.sl .no 1 (strL l),.s t] (.i v) []:=by
  intro v hv
  refine ZAC.of rfl (ZAB.of_vc T_ok mixed Tryz.func217 rfl Tryz.call217 ?_)
  refine ZAF [8] (fun g vals st'=>∃ k:Nat,k+g=l.length/\vals=[.i k]/\∀ i (hi:i<l.length),i<k->l[i]≠t) l.length rfl ⟨0,by omega,rfl,fun i _ h=>absurd h (by omega)⟩ ?_
  rintro g vals st' ⟨k,hk,rfl,hall⟩
  refine ZAA (fun hd=>?_) (fun hd=>?_)
  ·have hd:=of_decide_eq_true hd
   have k1:k<l.length:=by omega
   refine ⟨k,_,rfl,ZAS k1,?_⟩
   intro b hb
   cases b with
   | true =>
    have e:=hb.1 rfl
    rcases hv with ⟨_,hn⟩ | ⟨j,hj,rfl,hjt,hjn⟩
    ·exact absurd (by rw [e]; exact List.getElem_mem k1) hn
    ·have:k=j:=by
      rcases Nat.lt_trichotomy k j with h | h | h
      ·exact absurd e.symm (hjn k k1 h)
      ·exact h
      ·exact absurd hjt (hall j hj h)
     subst this
     rfl
   | false =>
    have hne:¬ t=l[k]:=fun e=>by have:=hb.2 e; cases this
    intro c hc
    rw [IntWalk.i64_in _ (by omega)] at hc
    obtain rfl:c=((k+1:Nat):Int):=by omega
    refine ⟨g - 1,by omega,k+1,by omega,rfl,fun i hi hik=>?_⟩
    by_cases e:i=k
    ·subst e; exact fun h=>hne h.symm
    ·exact hall i hi (by omega)
  ·have hd:=of_decide_eq_false hd
   rcases hv with ⟨rfl,_⟩ | ⟨j,hj,rfl,hjt,hjn⟩
   ·rfl
   ·exact absurd hjt (hall j hj (by omega))
 by_cases hm:t∈l
 ·have:=ZJi hm
  obtain ⟨k,hk,h1,h2⟩:=this
  exact ⟨k,by rw [memB_true hm]; exact decide_eq_true (by omega),key k (.inr ⟨k,hk,rfl,h1,h2⟩)⟩
 ·exact ⟨-1,by rw [ZM7 hm]; rfl,key (-1) (.inl ⟨rfl,hm⟩)⟩
theorem ZDN (l:List ByteArray) (t:ByteArray) (hl:l.length<=1099511627776):ZAC Tryz.prog 172 [.sl .no 1 (strL l),.s t] (.b (memB l t)) []:=by
 obtain ⟨v,hv,hp⟩:=index_p l t hl
 refine ZAC.of rfl (ZAB.of_vc T_ok mixed Tryz.func172 rfl Tryz.call172 ?_)
 refine .p rfl hp ?_
 exact retb hv
end Go.Proofs.YticbonkojpabnaaGreatDoor
