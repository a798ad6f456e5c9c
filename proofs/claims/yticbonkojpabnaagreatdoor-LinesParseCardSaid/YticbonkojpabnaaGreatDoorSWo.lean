/- The document's word: a token or a quoted text. No statement of its own. -/
import Derived.Test.YticbonkojpabnaaGreatDoorSSm
import Derived.Test.YticbonkojpabnaaGreatDoorSSb
import Derived.Test.YticbonkojpabnaaGreatDoorSSp
set_option linter.unusedSimpArgs false
set_option linter.unusedVariables false
set_option maxRecDepth 100000
namespace Go.Proofs.YticbonkojpabnaaGreatDoor
open Go.RowKit
theorem ZGa (s:ByteArray) (hs:s.size<=1099511627776):ZAC Tryz.prog 198 [.s s] (.tup [.s (ZDO s).1,.i (ZDO s).2]) []:=by
 have hmx:maxLen=9223372036854775807:=rfl
 have hW:ZB8 s 0=if 0<tw tokI s 0 then some (s.extract 0 (0+tw tokI s 0),0+tw tokI s 0) else (ZAw s 0).map fun x=>(⟨x.1.toArray⟩,x.2):=rfl
 have hF:=front5_p s hs
 refine ZAC.of rfl (ZAB.of_vc T_ok mixed Tryz.func198 rfl Tryz.call198 ?_)
 refine ZAF [4] (fun g vals st'=>∃ m:Nat,m+g=s.size/\vals=[.i m]/\∀ j (hj:j<s.size),0<=j->j<m->tokI (s[j].toNat:Int)=true) s.size rfl ⟨0,by omega,rfl,fun j _ _ h=>absurd h (by omega)⟩ ?_
 rintro g vals st' ⟨m,hm,rfl,hall⟩
 refine ZAA (fun hd=>?_) (fun hd=>?_)
 ·have hd:=of_decide_eq_true hd
  have m1:m<s.size:=by omega
  refine ⟨m,m1,rfl,?_⟩
  refine .p rfl (tok1_p _ (by omega) (by have:=s[m].toNat_lt; omega)) ?_
  refine ZAA (fun h1=>?_) (fun h1=>?_)
  ·intro c hc
   rw [IntWalk.i64_in _ (by omega)] at hc
   obtain rfl:c=((m+1:Nat):Int):=by omega
   refine ⟨g - 1,by omega,m+1,by omega,rfl,fun j hj h0 hjm=>?_⟩
   by_cases e:j=m
   ·subst e; exact h1
   ·exact hall j hj h0 (by omega)
  ·have ht:=ZDc hall (by omega) (by omega) (fun _=>h1)
   rw [Nat.zero_add] at ht
   refine ZAA (fun h2=>?_) (fun h2=>?_)
   ·have h2:=of_decide_eq_true h2
    have h3:0<m:=by omega
    refine ⟨m,rfl,Nat.zero_le _,by omega,?_⟩
    rw [ht,Nat.zero_add,if_pos h3] at hW
    have:ZDO s=(s.extract 0 m,(m:Int)):=by unfold ZDO; rw [hW]
    rw [this]
    rfl
   ·have h2:=of_decide_eq_false h2
    have h3:¬ 0<m:=by omega
    rw [ht,if_neg h3] at hW
    have:ZDO s=ZEG s:=by unfold ZDO ZEG; rw [hW]; cases ZAw s 0 <;> rfl
    rw [this]
    refine .p rfl hF ?_
    rfl
 ·have hd:=of_decide_eq_false hd
  have ht:=ZDc hall (by omega) (by omega) (fun h=>absurd h (by omega))
  rw [Nat.zero_add] at ht
  refine ZAA (fun h2=>?_) (fun h2=>?_)
  ·have h2:=of_decide_eq_true h2
   have h3:0<m:=by omega
   refine ⟨m,rfl,Nat.zero_le _,by omega,?_⟩
   rw [ht,Nat.zero_add,if_pos h3] at hW
   have:ZDO s=(s.extract 0 m,(m:Int)):=by unfold ZDO; rw [hW]
   rw [this]
   rfl
  ·have h2:=of_decide_eq_false h2
   have h3:¬ 0<m:=by omega
   rw [ht,if_neg h3] at hW
   have:ZDO s=ZEG s:=by unfold ZDO ZEG; rw [hW]; cases ZAw s 0 <;> rfl
   rw [this]
   refine .p rfl hF ?_
   rfl
end Go.Proofs.YticbonkojpabnaaGreatDoor
