/- A scanner moved, what is kept of a state. No statement of its own. -/
import Derived.Test.YticbonkojpabnaaGreatDoorSMs
set_option linter.unusedSimpArgs false
set_option linter.unusedVariables false
set_option maxRecDepth 100000
namespace Go.Proofs.YticbonkojpabnaaGreatDoor
open Go.RowKit
theorem ap {h:List (List AV)} {n:Nat} {v x:List AV} (hv:h[n]? = some v):(h++[x])[n]? = some v:=(List.getElem?_append_left (List.getElem?_eq_some_iff.1 hv).1).trans hv
theorem ZBe {h:List (List AV)} {n m:Nat} {v x:List AV} (hne:m≠n) (hv:h[n]? = some v):(h.set m x)[n]? = some v:=(List.getElem?_set_ne hne).trans hv
theorem ZAY {h:List (List AV)} {n:Nat} {v x:List AV} (hv:h[n]? = some v):(h.set n x)[n]? = some x:=List.getElem?_set_self (List.getElem?_eq_some_iff.1 hv).1
theorem ZBC {h:List (List AV)} {n:Nat} {v:List AV} (hv:h[n]? = some v):n<h.length:=(List.getElem?_eq_some_iff.1 hv).1
section
variable {st:St} {p k n:Nat} {s:ByteArray} {R:AV->St->Prop}
theorem token_a (h:Sc st p s k) (hR:R (.tup [.s (s.extract k (k+tw tokI s k)),.b (!decide (tw tokI s k=0))]) (st.sc p s (k+tw tokI s k))):ZAB Tryz.prog 229 [.ptr p 0] st R:=by
 have hl:=ZCR tokI s k h.le
 have he:=ZBb s k (k+tw tokI s k) hl
 refine ZAB.of_vc T_ok mixed Tryz.func229 rfl Tryz.call229 ?_
 refine .s (ZLG ZKB h ?_)
 intro t ht
 have:t=!decide (tw tokI s k=0):=by
  by_cases e:tw tokI s k=0
  ·have:=ht.2 ((ZAi _).2 (by omega))
   rw [this,decide_eq_true e]; rfl
  ·cases t with
   | true=>rw [decide_eq_false e]; rfl
   | false=>exact absurd ((ZAi _).1 (ht.1 rfl)) (by omega)
 subst this
 exact hR
theorem token_m (h:Sc st p s k) (hn:n<=st.tk.length) (h1:tw tokI s k=0->∀ st',Mv n (·=p) st st'->Sc st' p s k->R (.tup [.s ⟨#[]⟩,.b false]) st')
  (h2:tw tokI s k≠0->∀ st',Mv n (·=p) st st'->Sc st' p s (k+tw tokI s k)->R (.tup [.s (s.extract k (k+tw tokI s k)),.b true]) st'):ZAB Tryz.prog 229 [.ptr p 0] st R:=by
 have m:=(Mv.refl (C:=(·=p)) hn).sc (p:=p) (fun _=>rfl) s (k+tw tokI s k)
 have hl:=ZCR tokI s k h.le
 have hs:=h.sc hl
 refine token_a h ?_
 generalize st.sc p s (k+tw tokI s k)=S at *
 by_cases e:tw tokI s k=0
 ·have x:s.extract k (k+tw tokI s k)=⟨#[]⟩:=(ZAi _).2 (by rw [ZBb _ _ _ hl]; omega)
  rw [x,decide_eq_true e]
  exact h1 e _ m (by rw [e] at hs; exact hs)
 ·rw [decide_eq_false e]
  exact h2 e _ m hs
theorem atB_le {s:ByteArray} {k:Nat} {b:Int} (hk:k<=s.size):(if atB s k b=true then k+1 else k)<=s.size:=by
 split
 ·rename_i e
  have:k<s.size:=Decidable.byContradiction fun hc=>by rw [ZCY (by omega)] at e; cases e
  omega
 ·exact hk
theorem ZCk (h:Sc st p s k) (hn:n<=st.tk.length) (b:Int) (h1:atB s k b=false->∀ st',Mv n (·=p) st st'->Sc st' p s k->R (.b false) st')
  (h2:atB s k b=true->k<s.size->∀ st',Mv n (·=p) st st'->Sc st' p s (k+1)->R (.b true) st'):ZAB Tryz.prog 47 [.ptr p 0,.int .u8 b] st R:=by
 have m:=(Mv.refl (C:=(·=p)) hn).sc (p:=p) (fun _=>rfl) s (if atB s k b=true then k+1 else k)
 have hs:=h.sc (atB_le (b:=b) h.le)
 refine ZKZ h b ?_
 generalize st.sc p s (if atB s k b=true then k+1 else k)=S at *
 cases e:atB s k b with
 | false=>rw [e] at hs; exact h1 e _ m hs
 | true =>
  rw [e] at hs
  exact h2 e (Decidable.byContradiction fun hc=>by rw [ZCY (by omega)] at e; cases e) _ m hs
end
theorem ZIt {st:St} {p k n m:Nat} {s:ByteArray} {R:AV->St->Prop} {f:FuncId} {q:Int->Bool} (hq:ZG0 f q) (h:Sc st p s k) (hn:n<=st.tk.length) (hm:k+tw q s k=m) (hR:∀ st',Mv n (·=p) st st'->Sc st' p s m->R (.s (s.extract k m)) st'):ZAB Tryz.prog 48 [.ptr p 0,.lit (.func (.func f) #[] #[])] st R:=by
 subst hm
 exact ZLG hq h (hR _ ((Mv.refl (C:=(·=p)) hn).sc (p:=p) (fun _=>rfl) s _) (h.sc (ZCR q s k h.le)))
end Go.Proofs.YticbonkojpabnaaGreatDoor
