/- A text that the document reads. No statement of its own. -/
import Derived.Test.YticbonkojpabnaaGreatDoorSLnj
import Derived.Test.YticbonkojpabnaaGreatDoorSLne
set_option linter.unusedSimpArgs false
set_option linter.unusedVariables false
set_option maxRecDepth 100000
namespace Go.Proofs.YticbonkojpabnaaGreatDoor
open Go.RowKit
section
def Scr.cells17 (s:Scr) (n e:Int):List AV:=[.s s.ec,.s s.eh,.s s.es,.s s.eb,.sl .no 2 (fldL s.doms),.sl .no 2 (fldL s.locs),.i s.ch,.i s.cc,.i s.cq,.sl .no 8 (rlL s.rules),.s s.cl,.s s.up,.b s.ce,.b s.ue,.sl .no 2 (evL s.evs),.i n,.i e]
theorem ZBr (n e:Int):ZCr [.s ⟨#[]⟩,.s ⟨#[]⟩,.s ⟨#[]⟩,.s ⟨#[]⟩,.nilS,.nilS,.i 0,.i 0,.i 0,.nilS,.s ⟨#[]⟩,.s ⟨#[]⟩,.b false,.b false,.nilS,.i n,.i e] (s0.cells17 n e) :=
 ⟨ZAG _,ZAG _,ZAG _,ZAG _,ZDM _,ZDM _,ZAN _,ZAN _,ZAN _,ZDM _,ZAG _,ZAG _,ZAf _,ZAf _,ZDM _,ZAN _,ZAN _,trivial⟩
theorem ZKk (s:Scr) (n e:Int):ZCr (s.cells17 n e) (s.cells17 n e) :=
 ⟨ZAG _,ZAG _,ZAG _,ZAG _,ZAJ _ _ _,ZAJ _ _ _,ZAN _,ZAN _,ZAN _,ZAJ _ _ _,ZAG _,ZAG _,ZAf _,ZAf _,ZAJ _ _ _,ZAN _,ZAN _,trivial⟩
theorem zeroSW (x:ByteArray):ZCW [.agg [.s ⟨#[]⟩,.s ⟨#[]⟩,.s ⟨#[]⟩,.s ⟨#[]⟩,.nilS,.nilS,.i 0,.i 0,.i 0,.nilS,.s ⟨#[]⟩,.s ⟨#[]⟩,.b false,.b false,.nilS],.s x] [s0.av,.s x]:=⟨ZAP (ZCl (tk:=[]) (s:=s0) (l:=0) .zero .zero .zero .zero),.inl (.inl ⟨rfl,rfl⟩),trivial⟩
theorem apR_eq {s:Scr} {l:Nat} {y:Ln} (hi:InvS s l) (hf:ZCU l y.rank=true):apR s y=apL s y:=by
 cases y with
 | env a b c d =>
  have hl:l=0:=beq_iff_eq.1 hf
  subst hl
  have e1:=hi.doms (by decide)
  have e2:=hi.locs (by decide)
  cases s
  dsimp only at e1 e2
  subst e1 e2
  rfl
 | _=>rfl
theorem set17s (r:Scr):ZBL [.s ⟨#[]⟩,.s ⟨#[]⟩,.s ⟨#[]⟩,.s ⟨#[]⟩,.nilS,.nilS,.i 0,.i 0,.i 0,.nilS,.s ⟨#[]⟩,.s ⟨#[]⟩,.b false,.b false,.nilS,.i 0,.i 0] 0 (r.cells17 0 0)=r.cells17 0 0:=ZAI rfl
theorem ZEt {cs cs':List AV} (h:ZCr cs cs'):resV (.agg cs) (.agg cs'):=.inl (ZAP h)
section
attribute [local irreducible] ZAn
set_option maxHeartbeats 20000000 in
theorem parseR_p (t:ByteArray) (ht:t.size<=4194304) (hL:∀ x∈linesB t,x.size<=100000):ZAC Tryz.prog 17 [.s t] (.agg ((ZCd t).1.cells17 (ZCd t).2.1 (ZCd t).2.2)) []:=by
 have hmx:maxLen=9223372036854775807:=rfl
 have hsp:=parts8_p t (by omega)
 have hP:runS (linesB t) 0 s0 0=ZCd t:=by unfold ZCd; rw [if_neg (by omega)]
 have hll:=linesB_len t
 have hne:linesB t≠[]:=by
  unfold linesB
  intro e
  exact ZHE 10 t.data.toList (List.map_eq_nil_iff.1 e)
 generalize ZCd t=P at *
 generalize linesB t=L at *
 have el:=ZAH L
 obtain ⟨r,n,e⟩:=P
 have hpos:0<L.length:=List.length_pos_iff.2 hne
 refine ZAC.ofG rfl ?_
 refine ZAB.of_vc T_ok mixed Tryz.func17 rfl Tryz.call17 ?_
 refine ZAA (fun h0=>?_) (fun h0=>?_)
 ·have h0:=of_decide_eq_true h0
  omega
 refine ⟨_,rfl,lkI (l':=[.s ⟨#[]⟩,.s ⟨#[]⟩,.s ⟨#[]⟩,.s ⟨#[]⟩,.nilS,.nilS,.i 0,.i 0,.i 0,.nilS,.s ⟨#[]⟩,.s ⟨#[]⟩,.b false,.b false,.nilS]) rfl ?_⟩
 refine .p rfl hsp ?_
 refine ZAF [5,6] (fun g vals st'=>∃ (k:Nat) (s:Scr) (l:Nat),k+g=L.length - 1/\vals=[.i ((l:Int) - 1),.i k]/\st'.heap[0]? = some [.s ⟨#[]⟩,.s ⟨#[]⟩,.s ⟨#[]⟩,.s ⟨#[]⟩,.nilS,.nilS,.i 0,.i 0,.i 0,.nilS,.s ⟨#[]⟩,.s ⟨#[]⟩,.b false,.b false,.nilS,.i 0,.i 0]/\(st'.heap[1]? = some s.cells \/ (s=s0/\l=0/\st'.heap[1]? = some [.s ⟨#[]⟩,.s ⟨#[]⟩,.s ⟨#[]⟩,.s ⟨#[]⟩,.nilS,.nilS,.i 0,.i 0,.i 0,.nilS,.s ⟨#[]⟩,.s ⟨#[]⟩,.b false,.b false,.nilS]))/\InvS s l/\l<=10/\ZF7 s<=k/\runS (L.drop k) k s l=(r,n,e)) (L.length - 1) rfl ⟨0,s0,0,by omega,rfl,rfl,.inr ⟨rfl,rfl,rfl⟩,InvS.zero,by decide,by decide,hP⟩ ?_
 rintro g vals st' ⟨k,s,l,hk,rfl,hz,h1,hi,hl,hlen,hr⟩
 intro c hc
 rw [IntWalk.i64_in _ (by omega)] at hc
 obtain rfl:c=((k+1:Nat):Int):=by omega
 refine ZAA (fun hd=>?_) (fun hd=>?_)
 ·have hd:=of_decide_eq_true hd
  have k1:k<L.length - 1:=by omega
  have k2:k<L.length:=by omega
  rw [List.drop_eq_getElem_cons k2,ZD2 (by intro e; have:=congrArg List.length e; rw [List.length_drop] at this; simp at this; omega)] at hr
  have hrd:=read47_p s L[k] (hL _ (List.getElem_mem k2)) (by omega)
  have hst:ZDG (s,l) L[k]=match ZEa L[k] with
   | none=>none
   | some y=>ZBu (s,l) y:=rfl
  rw [<- line_eq] at hst
  have hld:lineD s L[k]=match ZHP L[k] with
   | some y=>(apR s y,(y.rank:Int))
   | none=>(s,-1):=rfl
  have hlt0:=ZBC hz
  have hn:∀ (z c:List AV) (q:Nat) (v:List AV),st'.heap[q]? = some v->((st'.heap++[z]).set st'.heap.length c)[q]? = some v:=fun z c q v h=>ZBe (n:=q) (by have:=ZBC h; omega) (ap h)
  cases hlr:ZHP L[k] with
  | none =>
   rw [hlr] at hld hst
   rw [hst] at hr
   rw [hld] at hrd
   cases hr
   refine .n (.one 0 (.one 1 (.one 2 (.one 3 (.one 4 (.two 5 9 (.one 6 (.one 7 (.one 8 (.one 9 (.one 10 (.one 11 .done)))))) (.one 5 (.one 6 (.one 7 (.one 8 (.one 10 (.one 11 .done)))))))))))) (by kernel_rfl) ?_
   refine Or.elim h1 (fun h9=>?_) (fun h9=>?_)
   ·refine ⟨_,h9,?_⟩
    refine ⟨k,_,rfl,ZAS k2,?_⟩
    refine ⟨?_,?_⟩
    iterate 2
     ·skip
      refine .p rfl hrd ?_
      refine ⟨_,ZAK _ _,lkI (ZAI rfl) ?_⟩
      intro c2 hc2
      rw [IntWalk.i64_in _ (by omega)] at hc2
      obtain rfl:c2=((k+1:Nat):Int):=by omega
      refine ⟨_,hn _ _ _ _ hz,lkI (ZAI rfl) ?_⟩
      refine ⟨_,ZAY (hn _ _ _ _ hz),?_⟩
      exact ZEt (ZBr _ _)
   ·obtain ⟨rfl,rfl,h9⟩:=h9
    refine ⟨_,h9,?_⟩
    refine ⟨k,_,rfl,ZAS k2,?_⟩
    refine ⟨?_,?_⟩
    iterate 2
     ·skip
      refine .w rfl (zeroSW _) hrd ?_
      refine ⟨_,ZAK _ _,lkI (ZAI rfl) ?_⟩
      intro c2 hc2
      rw [IntWalk.i64_in _ (by omega)] at hc2
      obtain rfl:c2=((k+1:Nat):Int):=by omega
      refine ⟨_,hn _ _ _ _ hz,lkI (ZAI rfl) ?_⟩
      refine ⟨_,ZAY (hn _ _ _ _ hz),?_⟩
      exact ZEt (ZBr _ _)
  | some y =>
   have hrk:=ZK3 y
   rw [hlr] at hld hst
   rw [hld] at hrd
   have hfo:=follows_p l y.rank hl (by omega)
   cases hf:ZCU l y.rank with
   | false =>
    have hsl:ZBu (s,l) y=none:=by unfold ZBu; rw [if_neg (by show ¬ ZCU l y.rank=true; rw [hf]; decide)]
    have hst:ZDG (s,l) L[k]=ZBu (s,l) y:=hst
    rw [hst,hsl] at hr
    rw [hf] at hfo
    cases hr
    refine .n (.one 0 (.one 1 (.one 2 (.one 3 (.one 4 (.two 5 9 (.one 6 (.one 7 (.one 8 (.one 9 (.one 10 (.one 11 .done)))))) (.one 5 (.one 6 (.one 7 (.one 8 (.one 10 (.one 11 .done)))))))))))) (by kernel_rfl) ?_
    refine Or.elim h1 (fun h9=>?_) (fun h9=>?_)
    ·refine ⟨_,h9,?_⟩
     refine ⟨k,_,rfl,ZAS k2,?_⟩
     refine ⟨?_,?_⟩
     iterate 2
      ·skip
       refine .p rfl hrd ?_
       refine ⟨_,ZAK _ _,lkI (ZAI rfl) ?_⟩
       refine .p rfl hfo ?_
       intro c2 hc2
       rw [IntWalk.i64_in _ (by omega)] at hc2
       obtain rfl:c2=((k+1:Nat):Int):=by omega
       refine ⟨_,hn _ _ _ _ hz,lkI (ZAI rfl) ?_⟩
       refine ⟨_,ZAY (hn _ _ _ _ hz),?_⟩
       exact ZEt (ZBr _ _)
    ·obtain ⟨rfl,rfl,h9⟩:=h9
     refine ⟨_,h9,?_⟩
     refine ⟨k,_,rfl,ZAS k2,?_⟩
     refine ⟨?_,?_⟩
     iterate 2
      ·skip
       refine .w rfl (zeroSW _) hrd ?_
       refine ⟨_,ZAK _ _,lkI (ZAI rfl) ?_⟩
       refine .p rfl hfo ?_
       intro c2 hc2
       rw [IntWalk.i64_in _ (by omega)] at hc2
       obtain rfl:c2=((k+1:Nat):Int):=by omega
       refine ⟨_,hn _ _ _ _ hz,lkI (ZAI rfl) ?_⟩
       refine ⟨_,ZAY (hn _ _ _ _ hz),?_⟩
       exact ZEt (ZBr _ _)
   | true =>
    have hsl:ZBu (s,l) y=some (apL s y,y.rank+1):=by unfold ZBu; rw [if_pos (by exact hf)]
    have hst:ZDG (s,l) L[k]=ZBu (s,l) y:=hst
    rw [hst,hsl] at hr
    have hr:runS (L.drop (k+1)) (k+1) (apL s y) (y.rank+1)=(r,n,e):=hr
    rw [hf] at hfo
    obtain ⟨v1,v2,v3⟩:=ZMV hi hl hsl
    have v4:=lens_ap s y
    have hrd:ZAC _ _ _ (.tup [(apR s y).av,.i (y.rank:Int)]) []:=hrd
    rw [apR_eq hi hf] at hrd
    have hvs:[AV.i (y.rank:Int),AV.i ((k+1:Nat):Int)]=[AV.i (((y.rank+1:Nat):Int) - 1),AV.i ((k+1:Nat):Int)]:=by
     rw [show ((y.rank+1:Nat):Int) - 1=(y.rank:Int) by omega]
    refine .n (.one 0 (.one 1 (.one 2 (.one 3 (.one 4 (.two 5 9 (.one 6 (.one 7 (.one 8 (.one 9 (.one 10 (.one 11 .done)))))) (.one 5 (.one 6 (.one 7 (.one 8 (.one 10 (.one 11 .done)))))))))))) (by kernel_rfl) ?_
    refine Or.elim h1 (fun h9=>?_) (fun h9=>?_)
    ·refine ⟨_,h9,?_⟩
     refine ⟨k,_,rfl,ZAS k2,?_⟩
     refine ⟨?_,?_⟩
     iterate 2
      ·skip
       refine .p rfl hrd ?_
       refine ⟨_,ZAK _ _,lkI (ZAI rfl) ?_⟩
       refine .p rfl hfo ?_
       refine ⟨_,ZAL _ _ _,?_⟩
       refine ⟨_,hn _ _ _ _ h9,lkI (ZAI rfl) ?_⟩
       intro c2 hc2
       rw [IntWalk.i64_in _ (by omega)] at hc2
       obtain rfl:c2=((k+1:Nat):Int):=by omega
       refine ⟨g - 1,by omega,k+1,_,y.rank+1,by omega,hvs,ZBe (show (1:Nat)≠0 from by decide) (hn _ _ _ _ hz),.inl (ZAY (hn _ _ _ _ h9)),v1,v2,by omega,hr⟩
    ·obtain ⟨rfl,rfl,h9⟩:=h9
     refine ⟨_,h9,?_⟩
     refine ⟨k,_,rfl,ZAS k2,?_⟩
     refine ⟨?_,?_⟩
     iterate 2
      ·skip
       refine .w rfl (zeroSW _) hrd ?_
       refine ⟨_,ZAK _ _,lkI (ZAI rfl) ?_⟩
       refine .p rfl hfo ?_
       refine ⟨_,ZAL _ _ _,?_⟩
       refine ⟨_,hn _ _ _ _ h9,lkI (ZAI rfl) ?_⟩
       intro c2 hc2
       rw [IntWalk.i64_in _ (by omega)] at hc2
       obtain rfl:c2=((k+1:Nat):Int):=by omega
       refine ⟨g - 1,by omega,k+1,_,y.rank+1,by omega,hvs,ZBe (show (1:Nat)≠0 from by decide) (hn _ _ _ _ hz),.inl (ZAY (hn _ _ _ _ h9)),v1,v2,by omega,hr⟩
 ·have hd:=of_decide_eq_false hd
  obtain rfl:k=L.length - 1:=by omega
  have k2:L.length - 1<L.length:=by omega
  rw [List.drop_eq_getElem_cons k2,List.drop_of_length_le (by omega)] at hr
  have hll1:((L.length - 1+1:Nat):Int)=((strL L).length:Int):=by omega
  have hr:(if L[L.length - 1]=e0/\7<=l then (s,(0:Int),(0:Int)) else (s0,((L.length - 1+1:Nat):Int),2))=(r,n,e):=hr
  refine ZAA (fun h6=>?_) (fun h6=>?_)
  ·have h6:=of_decide_eq_true h6
   rw [if_neg (fun h=>by have:=h.2; omega)] at hr
   cases hr
   rw [hll1]
   refine ⟨_,hz,lkI (ZAI rfl) ?_⟩
   refine ⟨_,ZAY hz,?_⟩
   exact ZEt (ZBr _ _)
  ·have h6:=of_decide_eq_false h6
   intro c2 hc2
   rw [IntWalk.i64_in _ (by omega)] at hc2
   obtain rfl:c2=((L.length - 1:Nat):Int):=by omega
   refine ⟨L.length - 1,_,rfl,ZAS k2,?_⟩
   generalize L[L.length - 1]=X at *
   intro q hq
   cases hqq:q
   ·have he:X=e0:=hq.1 hqq
    rw [if_pos ⟨he,by omega⟩] at hr
    cases hr
    refine Or.elim h1 (fun h1=>?_) (fun h1=>by have:=h1.2.1; omega)
    refine ⟨_,h1,?_⟩
    refine ⟨_,hz,lkI (set17s r) ?_⟩
    refine ⟨_,ZAY hz,lkI (l':=r.cells17 0 0) rfl ?_⟩
    exact ZEt (ZKk _ _ _)
   ·have he:¬ X=e0:=fun e=>by have:=hq.2 e; rw [hqq] at this; cases this
    rw [if_neg (fun h=>he h.1)] at hr
    cases hr
    rw [hll1]
    refine ⟨_,hz,lkI (ZAI rfl) ?_⟩
    refine ⟨_,ZAY hz,?_⟩
    exact ZEt (ZBr _ _)
end
end
end Go.Proofs.YticbonkojpabnaaGreatDoor
