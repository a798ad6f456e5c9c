/- Law 47: any text is the page's script, or none. -/
import Derived.Test.YticbonkojpabnaaGreatDoorSLnk
import Derived.Test.YticbonkojpabnaaGreatDoorSLng
set_option linter.unusedSimpArgs false
set_option linter.unusedVariables false
set_option maxRecDepth 100000
namespace Go.Proofs.YticbonkojpabnaaGreatDoor
open Go.RowKit
section
theorem run_bad:∀ {L:List ByteArray} {i:Nat} {s r:Scr} {l:Nat} {n e:Int},runS L i s l=(r,n,e)->e≠0->r=s0
 | [],i,s,r,l,n,e,h,he=>by cases h; rfl
 | [x],i,s,r,l,n,e,h,he=>by
  have h:(if x=e0/\7<=l then (s,(0:Int),(0:Int)) else (s0,((i+1:Nat):Int),2))=(r,n,e):=h
  split at h
  ·cases h; exact absurd rfl he
  ·cases h; rfl
 | x::y::L,i,s,r,l,n,e,h,he=>by
  rw [ZD2 (List.cons_ne_nil _ _)] at h
  split at h
  ·cases h; rfl
  ·exact run_bad h he
theorem ZMe {t:ByteArray} {r:Scr} {n e:Int} (h:ZCd t=(r,n,e)) (he:e≠0):r=s0:=by
 unfold ZCd at h
 split at h
 ·cases h; rfl
 ·exact run_bad h he
theorem lines_mem {l:List Ln} {y:Ln} (h:y∈l):y.bytes.length<=(linesOf l).length:=by
 induction l with
 | nil=>cases h
 | cons x l ih =>
  have e:linesOf (x::l)=(x.bytes++[10])++linesOf l:=by simp [linesOf]
  rw [e,List.length_append,List.length_append]
  rcases List.mem_cons.1 h with rfl | h
  ·omega
  ·have:=ih h; omega
theorem lines_ge (l:List Ln):l.length<=(linesOf l).length:=by
 induction l with
 | nil=>exact Nat.zero_le _
 | cons x l ih =>
  have e:linesOf (x::l)=(x.bytes++[10])++linesOf l:=by simp [linesOf]
  rw [e,List.length_append,List.length_append,List.length_cons]
  simp only [List.length_singleton]
  omega
theorem rowL_ge {w x:ByteArray} {l:List ByteArray} (h:x∈l):x.size<=(rowL w l).length:=by
 have key:∀ l:List ByteArray,x∈l->x.size<=(l.flatMap fun x=>32::ZBR x.data.toList).length:=by
  intro l
  induction l with
  | nil=>intro h; cases h
  | cons y l ih =>
   intro h
   rw [List.flatMap_cons,List.length_append]
   rcases List.mem_cons.1 h with rfl | h
   ·have h1:=(ZFI x.data.toList).2
    rw [blen] at h1
    unfold ZBR
    simp only [List.length_cons,List.length_append]
    omega
   ·have:=ih h; omega
 have:=key l h
 unfold rowL
 rw [List.length_append]
 omega
theorem mem_env (s:Scr):Ln.env s.ec s.eh s.es s.eb∈prL s:=by
 unfold prL prG bI
 rw [if_pos (by decide)]
 exact List.mem_append_left _ (List.mem_singleton.2 rfl)
theorem mem_pr {s:Scr}:(∀ x∈s.doms,domN x∈prL s)/\(∀ x∈s.locs,plcN x∈prL s)/\(∀ x∈s.rules,Ln.rule x∈prL s)/\Ln.cli s.cl∈prL s/\Ln.ups s.up∈prL s:=by
 unfold prL prG bI
 simp only [List.mem_append,List.mem_map]
 refine ⟨fun x hx=>.inr (.inl ⟨x,hx,rfl⟩),fun x hx=>.inr (.inr (.inl ⟨x,hx,rfl⟩)),fun x hx=>.inr (.inr (.inr (.inr (.inl ⟨x,hx,rfl⟩)))),?_,?_⟩
 ·refine .inr (.inr (.inr (.inr (.inr (.inl ?_)))))
  rw [if_pos (by decide)]
  exact List.mem_singleton.2 rfl
 ·refine .inr (.inr (.inr (.inr (.inr (.inr (.inl ?_))))))
  rw [if_pos (by decide)]
  exact List.mem_singleton.2 rfl
theorem len_pr (s:Scr):s.doms.length<=(prL s).length/\s.locs.length<=(prL s).length/\s.rules.length<=(prL s).length/\s.evs.length<=(prL s).length:=by
 unfold prL prG
 simp only [List.length_append,List.length_map]
 omega
theorem small_rz {s:Scr} (hi:s.In) (h1:okRu s=true) (h:(prB s).length<=9000):s.Rz:=by
 have hL:=lines_ge (prL s)
 have hb:∀ y∈prL s,y.bytes.length<=9000:=fun y hy=>Nat.le_trans (lines_mem hy) h
 have hB:(linesOf (prL s)).length<=9000:=h
 obtain ⟨m1,m2,m3,m4,m5⟩:=@mem_pr s
 obtain ⟨l1,l2,l3,l4⟩:=len_pr s
 have he:=hb _ (mem_env s)
 have hrow:∀ {w:ByteArray} {l:List ByteArray} {x:ByteArray},(rowL w l).length<=9000->x∈l->x.size<=1099511627776:=fun h hx=>Nat.le_trans (Nat.le_trans (rowL_ge hx) h) (by decide)
 have hz:∀ r∈s.rules,(ZAx r).size<=9000:=fun r hr=>by
  have h2:=hb _ (m3 r hr)
  have h2:(rulP.data.toList++(ZAx r).data.toList).length<=9000:=h2
  rw [List.length_append,blen,blen] at h2
  omega
 refine ⟨⟨hrow he (by simp),hrow he (by simp),hrow he (by simp),hrow he (by simp),by omega,fun x hx=>⟨hrow (hb _ (m1 x hx)) (by simp),hrow (hb _ (m1 x hx)) (by simp)⟩,by omega,fun x hx=>⟨hrow (hb _ (m2 x hx)) (by simp),hrow (hb _ (m2 x hx)) (by simp)⟩,hi,by omega,fun r hr=>?_,hrow (hb _ m4) (by simp),hrow (hb _ m5) (by simp),by omega,by omega⟩,fun r hr=>by have:=hz r hr; omega⟩
 have hck:ZAO r=0:=of_decide_eq_true (List.all_eq_true.1 h1 r hr)
 have hrd:=ZKS hck
 have:=ZE8 (s:=ZAx r) (by have:=hz r hr; omega)
 rw [hrd] at this
 exact this
theorem zeroSS:ZCW [.agg s0.cells,.agg [.s ⟨#[]⟩,.s ⟨#[]⟩,.s ⟨#[]⟩,.s ⟨#[]⟩,.nilS,.nilS,.i 0,.i 0,.i 0,.nilS,.s ⟨#[]⟩,.s ⟨#[]⟩,.b false,.b false,.nilS]] [s0.av,s0.av] :=
 ⟨ZAP (ZAX _),ZAP (ZCl (tk:=[]) (s:=s0) (l:=0) .zero .zero .zero .zero),trivial⟩
set_option maxHeartbeats 4000000 in
theorem linesParse_p (t:ByteArray):ZAC Tryz.prog 5 [.s t] (.b true) []:=by
 have z1:(t.extract 0 (if 9000<t.size then 9000 else t.size)).size<=9000:=by rw [ByteArray.size_extract]; split <;> omega
 have m1:=minI_at t.size 9000
 generalize hc:t.extract 0 (if 9000<t.size then 9000 else t.size)=c at *
 have hsm:∀ x∈linesB c,x.size<=100000:=fun x hx=>Nat.le_trans (linesB_size hx) (by omega)
 have h1:=parse_p c (by omega) hsm
 have h2:=parseR_p c (by omega) hsm
 have hbad:=@ZMe c
 have hgood:=@pr_read
 have hP:ZCd c=ZCd c:=rfl
 by_cases he:(ZCd c).2.2=0
 ·obtain ⟨r,n,hr⟩:∃ r n,ZCd c=(r,n,0):=⟨_,_,Prod.ext rfl (Prod.ext rfl he)⟩
  obtain ⟨g0,g1,g2,g3,g4,g5⟩:=pr_read hr
  subst g0
  have hl:(prB r).length<=9000:=by rw [<- g5,blen]; exact z1
  have rz:=small_rz g4 g2 hl
  have p1:=print_p r rz.sz
  have hpr:ZAv r=(c,0):=by
   rw [ZDS g2 g3 (by omega)]
   exact Prod.ext (inL ((ZJU _).trans g5.symm)) rfl
  have s1:=sameR_p r r rz rz
  have hpz:(ZAv r).2=0:=by rw [hpr]
  rw [(sameR_eq hpz hpz g4 g4).2 rfl] at s1
  rw [hpr] at p1
  rw [hr] at h1 h2
  clear hbad hgood hP he hr hpr hpz g5 hl
  subst hc
  refine ZAC.of rfl (ZAB.of_vc T_ok mixed Tryz.func5 rfl Tryz.call5 ?_)
  refine .p rfl ZJ3 ?_
  refine ⟨_,m1,Nat.zero_le _,by split <;> omega,?_⟩
  refine .p rfl h1 ?_
  refine ⟨_,rfl,?_⟩
  refine .p rfl h2 ?_
  iterate 4 refine ⟨_,rfl,?_⟩
  refine .p rfl p1 ?_
  refine ⟨_,rfl,?_⟩
  refine ⟨_,rfl,?_⟩
  refine .p rfl s1 ?_
  intro q hq
  obtain rfl:q=true:=hq.2 rfl
  rfl
 ·obtain ⟨r,n,e,hr⟩:∃ r n e,ZCd c=(r,n,e):=⟨_,_,_,rfl⟩
  rw [hr] at he
  have he:e≠0:=he
  obtain rfl:=ZMe hr he
  have s2:=same47_p s0 s0 s0_sz s0_sz (B:=true) ⟨fun _=>rfl,fun _=>rfl⟩
  rw [hr] at h1 h2
  clear hbad hgood hP hr
  subst hc
  refine ZAC.of rfl (ZAB.of_vc T_ok mixed Tryz.func5 rfl Tryz.call5 ?_)
  refine .p rfl ZJ3 ?_
  refine ⟨_,m1,Nat.zero_le _,by split <;> omega,?_⟩
  refine .p rfl h1 ?_
  refine ⟨_,rfl,?_⟩
  refine .p rfl h2 ?_
  refine ⟨_,rfl,?_⟩
  refine ⟨_,rfl,?_⟩
  refine ZAA (fun h=>absurd rfl (bne_iff_ne.1 h)) (fun h=>?_)
  refine ⟨_,rfl,?_⟩
  refine ZAA (fun h=>absurd rfl (bne_iff_ne.1 h)) (fun h=>?_)
  refine ZAA (fun h=>?_) (fun h=>absurd (bne_eq_false_iff_eq.1 h) he)
  refine ⟨_,rfl,?_⟩
  refine .w rfl zeroSS s2 ?_
  rfl
end
end Go.Proofs.YticbonkojpabnaaGreatDoor
