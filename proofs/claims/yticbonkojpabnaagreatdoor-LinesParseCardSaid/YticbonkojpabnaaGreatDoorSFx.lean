/- The names that no rule may touch: hop.Fixed, Kept; the names that a side knows; by the program and by the document. No statement of its own. -/
import Derived.Test.YticbonkojpabnaaGreatDoorSCo
import Derived.Test.YticbonkojpabnaaGreatDoorSVg
set_option linter.unusedSimpArgs false
set_option linter.unusedVariables false
set_option maxRecDepth 100000
namespace Go.Proofs.YticbonkojpabnaaGreatDoor
open Go.RowKit
def hopL:List ByteArray:=[⟨#[99,111,110,110,101,99,116,105,111,110]⟩,⟨#[99,111,110,116,101,110,116,45,108,101,110,103,116,104]⟩,⟨#[107,101,101,112,45,97,108,105,118,101]⟩,⟨#[112,114,111,120,121,45,99,111,110,110,101,99,116,105,111,110]⟩,⟨#[116,101]⟩,⟨#[116,114,97,105,108,101,114]⟩,⟨#[116,114,97,110,115,102,101,114,45,101,110,99,111,100,105,110,103]⟩,⟨#[117,112,103,114,97,100,101]⟩]
def ZHw:List ByteArray:=[⟨#[104,111,115,116]⟩,⟨#[118,105,97]⟩,⟨#[102,111,114,119,97,114,100,101,100]⟩,⟨#[120,45,102,111,114,119,97,114,100,101,100,45,102,111,114]⟩]
def know1:List ByteArray:=[⟨#[99,108,105,101,110,116]⟩,⟨#[104,111,115,116]⟩,⟨#[109,101,116,104,111,100]⟩,⟨#[112,97,116,104]⟩,⟨#[115,99,104,101,109,101]⟩]
def know2:List ByteArray:=[⟨#[99,108,105,101,110,116]⟩,⟨#[104,111,115,116]⟩,⟨#[115,99,104,101,109,101]⟩,⟨#[115,116,97,116,117,115]⟩]
def ZAd (n:Int):List ByteArray:=if n=1 then know1 else if n=2 then know2 else []
theorem ZBl (n:Int):(ZAd n).length<=5:=by
 unfold ZAd
 split
 ·exact Nat.le_refl _
 ·split
  ·decide
  ·exact Nat.zero_le _
def ZJg (s:ByteArray):Bool:=memB hopL (ZD4 s) || memB ZHw (ZD4 s)
theorem ZNg:ZAC Tryz.prog 216 [] (.sl .no 1 (strL hopL)) []:=by
 refine ZAC.of rfl (ZAB.of_vc T_ok mixed Tryz.func216 rfl Tryz.call216 ?_)
 rfl
theorem fixH_p (name:ByteArray) (hn:name.size<=maxLen):ZAC Tryz.prog 171 [.s name] (.b (memB hopL (ZD4 name))) []:=by
 have hc:=ZDN hopL (ZD4 name) (by decide)
 refine ZAC.of rfl (ZAB.of_vc T_ok mixed Tryz.func171 rfl Tryz.call171 ?_)
 refine .p rfl ZNg ?_
 refine .p rfl (foldO_p name hn) ?_
 refine .p rfl hc ?_
 rfl
theorem fixR_p (name:ByteArray) (hn:name.size<=1099511627776):ZAC Tryz.prog 143 [.s name] (.b (memB hopL (ZD4 name))) []:=by
 have pr:=foldR_p name hn
 generalize ZD4 name=t at pr
 refine ZAC.of rfl (ZAB.of_vc T_ok mixed Tryz.func143 rfl Tryz.call143 ?_)
 refine .p rfl pr ?_
 intro b0 h0
 cases b0 with
 | true =>
  have e:=h0.1 rfl
  exact retb (by rw [e]; decide +kernel)
 | false =>
  intro b1 h1
  cases b1 with
  | true =>
   have e:=h1.1 rfl
   exact retb (by rw [e]; decide +kernel)
  | false =>
   intro b2 h2
   cases b2 with
   | true =>
    have e:=h2.1 rfl
    exact retb (by rw [e]; decide +kernel)
   | false =>
    intro b3 h3
    cases b3 with
    | true =>
     have e:=h3.1 rfl
     exact retb (by rw [e]; decide +kernel)
    | false =>
     intro b4 h4
     cases b4 with
     | true =>
      have e:=h4.1 rfl
      exact retb (by rw [e]; decide +kernel)
     | false =>
      intro b5 h5
      cases b5 with
      | true =>
       have e:=h5.1 rfl
       exact retb (by rw [e]; decide +kernel)
      | false =>
       intro b6 h6
       cases b6 with
       | true =>
        have e:=h6.1 rfl
        exact retb (by rw [e]; decide +kernel)
       | false =>
        intro b7 h7
        cases b7 with
        | true =>
         have e:=h7.1 rfl
         exact retb (by rw [e]; decide +kernel)
        | false =>
         refine retb ?_
         have f:∀ (b:Bool) (x:ByteArray),(b=true ↔ t=x)->b=false->decide (x=t)=false:=fun b x h e=>decide_eq_false fun e'=>by
          have:=h.2 e'.symm
          rw [e] at this; cases this
         unfold memB hopL
         simp only [List.any_cons,List.any_nil,f _ _ h0 rfl,f _ _ h1 rfl,f _ _ h2 rfl,f _ _ h3 rfl,f _ _ h4 rfl,f _ _ h5 rfl,f _ _ h6 rfl,f _ _ h7 rfl,Bool.or_false]
theorem kept_p (s:ByteArray) (hs:s.size<=1099511627776):ZAC Tryz.prog 134 [.s s] (.b (ZJg s)) []:=by
 have hmx:maxLen=9223372036854775807:=rfl
 have hc:=ZDN ZHw (ZD4 s) (by decide)
 have hf:=fixH_p s (by omega)
 have hk:ZJg s=(memB hopL (ZD4 s) || memB ZHw (ZD4 s)):=rfl
 generalize ZJg s=q at hk
 generalize memB hopL (ZD4 s)=b at hf hk
 refine ZAC.of rfl (ZAB.of_vc T_ok mixed Tryz.func134 rfl Tryz.call134 ?_)
 refine .p rfl hf ?_
 cases b with
 | true=>exact retb hk.symm
 | false =>
  refine .p rfl (foldO_p s (by omega)) ?_
  refine .p rfl hc ?_
  exact retb hk.symm
theorem ZMS (s:ByteArray) (hs:s.size<=1099511627776):ZAC Tryz.prog 101 [.s s] (.b (ZJg s)) []:=by
 have pr:=foldR_p s hs
 have hf:=fixR_p s hs
 have hk:ZJg s=(memB hopL (ZD4 s) || memB ZHw (ZD4 s)):=rfl
 generalize ZJg s=q at hk
 generalize memB hopL (ZD4 s)=b at hf hk
 generalize ZD4 s=t at pr hk
 refine ZAC.of rfl (ZAB.of_vc T_ok mixed Tryz.func101 rfl Tryz.call101 ?_)
 refine .p rfl pr ?_
 intro b0 h0
 cases b0 with
 | true =>
  have e:=h0.1 rfl
  refine retb ?_
  rw [hk,e,show memB ZHw ⟨#[104,111,115,116]⟩=true by decide +kernel,Bool.or_true]
 | false =>
  intro b1 h1
  cases b1 with
  | true =>
   have e:=h1.1 rfl
   refine retb ?_
   rw [hk,e,show memB ZHw ⟨#[118,105,97]⟩=true by decide +kernel,Bool.or_true]
  | false =>
   intro b2 h2
   cases b2 with
   | true =>
    have e:=h2.1 rfl
    refine retb ?_
    rw [hk,e,show memB ZHw ⟨#[102,111,114,119,97,114,100,101,100]⟩=true by decide +kernel,Bool.or_true]
   | false =>
    intro b3 h3
    cases b3 with
    | true =>
     have e:=h3.1 rfl
     refine retb ?_
     rw [hk,e,show memB ZHw ⟨#[120,45,102,111,114,119,97,114,100,101,100,45,102,111,114]⟩=true by decide +kernel,Bool.or_true]
    | false =>
     refine .p rfl hf ?_
     refine retb ?_
     have f:∀ (b:Bool) (x:ByteArray),(b=true ↔ t=x)->b=false->decide (x=t)=false:=fun b x h e=>decide_eq_false fun e'=>by
      have:=h.2 e'.symm
      rw [e] at this; cases this
     have hz:memB ZHw t=false:=by
      unfold memB ZHw
      simp only [List.any_cons,List.any_nil,f _ _ h0 rfl,f _ _ h1 rfl,f _ _ h2 rfl,f _ _ h3 rfl,Bool.or_false]
     rw [hk,hz,Bool.or_false]
theorem ZBy (n:Int):ZAC Tryz.prog 102 [.i n] (.sl .no 1 (strL (ZAd n))) []:=by
 refine ZAC.ofX rfl ?_
 refine ZAB.of_vc T_ok mixed Tryz.func102 rfl Tryz.call102 ?_
 refine ZAA (fun h=>?_) (fun h=>?_)
 ·have h:n=1:=beq_iff_eq.1 h
  subst h
  exact .inl (.inl ⟨rfl,rfl⟩)
 have h:n≠1:=beq_eq_false_iff_ne.1 h
 refine ZAA (fun h2=>?_) (fun h2=>?_)
 ·have h2:n=2:=beq_iff_eq.1 h2
  subst h2
  exact .inl (.inl ⟨rfl,rfl⟩)
 have h2:n≠2:=beq_eq_false_iff_ne.1 h2
 show resX _ _ (.sl .no 1 (strL (ZAd n)))
 unfold ZAd
 rw [if_neg h,if_neg h2]
 exact .inl (.inr (.inl ⟨rfl,1,rfl⟩))
/-- the names that a side knows, as they are -/
theorem known_p (n:Int) (h:n=1 \/ n=2):ZAC Tryz.prog 90 [.i n] (.sl .no 1 (strL (ZAd n))) []:=by
 rcases h with rfl | rfl
 iterate 2
  ·refine ZAC.of rfl (ZAB.of_vc T_ok mixed Tryz.func90 rfl Tryz.call90 ?_)
   rfl
theorem knownN_p (n:Int) (h:¬ (n=1 \/ n=2)):ZAC Tryz.prog 90 [.i n] .nilS []:=by
 refine ZAC.of rfl (ZAB.of_vc T_ok mixed Tryz.func90 rfl Tryz.call90 ?_)
 refine ZAA (fun h1=>?_) (fun h1=>?_)
 ·exact absurd (.inl (beq_iff_eq.1 h1)) h
 refine ZAA (fun h2=>?_) (fun h2=>?_)
 ·exact absurd (.inr (beq_iff_eq.1 h2)) h
 rfl
end Go.Proofs.YticbonkojpabnaaGreatDoor
