/- A word and coded texts behind it, as the document reads them. No statement of its own. -/
import Derived.Test.YticbonkojpabnaaGreatDoorRLnb
set_option linter.unusedSimpArgs false
set_option linter.unusedVariables false
set_option maxRecDepth 100000
namespace Go.Proofs.YticbonkojpabnaaGreatDoor
open Go.RowKit
section
attribute [local irreducible] vcApp
end
section
end
section
def evOk (k n : Int) : Bool := ((k == 1 || k == 3) && (decide (0 <= n) && decide (n <= 1048576))) || ((k == 2 || k == 4) && n == 0)
def evC (k n : Int) : Int := if evOk k n = true then 0 else 1
def cliB : ByteArray := ⟨#[99, 108, 105, 101, 110, 116, 32]⟩
def upsB : ByteArray := ⟨#[117, 112, 115, 116, 114, 101, 97, 109, 32]⟩
def endB : ByteArray := ⟨#[101, 110, 100]⟩
def evT (k n : Int) : ByteArray := if k = 1 then cliB ++ numT n else if k = 2 then cliB ++ endB else if k = 3 then upsB ++ numT n else upsB ++ endB
theorem evOk_13 {k n : Int} (h : k = 1 \/ k = 3) : evOk k n = (decide (0 <= n) && decide (n <= 1048576)) := by
 rcases h with rfl | rfl <;> simp [evOk]
theorem evOk_24 {k n : Int} (h : k = 2 \/ k = 4) : evOk k n = (n == 0) := by
 rcases h with rfl | rfl <;> simp [evOk]
theorem evOk_no {k n : Int} (h1 : k ≠ 1) (h2 : k ≠ 2) (h3 : k ≠ 3) (h4 : k ≠ 4) : evOk k n = false := by
 simp [evOk, h1, h2, h3, h4]
theorem evCheck_p (k n : Int) : APure Tryz.prog 97 [.agg [.i k, .i n]] (.i (evC k n)) [] := by
 have hC : evC k n = if evOk k n = true then 0 else 1 := rfl
 generalize evC k n = C at *
 by_cases h1 : k = 1
 ·subst h1
  have hE := evOk_13 (n := n) (.inl (rfl : (1 : Int) = 1))
  refine APure.of rfl (ACalls.of_vc T_ok mixed Tryz.func97 rfl Tryz.call97 ?_)
  refine ⟨_, rfl, ?_⟩
  refine ⟨_, rfl, ?_⟩
  refine cnd_split (fun a1 => ?_) (fun a1 => ?_)
  ·have a1 : decide (0 <= n) = true := a1
   refine ⟨_, rfl, ?_⟩
   refine cnd_split (fun a2 => ?_) (fun a2 => ?_)
   ·have a2 : decide (n <= 1048576) = true := a2
    rw [a1, a2] at hE
    rw [if_pos (by rw [hE]; rfl)] at hC
    exact reti hC.symm
   ·have a2 : decide (n <= 1048576) = false := a2
    rw [a1, a2] at hE
    rw [if_neg (by rw [hE]; decide)] at hC
    exact reti hC.symm
  ·have a1 : decide (0 <= n) = false := a1
   rw [a1] at hE
   rw [if_neg (by rw [hE]; simp)] at hC
   exact reti hC.symm
 by_cases h2 : k = 2
 ·subst h2
  have hE := evOk_24 (n := n) (.inl (rfl : (2 : Int) = 2))
  refine APure.of rfl (ACalls.of_vc T_ok mixed Tryz.func97 rfl Tryz.call97 ?_)
  refine ⟨_, rfl, ?_⟩
  refine ⟨_, rfl, ?_⟩
  refine cnd_split (fun a1 => ?_) (fun a1 => ?_)
  ·have a1 : (n == 0) = true := a1
   rw [a1] at hE
   rw [if_pos hE] at hC
   exact reti hC.symm
  ·have a1 : (n == 0) = false := a1
   rw [a1] at hE
   rw [if_neg (by rw [hE]; decide)] at hC
   exact reti hC.symm
 by_cases h3 : k = 3
 ·subst h3
  have hE := evOk_13 (n := n) (.inr (rfl : (3 : Int) = 3))
  refine APure.of rfl (ACalls.of_vc T_ok mixed Tryz.func97 rfl Tryz.call97 ?_)
  refine ⟨_, rfl, ?_⟩
  refine ⟨_, rfl, ?_⟩
  refine cnd_split (fun a1 => ?_) (fun a1 => ?_)
  ·have a1 : decide (0 <= n) = true := a1
   refine ⟨_, rfl, ?_⟩
   refine cnd_split (fun a2 => ?_) (fun a2 => ?_)
   ·have a2 : decide (n <= 1048576) = true := a2
    rw [a1, a2] at hE
    rw [if_pos (by rw [hE]; rfl)] at hC
    exact reti hC.symm
   ·have a2 : decide (n <= 1048576) = false := a2
    rw [a1, a2] at hE
    rw [if_neg (by rw [hE]; decide)] at hC
    exact reti hC.symm
  ·have a1 : decide (0 <= n) = false := a1
   rw [a1] at hE
   rw [if_neg (by rw [hE]; simp)] at hC
   exact reti hC.symm
 by_cases h4 : k = 4
 ·subst h4
  have hE := evOk_24 (n := n) (.inr (rfl : (4 : Int) = 4))
  refine APure.of rfl (ACalls.of_vc T_ok mixed Tryz.func97 rfl Tryz.call97 ?_)
  refine ⟨_, rfl, ?_⟩
  refine ⟨_, rfl, ?_⟩
  refine cnd_split (fun a1 => ?_) (fun a1 => ?_)
  ·have a1 : (n == 0) = true := a1
   rw [a1] at hE
   rw [if_pos hE] at hC
   exact reti hC.symm
  ·have a1 : (n == 0) = false := a1
   rw [a1] at hE
   rw [if_neg (by rw [hE]; decide)] at hC
   exact reti hC.symm
 have hE := evOk_no (n := n) h1 h2 h3 h4
 rw [if_neg (by rw [hE]; decide)] at hC
 refine APure.of rfl (ACalls.of_vc T_ok mixed Tryz.func97 rfl Tryz.call97 ?_)
 refine ⟨_, rfl, ?_⟩
 refine cnd_split (fun a => ?_) (fun a => ?_)
 ·exact absurd (beq_iff_eq.1 a) h1
 refine cnd_split (fun a => ?_) (fun a => ?_)
 ·exact absurd (beq_iff_eq.1 a) h3
 refine cnd_split (fun a => ?_) (fun a => ?_)
 ·exact absurd (beq_iff_eq.1 a) h2
 refine cnd_split (fun a => ?_) (fun a => ?_)
 ·exact absurd (beq_iff_eq.1 a) h4
 exact reti hC.symm
theorem evOk_cases {k n : Int} (h : evOk k n = true) : ((k = 1 \/ k = 3) /\ 0 <= n /\ n <= 1048576) \/ ((k = 2 \/ k = 4) /\ n = 0) := by
 unfold evOk at h
 simpa using h
def evTX (k n : Int) : ByteArray := if evOk k n = true then evT k n else ⟨#[]⟩
theorem evText_p (k n : Int) : APure Tryz.prog 60 [.agg [.i k, .i n]] (.tup [.s (evTX k n), .i (evC k n)]) [] := by
 have hp := evCheck_p k n
 have hC : evC k n = if evOk k n = true then 0 else 1 := rfl
 have hT : evTX k n = if evOk k n = true then evT k n else ⟨#[]⟩ := rfl
 generalize evC k n = C at *
 generalize evTX k n = X at *
 cases hE : evOk k n
 ·rw [if_neg (by rw [hE]; decide)] at hC hT
  subst hC hT
  refine APure.of rfl (ACalls.of_vc T_ok mixed Tryz.func60 rfl Tryz.call60 ?_)
  refine ⟨_, rfl, ?_⟩
  refine .p rfl hp ?_
  exact rfl
 ·rw [if_pos hE] at hC hT
  subst hC hT
  rcases evOk_cases hE with ⟨rfl | rfl, h0, h1⟩ | ⟨rfl | rfl, rfl⟩
  ·skip
   refine APure.of rfl (ACalls.of_vc T_ok mixed Tryz.func60 rfl Tryz.call60 ?_)
   refine ⟨_, rfl, ?_⟩
   refine .p rfl hp ?_
   refine ⟨_, rfl, ?_⟩
   refine ⟨_, rfl, ?_⟩
   have hin : inR n := ⟨by omega, by omega⟩
   have hz := numT_size hin
   refine .p rfl (numeralText_p n hin h0) ?_
   refine ⟨?_, ?_⟩
   ·show 7 + (numT n).size <= _
    have hmx : maxLen = 9223372036854775807 := rfl
    omega
   ·exact rfl
  ·skip
   refine APure.of rfl (ACalls.of_vc T_ok mixed Tryz.func60 rfl Tryz.call60 ?_)
   refine ⟨_, rfl, ?_⟩
   refine .p rfl hp ?_
   refine ⟨_, rfl, ?_⟩
   refine ⟨_, rfl, ?_⟩
   have hin : inR n := ⟨by omega, by omega⟩
   have hz := numT_size hin
   refine .p rfl (numeralText_p n hin h0) ?_
   refine ⟨?_, ?_⟩
   ·show 9 + (numT n).size <= _
    have hmx : maxLen = 9223372036854775807 := rfl
    omega
   ·exact rfl
  iterate 2
   ·skip
    refine APure.of rfl (ACalls.of_vc T_ok mixed Tryz.func60 rfl Tryz.call60 ?_)
    refine ⟨_, rfl, ?_⟩
    refine .p rfl hp ?_
    refine ⟨_, rfl, ?_⟩
    exact rfl
theorem check45_p (k n : Int) : APure Tryz.prog 66 [.agg [.i k, .i n]] (.i (evC k n)) [] := by
 have hC : evC k n = if evOk k n = true then 0 else 1 := rfl
 generalize evC k n = C at *
 by_cases h1 : k = 1
 ·subst h1
  have hE := evOk_13 (n := n) (.inl (rfl : (1 : Int) = 1))
  refine APure.of rfl (ACalls.of_vc T_ok mixed Tryz.func66 rfl Tryz.call66 ?_)
  iterate 3 refine ⟨_, rfl, ?_⟩
  refine cnd_split (fun a1 => ?_) (fun a1 => ?_)
  ·have a1 := of_decide_eq_true a1
   rw [if_neg (by rw [hE, decide_eq_false (by omega)]; simp)] at hC
   exact reti hC.symm
  have a1 := of_decide_eq_false a1
  refine ⟨_, rfl, ?_⟩
  refine cnd_split (fun a2 => ?_) (fun a2 => ?_)
  ·have a2 := of_decide_eq_true a2
   rw [if_neg (by rw [hE, decide_eq_false (show ¬ n <= 1048576 by omega)]; simp)] at hC
   exact reti hC.symm
  have a2 := of_decide_eq_false a2
  refine ⟨_, rfl, ?_⟩
  refine ⟨_, rfl, ?_⟩
  rw [if_pos (by rw [hE, decide_eq_true (show 0 <= n by omega), decide_eq_true (show n <= 1048576 by omega)]; rfl)] at hC
  exact reti hC.symm
 by_cases h2 : k = 2
 ·subst h2
  have hE := evOk_24 (n := n) (.inl (rfl : (2 : Int) = 2))
  refine APure.of rfl (ACalls.of_vc T_ok mixed Tryz.func66 rfl Tryz.call66 ?_)
  iterate 3 refine ⟨_, rfl, ?_⟩
  refine cnd_split (fun a1 => ?_) (fun a1 => ?_)
  ·have a1 := of_decide_eq_true a1
   rw [if_neg (by rw [hE]; simp; omega)] at hC
   exact reti hC.symm
  have a1 := of_decide_eq_false a1
  refine ⟨_, rfl, ?_⟩
  refine cnd_split (fun a2 => ?_) (fun a2 => ?_)
  ·have a2 := of_decide_eq_true a2
   rw [if_neg (by rw [hE]; simp; omega)] at hC
   exact reti hC.symm
  have a2 := of_decide_eq_false a2
  refine ⟨_, rfl, ?_⟩
  skip
  refine ⟨_, rfl, ?_⟩
  refine cnd_split (fun a3 => ?_) (fun a3 => ?_)
  ·have a3 := bne_iff_ne.1 a3
   rw [if_neg (by rw [hE]; simp; exact a3)] at hC
   exact reti hC.symm
  ·have a3 := bne_eq_false_iff_eq.1 a3
   rw [if_pos (by rw [hE]; simp; exact a3)] at hC
   exact reti hC.symm
 by_cases h3 : k = 3
 ·subst h3
  have hE := evOk_13 (n := n) (.inr (rfl : (3 : Int) = 3))
  refine APure.of rfl (ACalls.of_vc T_ok mixed Tryz.func66 rfl Tryz.call66 ?_)
  iterate 3 refine ⟨_, rfl, ?_⟩
  refine cnd_split (fun a1 => ?_) (fun a1 => ?_)
  ·have a1 := of_decide_eq_true a1
   rw [if_neg (by rw [hE, decide_eq_false (by omega)]; simp)] at hC
   exact reti hC.symm
  have a1 := of_decide_eq_false a1
  refine ⟨_, rfl, ?_⟩
  refine cnd_split (fun a2 => ?_) (fun a2 => ?_)
  ·have a2 := of_decide_eq_true a2
   rw [if_neg (by rw [hE, decide_eq_false (show ¬ n <= 1048576 by omega)]; simp)] at hC
   exact reti hC.symm
  have a2 := of_decide_eq_false a2
  refine ⟨_, rfl, ?_⟩
  refine ⟨_, rfl, ?_⟩
  rw [if_pos (by rw [hE, decide_eq_true (show 0 <= n by omega), decide_eq_true (show n <= 1048576 by omega)]; rfl)] at hC
  exact reti hC.symm
 by_cases h4 : k = 4
 ·subst h4
  have hE := evOk_24 (n := n) (.inr (rfl : (4 : Int) = 4))
  refine APure.of rfl (ACalls.of_vc T_ok mixed Tryz.func66 rfl Tryz.call66 ?_)
  iterate 3 refine ⟨_, rfl, ?_⟩
  refine cnd_split (fun a1 => ?_) (fun a1 => ?_)
  ·have a1 := of_decide_eq_true a1
   rw [if_neg (by rw [hE]; simp; omega)] at hC
   exact reti hC.symm
  have a1 := of_decide_eq_false a1
  refine ⟨_, rfl, ?_⟩
  refine cnd_split (fun a2 => ?_) (fun a2 => ?_)
  ·have a2 := of_decide_eq_true a2
   rw [if_neg (by rw [hE]; simp; omega)] at hC
   exact reti hC.symm
  have a2 := of_decide_eq_false a2
  iterate 3 refine ⟨_, rfl, ?_⟩
  refine cnd_split (fun a3 => ?_) (fun a3 => ?_)
  ·have a3 := bne_iff_ne.1 a3
   rw [if_neg (by rw [hE]; simp; exact a3)] at hC
   exact reti hC.symm
  ·have a3 := bne_eq_false_iff_eq.1 a3
   rw [if_pos (by rw [hE]; simp; exact a3)] at hC
   exact reti hC.symm
 have hE := evOk_no (n := n) h1 h2 h3 h4
 rw [if_neg (by rw [hE]; decide)] at hC
 refine APure.of rfl (ACalls.of_vc T_ok mixed Tryz.func66 rfl Tryz.call66 ?_)
 refine ⟨_, rfl, ?_⟩
 refine cnd_split (fun a => ?_) (fun a => ?_)
 ·exact reti hC.symm
 have a := of_decide_eq_false a
 refine ⟨_, rfl, ?_⟩
 refine cnd_split (fun a2 => ?_) (fun a2 => ?_)
 ·exact reti hC.symm
 have a2 := of_decide_eq_false a2
 omega
theorem text45_p (k n : Int) : APure Tryz.prog 37 [.agg [.i k, .i n]] (.tup [.s (evTX k n), .i (evC k n)]) [] := by
 have hp := check45_p k n
 have hC : evC k n = if evOk k n = true then 0 else 1 := rfl
 have hT : evTX k n = if evOk k n = true then evT k n else ⟨#[]⟩ := rfl
 generalize evC k n = C at *
 generalize evTX k n = X at *
 cases hE : evOk k n
 ·rw [if_neg (by rw [hE]; decide)] at hC hT
  subst hC hT
  refine APure.of rfl (ACalls.of_vc T_ok mixed Tryz.func37 rfl Tryz.call37 ?_)
  refine ⟨_, rfl, ?_⟩
  refine .p rfl hp ?_
  exact rfl
 ·rw [if_pos hE] at hC hT
  subst hC hT
  rcases evOk_cases hE with ⟨rfl | rfl, h0, h1⟩ | ⟨rfl | rfl, rfl⟩
  ·skip
   refine APure.of rfl (ACalls.of_vc T_ok mixed Tryz.func37 rfl Tryz.call37 ?_)
   refine ⟨_, rfl, ?_⟩
   refine .p rfl hp ?_
   refine ⟨_, rfl, ?_⟩
   refine ⟨1, rfl, by decide, ?_⟩
   iterate 3 refine ⟨_, rfl, ?_⟩
   have hin : inR n := ⟨by omega, by omega⟩
   have hz := numT_size hin
   have hnp := numT_pos h0
   obtain ⟨m, rfl⟩ := Int.eq_ofNat_of_zero_le h0
   have hq := r3Text_p m (by omega)
   rw [show digB 10 m = numT (m : Int) from hnp.symm] at hq
   refine .p rfl hq ?_
   refine ⟨?_, ?_⟩
   ·show 7 + (numT (m : Int)).size <= _
    have hmx : maxLen = 9223372036854775807 := rfl
    omega
   ·exact rfl
  ·skip
   refine APure.of rfl (ACalls.of_vc T_ok mixed Tryz.func37 rfl Tryz.call37 ?_)
   refine ⟨_, rfl, ?_⟩
   refine .p rfl hp ?_
   refine ⟨_, rfl, ?_⟩
   refine ⟨3, rfl, by decide, ?_⟩
   iterate 3 refine ⟨_, rfl, ?_⟩
   have hin : inR n := ⟨by omega, by omega⟩
   have hz := numT_size hin
   have hnp := numT_pos h0
   obtain ⟨m, rfl⟩ := Int.eq_ofNat_of_zero_le h0
   have hq := r3Text_p m (by omega)
   rw [show digB 10 m = numT (m : Int) from hnp.symm] at hq
   refine .p rfl hq ?_
   refine ⟨?_, ?_⟩
   ·show 9 + (numT (m : Int)).size <= _
    have hmx : maxLen = 9223372036854775807 := rfl
    omega
   ·exact rfl
  ·skip
   refine APure.of rfl (ACalls.of_vc T_ok mixed Tryz.func37 rfl Tryz.call37 ?_)
   refine ⟨_, rfl, ?_⟩
   refine .p rfl hp ?_
   refine ⟨_, rfl, ?_⟩
   refine ⟨2, rfl, by decide, ?_⟩
   refine ⟨_, rfl, ?_⟩
   refine ⟨by decide, ?_⟩
   exact rfl
  ·skip
   refine APure.of rfl (ACalls.of_vc T_ok mixed Tryz.func37 rfl Tryz.call37 ?_)
   refine ⟨_, rfl, ?_⟩
   refine .p rfl hp ?_
   refine ⟨_, rfl, ?_⟩
   refine ⟨4, rfl, by decide, ?_⟩
   refine ⟨_, rfl, ?_⟩
   refine ⟨_, rfl, ?_⟩
   refine ⟨by decide, ?_⟩
   exact rfl
end
section
theorem readG_num {n : Nat} (h : n <= 1048576) : readG 10 (numT n) 1048576 = ((n : Int), 0) := by
 obtain ⟨d1, d2, _, _⟩ := digs_facts (B := 10) (by decide) n
 have hD : ∀ d, d < 10 -> isD 10 ((dgt d).toNat : Int) = true /\ (worthI ((dgt d).toNat : Int)).toNat = d := by decide +kernel
 rw [numT_pos (by omega), show ((n : Int)).toNat = n from rfl]
 have hl : (digB 10 n).data.toList = (digs 10 n).map dgt := by unfold digB; rw [List.toList_toArray]
 have hv : digV (digB 10 n) = digs 10 n := by
  unfold digV
  rw [hl, List.map_map]
  conv => rhs; rw [<- List.map_id (digs 10 n)]
  exact List.map_congr_left fun d hd => (hD d (d2 d hd)).2
 have ha : allI (isD 10) (digB 10 n) = true := by
  unfold allI
  rw [hl]
  refine List.all_eq_true.2 fun b hb => ?_
  obtain ⟨d, hd, rfl⟩ := List.mem_map.1 hb
  exact (hD d (d2 d hd)).1
 have hs : (digB 10 n).size ≠ 0 := fun e => by
  have : (digB 10 n).data.toList = [] := List.eq_nil_of_length_eq_zero (by rw [blen]; exact e)
  rw [digB_dec] at this
  exact (dec_facts n).2.2 this
 unfold readG
 rw [if_neg (fun h => by
  rcases h with h | h
  ·exact hs h
  ·rw [ha] at h; cases h), hv, d1, if_neg (by omega)]
theorem decimalE_p (s : ByteArray) (hs : s.size < maxLen) : APure Tryz.prog 155 [.s s, .i 1048576] (.tup [.i (readG 10 s 1048576).1, .i (readG 10 s 1048576).2]) [] := by
 have h := nread_p isDigit_f digI_hex 10 (by omega) (by omega) s hs 1048576 (by decide)
 rw [readQ_G] at h
 refine APure.of rfl (ACalls.of_vc T_ok mixed Tryz.func155 rfl Tryz.call155 ?_)
 refine .p rfl h ?_
 rfl
def upsW : ByteArray := ⟨#[117, 112, 115, 116, 114, 101, 97, 109]⟩
def cliW : ByteArray := ⟨#[99, 108, 105, 101, 110, 116]⟩
def restC (s : ByteArray) : ByteArray := ⟨(Lib.cut s.data.toList [32]).2.1.toArray⟩
def evK (s : ByteArray) : Int := if wordC s = upsW then 3 else 1
def evE (s : ByteArray) : Int × Int := if restC s = endB then (evK s + 1, 0) else (evK s, (readG 10 (restC s) 1048576).1)
/-- the event of a text -/
def evP (s : ByteArray) : Option (Int × Int) := if evOk (evE s).1 (evE s).2 = true /\ evT (evE s).1 (evE s).2 = s then some (evE s) else none
def evR (x : Option (Int × Int)) : List AV := [.i (x.getD (0, 0)).1, .i (x.getD (0, 0)).2]
def evRI (x : Option (Int × Int)) : Int := if x.isSome = true then 0 else 2
theorem evParse_p (s : ByteArray) (hs : s.size <= 4000000000) : APure Tryz.prog 118 [.s s] (.tup [.agg (evR (evP s)), .i (evRI (evP s))]) [] := by
 have hmx : maxLen = 9223372036854775807 := rfl
 have hp := cut_p s hs
 have hrs : (restC s).size <= s.size := by
  unfold restC Lib.cut
  split
  ·show (List.toArray _).size <= _
   rw [List.size_toArray, List.length_drop, blen]
   omega
  ·exact Nat.zero_le _
 have hdec := decimalE_p (restC s) (by omega)
 have hrc : (⟨(Lib.cut s.data.toList [32]).2.1.toArray⟩ : ByteArray) = restC s := rfl
 rw [hrc] at hp
 obtain ⟨P, hPP⟩ : ∃ P, P = evP s := ⟨_, rfl⟩
 rw [<- hPP]
 refine APure.of rfl (ACalls.of_vc T_ok mixed Tryz.func118 rfl Tryz.call118 ?_)
 refine .p rfl hp ?_
 refine ⟨_, rfl, ?_⟩
 intro q hq
 cases hqq : q
 rotate_left
 ·have hK : evK s = 3 := by unfold evK; exact if_pos (hq.1 hqq)
  refine ⟨_, rfl, ?_⟩
  intro q2 hq2
  cases hq3 : q2
  rotate_left
  ·have h2 : restC s = endB := hq2.1 hq3
   refine ⟨_, rfl, ?_⟩
   intro c hc
   obtain rfl : c = 3 + 1 := hc.trans (by decide)
   refine ⟨_, rfl, ?_⟩
   have hE : evE s = (3 + 1, 0) := (by unfold evE; rw [if_pos h2, hK])
   have ht := evText_p (3 + 1) (0)
   refine ⟨_, rfl, ?_⟩
   have hP : P = if evOk (3 + 1) (0) = true /\ evT (3 + 1) (0) = s then some (3 + 1, 0) else none := by rw [hPP]; unfold evP; rw [hE]
   have hC : evC (3 + 1) (0) = if evOk (3 + 1) (0) = true then 0 else 1 := rfl
   have hT : evTX (3 + 1) (0) = if evOk (3 + 1) (0) = true then evT (3 + 1) (0) else ⟨#[]⟩ := rfl
   generalize evC (3 + 1) (0) = C at *
   generalize evTX (3 + 1) (0) = X at *
   cases hk : evOk (3 + 1) (0)
   ·rw [if_neg (by rw [hk]; decide)] at hC
    rw [if_neg (by rw [hk]; exact fun h => absurd h.1 (by decide))] at hP
    subst hC hP
    refine .p rfl ht ?_
    refine ⟨_, rfl, ?_⟩
    refine ⟨_, rfl, ?_⟩
    exact rfl
   ·rw [if_pos hk] at hC hT
    subst hC hT
    refine .p rfl ht ?_
    intro q hq
    cases hqq : q
    ·rw [if_pos ⟨hk, hq.1 hqq⟩] at hP
     subst hP
     iterate 3 refine ⟨_, rfl, ?_⟩
     exact rfl
    ·rw [if_neg (fun h => by have := hq.2 h.2; rw [hqq] at this; cases this)] at hP
     subst hP
     refine ⟨_, rfl, ?_⟩
     refine ⟨_, rfl, ?_⟩
     exact rfl
  ·have h2 : ¬ restC s = endB := fun e => by have := hq2.2 e; rw [hq3] at this; cases this
   refine .p rfl hdec ?_
   refine ⟨_, rfl, ?_⟩
   have hE : evE s = (3, (readG 10 (restC s) 1048576).1) := (by unfold evE; rw [if_neg h2, hK])
   have ht := evText_p (3) ((readG 10 (restC s) 1048576).1)
   refine ⟨_, rfl, ?_⟩
   have hP : P = if evOk (3) ((readG 10 (restC s) 1048576).1) = true /\ evT (3) ((readG 10 (restC s) 1048576).1) = s then some (3, (readG 10 (restC s) 1048576).1) else none := by rw [hPP]; unfold evP; rw [hE]
   have hC : evC (3) ((readG 10 (restC s) 1048576).1) = if evOk (3) ((readG 10 (restC s) 1048576).1) = true then 0 else 1 := rfl
   have hT : evTX (3) ((readG 10 (restC s) 1048576).1) = if evOk (3) ((readG 10 (restC s) 1048576).1) = true then evT (3) ((readG 10 (restC s) 1048576).1) else ⟨#[]⟩ := rfl
   generalize evC (3) ((readG 10 (restC s) 1048576).1) = C at *
   generalize evTX (3) ((readG 10 (restC s) 1048576).1) = X at *
   cases hk : evOk (3) ((readG 10 (restC s) 1048576).1)
   ·rw [if_neg (by rw [hk]; decide)] at hC
    rw [if_neg (by rw [hk]; exact fun h => absurd h.1 (by decide))] at hP
    subst hC hP
    refine .p rfl ht ?_
    refine ⟨_, rfl, ?_⟩
    refine ⟨_, rfl, ?_⟩
    exact rfl
   ·rw [if_pos hk] at hC hT
    subst hC hT
    refine .p rfl ht ?_
    intro q hq
    cases hqq : q
    ·rw [if_pos ⟨hk, hq.1 hqq⟩] at hP
     subst hP
     iterate 3 refine ⟨_, rfl, ?_⟩
     exact rfl
    ·rw [if_neg (fun h => by have := hq.2 h.2; rw [hqq] at this; cases this)] at hP
     subst hP
     refine ⟨_, rfl, ?_⟩
     refine ⟨_, rfl, ?_⟩
     exact rfl
 ·have hK : evK s = 1 := by unfold evK; exact if_neg (fun e => by have := hq.2 e; rw [hqq] at this; cases this)
  intro q2 hq2
  cases hq3 : q2
  rotate_left
  ·have h2 : restC s = endB := hq2.1 hq3
   refine ⟨_, rfl, ?_⟩
   intro c hc
   obtain rfl : c = 1 + 1 := hc.trans (by decide)
   refine ⟨_, rfl, ?_⟩
   have hE : evE s = (1 + 1, 0) := (by unfold evE; rw [if_pos h2, hK])
   have ht := evText_p (1 + 1) (0)
   refine ⟨_, rfl, ?_⟩
   have hP : P = if evOk (1 + 1) (0) = true /\ evT (1 + 1) (0) = s then some (1 + 1, 0) else none := by rw [hPP]; unfold evP; rw [hE]
   have hC : evC (1 + 1) (0) = if evOk (1 + 1) (0) = true then 0 else 1 := rfl
   have hT : evTX (1 + 1) (0) = if evOk (1 + 1) (0) = true then evT (1 + 1) (0) else ⟨#[]⟩ := rfl
   generalize evC (1 + 1) (0) = C at *
   generalize evTX (1 + 1) (0) = X at *
   cases hk : evOk (1 + 1) (0)
   ·rw [if_neg (by rw [hk]; decide)] at hC
    rw [if_neg (by rw [hk]; exact fun h => absurd h.1 (by decide))] at hP
    subst hC hP
    refine .p rfl ht ?_
    refine ⟨_, rfl, ?_⟩
    refine ⟨_, rfl, ?_⟩
    exact rfl
   ·rw [if_pos hk] at hC hT
    subst hC hT
    refine .p rfl ht ?_
    intro q hq
    cases hqq : q
    ·rw [if_pos ⟨hk, hq.1 hqq⟩] at hP
     subst hP
     iterate 3 refine ⟨_, rfl, ?_⟩
     exact rfl
    ·rw [if_neg (fun h => by have := hq.2 h.2; rw [hqq] at this; cases this)] at hP
     subst hP
     refine ⟨_, rfl, ?_⟩
     refine ⟨_, rfl, ?_⟩
     exact rfl
  ·have h2 : ¬ restC s = endB := fun e => by have := hq2.2 e; rw [hq3] at this; cases this
   refine .p rfl hdec ?_
   refine ⟨_, rfl, ?_⟩
   have hE : evE s = (1, (readG 10 (restC s) 1048576).1) := (by unfold evE; rw [if_neg h2, hK])
   have ht := evText_p (1) ((readG 10 (restC s) 1048576).1)
   refine ⟨_, rfl, ?_⟩
   have hP : P = if evOk (1) ((readG 10 (restC s) 1048576).1) = true /\ evT (1) ((readG 10 (restC s) 1048576).1) = s then some (1, (readG 10 (restC s) 1048576).1) else none := by rw [hPP]; unfold evP; rw [hE]
   have hC : evC (1) ((readG 10 (restC s) 1048576).1) = if evOk (1) ((readG 10 (restC s) 1048576).1) = true then 0 else 1 := rfl
   have hT : evTX (1) ((readG 10 (restC s) 1048576).1) = if evOk (1) ((readG 10 (restC s) 1048576).1) = true then evT (1) ((readG 10 (restC s) 1048576).1) else ⟨#[]⟩ := rfl
   generalize evC (1) ((readG 10 (restC s) 1048576).1) = C at *
   generalize evTX (1) ((readG 10 (restC s) 1048576).1) = X at *
   cases hk : evOk (1) ((readG 10 (restC s) 1048576).1)
   ·rw [if_neg (by rw [hk]; decide)] at hC
    rw [if_neg (by rw [hk]; exact fun h => absurd h.1 (by decide))] at hP
    subst hC hP
    refine .p rfl ht ?_
    refine ⟨_, rfl, ?_⟩
    refine ⟨_, rfl, ?_⟩
    exact rfl
   ·rw [if_pos hk] at hC hT
    subst hC hT
    refine .p rfl ht ?_
    intro q hq
    cases hqq : q
    ·rw [if_pos ⟨hk, hq.1 hqq⟩] at hP
     subst hP
     iterate 3 refine ⟨_, rfl, ?_⟩
     exact rfl
    ·rw [if_neg (fun h => by have := hq.2 h.2; rw [hqq] at this; cases this)] at hP
     subst hP
     refine ⟨_, rfl, ?_⟩
     refine ⟨_, rfl, ?_⟩
     exact rfl
end
section
theorem cut_app {a r : List UInt8} (h : ∀ b ∈ a, b ≠ 32) : Lib.cut (a ++ 32 :: r) [32] = (a, r, true) := by
 unfold Lib.cut
 rw [index_app h, if_pos (by omega)]
 have e1 : ((a.length : Int)).toNat = a.length := Int.toNat_natCast _
 rw [e1, List.take_left]
 have e2 : (a ++ 32 :: r).drop (a.length + ([32] : List UInt8).length) = r := by
  rw [show a ++ 32 :: r = (a ++ [32]) ++ r by simp]
  rw [show a.length + ([32] : List UInt8).length = (a ++ [32]).length by simp, List.drop_left]
 rw [e2]
theorem word_app {s a b : ByteArray} (h : ∀ x ∈ a.data.toList, x ≠ 32) (hs : s.data.toList = a.data.toList ++ 32 :: b.data.toList) : wordC s = a /\ restC s = b /\ wordsB s = a :: wordsB b := by
 refine ⟨inL ?_, inL ?_, ?_⟩
 ·unfold wordC
  rw [hs, cut_app h]
 ·unfold restC
  rw [hs, cut_app h]
 ·unfold wordsB
  rw [hs, cutL_hit h]
  rfl
theorem numT_ne {n : Int} (h : 0 <= n) : numT n ≠ endB := fun e => by
 have h1 := numT_l n
 rw [e] at h1
 unfold Lib.itoa at h1
 rw [if_neg (by omega)] at h1
 have := (dec_facts n.toNat).2.1 101 (by rw [<- h1]; decide)
 unfold isDg at this
 exact absurd this.2 (by decide)
theorem evT_word {k n : Int} (h : evOk k n = true) : ∃ (w r : ByteArray), (evT k n).data.toList = w.data.toList ++ 32 :: r.data.toList /\ (∀ x ∈ w.data.toList, x ≠ 32) /\ (∀ x ∈ r.data.toList, x ≠ 32) /\
  ((w = cliW /\ k = 1 /\ r = numT n /\ r ≠ endB /\ ∃ m : Nat, n = m /\ m <= 1048576) \/ (w = upsW /\ k = 3 /\ r = numT n /\ r ≠ endB /\ ∃ m : Nat, n = m /\ m <= 1048576) \/ (w = cliW /\ k = 2 /\ n = 0 /\ r = endB) \/ (w = upsW /\ k = 4 /\ n = 0 /\ r = endB)) := by
 have hc : ∀ x ∈ cliW.data.toList, x ≠ 32 := by decide
 have hu : ∀ x ∈ upsW.data.toList, x ≠ 32 := by decide
 have he : ∀ x ∈ endB.data.toList, x ≠ 32 := by decide
 rcases evOk_cases h with ⟨rfl | rfl, h0, h1⟩ | ⟨rfl | rfl, rfl⟩
 ·exact ⟨cliW, numT n, by show (cliB ++ numT n).data.toList = _; rw [app_l]; rfl, hc, fun x hx => (numT_no x hx).2, .inl ⟨rfl, rfl, rfl, numT_ne h0, n.toNat, by omega, by omega⟩⟩
 ·exact ⟨upsW, numT n, by show (upsB ++ numT n).data.toList = _; rw [app_l]; rfl, hu, fun x hx => (numT_no x hx).2, .inr (.inl ⟨rfl, rfl, rfl, numT_ne h0, n.toNat, by omega, by omega⟩)⟩
 ·exact ⟨cliW, endB, by decide +kernel, hc, he, .inr (.inr (.inl ⟨rfl, rfl, rfl, rfl⟩))⟩
 ·exact ⟨upsW, endB, by decide +kernel, hu, he, .inr (.inr (.inr ⟨rfl, rfl, rfl, rfl⟩))⟩
theorem evP_of {k n : Int} (h : evOk k n = true) : evP (evT k n) = some (k, n) := by
 obtain ⟨w, r, e, hw, hr, hc⟩ := evT_word h
 obtain ⟨c1, c2, _⟩ := word_app hw e
 have hE : evE (evT k n) = (k, n) := by
  unfold evE evK
  rw [c1, c2]
  rcases hc with ⟨rfl, rfl, rfl, hne, m, rfl, hm⟩ | ⟨rfl, rfl, rfl, hne, m, rfl, hm⟩ | ⟨rfl, rfl, rfl, rfl⟩ | ⟨rfl, rfl, rfl, rfl⟩
  ·rw [if_neg hne, readG_num hm, if_neg (by decide)]
  ·rw [if_neg hne, readG_num hm, if_pos rfl]
  ·rw [if_pos rfl, if_neg (by decide)]; rfl
  ·rw [if_pos rfl, if_pos rfl]; rfl
 unfold evP
 rw [hE]
 exact if_pos ⟨h, rfl⟩
theorem evP_some {s : ByteArray} {k n : Int} (h : evP s = some (k, n)) : evOk k n = true /\ s = evT k n := by
 unfold evP at h
 split at h
 ·rename_i hc
  have e : evE s = (k, n) := Option.some.inj h
  rw [e] at hc
  exact ⟨hc.1, hc.2.symm⟩
 ·cases h
end
section
end
section
def onceB (k : Nat) : Bool := k == 0 || k == 3 || k == 5 || k == 6 || k == 7 || k == 8
theorem once_p (k : Nat) (h : k <= 9) : APure Tryz.prog 71 [.i k] (.b (onceB k)) [] := by
 obtain rfl | rfl | rfl | rfl | rfl | rfl | rfl | rfl | rfl | rfl : k = 0 \/ k = 1 \/ k = 2 \/ k = 3 \/ k = 4 \/ k = 5 \/ k = 6 \/ k = 7 \/ k = 8 \/ k = 9 := by omega
 all_goals
  refine APure.of rfl (ACalls.of_vc T_ok mixed Tryz.func71 rfl Tryz.call71 ?_)
  exact rfl
/-- may a line of a stage stand behind one of another stage? (the last one: one more than its stage, 0 for none) -/
def follB (l k : Nat) : Bool := match k with
 | 0 => l == 0
 | 1 => l == 1 || l == 2
 | 2 => l == 1 || l == 2 || l == 3
 | 3 => l == 1 || l == 2 || l == 3
 | 4 => l == 4 || l == 5
 | 5 => l == 4 || l == 5
 | 6 => l == 6
 | 9 => decide (7 <= l)
 | k => decide (7 <= l) && decide (l < k + 1)
end
section
def mustB (x : Nat) : Bool := x == 0 || x == 3 || x == 5 || x == 6
/-- may a line of a stage come, where this is the least that may? -/
def mayB (nx at' : Nat) : Bool := decide (nx <= at') && (List.range at').all fun x => decide (x < nx) || !mustB x
def nextB (l : Nat) : Nat := match l with
 | 0 => 0
 | l + 1 => if onceB l = true then l + 1 else l
theorem may_foll : ∀ l : _root_.Fin 11, ∀ k : _root_.Fin 10, mayB (nextB l.1) k.1 = follB l.1 k.1 := by decide +kernel
theorem mayB_no {nx k x : Nat} (h1 : nx <= x) (h2 : x < k) (h3 : mustB x = true) : mayB nx k = false := by
 unfold mayB
 rw [Bool.and_eq_false_iff]
 refine .inr (List.all_eq_false.2 ⟨x, List.mem_range.2 h2, ?_⟩)
 rw [h3, decide_eq_false (by omega)]
 decide
theorem mayB_yes {nx k : Nat} (h1 : nx <= k) (h : ∀ x, nx <= x -> x < k -> mustB x = false) : mayB nx k = true := by
 unfold mayB
 rw [Bool.and_eq_true]
 refine ⟨decide_eq_true h1, List.all_eq_true.2 fun x hx => ?_⟩
 have hx := List.mem_range.1 hx
 by_cases hn : x < nx
 ·rw [decide_eq_true hn]; rfl
 ·rw [h x (by omega) hx]; simp
theorem may_a {st : St} {R : AV -> St -> Prop} {p : Nat} {c0 c1 c2 c3 c4 c5 c6 c7 c8 c9 c10 c11 c12 c13 c14 : AV} (nx k : Nat) (hn : nx <= 10) (hk : k <= 9) (hp : st.heap[p]? = some [c0, c1, c2, c3, c4, c5, c6, c7, c8, c9, c10, c11, c12, c13, c14, .i nx])
  (h : R (.b (mayB nx k)) st) : ACalls Tryz.prog 70 [.ptr p 0, .i k] st R := by
 refine ACalls.of_vc T_ok mixed Tryz.func70 rfl Tryz.call70 ?_
 refine ⟨_, hp, ?_⟩
 refine cnd_split (fun hd => ?_) (fun hd => ?_)
 ·have hd := of_decide_eq_true hd
  have hm : mayB nx k = false := by unfold mayB; rw [decide_eq_false (by omega)]; rfl
  rw [hm] at h
  exact h
 have hd := of_decide_eq_false hd
 refine ⟨_, hp, ?_⟩
 refine vc_loop [5] (fun g vals st' => ∃ x : Nat, x + g = k /\ vals = [.i x] /\ st = st' /\ nx <= x /\ ∀ y, nx <= y -> y < x -> mustB y = false) (k - nx) rfl ⟨nx, by omega, rfl, rfl, Nat.le_refl _, fun y h1 h2 => by omega⟩ ?_
 rintro g vals st1 ⟨x, hx, rfl, rfl, h1, hall⟩
 refine cnd_split (fun hd2 => ?_) (fun hd2 => ?_)
 ·have hd2 := of_decide_eq_true hd2
  refine cnd_split (fun a => ?_) (fun a => ?_)
  ·have a : x = 0 := by have a : (x : Int) = 0 := beq_iff_eq.1 a; omega
   have hm := mayB_no (nx := nx) (k := k) h1 (show x < k by omega) (by subst a; rfl)
   rw [hm] at h
   exact h
  have a0 : ¬ x = 0 := fun e => by rw [e] at a; exact absurd a (by decide)
  refine cnd_split (fun a => ?_) (fun a => ?_)
  ·have a : x = 3 := by have a : (x : Int) = 3 := beq_iff_eq.1 a; omega
   have hm := mayB_no (nx := nx) (k := k) h1 (show x < k by omega) (by subst a; rfl)
   rw [hm] at h
   exact h
  have a3 : ¬ x = 3 := fun e => by rw [e] at a; exact absurd a (by decide)
  refine cnd_split (fun a => ?_) (fun a => ?_)
  ·have a : x = 5 := by have a : (x : Int) = 5 := beq_iff_eq.1 a; omega
   have hm := mayB_no (nx := nx) (k := k) h1 (show x < k by omega) (by subst a; rfl)
   rw [hm] at h
   exact h
  have a5 : ¬ x = 5 := fun e => by rw [e] at a; exact absurd a (by decide)
  refine cnd_split (fun a => ?_) (fun a => ?_)
  ·have a : x = 6 := by have a : (x : Int) = 6 := beq_iff_eq.1 a; omega
   have hm := mayB_no (nx := nx) (k := k) h1 (show x < k by omega) (by subst a; rfl)
   rw [hm] at h
   exact h
  have a6 : ¬ x = 6 := fun e => by rw [e] at a; exact absurd a (by decide)
  intro c hc
  rw [IntWalk.i64_in _ (by omega)] at hc
  obtain rfl : c = ((x + 1 : Nat) : Int) := by omega
  refine ⟨g - 1, by omega, x + 1, by omega, rfl, rfl, by omega, fun y q1 q2 => ?_⟩
  by_cases e : y = x
  ·subst e
   simp [mustB, a0, a3, a5, a6]
  ·exact hall y q1 (by omega)
 ·have hd2 := of_decide_eq_false hd2
  have hm := mayB_yes (nx := nx) (k := k) (by omega) (fun y q1 q2 => hall y q1 (by omega))
  rw [hm] at h
  exact h
end
section
def swapE : List ByteArray × Bool -> (ByteArray × ByteArray) × Bool
 | ([a, b], true) => ((a, b), true)
 | _ => ((⟨#[]⟩, ⟨#[]⟩), false)
def swapF (s w : ByteArray) : (ByteArray × ByteArray) × Bool := swapE (wordsF s w 2)
theorem swap_p (s w : ByteArray) (hs : s.size <= 1099511627776) : APure Tryz.prog 113 [.s s, .s w] (.tup [.agg [.s (swapF s w).1.1, .s (swapF s w).1.2], .b (swapF s w).2]) [] := by
 have hp := words_p s w 2 (by decide) hs
 have hF : swapF s w = swapE (wordsF s w 2) := rfl
 have hT := wordsF_true (s := s) (w := w) (n := 2)
 generalize swapF s w = F at *
 generalize wordsF s w 2 = W at *
 obtain ⟨l, ok⟩ := W
 cases ok
 ·have hF : F = ((⟨#[]⟩, ⟨#[]⟩), false) := by
   rw [hF]
   unfold swapE
   split
   ·rename_i e; cases e
   ·rfl
  subst hF
  refine APure.of rfl (ACalls.of_vc T_ok mixed Tryz.func113 rfl Tryz.call113 ?_)
  refine .p rfl hp ?_
  refine ⟨_, rfl, ?_⟩
  refine ⟨_, rfl, ?_⟩
  exact rfl
 ·have h2 : l.length = 2 := (hT rfl).2
  match l, h2 with
  | [a, b], _ =>
   have hF : F = ((a, b), true) := hF
   subst hF
   refine APure.of rfl (ACalls.of_vc T_ok mixed Tryz.func113 rfl Tryz.call113 ?_)
   refine .p rfl hp ?_
   refine .e (by kernel_rfl) ?_
   refine ⟨0, _, rfl, rfl, ?_⟩
   refine ⟨1, _, rfl, rfl, ?_⟩
   refine ⟨_, rfl, ?_⟩
   refine ⟨_, rfl, ?_⟩
   exact rfl
end
end Go.Proofs.YticbonkojpabnaaGreatDoor
