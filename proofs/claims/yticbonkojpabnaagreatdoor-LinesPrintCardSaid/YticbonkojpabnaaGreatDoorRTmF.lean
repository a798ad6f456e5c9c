/- Templates: the document's names; the law's rows; the laws. No statement of its own. -/
import Derived.Test.YticbonkojpabnaaGreatDoorRTmE
set_option linter.unusedSimpArgs false
set_option linter.unusedVariables false
set_option maxRecDepth 100000
namespace Go.Proofs.YticbonkojpabnaaGreatDoor
open Go.RowKit
section
attribute [local irreducible] vcApp
set_option maxHeartbeats 1000000 in
theorem names31_p (l : List Prt) (hl : l.length <= 1000000) : APure Tryz.prog 103 [.sl .no 2 (prtL l)] (.sl .no 1 (strL (namT l))) [] := by
 have hmx : maxLen = 9223372036854775807 := rfl
 have el := prtL_len l
 refine APure.ofX rfl ?_
 refine ACalls.of_vc T_ok mixed Tryz.func103 rfl Tryz.call103 ?_
 refine vc_loop [3, 4] (fun g vals st' => ∃ (k : Nat) (a : AV), k + g = l.length /\ vals = [a, .i k] /\ Acc 0 st'.tk 1 a (strL (namT (l.take k)))) l.length rfl ⟨0, _, by omega, rfl, .nil⟩ ?_
 rintro g vals st1 ⟨k, a, hk, rfl, hA⟩
 have hnl := namT_len l k (by omega)
 generalize hes : strL (namT (l.take k)) = es at hA
 cases hA with
 | nil =>
  refine cnd_split (fun hd => ?_) (fun hd => ?_)
  ·have hd := of_decide_eq_true hd
   have k1 : k < l.length := by omega
   have hnk := namT_take k1
   have hol := strL_len (namT (l.take k))
   rw [hes] at hol
   have hol2 : ([] : List (List AV)).length = (namT (l.take k)).length := hol
   refine ⟨k, _, rfl, prtL_at k1, ?_⟩
   refine vc_loop [5, 6] (fun g2 vals st' => ∃ (j : Nat) (b : Bool), j + g2 = (namT (l.take k)).length /\ vals = [.b b, .i j] /\ st' = st1 /\ b = (l[k].1 != 2 || memB ((namT (l.take k)).take j) l[k].2)) (namT (l.take k)).length rfl ⟨0, _, by omega, rfl, rfl, (Bool.or_false _).symm⟩ ?_
   rintro g2 vals st2 ⟨j, b, hj, rfl, rfl, hb⟩
   have hjl : j = (namT (l.take k)).length := by first | omega | (simp at hol2; omega)
   rw [hjl, List.take_of_length_le (Nat.le_refl _)] at hb
   refine cnd_split (fun h3 => ?_) (fun h3 => ?_)
   ·rw [Bool.not_eq_true'] at h3
    rw [h3] at hb
    have hb := (Bool.or_eq_false_iff.1 hb.symm)
    rw [if_pos ⟨bne_eq_false_iff_eq.1 hb.1, hb.2⟩] at hnk
    refine ⟨k, _, rfl, prtL_at k1, ?_⟩
    refine Acc.app (n := 0) (i := ti9) (es := []) .nil (Nat.zero_le _) (List.cons_ne_nil _ _) ?_ ?_ (fun t9 e9 tk9 z0 z1 z2 z3 => ?_)
    ·show (([] : List (List AV)).length + 1) * 16 <= _; omega
    ·show ([] : List (List AV)).length + 1 <= _; omega
    intro c hc
    rw [IntWalk.i64_in _ (by omega)] at hc
    obtain rfl : c = ((k + 1 : Nat) : Int) := by omega
    refine ⟨g - 1, by omega, k + 1, _, by omega, rfl, ?_⟩
    rw [hnk, <- strL_app, hes]
    exact .own _ _ _ (Nat.zero_le _) z1
   ·rw [Bool.not_eq_false'] at h3
    rw [h3] at hb
    rw [if_neg (fun h => by rw [h.1, h.2] at hb; cases hb)] at hnk
    intro c hc
    rw [IntWalk.i64_in _ (by omega)] at hc
    obtain rfl : c = ((k + 1 : Nat) : Int) := by omega
    refine ⟨g - 1, by omega, k + 1, _, by omega, rfl, ?_⟩
    rw [hnk, hes]
    exact .nil
  ·have hd := of_decide_eq_false hd
   have hkl : k = l.length := by omega
   rw [hkl, List.take_of_length_le (Nat.le_refl _)] at hes
   show resX _ _ (.sl .no 1 (strL (namT l)))
   rw [hes]
   exact .inl (.inr (.inl ⟨rfl, 1, rfl⟩))
 | own t e es q0 q1 =>
  refine cnd_split (fun hd => ?_) (fun hd => ?_)
  ·have hd := of_decide_eq_true hd
   have k1 : k < l.length := by omega
   have hnk := namT_take k1
   have hol := strL_len (namT (l.take k))
   rw [hes] at hol
   have hol2 : (es : List (List AV)).length = (namT (l.take k)).length := hol
   refine ⟨k, _, rfl, prtL_at k1, ?_⟩
   refine vc_loop [5, 6] (fun g2 vals st' => ∃ (j : Nat) (b : Bool), j + g2 = (namT (l.take k)).length /\ vals = [.b b, .i j] /\ st' = st1 /\ b = (l[k].1 != 2 || memB ((namT (l.take k)).take j) l[k].2)) (namT (l.take k)).length rfl ⟨0, _, by omega, rfl, rfl, (Bool.or_false _).symm⟩ ?_
   rintro g2 vals st2 ⟨j, b, hj, rfl, rfl, hb⟩
   refine cnd_split (fun hd2 => ?_) (fun hd2 => ?_)
   ·have hd2 := of_decide_eq_true hd2
    have j1 : j < (namT (l.take k)).length := by omega
    have hat := strL_at j1
    rw [hes] at hat
    have hmt : memB ((namT (l.take k)).take (j + 1)) l[k].2 = (memB ((namT (l.take k)).take j) l[k].2 || decide ((namT (l.take k))[j] = l[k].2)) := by
     unfold memB
     rw [List.take_succ_eq_append_getElem j1, List.any_append]
     simp
    cases b with
    | true =>
     refine .x (by kernel_rfl) ?_
     intro c hc
     rw [IntWalk.i64_in _ (by omega)] at hc
     obtain rfl : c = ((j + 1 : Nat) : Int) := by omega
     exact ⟨g2 - 1, by omega, j + 1, true, by omega, rfl, rfl, by rw [hmt, <- Bool.or_assoc, <- hb]; rfl⟩
    | false =>
     refine .x (by kernel_rfl) ?_
     refine ⟨j, _, rfl, hat, ?_⟩
     refine ⟨k, _, rfl, prtL_at k1, ?_⟩
     intro t ht
     have ht : t = decide ((namT (l.take k))[j] = l[k].2) := by rw [Bool.eq_iff_iff, ht, decide_eq_true_eq]
     intro c hc
     rw [IntWalk.i64_in _ (by omega)] at hc
     obtain rfl : c = ((j + 1 : Nat) : Int) := by omega
     exact ⟨g2 - 1, by omega, j + 1, t, by omega, rfl, rfl, by rw [hmt, <- Bool.or_assoc, <- hb, ht]; rfl⟩
   ·have hd2 := of_decide_eq_false hd2
    have hjl : j = (namT (l.take k)).length := by first | omega | (simp at hol2; omega)
    rw [hjl, List.take_of_length_le (Nat.le_refl _)] at hb
    refine cnd_split (fun h3 => ?_) (fun h3 => ?_)
    ·rw [Bool.not_eq_true'] at h3
     rw [h3] at hb
     have hb := (Bool.or_eq_false_iff.1 hb.symm)
     rw [if_pos ⟨bne_eq_false_iff_eq.1 hb.1, hb.2⟩] at hnk
     refine ⟨k, _, rfl, prtL_at k1, ?_⟩
     refine Acc.app (n := 0) (i := ti9) (es := es) (.own _ _ _ q0 q1) (Nat.zero_le _) (List.cons_ne_nil _ _) ?_ ?_ (fun t9 e9 tk9 z0 z1 z2 z3 => ?_)
     ·show ((es : List (List AV)).length + 1) * 16 <= _; omega
     ·show (es : List (List AV)).length + 1 <= _; omega
     intro c hc
     rw [IntWalk.i64_in _ (by omega)] at hc
     obtain rfl : c = ((k + 1 : Nat) : Int) := by omega
     refine ⟨g - 1, by omega, k + 1, _, by omega, rfl, ?_⟩
     rw [hnk, <- strL_app, hes]
     exact .own _ _ _ (Nat.zero_le _) z1
    ·rw [Bool.not_eq_false'] at h3
     rw [h3] at hb
     rw [if_neg (fun h => by rw [h.1, h.2] at hb; cases hb)] at hnk
     intro c hc
     rw [IntWalk.i64_in _ (by omega)] at hc
     obtain rfl : c = ((k + 1 : Nat) : Int) := by omega
     refine ⟨g - 1, by omega, k + 1, _, by omega, rfl, ?_⟩
     rw [hnk, hes]
     exact (.own _ _ _ q0 q1)
  ·have hd := of_decide_eq_false hd
   have hkl : k = l.length := by omega
   rw [hkl, List.take_of_length_le (Nat.le_refl _)] at hes
   show resX _ _ (.sl .no 1 (strL (namT l)))
   rw [hes]
   exact .inl (.inl ⟨rfl, rfl⟩)
def cut60 (s : ByteArray) : ByteArray := s.extract 0 (if 60 < s.size then 60 else s.size)
theorem cut60_size (s : ByteArray) : (cut60 s).size <= 60 := by
 unfold cut60
 rw [ByteArray.size_extract]
 split <;> omega
def fewT (l : List Prt) : List Prt := (l.take 40).map fun p => (p.1, cut60 p.2)
theorem fewT_take {l : List Prt} {k : Nat} (h : k < l.length) (h2 : k < 40) : fewT (l.take (k + 1)) = fewT (l.take k) ++ [(l[k].1, cut60 l[k].2)] := by
 unfold fewT
 rw [List.take_take, List.take_take, Nat.min_eq_right (by omega), Nat.min_eq_right (by omega), List.take_succ_eq_append_getElem h, List.map_append]
 rfl
theorem fewT_len (l : List Prt) : (fewT l).length <= 40 := by unfold fewT; simp; omega
theorem fewT_sum (l : List Prt) : sumT (fewT l) <= 2400 := by
 have h := sumT_bound (l := fewT l) (b := 60) (fun p hp => by
  unfold fewT at hp
  obtain ⟨q, _, rfl⟩ := List.mem_map.1 hp
  exact cut60_size _)
 have := fewT_len l
 omega
theorem few31_p (l : List Prt) : APure Tryz.prog 125 [.sl .no 2 (prtL l)] (.sl .no 2 (prtL (fewT l))) [] := by
 have hmx : maxLen = 9223372036854775807 := rfl
 have el := prtL_len l
 refine APure.ofX rfl ?_
 refine ACalls.of_vc T_ok mixed Tryz.func125 rfl Tryz.call125 ?_
 refine vc_loop [3, 4] (fun g vals st' => ∃ (k : Nat) (a : AV), k + g = l.length /\ k <= 40 /\ vals = [a, .i k] /\ Acc 0 st'.tk 2 a (prtL (fewT (l.take k)))) l.length rfl ⟨0, _, by omega, by omega, rfl, .nil⟩ ?_
 rintro g vals st1 ⟨k, a, hk, hk4, rfl, hA⟩
 have hfl := prtL_len (fewT (l.take k))
 have hf2 := fewT_len (l.take k)
 generalize hes : prtL (fewT (l.take k)) = es at hA hfl
 cases hA with
 | nil =>
  refine cnd_split (fun hd => ?_) (fun hd => ?_)
  ·have hd := of_decide_eq_true hd
   have k1 : k < l.length := by omega
   refine cnd_split (fun hd2 => ?_) (fun hd2 => ?_)
   ·have hd2 : (k : Int) < 40 := of_decide_eq_true hd2
    refine .x (by kernel_rfl) ?_
    iterate 3 refine ⟨k, _, rfl, prtL_at k1, ?_⟩
    refine ⟨_, minI_at l[k].2.size 60, Nat.zero_le _, by split <;> omega, ?_⟩
    refine Acc.app (n := 0) (i := ti157) (es := []) .nil (Nat.zero_le _) (List.cons_ne_nil _ _) ?_ ?_ (fun t9 e9 tk9 z0 z1 z2 z3 => ?_)
    ·show (([] : List (List AV)).length + 1) * 24 <= _; omega
    ·show ([] : List (List AV)).length + 1 <= _; omega
    intro c hc
    rw [IntWalk.i64_in _ (by omega)] at hc
    obtain rfl : c = ((k + 1 : Nat) : Int) := by omega
    refine ⟨g - 1, by omega, k + 1, _, by omega, by omega, rfl, ?_⟩
    rw [fewT_take k1 (by omega), <- prtL_app, hes]
    exact .own _ _ _ (Nat.zero_le _) z1
   ·have hd2 : ¬ (k : Int) < 40 := of_decide_eq_false hd2
    have e : fewT l = fewT (l.take k) := by unfold fewT; rw [List.take_take, show min 40 k = 40 by omega]
    show resX _ _ (.sl .no 2 (prtL (fewT l)))
    rw [e, hes]
    exact .inl (.inr (.inl ⟨rfl, 2, rfl⟩))
  ·have hd := of_decide_eq_false hd
   rw [List.take_of_length_le (by omega)] at hes
   show resX _ _ (.sl .no 2 (prtL (fewT l)))
   rw [hes]
   exact .inl (.inr (.inl ⟨rfl, 2, rfl⟩))
 | own t e es q0 q1 =>
  refine cnd_split (fun hd => ?_) (fun hd => ?_)
  ·have hd := of_decide_eq_true hd
   have k1 : k < l.length := by omega
   refine cnd_split (fun hd2 => ?_) (fun hd2 => ?_)
   ·have hd2 : (k : Int) < 40 := of_decide_eq_true hd2
    refine .x (by kernel_rfl) ?_
    iterate 3 refine ⟨k, _, rfl, prtL_at k1, ?_⟩
    refine ⟨_, minI_at l[k].2.size 60, Nat.zero_le _, by split <;> omega, ?_⟩
    refine Acc.app (n := 0) (i := ti157) (es := es) (.own _ _ _ q0 q1) (Nat.zero_le _) (List.cons_ne_nil _ _) ?_ ?_ (fun t9 e9 tk9 z0 z1 z2 z3 => ?_)
    ·show ((es : List (List AV)).length + 1) * 24 <= _; omega
    ·show (es : List (List AV)).length + 1 <= _; omega
    intro c hc
    rw [IntWalk.i64_in _ (by omega)] at hc
    obtain rfl : c = ((k + 1 : Nat) : Int) := by omega
    refine ⟨g - 1, by omega, k + 1, _, by omega, by omega, rfl, ?_⟩
    rw [fewT_take k1 (by omega), <- prtL_app, hes]
    exact .own _ _ _ (Nat.zero_le _) z1
   ·have hd2 : ¬ (k : Int) < 40 := of_decide_eq_false hd2
    have e : fewT l = fewT (l.take k) := by unfold fewT; rw [List.take_take, show min 40 k = 40 by omega]
    show resX _ _ (.sl .no 2 (prtL (fewT l)))
    rw [e, hes]
    exact .inl (.inl ⟨rfl, rfl⟩)
  ·have hd := of_decide_eq_false hd
   rw [List.take_of_length_le (by omega)] at hes
   show resX _ _ (.sl .no 2 (prtL (fewT l)))
   rw [hes]
   exact .inl (.inl ⟨rfl, rfl⟩)
end
end Go.Proofs.YticbonkojpabnaaGreatDoor
