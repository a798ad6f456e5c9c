/- Templates: the document's names; the law's rows; the laws. No statement of its own. -/
import Derived.Test.YtfhodppaelfcfaaDoorTmE
set_option linter.unusedSimpArgs false
set_option linter.unusedVariables false
set_option maxRecDepth 100000
namespace Go.Proofs.YtfhodppaelfcfaaDoor
open Go.RowKit
section
attribute [local irreducible] vcApp
set_option maxHeartbeats 1000000 in
theorem names31_p (l : List Prt) (hl : l.length ≤ 1000000) : APure Tryd.prog 30 [.sl .no 2 (prtL l)] (.sl .no 1 (strL (namT l))) [] := by
  have hmx : maxLen = 9223372036854775807 := rfl
  have el := prtL_len l
  refine APure.ofX rfl ?_
  refine ACalls.of_vc T_ok mixed Tryd.func30 rfl Tryd.call30 ?_
  refine vc_loop [3, 4] (fun g vals st' => ∃ (k : Nat) (a : AV), k + g = l.length ∧ vals = [a, .i k] ∧ Acc 0 st'.tk 1 a (strL (namT (l.take k)))) l.length rfl ⟨0, _, by omega, rfl, .nil⟩ ?_
  rintro g vals st1 ⟨k, a, hk, rfl, hA⟩
  have hnl := namT_len l k (by omega)
  generalize hes : strL (namT (l.take k)) = es at hA
  cases hA with
  | nil =>
    refine cnd_split (fun hd => ?_) (fun hd => ?_)
    · have hd := of_decide_eq_true hd
      have k1 : k < l.length := by omega
      have hnk := namT_take k1
      have hol := strL_len (namT (l.take k))
      rw [hes] at hol
      have hol2 : ([] : List (List AV)).length = (namT (l.take k)).length := hol
      refine ⟨k, _, rfl, prtL_at k1, ?_⟩
      refine vc_loop [5, 6] (fun g2 vals st' => ∃ (j : Nat) (b : Bool), j + g2 = (namT (l.take k)).length ∧ vals = [.b b, .i j] ∧ st' = st1 ∧ b = (l[k].1 != 2 || memB ((namT (l.take k)).take j) l[k].2)) (namT (l.take k)).length rfl ⟨0, _, by omega, rfl, rfl, (Bool.or_false _).symm⟩ ?_
      rintro g2 vals st2 ⟨j, b, hj, rfl, rfl, hb⟩
      have hjl : j = (namT (l.take k)).length := by first | omega | (simp at hol2; omega)
      rw [hjl, List.take_of_length_le (Nat.le_refl _)] at hb
      refine cnd_split (fun h3 => ?_) (fun h3 => ?_)
      · rw [Bool.not_eq_true'] at h3
        rw [h3] at hb
        have hb := (Bool.or_eq_false_iff.1 hb.symm)
        rw [if_pos ⟨bne_eq_false_iff_eq.1 hb.1, hb.2⟩] at hnk
        refine ⟨k, _, rfl, prtL_at k1, ?_⟩
        refine Acc.app (n := 0) (i := ti9) (es := []) .nil (Nat.zero_le _) (List.cons_ne_nil _ _) ?_ ?_ (fun t9 e9 tk9 z0 z1 z2 z3 => ?_)
        · show (([] : List (List AV)).length + 1) * 16 ≤ _; omega
        · show ([] : List (List AV)).length + 1 ≤ _; omega
        intro c hc
        rw [IntWalk.i64_in _ (by omega)] at hc
        obtain rfl : c = ((k + 1 : Nat) : Int) := by omega
        refine ⟨g - 1, by omega, k + 1, _, by omega, rfl, ?_⟩
        rw [hnk, ← strL_app, hes]
        exact .own _ _ _ (Nat.zero_le _) z1
      · rw [Bool.not_eq_false'] at h3
        rw [h3] at hb
        rw [if_neg (fun h => by rw [h.1, h.2] at hb; cases hb)] at hnk
        intro c hc
        rw [IntWalk.i64_in _ (by omega)] at hc
        obtain rfl : c = ((k + 1 : Nat) : Int) := by omega
        refine ⟨g - 1, by omega, k + 1, _, by omega, rfl, ?_⟩
        rw [hnk, hes]
        exact .nil
    · have hd := of_decide_eq_false hd
      have hkl : k = l.length := by omega
      rw [hkl, List.take_of_length_le (Nat.le_refl _)] at hes
      show resX _ _ (.sl .no 1 (strL (namT l)))
      rw [hes]
      exact .inl (.inr (.inl ⟨rfl, 1, rfl⟩))
  | own t e es q0 q1 =>
    refine cnd_split (fun hd => ?_) (fun hd => ?_)
    · have hd := of_decide_eq_true hd
      have k1 : k < l.length := by omega
      have hnk := namT_take k1
      have hol := strL_len (namT (l.take k))
      rw [hes] at hol
      have hol2 : (es : List (List AV)).length = (namT (l.take k)).length := hol
      refine ⟨k, _, rfl, prtL_at k1, ?_⟩
      refine vc_loop [5, 6] (fun g2 vals st' => ∃ (j : Nat) (b : Bool), j + g2 = (namT (l.take k)).length ∧ vals = [.b b, .i j] ∧ st' = st1 ∧ b = (l[k].1 != 2 || memB ((namT (l.take k)).take j) l[k].2)) (namT (l.take k)).length rfl ⟨0, _, by omega, rfl, rfl, (Bool.or_false _).symm⟩ ?_
      rintro g2 vals st2 ⟨j, b, hj, rfl, rfl, hb⟩
      refine cnd_split (fun hd2 => ?_) (fun hd2 => ?_)
      · have hd2 := of_decide_eq_true hd2
        have j1 : j < (namT (l.take k)).length := by omega
        have hat := strL_at j1
        rw [hes] at hat
        have hmt : memB ((namT (l.take k)).take (j + 1)) l[k].2 = (memB ((namT (l.take k)).take j) l[k].2 || decide ((namT (l.take k))[j] = l[k].2)) := by
          unfold memB
          rw [List.take_succ_eq_append_getElem j1, List.any_append]
          simp
        cases b with
        | true =>
          refine .x (by kernel_rfl) ?_
          intro c hc
          rw [IntWalk.i64_in _ (by omega)] at hc
          obtain rfl : c = ((j + 1 : Nat) : Int) := by omega
          exact ⟨g2 - 1, by omega, j + 1, true, by omega, rfl, rfl, by rw [hmt, ← Bool.or_assoc, ← hb]; rfl⟩
        | false =>
          refine .x (by kernel_rfl) ?_
          refine ⟨j, _, rfl, hat, ?_⟩
          refine ⟨k, _, rfl, prtL_at k1, ?_⟩
          intro t ht
          have ht : t = decide ((namT (l.take k))[j] = l[k].2) := by rw [Bool.eq_iff_iff, ht, decide_eq_true_eq]
          intro c hc
          rw [IntWalk.i64_in _ (by omega)] at hc
          obtain rfl : c = ((j + 1 : Nat) : Int) := by omega
          exact ⟨g2 - 1, by omega, j + 1, t, by omega, rfl, rfl, by rw [hmt, ← Bool.or_assoc, ← hb, ht]; rfl⟩
      · have hd2 := of_decide_eq_false hd2
        have hjl : j = (namT (l.take k)).length := by first | omega | (simp at hol2; omega)
        rw [hjl, List.take_of_length_le (Nat.le_refl _)] at hb
        refine cnd_split (fun h3 => ?_) (fun h3 => ?_)
        · rw [Bool.not_eq_true'] at h3
          rw [h3] at hb
          have hb := (Bool.or_eq_false_iff.1 hb.symm)
          rw [if_pos ⟨bne_eq_false_iff_eq.1 hb.1, hb.2⟩] at hnk
          refine ⟨k, _, rfl, prtL_at k1, ?_⟩
          refine Acc.app (n := 0) (i := ti9) (es := es) (.own _ _ _ q0 q1) (Nat.zero_le _) (List.cons_ne_nil _ _) ?_ ?_ (fun t9 e9 tk9 z0 z1 z2 z3 => ?_)
          · show ((es : List (List AV)).length + 1) * 16 ≤ _; omega
          · show (es : List (List AV)).length + 1 ≤ _; omega
          intro c hc
          rw [IntWalk.i64_in _ (by omega)] at hc
          obtain rfl : c = ((k + 1 : Nat) : Int) := by omega
          refine ⟨g - 1, by omega, k + 1, _, by omega, rfl, ?_⟩
          rw [hnk, ← strL_app, hes]
          exact .own _ _ _ (Nat.zero_le _) z1
        · rw [Bool.not_eq_false'] at h3
          rw [h3] at hb
          rw [if_neg (fun h => by rw [h.1, h.2] at hb; cases hb)] at hnk
          intro c hc
          rw [IntWalk.i64_in _ (by omega)] at hc
          obtain rfl : c = ((k + 1 : Nat) : Int) := by omega
          refine ⟨g - 1, by omega, k + 1, _, by omega, rfl, ?_⟩
          rw [hnk, hes]
          exact (.own _ _ _ q0 q1)
    · have hd := of_decide_eq_false hd
      have hkl : k = l.length := by omega
      rw [hkl, List.take_of_length_le (Nat.le_refl _)] at hes
      show resX _ _ (.sl .no 1 (strL (namT l)))
      rw [hes]
      exact .inl (.inl ⟨rfl, rfl⟩)
def cut60 (s : ByteArray) : ByteArray := s.extract 0 (if 60 < s.size then 60 else s.size)
theorem cut60_size (s : ByteArray) : (cut60 s).size ≤ 60 := by
  unfold cut60
  rw [ByteArray.size_extract]
  split <;> omega
def fewT (l : List Prt) : List Prt := (l.take 40).map fun p => (p.1, cut60 p.2)
theorem fewT_take {l : List Prt} {k : Nat} (h : k < l.length) (h2 : k < 40) : fewT (l.take (k + 1)) = fewT (l.take k) ++ [(l[k].1, cut60 l[k].2)] := by
  unfold fewT
  rw [List.take_take, List.take_take, Nat.min_eq_right (by omega), Nat.min_eq_right (by omega), List.take_succ_eq_append_getElem h, List.map_append]
  rfl
theorem fewT_len (l : List Prt) : (fewT l).length ≤ 40 := by unfold fewT; simp; omega
theorem fewT_sum (l : List Prt) : sumT (fewT l) ≤ 2400 := by
  have h := sumT_bound (l := fewT l) (b := 60) (fun p hp => by
    unfold fewT at hp
    obtain ⟨q, _, rfl⟩ := List.mem_map.1 hp
    exact cut60_size _)
  have := fewT_len l
  omega
theorem few31_p (l : List Prt) : APure Tryd.prog 32 [.sl .no 2 (prtL l)] (.sl .no 2 (prtL (fewT l))) [] := by
  have hmx : maxLen = 9223372036854775807 := rfl
  have el := prtL_len l
  refine APure.ofX rfl ?_
  refine ACalls.of_vc T_ok mixed Tryd.func32 rfl Tryd.call32 ?_
  refine vc_loop [3, 4] (fun g vals st' => ∃ (k : Nat) (a : AV), k + g = l.length ∧ k ≤ 40 ∧ vals = [a, .i k] ∧ Acc 0 st'.tk 2 a (prtL (fewT (l.take k)))) l.length rfl ⟨0, _, by omega, by omega, rfl, .nil⟩ ?_
  rintro g vals st1 ⟨k, a, hk, hk4, rfl, hA⟩
  have hfl := prtL_len (fewT (l.take k))
  have hf2 := fewT_len (l.take k)
  generalize hes : prtL (fewT (l.take k)) = es at hA hfl
  cases hA with
  | nil =>
    refine cnd_split (fun hd => ?_) (fun hd => ?_)
    · have hd := of_decide_eq_true hd
      have k1 : k < l.length := by omega
      refine cnd_split (fun hd2 => ?_) (fun hd2 => ?_)
      · have hd2 : (k : Int) < 40 := of_decide_eq_true hd2
        refine .x (by kernel_rfl) ?_
        refine ⟨k, _, rfl, prtL_at k1, ?_⟩
        refine ⟨k, _, rfl, prtL_at k1, ?_⟩
        refine ⟨k, _, rfl, prtL_at k1, ?_⟩
        refine ⟨_, minI_at l[k].2.size 60, Nat.zero_le _, by split <;> omega, ?_⟩
        refine Acc.app (n := 0) (i := ti120) (es := []) .nil (Nat.zero_le _) (List.cons_ne_nil _ _) ?_ ?_ (fun t9 e9 tk9 z0 z1 z2 z3 => ?_)
        · show (([] : List (List AV)).length + 1) * 24 ≤ _; omega
        · show ([] : List (List AV)).length + 1 ≤ _; omega
        intro c hc
        rw [IntWalk.i64_in _ (by omega)] at hc
        obtain rfl : c = ((k + 1 : Nat) : Int) := by omega
        refine ⟨g - 1, by omega, k + 1, _, by omega, by omega, rfl, ?_⟩
        rw [fewT_take k1 (by omega), ← prtL_app, hes]
        exact .own _ _ _ (Nat.zero_le _) z1
      · have hd2 : ¬ (k : Int) < 40 := of_decide_eq_false hd2
        have e : fewT l = fewT (l.take k) := by unfold fewT; rw [List.take_take, show min 40 k = 40 by omega]
        show resX _ _ (.sl .no 2 (prtL (fewT l)))
        rw [e, hes]
        exact .inl (.inr (.inl ⟨rfl, 2, rfl⟩))
    · have hd := of_decide_eq_false hd
      rw [List.take_of_length_le (by omega)] at hes
      show resX _ _ (.sl .no 2 (prtL (fewT l)))
      rw [hes]
      exact .inl (.inr (.inl ⟨rfl, 2, rfl⟩))
  | own t e es q0 q1 =>
    refine cnd_split (fun hd => ?_) (fun hd => ?_)
    · have hd := of_decide_eq_true hd
      have k1 : k < l.length := by omega
      refine cnd_split (fun hd2 => ?_) (fun hd2 => ?_)
      · have hd2 : (k : Int) < 40 := of_decide_eq_true hd2
        refine .x (by kernel_rfl) ?_
        refine ⟨k, _, rfl, prtL_at k1, ?_⟩
        refine ⟨k, _, rfl, prtL_at k1, ?_⟩
        refine ⟨k, _, rfl, prtL_at k1, ?_⟩
        refine ⟨_, minI_at l[k].2.size 60, Nat.zero_le _, by split <;> omega, ?_⟩
        refine Acc.app (n := 0) (i := ti120) (es := es) (.own _ _ _ q0 q1) (Nat.zero_le _) (List.cons_ne_nil _ _) ?_ ?_ (fun t9 e9 tk9 z0 z1 z2 z3 => ?_)
        · show ((es : List (List AV)).length + 1) * 24 ≤ _; omega
        · show (es : List (List AV)).length + 1 ≤ _; omega
        intro c hc
        rw [IntWalk.i64_in _ (by omega)] at hc
        obtain rfl : c = ((k + 1 : Nat) : Int) := by omega
        refine ⟨g - 1, by omega, k + 1, _, by omega, by omega, rfl, ?_⟩
        rw [fewT_take k1 (by omega), ← prtL_app, hes]
        exact .own _ _ _ (Nat.zero_le _) z1
      · have hd2 : ¬ (k : Int) < 40 := of_decide_eq_false hd2
        have e : fewT l = fewT (l.take k) := by unfold fewT; rw [List.take_take, show min 40 k = 40 by omega]
        show resX _ _ (.sl .no 2 (prtL (fewT l)))
        rw [e, hes]
        exact .inl (.inl ⟨rfl, rfl⟩)
    · have hd := of_decide_eq_false hd
      rw [List.take_of_length_le (by omega)] at hes
      show resX _ _ (.sl .no 2 (prtL (fewT l)))
      rw [hes]
      exact .inl (.inl ⟨rfl, rfl⟩)
end
def awT : ByteArray := ⟨#[97, 36, 36, 36, 123, 104, 111, 115, 116, 125, 45, 36, 123, 64, 88, 45, 65, 125]⟩
def awP : List Prt := [(1, ⟨#[97, 36]⟩), (2, ⟨#[104, 111, 115, 116]⟩), (1, ⟨#[45]⟩), (3, ⟨#[88, 45, 65]⟩)]
theorem aw31 : parseT awT = (awP, 0) := by decide +kernel
theorem awake31_p : APure Tryd.prog 24 [] (.b true) [] := by
  have h1 := tparse_p awT (by decide)
  rw [aw31] at h1
  have h2 := same31_p awP awP (by decide) (by decide)
  rw [decide_eq_true rfl] at h2
  refine APure.of rfl (ACalls.of_vc T_ok mixed Tryd.func24 rfl Tryd.call24 ?_)
  refine .p rfl h1 ?_
  refine .p rfl h2 ?_
  rfl
theorem tmplReads_p (s : ByteArray) : APure Tryd.prog 6 [.s s] (.b true) [] := by
  refine APure.of rfl (ACalls.of_vc T_ok mixed Tryd.func6 rfl Tryd.call6 ?_)
  refine .p rfl awake31_p ?_
  refine ⟨_, minI_at s.size 300, Nat.zero_le _, by split <;> omega, ?_⟩
  have b3 : (s.extract 0 (if 300 < s.size then 300 else s.size)).size ≤ 300 := by rw [ByteArray.size_extract]; split <;> omega
  generalize s.extract 0 (if 300 < s.size then 300 else s.size) = t at *
  have h1 := tparse_p t (by omega)
  have h2 := parse31_p t (by omega)
  have hb := parseT_len t
  have hback := fun h => textT_back (s := t) h
  generalize parseT t = Z at *
  obtain ⟨l, e⟩ := Z
  have hb1 : l.length ≤ 32 := hb.1
  have hb2 : sumT l ≤ t.size := hb.2.2
  have h3 := same31_p l l (by omega) (by omega)
  rw [decide_eq_true rfl] at h3
  have h4 := names_p l (by omega)
  have h5 := names31_p l (by omega)
  have hnl := namT_len l l.length (Nat.le_refl _)
  rw [List.take_of_length_le (Nat.le_refl _)] at hnl
  have h6 := same6_p (namT l) (namT l) (by omega) (by omega)
  rw [decide_eq_true rfl] at h6
  have h7 := text31_p l (by omega) (by omega)
  have hback : e = 0 → textT l = (t, 0) := hback
  generalize textT l = W at *
  obtain ⟨w1, w2⟩ := W
  refine .p rfl h1 ?_
  refine .p rfl h2 ?_
  refine .p rfl h3 ?_
  refine cnd_split (fun h => ?_) (fun h => ?_)
  case refine_1 => exact absurd rfl (bne_iff_ne.1 h)
  refine .p rfl h4 ?_
  refine .p rfl h5 ?_
  refine .p rfl h6 ?_
  refine .p rfl h7 ?_
  refine cnd_split (fun h => ?_) (fun h => ?_)
  · exact retb rfl
  · have h0 : e = 0 := bne_eq_false_iff_eq.1 h
    have hw := hback h0
    cases hw
    intro q hq
    exact retb (hq.2 rfl)
theorem tmplWrites_p (l : List Prt) : APure Tryd.prog 7 [.sl .no 2 (prtL l)] (.b true) [] := by
  have hb1 := fewT_len l
  have hb2 := fewT_sum l
  have h0 := few31_p l
  generalize fewT l = m at *
  have h1 := text31_p m (by omega) (by omega)
  have h2 := text31R_p m (by omega) (by omega)
  have hws := wrL_size m
  have hT : textT m = if (parseT (wrL m)).2 ≠ 0 ∨ (parseT (wrL m)).1 ≠ m then (⟨#[]⟩, 2) else (wrL m, 0) := rfl
  have h4 := names_p m (by omega)
  have h5 := names31_p m (by omega)
  have hnl := namT_len m m.length (Nat.le_refl _)
  rw [List.take_of_length_le (Nat.le_refl _)] at hnl
  have h6 := same6_p (namT m) (namT m) (by omega) (by omega)
  rw [decide_eq_true rfl] at h6
  have hz : (textT m).1.size ≤ 10000 := by
    rw [hT]
    split
    · exact Nat.zero_le _
    · show (wrL m).size ≤ _; omega
  have h3 := tparse_p (textT m).1 (by omega)
  have hback : (textT m).2 = 0 → parseT (textT m).1 = (m, 0) := fun h => by
    rw [hT] at h ⊢
    split at h
    · cases h
    · rename_i hn
      rw [if_neg hn]
      have e2 : (parseT (wrL m)).2 = 0 := Decidable.byContradiction fun hc => hn (.inl hc)
      have e1 : (parseT (wrL m)).1 = m := Decidable.byContradiction fun hc => hn (.inr hc)
      show parseT (wrL m) = _
      exact Prod.ext e1 e2
  generalize textT m = W at *
  obtain ⟨w1, w2⟩ := W
  have hback : w2 = 0 → parseT w1 = (m, 0) := hback
  have h3 : APure Tryd.prog 25 [.s w1] (.tup [.sl .no 2 (prtL (parseT w1).1), .i (parseT w1).2]) [] := h3
  generalize parseT w1 = P at h3 hback
  obtain ⟨p1, p2⟩ := P
  have h7 := fun k : List Prt => same31_p m k
  refine APure.of rfl (ACalls.of_vc T_ok mixed Tryd.func7 rfl Tryd.call7 ?_)
  refine .p rfl awake31_p ?_
  refine .p rfl h0 ?_
  refine .p rfl h1 ?_
  refine .p rfl h2 ?_
  refine .p rfl h3 ?_
  intro q hq
  obtain rfl : q = true := hq.2 rfl
  refine cnd_split (fun h => ?_) (fun h => ?_)
  case refine_2 => exact absurd rfl (beq_eq_false_iff_ne.1 h)
  refine cnd_split (fun h => ?_) (fun h => ?_)
  · refine .p rfl h4 ?_
    refine .p rfl h5 ?_
    refine .p rfl h6 ?_
    exact retb rfl
  · have e0 : w2 = 0 := bne_eq_false_iff_eq.1 h
    have hk := hback e0
    have e1 : p1 = m := congrArg Prod.fst hk
    have e2 : p2 = 0 := congrArg Prod.snd hk
    clear hback hk
    subst p1 p2
    have h8 := h7 m (by omega) (by omega)
    rw [decide_eq_true rfl] at h8
    refine .p rfl h8 ?_
    refine .p rfl h4 ?_
    refine .p rfl h5 ?_
    refine .p rfl h6 ?_
    exact retb rfl
end Go.Proofs.YtfhodppaelfcfaaDoor
