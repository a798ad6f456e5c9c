/- Rules made instructions: the program's Compile; rules cut short. No statement of its own. -/
import Derived.Test.YtgkhnllgmfjhpaaGreatDoorCn
set_option linter.unusedSimpArgs false
set_option linter.unusedVariables false
set_option maxRecDepth 100000
namespace Go.Proofs.YtgkhnllgmfjhpaaGreatDoor
open Go.RowKit
theorem Acc.argV {n : Nat} {tk : List Nat} {sz : Nat} {a : AV} {es : List (List AV)} (h : Acc n tk sz a es) {es' : List (List AV)} (he : es = es') : argV a (.sl .no sz es') := by
  subst he
  cases h with
  | nil => exact .inr (.inr ⟨rfl, sz, rfl⟩)
  | own t e es hn ht => exact .inr (.inl rfl)
theorem Acc.resC {n : Nat} {tk : List Nat} {sz : Nat} {a : AV} {es : List (List AV)} {st : St} (h : Acc n tk sz a es) {es' : List (List AV)} (he : es = es') : resC st a (.sl .no sz es') := by
  subst he
  cases h with
  | nil => exact .inr (.inl ⟨rfl, sz, rfl⟩)
  | own t e es hn ht => exact .inl ⟨rfl, rfl⟩
section
attribute [local irreducible] vcApp
theorem few35_p (l : List Rl) : APure Tryz.prog 6 [.sl .no 8 (rlL l)] (.sl .no 8 (rlL ((l.take 70).map fewR))) [] := by
  have hmx : maxLen = 9223372036854775807 := rfl
  have el := rlL_len l
  refine APure.ofX rfl ?_
  refine ACalls.of_vc T_ok mixed Tryz.func6 rfl Tryz.call6 ?_
  refine vc_loop [4, 3] (fun g vals st' => ∃ (k : Nat) (a' : AV), k + g = (l.take 70).length ∧ vals = [.i k, a'] ∧ Acc 0 st'.tk 8 a' (rlL ((l.take k).map fewR))) (l.take 70).length rfl ⟨0, .nilS, by omega, rfl, .nil⟩ ?_
  rintro g vals st' ⟨k, a', hk, rfl, hA⟩
  have h70 : (l.take 70).length = min 70 l.length := List.length_take
  have ee : ∀ k1 : k < l.length, (l.take (k + 1)).map fewR = (l.take k).map fewR ++ [fewR l[k]] := fun k1 => by rw [List.take_succ_eq_append_getElem k1, List.map_append]; rfl
  have fin : (l.take k).length = (l.take 70).length → (l.take k).map fewR = (l.take 70).map fewR := fun e => by
    congr 1
    rw [List.length_take] at e
    by_cases hc : l.length ≤ 70
    · rw [List.take_of_length_le (by omega), List.take_of_length_le (by omega)]
    · rw [show k = 70 by omega]
  have hlk : (l.take k).length = min k l.length := List.length_take
  rcases hA.form with rfl | ⟨t, e, rfl⟩
  · refine cnd_split (fun hd => ?_) (fun hd => ?_)
    · have hd := of_decide_eq_true hd
      have k1 : k < l.length := by omega
      refine cnd_split (fun h7 => ?_) (fun h7 => ?_)
      · have h7 := of_decide_eq_true h7
        refine ⟨k, _, rfl, rlL_at k1, ?_⟩
        refine .p rfl (few32_p l[k]) ?_
        refine Acc.app (i := ti37) hA (Nat.zero_le _) (List.cons_ne_nil _ _) ?_ ?_ (fun t1 e1 tk1 q0 q1 q2 q3 => ?_)
        · show ((rlL _).length + 1) * 112 ≤ _; rw [rlL_len, List.length_map]; omega
        · show (rlL _).length + 1 ≤ _; rw [rlL_len, List.length_map]; omega
        intro c hc
        rw [IntWalk.i64_in _ (by omega)] at hc
        obtain rfl : c = ((k + 1 : Nat) : Int) := by omega
        refine ⟨g - 1, by omega, k + 1, _, by omega, rfl, ?_⟩
        rw [ee k1, ← rlL_snoc]
        exact .own _ _ _ q0 q1
      · have h7 := of_decide_eq_false h7
        exact .inl (hA.resC (congrArg rlL (fin (by omega))))
    · have hd := of_decide_eq_false hd
      exact .inl (hA.resC (congrArg rlL (fin (by omega))))
  · refine cnd_split (fun hd => ?_) (fun hd => ?_)
    · have hd := of_decide_eq_true hd
      have k1 : k < l.length := by omega
      refine cnd_split (fun h7 => ?_) (fun h7 => ?_)
      · have h7 := of_decide_eq_true h7
        refine ⟨k, _, rfl, rlL_at k1, ?_⟩
        refine .p rfl (few32_p l[k]) ?_
        refine Acc.app (i := ti37) hA (Nat.zero_le _) (List.cons_ne_nil _ _) ?_ ?_ (fun t1 e1 tk1 q0 q1 q2 q3 => ?_)
        · show ((rlL _).length + 1) * 112 ≤ _; rw [rlL_len, List.length_map]; omega
        · show (rlL _).length + 1 ≤ _; rw [rlL_len, List.length_map]; omega
        intro c hc
        rw [IntWalk.i64_in _ (by omega)] at hc
        obtain rfl : c = ((k + 1 : Nat) : Int) := by omega
        refine ⟨g - 1, by omega, k + 1, _, by omega, rfl, ?_⟩
        rw [ee k1, ← rlL_snoc]
        exact .own _ _ _ q0 q1
      · have h7 := of_decide_eq_false h7
        exact .inl (hA.resC (congrArg rlL (fin (by omega))))
    · have hd := of_decide_eq_false hd
      exact .inl (hA.resC (congrArg rlL (fin (by omega))))
theorem compile_p (sd : Int) (l : List Rl) (hl : l.length ≤ 1000) (hr : ∀ r ∈ l, r.Ok) : APure Tryz.prog 13 [.i sd, .sl .no 8 (rlL l)] (.tup [.sl .no 5 (opL (compW sd l).1), .i (compW sd l).2]) [] := by
  have hmx : maxLen = 9223372036854775807 := rfl
  have el := rlL_len l
  have qc := check35_p l (by omega) hr
  obtain ⟨ce, hce⟩ : ∃ ce, (checkL l).2 = ce := ⟨_, rfl⟩
  rw [hce] at qc
  generalize (checkL l).1 = ci at qc
  refine APure.ofX rfl ?_
  by_cases hs : sd = 1 ∨ sd = 2
  · have hsd : ¬ (sd ≠ 1 ∧ sd ≠ 2) := by omega
    rcases hs with rfl | rfl
    · refine ACalls.of_vc T_ok mixed Tryz.func13 rfl Tryz.call13 ?_
      refine .p rfl qc ?_
      refine cnd_split (fun h1 => ?_) (fun h1 => ?_)
      · have h1 : ce ≠ 0 := bne_iff_ne.1 h1
        unfold compW
        rw [if_neg hsd, if_pos (by rw [hce]; exact h1), hce]
        exact .inr ⟨_, _, rfl, rfl, .inr (.inl ⟨rfl, 5, rfl⟩), .inl ⟨rfl, rfl⟩, trivial⟩
      have h1 : ce = 0 := bne_eq_false_iff_eq.1 h1
      have hcw : compW 1 l = (allW (sideL 1 l), 0) := by
        unfold compW
        rw [if_neg hsd, if_neg (by rw [hce]; exact fun h => h h1)]
      rw [hcw]
      obtain ⟨hz, h64⟩ := checkL_ok (hce.trans h1)
      have hsl := sideL_len 1 l
      refine vc_loop [28, 8] (fun g vals st' => ∃ (k : Nat) (a' : AV), k + g = l.length ∧ vals = [.i k, a'] ∧ Acc 0 st'.tk 8 a' (rlL (sideL 1 (l.take k)))) l.length rfl ⟨0, .nilS, by omega, rfl, .nil⟩ ?_
      rintro g vals st' ⟨k, a', hk, rfl, hA⟩
      have hsk : (sideL 1 (l.take k)).length ≤ 1000 := Nat.le_trans (sideL_len _ _) (by rw [List.length_take]; omega)
      have fin : k = l.length → sideL 1 (l.take k) = sideL 1 l := fun e => by rw [e, List.take_of_length_le (Nat.le_refl _)]
      have es0 : ∀ k1 : k < l.length, sideL 1 (l.take (k + 1)) = sideL 1 (l.take k) ++ (if l[k].sd = 1 then [l[k]] else []) := fun k1 => sideL_take k1
      rcases hA.form with rfl | ⟨t, e, rfl⟩
      · refine cnd_split (fun hd => ?_) (fun hd => ?_)
        · have hd := of_decide_eq_true hd
          have k1 : k < l.length := by omega
          have es := es0 k1
          refine ⟨k, _, rfl, rlL_at k1, ?_⟩
          refine ⟨_, last_at _ _, ?_⟩
          refine ⟨_, last_upd _ _ _, ?_⟩
          refine cnd_split (fun h2 => ?_) (fun h2 => ?_)
          · rw [if_pos (show l[k].sd = 1 from beq_iff_eq.1 h2)] at es
            refine ⟨_, last_upd _ _ _, ?_⟩
            refine Acc.app (i := ti37) hA (Nat.zero_le _) (List.cons_ne_nil _ _) ?_ ?_ (fun t1 e1 tk1 q0 q1 q2 q3 => ?_)
            · show ((rlL _).length + 1) * 112 ≤ _; rw [rlL_len]; omega
            · show (rlL _).length + 1 ≤ _; rw [rlL_len]; omega
            intro c hc
            rw [IntWalk.i64_in _ (by omega)] at hc
            obtain rfl : c = ((k + 1 : Nat) : Int) := by omega
            refine ⟨g - 1, by omega, k + 1, _, by omega, rfl, ?_⟩
            rw [es, ← rlL_snoc]
            exact .own _ _ _ q0 q1
          · rw [if_neg (show ¬ l[k].sd = 1 from beq_eq_false_iff_ne.1 h2), List.append_nil] at es
            intro c hc
            rw [IntWalk.i64_in _ (by omega)] at hc
            obtain rfl : c = ((k + 1 : Nat) : Int) := by omega
            exact ⟨g - 1, by omega, k + 1, _, by omega, rfl, by rw [es]; exact hA⟩
        · have hd := of_decide_eq_false hd
          have fe := congrArg rlL (fin (by omega))
          have haw := allW_len _ _ (Nat.le_refl (sideL 1 l).length)
          refine .s (ACalls.weak (args' := [.ptr st'.heap.length 0, .sl .no 8 (rlL (sideL 1 l))]) ⟨.inl rfl, hA.argV fe, trivial⟩ (all36_a (n := st'.tk.length) (done := []) (sideL 1 l) (last_at _ _) .nil (Nat.le_refl _) (by simp; omega) (by omega) (fun q hq => hr _ (sideL_mem hq)) (fun q hq => hz _ (sideL_mem hq)) (fun st3 a3 m3 hc3 hA3 => ?_)))
          refine ⟨_, hc3, ?_⟩
          rcases hA3.form with rfl | ⟨t3, e3, rfl⟩
          · exact .inr ⟨_, _, rfl, rfl, hA3.resC rfl, .inl ⟨rfl, rfl⟩, trivial⟩
          · exact .inr ⟨_, _, rfl, rfl, hA3.resC rfl, .inl ⟨rfl, rfl⟩, trivial⟩
      · refine cnd_split (fun hd => ?_) (fun hd => ?_)
        · have hd := of_decide_eq_true hd
          have k1 : k < l.length := by omega
          have es := es0 k1
          refine ⟨k, _, rfl, rlL_at k1, ?_⟩
          refine ⟨_, last_at _ _, ?_⟩
          refine ⟨_, last_upd _ _ _, ?_⟩
          refine cnd_split (fun h2 => ?_) (fun h2 => ?_)
          · rw [if_pos (show l[k].sd = 1 from beq_iff_eq.1 h2)] at es
            refine ⟨_, last_upd _ _ _, ?_⟩
            refine Acc.app (i := ti37) hA (Nat.zero_le _) (List.cons_ne_nil _ _) ?_ ?_ (fun t1 e1 tk1 q0 q1 q2 q3 => ?_)
            · show ((rlL _).length + 1) * 112 ≤ _; rw [rlL_len]; omega
            · show (rlL _).length + 1 ≤ _; rw [rlL_len]; omega
            intro c hc
            rw [IntWalk.i64_in _ (by omega)] at hc
            obtain rfl : c = ((k + 1 : Nat) : Int) := by omega
            refine ⟨g - 1, by omega, k + 1, _, by omega, rfl, ?_⟩
            rw [es, ← rlL_snoc]
            exact .own _ _ _ q0 q1
          · rw [if_neg (show ¬ l[k].sd = 1 from beq_eq_false_iff_ne.1 h2), List.append_nil] at es
            intro c hc
            rw [IntWalk.i64_in _ (by omega)] at hc
            obtain rfl : c = ((k + 1 : Nat) : Int) := by omega
            exact ⟨g - 1, by omega, k + 1, _, by omega, rfl, by rw [es]; exact hA⟩
        · have hd := of_decide_eq_false hd
          have fe := congrArg rlL (fin (by omega))
          have haw := allW_len _ _ (Nat.le_refl (sideL 1 l).length)
          refine .s (ACalls.weak (args' := [.ptr st'.heap.length 0, .sl .no 8 (rlL (sideL 1 l))]) ⟨.inl rfl, hA.argV fe, trivial⟩ (all36_a (n := st'.tk.length) (done := []) (sideL 1 l) (last_at _ _) .nil (Nat.le_refl _) (by simp; omega) (by omega) (fun q hq => hr _ (sideL_mem hq)) (fun q hq => hz _ (sideL_mem hq)) (fun st3 a3 m3 hc3 hA3 => ?_)))
          refine ⟨_, hc3, ?_⟩
          rcases hA3.form with rfl | ⟨t3, e3, rfl⟩
          · exact .inr ⟨_, _, rfl, rfl, hA3.resC rfl, .inl ⟨rfl, rfl⟩, trivial⟩
          · exact .inr ⟨_, _, rfl, rfl, hA3.resC rfl, .inl ⟨rfl, rfl⟩, trivial⟩
    · refine ACalls.of_vc T_ok mixed Tryz.func13 rfl Tryz.call13 ?_
      refine .p rfl qc ?_
      refine cnd_split (fun h1 => ?_) (fun h1 => ?_)
      · have h1 : ce ≠ 0 := bne_iff_ne.1 h1
        unfold compW
        rw [if_neg hsd, if_pos (by rw [hce]; exact h1), hce]
        exact .inr ⟨_, _, rfl, rfl, .inr (.inl ⟨rfl, 5, rfl⟩), .inl ⟨rfl, rfl⟩, trivial⟩
      have h1 : ce = 0 := bne_eq_false_iff_eq.1 h1
      have hcw : compW 2 l = (allW (sideL 2 l), 0) := by
        unfold compW
        rw [if_neg hsd, if_neg (by rw [hce]; exact fun h => h h1)]
      rw [hcw]
      obtain ⟨hz, h64⟩ := checkL_ok (hce.trans h1)
      have hsl := sideL_len 2 l
      refine vc_loop [28, 8] (fun g vals st' => ∃ (k : Nat) (a' : AV), k + g = l.length ∧ vals = [.i k, a'] ∧ Acc 0 st'.tk 8 a' (rlL (sideL 2 (l.take k)))) l.length rfl ⟨0, .nilS, by omega, rfl, .nil⟩ ?_
      rintro g vals st' ⟨k, a', hk, rfl, hA⟩
      have hsk : (sideL 2 (l.take k)).length ≤ 1000 := Nat.le_trans (sideL_len _ _) (by rw [List.length_take]; omega)
      have fin : k = l.length → sideL 2 (l.take k) = sideL 2 l := fun e => by rw [e, List.take_of_length_le (Nat.le_refl _)]
      have es0 : ∀ k1 : k < l.length, sideL 2 (l.take (k + 1)) = sideL 2 (l.take k) ++ (if l[k].sd = 2 then [l[k]] else []) := fun k1 => sideL_take k1
      rcases hA.form with rfl | ⟨t, e, rfl⟩
      · refine cnd_split (fun hd => ?_) (fun hd => ?_)
        · have hd := of_decide_eq_true hd
          have k1 : k < l.length := by omega
          have es := es0 k1
          refine ⟨k, _, rfl, rlL_at k1, ?_⟩
          refine ⟨_, last_at _ _, ?_⟩
          refine ⟨_, last_upd _ _ _, ?_⟩
          refine cnd_split (fun h2 => ?_) (fun h2 => ?_)
          · rw [if_pos (show l[k].sd = 2 from beq_iff_eq.1 h2)] at es
            refine ⟨_, last_upd _ _ _, ?_⟩
            refine Acc.app (i := ti37) hA (Nat.zero_le _) (List.cons_ne_nil _ _) ?_ ?_ (fun t1 e1 tk1 q0 q1 q2 q3 => ?_)
            · show ((rlL _).length + 1) * 112 ≤ _; rw [rlL_len]; omega
            · show (rlL _).length + 1 ≤ _; rw [rlL_len]; omega
            intro c hc
            rw [IntWalk.i64_in _ (by omega)] at hc
            obtain rfl : c = ((k + 1 : Nat) : Int) := by omega
            refine ⟨g - 1, by omega, k + 1, _, by omega, rfl, ?_⟩
            rw [es, ← rlL_snoc]
            exact .own _ _ _ q0 q1
          · rw [if_neg (show ¬ l[k].sd = 2 from beq_eq_false_iff_ne.1 h2), List.append_nil] at es
            intro c hc
            rw [IntWalk.i64_in _ (by omega)] at hc
            obtain rfl : c = ((k + 1 : Nat) : Int) := by omega
            exact ⟨g - 1, by omega, k + 1, _, by omega, rfl, by rw [es]; exact hA⟩
        · have hd := of_decide_eq_false hd
          have fe := congrArg rlL (fin (by omega))
          have haw := allW_len _ _ (Nat.le_refl (sideL 2 l).length)
          refine .s (ACalls.weak (args' := [.ptr st'.heap.length 0, .sl .no 8 (rlL (sideL 2 l))]) ⟨.inl rfl, hA.argV fe, trivial⟩ (all36_a (n := st'.tk.length) (done := []) (sideL 2 l) (last_at _ _) .nil (Nat.le_refl _) (by simp; omega) (by omega) (fun q hq => hr _ (sideL_mem hq)) (fun q hq => hz _ (sideL_mem hq)) (fun st3 a3 m3 hc3 hA3 => ?_)))
          refine ⟨_, hc3, ?_⟩
          rcases hA3.form with rfl | ⟨t3, e3, rfl⟩
          · exact .inr ⟨_, _, rfl, rfl, hA3.resC rfl, .inl ⟨rfl, rfl⟩, trivial⟩
          · exact .inr ⟨_, _, rfl, rfl, hA3.resC rfl, .inl ⟨rfl, rfl⟩, trivial⟩
      · refine cnd_split (fun hd => ?_) (fun hd => ?_)
        · have hd := of_decide_eq_true hd
          have k1 : k < l.length := by omega
          have es := es0 k1
          refine ⟨k, _, rfl, rlL_at k1, ?_⟩
          refine ⟨_, last_at _ _, ?_⟩
          refine ⟨_, last_upd _ _ _, ?_⟩
          refine cnd_split (fun h2 => ?_) (fun h2 => ?_)
          · rw [if_pos (show l[k].sd = 2 from beq_iff_eq.1 h2)] at es
            refine ⟨_, last_upd _ _ _, ?_⟩
            refine Acc.app (i := ti37) hA (Nat.zero_le _) (List.cons_ne_nil _ _) ?_ ?_ (fun t1 e1 tk1 q0 q1 q2 q3 => ?_)
            · show ((rlL _).length + 1) * 112 ≤ _; rw [rlL_len]; omega
            · show (rlL _).length + 1 ≤ _; rw [rlL_len]; omega
            intro c hc
            rw [IntWalk.i64_in _ (by omega)] at hc
            obtain rfl : c = ((k + 1 : Nat) : Int) := by omega
            refine ⟨g - 1, by omega, k + 1, _, by omega, rfl, ?_⟩
            rw [es, ← rlL_snoc]
            exact .own _ _ _ q0 q1
          · rw [if_neg (show ¬ l[k].sd = 2 from beq_eq_false_iff_ne.1 h2), List.append_nil] at es
            intro c hc
            rw [IntWalk.i64_in _ (by omega)] at hc
            obtain rfl : c = ((k + 1 : Nat) : Int) := by omega
            exact ⟨g - 1, by omega, k + 1, _, by omega, rfl, by rw [es]; exact hA⟩
        · have hd := of_decide_eq_false hd
          have fe := congrArg rlL (fin (by omega))
          have haw := allW_len _ _ (Nat.le_refl (sideL 2 l).length)
          refine .s (ACalls.weak (args' := [.ptr st'.heap.length 0, .sl .no 8 (rlL (sideL 2 l))]) ⟨.inl rfl, hA.argV fe, trivial⟩ (all36_a (n := st'.tk.length) (done := []) (sideL 2 l) (last_at _ _) .nil (Nat.le_refl _) (by simp; omega) (by omega) (fun q hq => hr _ (sideL_mem hq)) (fun q hq => hz _ (sideL_mem hq)) (fun st3 a3 m3 hc3 hA3 => ?_)))
          refine ⟨_, hc3, ?_⟩
          rcases hA3.form with rfl | ⟨t3, e3, rfl⟩
          · exact .inr ⟨_, _, rfl, rfl, hA3.resC rfl, .inl ⟨rfl, rfl⟩, trivial⟩
          · exact .inr ⟨_, _, rfl, rfl, hA3.resC rfl, .inl ⟨rfl, rfl⟩, trivial⟩
  · refine ACalls.of_vc T_ok mixed Tryz.func13 rfl Tryz.call13 ?_
    refine cnd_split (fun h1 => ?_) (fun h1 => absurd (.inl (bne_eq_false_iff_eq.1 h1)) hs)
    refine cnd_split (fun h2 => ?_) (fun h2 => absurd (.inr (bne_eq_false_iff_eq.1 h2)) hs)
    unfold compW
    rw [if_pos (by omega)]
    exact .inr ⟨_, _, rfl, rfl, .inr (.inl ⟨rfl, 5, rfl⟩), .inl ⟨rfl, rfl⟩, trivial⟩
end
end Go.Proofs.YtgkhnllgmfjhpaaGreatDoor
