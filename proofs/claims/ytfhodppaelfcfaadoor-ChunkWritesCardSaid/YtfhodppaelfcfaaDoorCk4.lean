/- Lines of chunks: Parse, by the document. No statement of its own. -/
import Derived.Test.YtfhodppaelfcfaaDoorCk3
set_option maxRecDepth 100000
namespace Go.Proofs.YtfhodppaelfcfaaDoor
open Go.RowKit
theorem ret31 {Z : Int × List Atr × Int} (h : Z = (0, [], 31)) : resW2 (.tup [.i 0, .nilS, .i 31]) (.tup [.i Z.1, .sl .no 3 (atrL Z.2.1), .i Z.2.2]) := by
  subst h
  exact .inr ⟨.i 0, [.i 31], 3, rfl, rfl⟩
section
attribute [local irreducible] vcApp
set_option maxHeartbeats 4000000 in
theorem r18parse_p (s : ByteArray) (hs : s.size ≤ 4000000000) : APure Tryd.prog 16 [.s s] (.tup [.i (parseC s).1, .sl .no 3 (atrL (parseC s).2.1), .i (parseC s).2.2]) [] := by
  have hmx : maxLen = 9223372036854775807 := rfl
  have hl := tw_le hexI s 0 (Nat.zero_le _)
  rw [Nat.zero_add] at hl
  have hP : parseC s = match extW s (tw hexI s 0) [] with
    | none => (0, [], 31)
    | some (l, k) => if k < s.size ∨ (readH (s.extract 0 (tw hexI s 0)) mostB).2 = 2 then (0, [], 31) else if (readH (s.extract 0 (tw hexI s 0)) mostB).2 ≠ 0 then (0, [], (readH (s.extract 0 (tw hexI s 0)) mostB).2) else ((readH (s.extract 0 (tw hexI s 0)) mostB).1, l, 0) := rfl
  have hRd := r3Read_p 16 (by decide) (by decide) (s.extract 0 (tw hexI s 0)) (by rw [ext_len _ _ _ hl]; omega) mostB (by decide)
  rw [readG_H] at hRd
  generalize parseC s = Z at *
  generalize readH (s.extract 0 (tw hexI s 0)) mostB = rd at *
  obtain ⟨rn, re⟩ := rd
  refine APure.ofW2 rfl ?_
  refine ACalls.of_vc T_ok mixed Tryd.func16 rfl Tryd.call16 ?_
  refine vc_loopx 0 [5] (fun g vals st' => ∃ m : Nat, m + g = (s).size ∧ 0 ≤ m ∧ vals = [.i m] ∧ st' = ⟨[], []⟩ ∧ ∀ j (hj : j < (s).size), 0 ≤ j → j < m → hexI ((s)[j].toNat : Int) = true) ((s).size - (0)) (fun vals st' => vals = [.i (0 + tw hexI (s) (0) : Nat)] ∧ st' = ⟨[], []⟩) rfl ⟨0, by omega, Nat.le_refl _, rfl, rfl, fun j _ h1 h2 => absurd h2 (by omega)⟩ ?_ ?_
  · rintro g vals st' ⟨m, hm, hm1, rfl, rfl, hall⟩
    refine cnd_split (fun hd => ?_) (fun hd => ?_)
    · have hd := of_decide_eq_true hd
      have m1 : m < (s).size := by omega
      refine ⟨m, m1, rfl, ?_⟩
      refine .p rfl (r1hex_p _ (by omega) (by have := (s)[m].toNat_lt; omega)) ?_
      refine cnd_split (fun h1 => ?_) (fun h1 => ?_)
      · intro c hc
        rw [IntWalk.i64_in _ (by omega)] at hc
        obtain rfl : c = ((m + 1 : Nat) : Int) := by omega
        refine ⟨g - 1, by omega, m + 1, by omega, by omega, rfl, rfl, fun j hj h0 hjm => ?_⟩
        by_cases e : j = m
        · subst e; exact h1
        · exact hall j hj h0 (by omega)
      · exact ⟨congrArg (fun x : Nat => [AV.i (x : Int)]) (tw_at hall hm1 (by omega) (fun _ => h1)).symm, rfl⟩
    · have hd := of_decide_eq_false hd
      exact ⟨congrArg (fun x : Nat => [AV.i (x : Int)]) (tw_at hall hm1 (by omega) (fun h => absurd h (by omega))).symm, rfl⟩
  rintro vals st' ⟨rfl, rfl⟩
  generalize htt : tw hexI s 0 = t0 at *
  rw [Nat.zero_add] at *
  refine ⟨t0, rfl, Nat.zero_le _, by omega, ?_⟩
  refine .p rfl hRd ?_
  refine cnd_split (fun h2 => ?_) (fun h2 => ?_)
  · have h2 : re = 2 := by simpa using h2
    refine ret31 ?_
    rw [hP]
    cases extW s t0 [] with
    | none => rfl
    | some x => exact if_pos (.inr h2)
  have hre : ¬ re = 2 := by simpa using h2
  refine ⟨t0, rfl, by omega, Nat.le_refl _, ?_⟩
  refine vc_loop [0, 8] (fun g vals st' => ∃ (k : Nat) (T : ByteArray) (a : AV) (acc : List Atr), vals = [.s T, a] ∧ T = s.extract k s.size ∧ k ≤ s.size ∧ k + g = s.size ∧ Acc 0 st'.tk 3 a (atrL acc) ∧ extW s t0 [] = extW s k acc ∧ acc.length ≤ k) (s.size - t0) rfl ⟨t0, _, _, [], rfl, rfl, by omega, by omega, .nil, rfl, by simp⟩ ?_
  rintro g vals st1 ⟨k, T, a, acc, rfl, hT, hk, hkg, hA, hX, hal⟩
  have hTz : T.size + k = s.size := by rw [hT, cut_size]; omega
  have ela := atrL_len acc
  generalize hes : atrL acc = es at hA ela
  cases hA with
  | nil =>
    intro t ht
    cases t with
    | false =>
      have hz : T.size = 0 := (emp_iff _).1 (ht.1 rfl)
      rw [hX, extW_end acc (atB_ge (by omega) _)] at hP
      simp only at hP
      refine cnd_split (fun h2 => ?_) (fun h2 => ?_)
      · have h2 : re ≠ 0 := by simpa using h2
        rw [if_neg (fun h => h.elim (fun h => by omega) hre), if_pos h2] at hP
        subst hP
        exact .inr ⟨.i 0, [.i re], 3, rfl, rfl⟩
      · have h2 : re = 0 := by simpa using h2
        rw [if_neg (fun h => h.elim (fun h => by omega) hre), if_neg (fun h => h h2)] at hP
        subst hP
        exact .inr ⟨.i rn, [.i 0], 3, rfl, by show (AV.tup [.i rn, .sl .no 3 (atrL acc), .i 0]) = _; rw [hes]; rfl⟩
    | true =>
      have hz : 0 < T.size := Nat.pos_of_ne_zero fun e => by have := ht.2 ((emp_iff _).2 e); cases this
      have hTa := cut_atB s k 0 59
      rw [← hT, Nat.add_zero, atB_lt hz] at hTa
      refine ⟨0, hz, rfl, ?_⟩
      refine cnd_split (fun h1 => ?_) (fun h1 => ?_)
      · have h1 : ((T[0].toNat : Int) == 59) = false := by rw [bne, Bool.not_eq_true'] at h1; exact h1
        rw [h1] at hTa
        rw [hX, extW_end acc hTa.symm] at hP
        simp only at hP
        rw [if_pos (.inl (by omega))] at hP
        exact ret31 hP
      have h1 : ((T[0].toNat : Int) == 59) = true := by rw [bne, Bool.not_eq_false'] at h1; exact h1
      rw [h1] at hTa
      have hb := hTa.symm
      refine vc_loopx 4 [9] (fun g vals st' => ∃ m : Nat, m + g = (T).size ∧ 1 ≤ m ∧ vals = [.i m] ∧ st' = st1 ∧ ∀ j (hj : j < (T).size), 1 ≤ j → j < m → tokI ((T)[j].toNat : Int) = true) ((T).size - (1)) (fun vals st' => vals = [.i (1 + tw tokI (T) (1) : Nat)] ∧ st' = st1) rfl ⟨1, by omega, Nat.le_refl _, rfl, rfl, fun j _ h1 h2 => absurd h2 (by omega)⟩ ?_ ?_
      · rintro g vals st' ⟨m, hm, hm1, rfl, rfl, hall⟩
        refine cnd_split (fun hd => ?_) (fun hd => ?_)
        · have hd := of_decide_eq_true hd
          have m1 : m < (T).size := by omega
          refine ⟨m, m1, rfl, ?_⟩
          refine .p rfl (tok1_p _ (by omega) (by have := (T)[m].toNat_lt; omega)) ?_
          refine cnd_split (fun h1 => ?_) (fun h1 => ?_)
          · intro c hc
            rw [IntWalk.i64_in _ (by omega)] at hc
            obtain rfl : c = ((m + 1 : Nat) : Int) := by omega
            refine ⟨g - 1, by omega, m + 1, by omega, by omega, rfl, rfl, fun j hj h0 hjm => ?_⟩
            by_cases e : j = m
            · subst e; exact h1
            · exact hall j hj h0 (by omega)
          · exact ⟨congrArg (fun x : Nat => [AV.i (x : Int)]) (tw_at hall hm1 (by omega) (fun _ => h1)).symm, rfl⟩
        · have hd := of_decide_eq_false hd
          exact ⟨congrArg (fun x : Nat => [AV.i (x : Int)]) (tw_at hall hm1 (by omega) (fun h => absurd h (by omega))).symm, rfl⟩
      rintro vals st' ⟨rfl, rfl⟩
      have hmT := tw_le tokI T 1 (by omega)
      generalize hm : 1 + tw tokI T 1 = m at *
      have hm0 : 1 ≤ m := by omega
      have he : tw tokI s (k + 1) = m - 1 := by
        rw [← cut_tw tokI s k 1, ← hT]
        omega
      have hO : oneS s (k + 1) = if m - 1 = 0 then none else if atB s (k + m) 61 = true then (wordS s (k + m + 1)).map fun x => ((s.extract (k + 1) (k + m), x.1, true), x.2) else some ((s.extract (k + 1) (k + m), ⟨#[]⟩, false), k + m) := by
        unfold oneS
        rw [he, show k + 1 + (m - 1) = k + m by omega]
      refine cnd_split (fun h2 => ?_) (fun h2 => ?_)
      · have h2 : m = 1 := by
          have := beq_iff_eq.1 h2
          omega
        rw [if_pos (by omega)] at hO
        rw [hX, extW_none acc hb hO] at hP
        exact ret31 hP
      have h2 : m ≠ 1 := by
        have := beq_eq_false_iff_ne.1 h2
        omega
      rw [if_neg (by omega)] at hO
      have hN : T.extract 1 m = s.extract (k + 1) (k + m) := by rw [hT]; exact cut_ext s k 1 m
      refine ⟨m, rfl, 1, rfl, hm0, hmT, ?_⟩
      refine ⟨_, last_at _ _, ?_⟩
      refine ⟨m, rfl, hmT, Nat.le_refl _, ?_⟩
      have hU : T.extract m T.size = s.extract (k + m) s.size := by rw [hT]; exact cut_cut s k m
      have hUz : (T.extract m T.size).size = T.size - m := ext_len _ _ _ (Nat.le_refl _)
      have hUa : atB (T.extract m T.size) 0 61 = atB s (k + m) 61 := by rw [hU, cut_atB]; rfl
      have hUx : ∀ x, (T.extract m T.size).extract x (T.extract m T.size).size = s.extract (k + m + x) s.size := fun x => by rw [hU]; exact cut_cut s (k + m) x
      rw [← hN] at hO
      generalize T.extract m T.size = U at *
      intro t ht
      cases t with
      | false =>
        have hz : U.size = 0 := (emp_iff _).1 (ht.1 rfl)
        rw [← hUa, atB_ge (by omega), if_neg (by decide)] at hO
        refine ⟨_, last_upd _ _ _, ?_⟩
        refine Acc.app (n := 0) (i := ti100) (es := []) .nil (Nat.zero_le _) (List.cons_ne_nil _ _) ?_ ?_ (fun t9 e9 tk9 z0 z1 z2 z3 => ?_)
        · show (([] : List (List AV)).length + 1) * 40 ≤ _; omega
        · show ([] : List (List AV)).length + 1 ≤ _; omega
        refine ⟨s.size - (k + m), by omega, k + m, _, _, acc ++ [(T.extract 1 m, ⟨#[]⟩, false)], rfl, hU, by omega, by omega, ?_, hX.trans (extW_some acc hb hO), by simp; omega⟩
        rw [← atrL_app, hes]
        exact .own _ _ _ (Nat.zero_le _) z1
      | true =>
        have hz : 0 < U.size := Nat.pos_of_ne_zero fun e => by have := ht.2 ((emp_iff _).2 e); cases this
        refine ⟨0, hz, rfl, ?_⟩
        rw [atB_lt hz] at hUa
        refine cnd_split (fun h3 => ?_) (fun h3 => ?_)
        · have h3 : ((U[0].toNat : Int) == 61) = true := h3
          rw [← hUa, h3, if_pos rfl] at hO
          refine ⟨1, rfl, hz, Nat.le_refl _, ?_⟩
          have hw := word5_p (U.extract 1 U.size) (by rw [ext_len _ _ _ (Nat.le_refl _)]; omega)
          have hc := cut_word s (k + m + 1) (by omega)
          have hwR : wordR (U.extract 1 U.size) = match (wordS s (k + m + 1)).map (fun x => (x.1, x.2 - (k + m + 1))) with
            | some (v, j) => (v, (j : Int))
            | none => (⟨#[]⟩, 0) := by rw [hUx 1]; unfold wordR; rw [hc]; cases wordS s (k + m + 1) <;> rfl
          have hle : ∀ v j, wordS s (k + m + 1) = some (v, j) → k + m + 1 < j ∧ j ≤ s.size := fun v j h => wordS_le (by omega) h
          refine .p rfl hw ?_
          generalize wordR (U.extract 1 U.size) = W at hwR
          generalize wordS s (k + m + 1) = X at *
          cases X with
          | none =>
            have hwR : W = (⟨#[]⟩, 0) := hwR
            subst hwR
            rw [hX, extW_none acc hb hO] at hP
            exact ret31 hP
          | some x =>
            obtain ⟨v, j⟩ := x
            obtain ⟨j1, j2⟩ := hle v j rfl
            have hwR : W = (v, ((j - (k + m + 1) : Nat) : Int)) := hwR
            subst hwR
            refine cnd_split (fun h4 => ?_) (fun h4 => ?_)
            · have h4 : ((j - (k + m + 1) : Nat) : Int) = 0 := beq_iff_eq.1 h4
              omega
            · refine ⟨_, last_upd _ _ _, ?_⟩
              refine ⟨_, st_eq (last_upd _ _ _), ?_⟩
              intro c hc1
              have hc2 : c = ((1 + (j - (k + m + 1)) : Nat) : Int) := by rw [hc1, IntWalk.i64_in _ (by omega)]; omega
              subst hc2
              refine ⟨1 + (j - (k + m + 1)), rfl, by omega, Nat.le_refl _, ?_⟩
              refine ⟨_, st_eq (st_eq (last_upd _ _ _)), ?_⟩
              refine Acc.app (n := 0) (i := ti100) (es := []) .nil (Nat.zero_le _) (List.cons_ne_nil _ _) ?_ ?_ (fun t9 e9 tk9 z0 z1 z2 z3 => ?_)
              · show (([] : List (List AV)).length + 1) * 40 ≤ _; omega
              · show ([] : List (List AV)).length + 1 ≤ _; omega
              refine ⟨s.size - (j), by omega, j, _, _, acc ++ [(T.extract 1 m, v, true)], rfl, (hUx _).trans (by congr 1; omega), by omega, by omega, ?_, hX.trans (extW_some acc hb hO), by simp; omega⟩
              rw [← atrL_app, hes]
              exact .own _ _ _ (Nat.zero_le _) z1
        · have h3 : ((U[0].toNat : Int) == 61) = false := h3
          rw [← hUa, h3, if_neg (by decide)] at hO
          refine ⟨_, last_upd _ _ _, ?_⟩
          refine Acc.app (n := 0) (i := ti100) (es := []) .nil (Nat.zero_le _) (List.cons_ne_nil _ _) ?_ ?_ (fun t9 e9 tk9 z0 z1 z2 z3 => ?_)
          · show (([] : List (List AV)).length + 1) * 40 ≤ _; omega
          · show ([] : List (List AV)).length + 1 ≤ _; omega
          refine ⟨s.size - (k + m), by omega, k + m, _, _, acc ++ [(T.extract 1 m, ⟨#[]⟩, false)], rfl, hU, by omega, by omega, ?_, hX.trans (extW_some acc hb hO), by simp; omega⟩
          rw [← atrL_app, hes]
          exact .own _ _ _ (Nat.zero_le _) z1
  | own t e es q0 q1 =>
    intro t ht
    cases t with
    | false =>
      have hz : T.size = 0 := (emp_iff _).1 (ht.1 rfl)
      rw [hX, extW_end acc (atB_ge (by omega) _)] at hP
      simp only at hP
      refine cnd_split (fun h2 => ?_) (fun h2 => ?_)
      · have h2 : re ≠ 0 := by simpa using h2
        rw [if_neg (fun h => h.elim (fun h => by omega) hre), if_pos h2] at hP
        subst hP
        exact .inr ⟨.i 0, [.i re], 3, rfl, rfl⟩
      · have h2 : re = 0 := by simpa using h2
        rw [if_neg (fun h => h.elim (fun h => by omega) hre), if_neg (fun h => h h2)] at hP
        subst hP
        exact .inl (by show (AV.tup [.i rn, .sl .no 3 es, .i 0]) = _; rw [← hes])
    | true =>
      have hz : 0 < T.size := Nat.pos_of_ne_zero fun e => by have := ht.2 ((emp_iff _).2 e); cases this
      have hTa := cut_atB s k 0 59
      rw [← hT, Nat.add_zero, atB_lt hz] at hTa
      refine ⟨0, hz, rfl, ?_⟩
      refine cnd_split (fun h1 => ?_) (fun h1 => ?_)
      · have h1 : ((T[0].toNat : Int) == 59) = false := by rw [bne, Bool.not_eq_true'] at h1; exact h1
        rw [h1] at hTa
        rw [hX, extW_end acc hTa.symm] at hP
        simp only at hP
        rw [if_pos (.inl (by omega))] at hP
        exact ret31 hP
      have h1 : ((T[0].toNat : Int) == 59) = true := by rw [bne, Bool.not_eq_false'] at h1; exact h1
      rw [h1] at hTa
      have hb := hTa.symm
      refine vc_loopx 4 [9] (fun g vals st' => ∃ m : Nat, m + g = (T).size ∧ 1 ≤ m ∧ vals = [.i m] ∧ st' = st1 ∧ ∀ j (hj : j < (T).size), 1 ≤ j → j < m → tokI ((T)[j].toNat : Int) = true) ((T).size - (1)) (fun vals st' => vals = [.i (1 + tw tokI (T) (1) : Nat)] ∧ st' = st1) rfl ⟨1, by omega, Nat.le_refl _, rfl, rfl, fun j _ h1 h2 => absurd h2 (by omega)⟩ ?_ ?_
      · rintro g vals st' ⟨m, hm, hm1, rfl, rfl, hall⟩
        refine cnd_split (fun hd => ?_) (fun hd => ?_)
        · have hd := of_decide_eq_true hd
          have m1 : m < (T).size := by omega
          refine ⟨m, m1, rfl, ?_⟩
          refine .p rfl (tok1_p _ (by omega) (by have := (T)[m].toNat_lt; omega)) ?_
          refine cnd_split (fun h1 => ?_) (fun h1 => ?_)
          · intro c hc
            rw [IntWalk.i64_in _ (by omega)] at hc
            obtain rfl : c = ((m + 1 : Nat) : Int) := by omega
            refine ⟨g - 1, by omega, m + 1, by omega, by omega, rfl, rfl, fun j hj h0 hjm => ?_⟩
            by_cases e : j = m
            · subst e; exact h1
            · exact hall j hj h0 (by omega)
          · exact ⟨congrArg (fun x : Nat => [AV.i (x : Int)]) (tw_at hall hm1 (by omega) (fun _ => h1)).symm, rfl⟩
        · have hd := of_decide_eq_false hd
          exact ⟨congrArg (fun x : Nat => [AV.i (x : Int)]) (tw_at hall hm1 (by omega) (fun h => absurd h (by omega))).symm, rfl⟩
      rintro vals st' ⟨rfl, rfl⟩
      have hmT := tw_le tokI T 1 (by omega)
      generalize hm : 1 + tw tokI T 1 = m at *
      have hm0 : 1 ≤ m := by omega
      have he : tw tokI s (k + 1) = m - 1 := by
        rw [← cut_tw tokI s k 1, ← hT]
        omega
      have hO : oneS s (k + 1) = if m - 1 = 0 then none else if atB s (k + m) 61 = true then (wordS s (k + m + 1)).map fun x => ((s.extract (k + 1) (k + m), x.1, true), x.2) else some ((s.extract (k + 1) (k + m), ⟨#[]⟩, false), k + m) := by
        unfold oneS
        rw [he, show k + 1 + (m - 1) = k + m by omega]
      refine cnd_split (fun h2 => ?_) (fun h2 => ?_)
      · have h2 : m = 1 := by
          have := beq_iff_eq.1 h2
          omega
        rw [if_pos (by omega)] at hO
        rw [hX, extW_none acc hb hO] at hP
        exact ret31 hP
      have h2 : m ≠ 1 := by
        have := beq_eq_false_iff_ne.1 h2
        omega
      rw [if_neg (by omega)] at hO
      have hN : T.extract 1 m = s.extract (k + 1) (k + m) := by rw [hT]; exact cut_ext s k 1 m
      refine ⟨m, rfl, 1, rfl, hm0, hmT, ?_⟩
      refine ⟨_, last_at _ _, ?_⟩
      refine ⟨m, rfl, hmT, Nat.le_refl _, ?_⟩
      have hU : T.extract m T.size = s.extract (k + m) s.size := by rw [hT]; exact cut_cut s k m
      have hUz : (T.extract m T.size).size = T.size - m := ext_len _ _ _ (Nat.le_refl _)
      have hUa : atB (T.extract m T.size) 0 61 = atB s (k + m) 61 := by rw [hU, cut_atB]; rfl
      have hUx : ∀ x, (T.extract m T.size).extract x (T.extract m T.size).size = s.extract (k + m + x) s.size := fun x => by rw [hU]; exact cut_cut s (k + m) x
      rw [← hN] at hO
      generalize T.extract m T.size = U at *
      intro t ht
      cases t with
      | false =>
        have hz : U.size = 0 := (emp_iff _).1 (ht.1 rfl)
        rw [← hUa, atB_ge (by omega), if_neg (by decide)] at hO
        refine ⟨_, last_upd _ _ _, ?_⟩
        refine Acc.app (n := 0) (i := ti100) (es := es) (.own _ _ _ q0 q1) (Nat.zero_le _) (List.cons_ne_nil _ _) ?_ ?_ (fun t9 e9 tk9 z0 z1 z2 z3 => ?_)
        · show ((es : List (List AV)).length + 1) * 40 ≤ _; omega
        · show (es : List (List AV)).length + 1 ≤ _; omega
        refine ⟨s.size - (k + m), by omega, k + m, _, _, acc ++ [(T.extract 1 m, ⟨#[]⟩, false)], rfl, hU, by omega, by omega, ?_, hX.trans (extW_some acc hb hO), by simp; omega⟩
        rw [← atrL_app, hes]
        exact .own _ _ _ (Nat.zero_le _) z1
      | true =>
        have hz : 0 < U.size := Nat.pos_of_ne_zero fun e => by have := ht.2 ((emp_iff _).2 e); cases this
        refine ⟨0, hz, rfl, ?_⟩
        rw [atB_lt hz] at hUa
        refine cnd_split (fun h3 => ?_) (fun h3 => ?_)
        · have h3 : ((U[0].toNat : Int) == 61) = true := h3
          rw [← hUa, h3, if_pos rfl] at hO
          refine ⟨1, rfl, hz, Nat.le_refl _, ?_⟩
          have hw := word5_p (U.extract 1 U.size) (by rw [ext_len _ _ _ (Nat.le_refl _)]; omega)
          have hc := cut_word s (k + m + 1) (by omega)
          have hwR : wordR (U.extract 1 U.size) = match (wordS s (k + m + 1)).map (fun x => (x.1, x.2 - (k + m + 1))) with
            | some (v, j) => (v, (j : Int))
            | none => (⟨#[]⟩, 0) := by rw [hUx 1]; unfold wordR; rw [hc]; cases wordS s (k + m + 1) <;> rfl
          have hle : ∀ v j, wordS s (k + m + 1) = some (v, j) → k + m + 1 < j ∧ j ≤ s.size := fun v j h => wordS_le (by omega) h
          refine .p rfl hw ?_
          generalize wordR (U.extract 1 U.size) = W at hwR
          generalize wordS s (k + m + 1) = X at *
          cases X with
          | none =>
            have hwR : W = (⟨#[]⟩, 0) := hwR
            subst hwR
            rw [hX, extW_none acc hb hO] at hP
            exact ret31 hP
          | some x =>
            obtain ⟨v, j⟩ := x
            obtain ⟨j1, j2⟩ := hle v j rfl
            have hwR : W = (v, ((j - (k + m + 1) : Nat) : Int)) := hwR
            subst hwR
            refine cnd_split (fun h4 => ?_) (fun h4 => ?_)
            · have h4 : ((j - (k + m + 1) : Nat) : Int) = 0 := beq_iff_eq.1 h4
              omega
            · refine ⟨_, last_upd _ _ _, ?_⟩
              refine ⟨_, st_eq (last_upd _ _ _), ?_⟩
              intro c hc1
              have hc2 : c = ((1 + (j - (k + m + 1)) : Nat) : Int) := by rw [hc1, IntWalk.i64_in _ (by omega)]; omega
              subst hc2
              refine ⟨1 + (j - (k + m + 1)), rfl, by omega, Nat.le_refl _, ?_⟩
              refine ⟨_, st_eq (st_eq (last_upd _ _ _)), ?_⟩
              refine Acc.app (n := 0) (i := ti100) (es := es) (.own _ _ _ q0 q1) (Nat.zero_le _) (List.cons_ne_nil _ _) ?_ ?_ (fun t9 e9 tk9 z0 z1 z2 z3 => ?_)
              · show ((es : List (List AV)).length + 1) * 40 ≤ _; omega
              · show (es : List (List AV)).length + 1 ≤ _; omega
              refine ⟨s.size - (j), by omega, j, _, _, acc ++ [(T.extract 1 m, v, true)], rfl, (hUx _).trans (by congr 1; omega), by omega, by omega, ?_, hX.trans (extW_some acc hb hO), by simp; omega⟩
              rw [← atrL_app, hes]
              exact .own _ _ _ (Nat.zero_le _) z1
        · have h3 : ((U[0].toNat : Int) == 61) = false := h3
          rw [← hUa, h3, if_neg (by decide)] at hO
          refine ⟨_, last_upd _ _ _, ?_⟩
          refine Acc.app (n := 0) (i := ti100) (es := es) (.own _ _ _ q0 q1) (Nat.zero_le _) (List.cons_ne_nil _ _) ?_ ?_ (fun t9 e9 tk9 z0 z1 z2 z3 => ?_)
          · show ((es : List (List AV)).length + 1) * 40 ≤ _; omega
          · show (es : List (List AV)).length + 1 ≤ _; omega
          refine ⟨s.size - (k + m), by omega, k + m, _, _, acc ++ [(T.extract 1 m, ⟨#[]⟩, false)], rfl, hU, by omega, by omega, ?_, hX.trans (extW_some acc hb hO), by simp; omega⟩
          rw [← atrL_app, hes]
          exact .own _ _ _ (Nat.zero_le _) z1
end
end Go.Proofs.YtfhodppaelfcfaaDoor
