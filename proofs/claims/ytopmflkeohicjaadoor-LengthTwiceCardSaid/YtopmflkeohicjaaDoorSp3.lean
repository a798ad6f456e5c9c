/- CommasSplits: the document's Split. No statement of its own. -/
import Derived.Test.YtopmflkeohicjaaDoorSp2
set_option maxRecDepth 100000
namespace Go.Proofs.YtopmflkeohicjaaDoor
open Go.RowKit
def ne8 (x : ByteArray) : Bool := decide (¬ x.size = 0)
theorem endW_filter (s : ByteArray) (b e : Nat) (o : List ByteArray) : endW s b e (o.filter ne8) = (o ++ [trimC (s.extract b e) spcS]).filter ne8 := by
  rw [List.filter_append]
  unfold endW
  by_cases h : (trimC (s.extract b e) spcS).size = 0
  · rw [if_pos h, show [trimC (s.extract b e) spcS].filter ne8 = [] by simp [ne8, h], List.append_nil]
  · rw [if_neg h, show [trimC (s.extract b e) spcS].filter ne8 = [trimC (s.extract b e) spcS] by simp [ne8, h]]
section
attribute [local irreducible] vcApp
set_option maxHeartbeats 2000000 in
theorem split6_p (s : ByteArray) (hs : s.size ≤ 1099511627776) : APure Tryd.prog 88 [.s s] (splR s) [] := by
  have hmx : maxLen = 9223372036854775807 := rfl
  refine APure.ofW (by unfold splR; split <;> rfl) ?_
  refine ACalls.of_vc T_ok mixed Tryd.func88 rfl Tryd.call88 ?_
  refine vc_loop [4, 5, 6] (fun g vals st' => ∃ (k b : Nat) (o : List ByteArray) (a : AV), vals = [a, .i b, .i k] ∧ k + g = s.size ∧ b ≤ k ∧ o.length ≤ b ∧ Acc 0 st'.tk 1 a (strL o) ∧ splW s k b (o.filter ne8) = splitW s) s.size rfl ⟨0, 0, [], .nilS, rfl, by omega, Nat.le_refl _, by simp, .nil, rfl⟩ ?_
  rintro g vals st' ⟨k, b, o, a, rfl, hg, hb, ho, hA, hW⟩
  have el := strL_len o
  generalize hes : strL o = es at hA el
  cases hA with
  | nil =>
    refine cnd_split (fun hd => ?_) (fun hd => ?_)
    · have hd := of_decide_eq_true hd
      have k1 : k < s.size := by omega
      have q34 := atB_lt k1 34
      have q40 := atB_lt k1 40
      have q44 := atB_lt k1 44
      have keep : ∀ j, stepW s k = some j → atB s k 44 = false → splW s j b (o.filter ne8) = splitW s := fun j h1 h2 => by
        rw [splW_some k1 h1, if_neg (by rw [h2]; decide)] at hW; exact hW
      have inn := fun h => innW_step k1 h
      have psp := inner6_p (s.extract k s.size) (by rw [ext_sz _ _ _ (Nat.le_refl _)]; omega) (by rw [ext_sz _ _ _ (Nat.le_refl _)]; omega)
      rw [cut_atB, cut_atB, Nat.add_zero] at psp
      have hnn : ∀ n : Int, innI (s.extract k s.size) = n → (atB s k 34 = true ∨ atB s k 40 = true) → (n = 0 ∧ stepW s k = none) ∨ ∃ j : Nat, n = (j : Int) ∧ stepW s k = some (k + j) ∧ 0 < j ∧ k + j ≤ s.size ∧ atB s k 44 = false := fun n hn h => by
        have h1 := inn h
        unfold innI at hn
        have x44 : atB s k 44 = false := by
          rcases h with h | h
          · rw [q34] at h; rw [q44, beq_eq_false_iff_ne]; have := beq_iff_eq.1 h; omega
          · rw [q40] at h; rw [q44, beq_eq_false_iff_ne]; have := beq_iff_eq.1 h; omega
        cases hq : innW (s.extract k s.size) with
        | none => rw [hq] at hn h1; exact .inl ⟨hn.symm, h1.symm⟩
        | some j =>
          rw [hq] at hn h1
          have h1 : stepW s k = some (k + j) := by rw [← h1]; simp [Nat.add_comm]
          have := stepW_lt k1 h1
          exact .inr ⟨j, hn.symm, h1, by omega, this.2, x44⟩
      generalize innI (s.extract k s.size) = n at psp hnn
      have hnn := hnn n rfl
      refine ⟨k, k1, rfl, ?_⟩
      refine cnd_split (fun h34 => ?_) (fun h34 => ?_)
      · have hor : atB s k 34 = true ∨ atB s k 40 = true := .inl (q34.trans h34)
        refine ⟨k, rfl, by omega, Nat.le_refl _, ?_⟩
        refine .p rfl (psp hor) ?_
        rcases hnn hor with ⟨h0, hst⟩ | ⟨j, h0, hst, hj, hjs, h44⟩
        · refine cnd_split (fun h5 => ?_) (fun h5 => ?_)
          · rw [splW_none k1 hst] at hW
            unfold splR
            rw [← hW]
            exact .inl rfl
          · rw [h0] at h5; cases h5
        · refine cnd_split (fun h5 => ?_) (fun h5 => ?_)
          · have := beq_iff_eq.1 h5; omega
          · intro c hc
            rw [IntWalk.i64_in _ (by omega)] at hc
            obtain rfl : c = ((k + j : Nat) : Int) := by omega
            refine ⟨s.size - (k + j), by omega, k + j, b, o, _, rfl, by omega, by omega, by omega, ?_, keep _ hst h44⟩
            rw [hes]
            exact .nil
      · refine ⟨k, k1, rfl, ?_⟩
        refine cnd_split (fun h40 => ?_) (fun h40 => ?_)
        · have hor : atB s k 34 = true ∨ atB s k 40 = true := .inr (q40.trans h40)
          refine ⟨k, rfl, by omega, Nat.le_refl _, ?_⟩
          refine .p rfl (psp hor) ?_
          rcases hnn hor with ⟨h0, hst⟩ | ⟨j, h0, hst, hj, hjs, h44⟩
          · refine cnd_split (fun h5 => ?_) (fun h5 => ?_)
            · rw [splW_none k1 hst] at hW
              unfold splR
              rw [← hW]
              exact .inl rfl
            · rw [h0] at h5; cases h5
          · refine cnd_split (fun h5 => ?_) (fun h5 => ?_)
            · have := beq_iff_eq.1 h5; omega
            · intro c hc
              rw [IntWalk.i64_in _ (by omega)] at hc
              obtain rfl : c = ((k + j : Nat) : Int) := by omega
              refine ⟨s.size - (k + j), by omega, k + j, b, o, _, rfl, by omega, by omega, by omega, ?_, keep _ hst h44⟩
              rw [hes]
              exact .nil
        · have hst : stepW s k = some (k + 1) := by
            unfold stepW
            rw [q40.trans h40, q34.trans h34]
            split <;> rfl
          refine ⟨k, k1, rfl, ?_⟩
          refine cnd_split (fun h44 => ?_) (fun h44 => ?_)
          · have a44 := q44.trans h44
            rw [splW_some k1 hst, if_pos a44, endW_filter] at hW
            refine ⟨k, rfl, b, rfl, by omega, by omega, ?_⟩
            refine .p rfl (trim6_p (s.extract b k) (by rw [ext_sz _ _ _ (by omega)]; omega)) ?_
            refine Acc.app (n := 0) (i := ti9) (es := []) .nil (Nat.zero_le _) (List.cons_ne_nil _ _) ?_ ?_ (fun t e tk' w0 w1 w2 w3 => ?_)
            · show (([] : List (List AV)).length + 1) * 16 ≤ _; omega
            · show ([] : List (List AV)).length + 1 ≤ _; omega
            intro c hc
            rw [IntWalk.i64_in _ (by omega)] at hc
            obtain rfl : c = ((k + 1 : Nat) : Int) := by omega
            intro c hc
            rw [IntWalk.i64_in _ (by omega)] at hc
            obtain rfl : c = ((k + 1 : Nat) : Int) := by omega
            refine ⟨g - 1, by omega, k + 1, k + 1, o ++ [trimC (s.extract b k) spcS], _, rfl, by omega, by omega, by simp; omega, ?_, hW⟩
            rw [← strL_app, hes]
            exact .own _ _ _ (Nat.zero_le _) w1
          · have a44 := q44.trans h44
            intro c hc
            rw [IntWalk.i64_in _ (by omega)] at hc
            obtain rfl : c = ((k + 1 : Nat) : Int) := by omega
            refine ⟨g - 1, by omega, k + 1, b, o, _, rfl, by omega, by omega, by omega, ?_, keep _ hst a44⟩
            rw [hes]
            exact .nil
    · have hd := of_decide_eq_false hd
      rw [splW_end (by omega), endW_filter] at hW
      refine ⟨b, rfl, by omega, Nat.le_refl _, ?_⟩
      refine .p rfl (trim6_p (s.extract b s.size) (by rw [ext_sz _ _ _ (Nat.le_refl _)]; omega)) ?_
      refine Acc.app (n := 0) (i := ti9) (es := []) .nil (Nat.zero_le _) (List.cons_ne_nil _ _) ?_ ?_ (fun t e tk' w0 w1 w2 w3 => ?_)
      · show (([] : List (List AV)).length + 1) * 16 ≤ _; omega
      · show ([] : List (List AV)).length + 1 ≤ _; omega
      obtain ⟨o2, ho2⟩ : ∃ o2, o ++ [trimC (s.extract b s.size) spcS] = o2 := ⟨_, rfl⟩
      have hrow : ([] : List (List AV)) ++ [[AV.s (trimC (s.extract b s.size) spcS)]] = strL o2 := by rw [← ho2, ← strL_app, hes]
      have hlen : (([] : List (List AV)) ++ [[AV.s (trimC (s.extract b s.size) spcS)]]).length = o2.length := by rw [hrow, strL_len]
      have row : ∀ i (hi : i < o2.length), (([] : List (List AV)) ++ [[AV.s (trimC (s.extract b s.size) spcS)]])[i]? = some [.s o2[i]] := fun i hi => by rw [hrow]; exact strL_at hi
      have ol : o2.length ≤ 2199023255552 := by rw [← ho2]; simp; omega
      have hfin : splitW s = some (o2.filter ne8) := by rw [← ho2]; exact hW.symm
      refine vc_loop [8, 9] (fun g2 vals st2 => ∃ (i : Nat) (a2 : AV), i + g2 = o2.length ∧ vals = [a2, .i i] ∧ Acc 0 st2.tk 1 a2 (strL ((o2.take i).filter ne8))) o2.length rfl ⟨0, .nilS, by omega, rfl, .nil⟩ ?_
      rintro g2 vals st2 ⟨i, a2, hi2, rfl, hA2⟩
      generalize hes2 : strL ((o2.take i).filter ne8) = es2 at hA2
      have el2 : es2.length ≤ 2199023255552 := by
        rw [← hes2, strL_len]
        have h1 := List.length_filter_le ne8 (o2.take i)
        rw [List.length_take] at h1
        omega
      cases hA2 with
      | nil =>
        refine cnd_split (fun hd2 => ?_) (fun hd2 => ?_)
        · have hd2 : (i : Int) < (o2.length : Int) := by rw [← hlen]; exact of_decide_eq_true hd2
          have hil : i < o2.length := by omega
          refine ⟨i, _, rfl, row i hil, ?_⟩
          intro t ht
          refine cnd_split (fun h3 => ?_) (fun h3 => ?_)
          · subst h3
            have hz : ne8 o2[i] = true := by
              unfold ne8
              rw [decide_eq_true_eq]
              exact fun e => absurd (ht.2 ((emp_iff _).2 e)) (by decide)
            refine ⟨i, _, rfl, row i hil, ?_⟩
            refine Acc.app (n := 0) (i := ti9) (es := []) .nil (Nat.zero_le _) (List.cons_ne_nil _ _) ?_ ?_ (fun t2 e2 tk2 w0 w1 w2 w3 => ?_)
            · show (([] : List (List AV)).length + 1) * 16 ≤ _; omega
            · show ([] : List (List AV)).length + 1 ≤ _; omega
            intro c hc
            rw [IntWalk.i64_in _ (by omega)] at hc
            obtain rfl : c = ((i + 1 : Nat) : Int) := by omega
            refine ⟨g2 - 1, by omega, i + 1, _, by omega, rfl, ?_⟩
            rw [List.take_add_one, List.getElem?_eq_getElem hil, List.filter_append, show List.filter ne8 (some o2[i]).toList = [o2[i]] by simp [hz], ← strL_app, hes2]
            exact .own _ _ _ (Nat.zero_le _) w1
          · subst h3
            have hz : ne8 o2[i] = false := by
              unfold ne8
              rw [decide_eq_false_iff_not, Decidable.not_not]
              exact (emp_iff _).1 (ht.1 rfl)
            intro c hc
            rw [IntWalk.i64_in _ (by omega)] at hc
            obtain rfl : c = ((i + 1 : Nat) : Int) := by omega
            refine ⟨g2 - 1, by omega, i + 1, _, by omega, rfl, ?_⟩
            rw [List.take_add_one, List.getElem?_eq_getElem hil, List.filter_append, show List.filter ne8 (some o2[i]).toList = [] by simp [hz], List.append_nil, hes2]
            exact .nil
        · have hd2 : ¬ (i : Int) < (o2.length : Int) := by rw [← hlen]; exact of_decide_eq_false hd2
          have : o2.take i = o2 := List.take_of_length_le (by omega)
          rw [this] at hes2
          unfold splR
          rw [hfin]
          simp only
          rw [hes2]
          exact (.inr (.inr ⟨[.i 0], 1, rfl, rfl⟩))
      | own t5 e5 es2 v0 v1 =>
        refine cnd_split (fun hd2 => ?_) (fun hd2 => ?_)
        · have hd2 : (i : Int) < (o2.length : Int) := by rw [← hlen]; exact of_decide_eq_true hd2
          have hil : i < o2.length := by omega
          refine ⟨i, _, rfl, row i hil, ?_⟩
          intro t ht
          refine cnd_split (fun h3 => ?_) (fun h3 => ?_)
          · subst h3
            have hz : ne8 o2[i] = true := by
              unfold ne8
              rw [decide_eq_true_eq]
              exact fun e => absurd (ht.2 ((emp_iff _).2 e)) (by decide)
            refine ⟨i, _, rfl, row i hil, ?_⟩
            refine Acc.app (n := 0) (i := ti9) (es := es2) (.own _ _ _ v0 v1) (Nat.zero_le _) (List.cons_ne_nil _ _) ?_ ?_ (fun t2 e2 tk2 w0 w1 w2 w3 => ?_)
            · show ((es2 : List (List AV)).length + 1) * 16 ≤ _; omega
            · show (es2 : List (List AV)).length + 1 ≤ _; omega
            intro c hc
            rw [IntWalk.i64_in _ (by omega)] at hc
            obtain rfl : c = ((i + 1 : Nat) : Int) := by omega
            refine ⟨g2 - 1, by omega, i + 1, _, by omega, rfl, ?_⟩
            rw [List.take_add_one, List.getElem?_eq_getElem hil, List.filter_append, show List.filter ne8 (some o2[i]).toList = [o2[i]] by simp [hz], ← strL_app, hes2]
            exact .own _ _ _ (Nat.zero_le _) w1
          · subst h3
            have hz : ne8 o2[i] = false := by
              unfold ne8
              rw [decide_eq_false_iff_not, Decidable.not_not]
              exact (emp_iff _).1 (ht.1 rfl)
            intro c hc
            rw [IntWalk.i64_in _ (by omega)] at hc
            obtain rfl : c = ((i + 1 : Nat) : Int) := by omega
            refine ⟨g2 - 1, by omega, i + 1, _, by omega, rfl, ?_⟩
            rw [List.take_add_one, List.getElem?_eq_getElem hil, List.filter_append, show List.filter ne8 (some o2[i]).toList = [] by simp [hz], List.append_nil, hes2]
            exact (.own _ _ _ v0 v1)
        · have hd2 : ¬ (i : Int) < (o2.length : Int) := by rw [← hlen]; exact of_decide_eq_false hd2
          have : o2.take i = o2 := List.take_of_length_le (by omega)
          rw [this] at hes2
          unfold splR
          rw [hfin]
          simp only
          rw [hes2]
          exact (.inl rfl)
  | own t0 e0 es q0 q1 =>
    refine cnd_split (fun hd => ?_) (fun hd => ?_)
    · have hd := of_decide_eq_true hd
      have k1 : k < s.size := by omega
      have q34 := atB_lt k1 34
      have q40 := atB_lt k1 40
      have q44 := atB_lt k1 44
      have keep : ∀ j, stepW s k = some j → atB s k 44 = false → splW s j b (o.filter ne8) = splitW s := fun j h1 h2 => by
        rw [splW_some k1 h1, if_neg (by rw [h2]; decide)] at hW; exact hW
      have inn := fun h => innW_step k1 h
      have psp := inner6_p (s.extract k s.size) (by rw [ext_sz _ _ _ (Nat.le_refl _)]; omega) (by rw [ext_sz _ _ _ (Nat.le_refl _)]; omega)
      rw [cut_atB, cut_atB, Nat.add_zero] at psp
      have hnn : ∀ n : Int, innI (s.extract k s.size) = n → (atB s k 34 = true ∨ atB s k 40 = true) → (n = 0 ∧ stepW s k = none) ∨ ∃ j : Nat, n = (j : Int) ∧ stepW s k = some (k + j) ∧ 0 < j ∧ k + j ≤ s.size ∧ atB s k 44 = false := fun n hn h => by
        have h1 := inn h
        unfold innI at hn
        have x44 : atB s k 44 = false := by
          rcases h with h | h
          · rw [q34] at h; rw [q44, beq_eq_false_iff_ne]; have := beq_iff_eq.1 h; omega
          · rw [q40] at h; rw [q44, beq_eq_false_iff_ne]; have := beq_iff_eq.1 h; omega
        cases hq : innW (s.extract k s.size) with
        | none => rw [hq] at hn h1; exact .inl ⟨hn.symm, h1.symm⟩
        | some j =>
          rw [hq] at hn h1
          have h1 : stepW s k = some (k + j) := by rw [← h1]; simp [Nat.add_comm]
          have := stepW_lt k1 h1
          exact .inr ⟨j, hn.symm, h1, by omega, this.2, x44⟩
      generalize innI (s.extract k s.size) = n at psp hnn
      have hnn := hnn n rfl
      refine ⟨k, k1, rfl, ?_⟩
      refine cnd_split (fun h34 => ?_) (fun h34 => ?_)
      · have hor : atB s k 34 = true ∨ atB s k 40 = true := .inl (q34.trans h34)
        refine ⟨k, rfl, by omega, Nat.le_refl _, ?_⟩
        refine .p rfl (psp hor) ?_
        rcases hnn hor with ⟨h0, hst⟩ | ⟨j, h0, hst, hj, hjs, h44⟩
        · refine cnd_split (fun h5 => ?_) (fun h5 => ?_)
          · rw [splW_none k1 hst] at hW
            unfold splR
            rw [← hW]
            exact .inl rfl
          · rw [h0] at h5; cases h5
        · refine cnd_split (fun h5 => ?_) (fun h5 => ?_)
          · have := beq_iff_eq.1 h5; omega
          · intro c hc
            rw [IntWalk.i64_in _ (by omega)] at hc
            obtain rfl : c = ((k + j : Nat) : Int) := by omega
            refine ⟨s.size - (k + j), by omega, k + j, b, o, _, rfl, by omega, by omega, by omega, ?_, keep _ hst h44⟩
            rw [hes]
            exact (.own _ _ _ q0 q1)
      · refine ⟨k, k1, rfl, ?_⟩
        refine cnd_split (fun h40 => ?_) (fun h40 => ?_)
        · have hor : atB s k 34 = true ∨ atB s k 40 = true := .inr (q40.trans h40)
          refine ⟨k, rfl, by omega, Nat.le_refl _, ?_⟩
          refine .p rfl (psp hor) ?_
          rcases hnn hor with ⟨h0, hst⟩ | ⟨j, h0, hst, hj, hjs, h44⟩
          · refine cnd_split (fun h5 => ?_) (fun h5 => ?_)
            · rw [splW_none k1 hst] at hW
              unfold splR
              rw [← hW]
              exact .inl rfl
            · rw [h0] at h5; cases h5
          · refine cnd_split (fun h5 => ?_) (fun h5 => ?_)
            · have := beq_iff_eq.1 h5; omega
            · intro c hc
              rw [IntWalk.i64_in _ (by omega)] at hc
              obtain rfl : c = ((k + j : Nat) : Int) := by omega
              refine ⟨s.size - (k + j), by omega, k + j, b, o, _, rfl, by omega, by omega, by omega, ?_, keep _ hst h44⟩
              rw [hes]
              exact (.own _ _ _ q0 q1)
        · have hst : stepW s k = some (k + 1) := by
            unfold stepW
            rw [q40.trans h40, q34.trans h34]
            split <;> rfl
          refine ⟨k, k1, rfl, ?_⟩
          refine cnd_split (fun h44 => ?_) (fun h44 => ?_)
          · have a44 := q44.trans h44
            rw [splW_some k1 hst, if_pos a44, endW_filter] at hW
            refine ⟨k, rfl, b, rfl, by omega, by omega, ?_⟩
            refine .p rfl (trim6_p (s.extract b k) (by rw [ext_sz _ _ _ (by omega)]; omega)) ?_
            refine Acc.app (n := 0) (i := ti9) (es := es) (.own _ _ _ q0 q1) (Nat.zero_le _) (List.cons_ne_nil _ _) ?_ ?_ (fun t e tk' w0 w1 w2 w3 => ?_)
            · show ((es : List (List AV)).length + 1) * 16 ≤ _; omega
            · show (es : List (List AV)).length + 1 ≤ _; omega
            intro c hc
            rw [IntWalk.i64_in _ (by omega)] at hc
            obtain rfl : c = ((k + 1 : Nat) : Int) := by omega
            intro c hc
            rw [IntWalk.i64_in _ (by omega)] at hc
            obtain rfl : c = ((k + 1 : Nat) : Int) := by omega
            refine ⟨g - 1, by omega, k + 1, k + 1, o ++ [trimC (s.extract b k) spcS], _, rfl, by omega, by omega, by simp; omega, ?_, hW⟩
            rw [← strL_app, hes]
            exact .own _ _ _ (Nat.zero_le _) w1
          · have a44 := q44.trans h44
            intro c hc
            rw [IntWalk.i64_in _ (by omega)] at hc
            obtain rfl : c = ((k + 1 : Nat) : Int) := by omega
            refine ⟨g - 1, by omega, k + 1, b, o, _, rfl, by omega, by omega, by omega, ?_, keep _ hst a44⟩
            rw [hes]
            exact (.own _ _ _ q0 q1)
    · have hd := of_decide_eq_false hd
      rw [splW_end (by omega), endW_filter] at hW
      refine ⟨b, rfl, by omega, Nat.le_refl _, ?_⟩
      refine .p rfl (trim6_p (s.extract b s.size) (by rw [ext_sz _ _ _ (Nat.le_refl _)]; omega)) ?_
      refine Acc.app (n := 0) (i := ti9) (es := es) (.own _ _ _ q0 q1) (Nat.zero_le _) (List.cons_ne_nil _ _) ?_ ?_ (fun t e tk' w0 w1 w2 w3 => ?_)
      · show ((es : List (List AV)).length + 1) * 16 ≤ _; omega
      · show (es : List (List AV)).length + 1 ≤ _; omega
      obtain ⟨o2, ho2⟩ : ∃ o2, o ++ [trimC (s.extract b s.size) spcS] = o2 := ⟨_, rfl⟩
      have hrow : (es : List (List AV)) ++ [[AV.s (trimC (s.extract b s.size) spcS)]] = strL o2 := by rw [← ho2, ← strL_app, hes]
      have hlen : ((es : List (List AV)) ++ [[AV.s (trimC (s.extract b s.size) spcS)]]).length = o2.length := by rw [hrow, strL_len]
      have row : ∀ i (hi : i < o2.length), ((es : List (List AV)) ++ [[AV.s (trimC (s.extract b s.size) spcS)]])[i]? = some [.s o2[i]] := fun i hi => by rw [hrow]; exact strL_at hi
      have ol : o2.length ≤ 2199023255552 := by rw [← ho2]; simp; omega
      have hfin : splitW s = some (o2.filter ne8) := by rw [← ho2]; exact hW.symm
      refine vc_loop [8, 9] (fun g2 vals st2 => ∃ (i : Nat) (a2 : AV), i + g2 = o2.length ∧ vals = [a2, .i i] ∧ Acc 0 st2.tk 1 a2 (strL ((o2.take i).filter ne8))) o2.length rfl ⟨0, .nilS, by omega, rfl, .nil⟩ ?_
      rintro g2 vals st2 ⟨i, a2, hi2, rfl, hA2⟩
      generalize hes2 : strL ((o2.take i).filter ne8) = es2 at hA2
      have el2 : es2.length ≤ 2199023255552 := by
        rw [← hes2, strL_len]
        have h1 := List.length_filter_le ne8 (o2.take i)
        rw [List.length_take] at h1
        omega
      cases hA2 with
      | nil =>
        refine cnd_split (fun hd2 => ?_) (fun hd2 => ?_)
        · have hd2 : (i : Int) < (o2.length : Int) := by rw [← hlen]; exact of_decide_eq_true hd2
          have hil : i < o2.length := by omega
          refine ⟨i, _, rfl, row i hil, ?_⟩
          intro t ht
          refine cnd_split (fun h3 => ?_) (fun h3 => ?_)
          · subst h3
            have hz : ne8 o2[i] = true := by
              unfold ne8
              rw [decide_eq_true_eq]
              exact fun e => absurd (ht.2 ((emp_iff _).2 e)) (by decide)
            refine ⟨i, _, rfl, row i hil, ?_⟩
            refine Acc.app (n := 0) (i := ti9) (es := []) .nil (Nat.zero_le _) (List.cons_ne_nil _ _) ?_ ?_ (fun t2 e2 tk2 w0 w1 w2 w3 => ?_)
            · show (([] : List (List AV)).length + 1) * 16 ≤ _; omega
            · show ([] : List (List AV)).length + 1 ≤ _; omega
            intro c hc
            rw [IntWalk.i64_in _ (by omega)] at hc
            obtain rfl : c = ((i + 1 : Nat) : Int) := by omega
            refine ⟨g2 - 1, by omega, i + 1, _, by omega, rfl, ?_⟩
            rw [List.take_add_one, List.getElem?_eq_getElem hil, List.filter_append, show List.filter ne8 (some o2[i]).toList = [o2[i]] by simp [hz], ← strL_app, hes2]
            exact .own _ _ _ (Nat.zero_le _) w1
          · subst h3
            have hz : ne8 o2[i] = false := by
              unfold ne8
              rw [decide_eq_false_iff_not, Decidable.not_not]
              exact (emp_iff _).1 (ht.1 rfl)
            intro c hc
            rw [IntWalk.i64_in _ (by omega)] at hc
            obtain rfl : c = ((i + 1 : Nat) : Int) := by omega
            refine ⟨g2 - 1, by omega, i + 1, _, by omega, rfl, ?_⟩
            rw [List.take_add_one, List.getElem?_eq_getElem hil, List.filter_append, show List.filter ne8 (some o2[i]).toList = [] by simp [hz], List.append_nil, hes2]
            exact .nil
        · have hd2 : ¬ (i : Int) < (o2.length : Int) := by rw [← hlen]; exact of_decide_eq_false hd2
          have : o2.take i = o2 := List.take_of_length_le (by omega)
          rw [this] at hes2
          unfold splR
          rw [hfin]
          simp only
          rw [hes2]
          exact (.inr (.inr ⟨[.i 0], 1, rfl, rfl⟩))
      | own t5 e5 es2 v0 v1 =>
        refine cnd_split (fun hd2 => ?_) (fun hd2 => ?_)
        · have hd2 : (i : Int) < (o2.length : Int) := by rw [← hlen]; exact of_decide_eq_true hd2
          have hil : i < o2.length := by omega
          refine ⟨i, _, rfl, row i hil, ?_⟩
          intro t ht
          refine cnd_split (fun h3 => ?_) (fun h3 => ?_)
          · subst h3
            have hz : ne8 o2[i] = true := by
              unfold ne8
              rw [decide_eq_true_eq]
              exact fun e => absurd (ht.2 ((emp_iff _).2 e)) (by decide)
            refine ⟨i, _, rfl, row i hil, ?_⟩
            refine Acc.app (n := 0) (i := ti9) (es := es2) (.own _ _ _ v0 v1) (Nat.zero_le _) (List.cons_ne_nil _ _) ?_ ?_ (fun t2 e2 tk2 w0 w1 w2 w3 => ?_)
            · show ((es2 : List (List AV)).length + 1) * 16 ≤ _; omega
            · show (es2 : List (List AV)).length + 1 ≤ _; omega
            intro c hc
            rw [IntWalk.i64_in _ (by omega)] at hc
            obtain rfl : c = ((i + 1 : Nat) : Int) := by omega
            refine ⟨g2 - 1, by omega, i + 1, _, by omega, rfl, ?_⟩
            rw [List.take_add_one, List.getElem?_eq_getElem hil, List.filter_append, show List.filter ne8 (some o2[i]).toList = [o2[i]] by simp [hz], ← strL_app, hes2]
            exact .own _ _ _ (Nat.zero_le _) w1
          · subst h3
            have hz : ne8 o2[i] = false := by
              unfold ne8
              rw [decide_eq_false_iff_not, Decidable.not_not]
              exact (emp_iff _).1 (ht.1 rfl)
            intro c hc
            rw [IntWalk.i64_in _ (by omega)] at hc
            obtain rfl : c = ((i + 1 : Nat) : Int) := by omega
            refine ⟨g2 - 1, by omega, i + 1, _, by omega, rfl, ?_⟩
            rw [List.take_add_one, List.getElem?_eq_getElem hil, List.filter_append, show List.filter ne8 (some o2[i]).toList = [] by simp [hz], List.append_nil, hes2]
            exact (.own _ _ _ v0 v1)
        · have hd2 : ¬ (i : Int) < (o2.length : Int) := by rw [← hlen]; exact of_decide_eq_false hd2
          have : o2.take i = o2 := List.take_of_length_le (by omega)
          rw [this] at hes2
          unfold splR
          rw [hfin]
          simp only
          rw [hes2]
          exact (.inl rfl)
end
end Go.Proofs.YtopmflkeohicjaaDoor
