/- CommasSplits: the document's inner lengths and its trim. No statement of its own. -/
import Derived.Test.YtopmflkeohicjaaDoorSp1
set_option maxRecDepth 100000
namespace Go.Proofs.YtopmflkeohicjaaDoor
open Go.RowKit
theorem trim6_p (s : ByteArray) (hs : s.size ≤ 1099511627776) : APure Tryd.prog 133 [.s s] (.s (trimC s spcS)) [] := by
  have hmx : maxLen = 9223372036854775807 := rfl
  refine APure.of rfl (ACalls.of_vc T_ok mixed Tryd.func133 rfl Tryd.call133 ?_)
  refine vc_loop [0] (fun g vals st' => ∃ (p : Nat) (x : ByteArray), p + g = s.size ∧ vals = [.s x] ∧ x = s.extract p s.size ∧ ∀ i, i < p → bkAt s i = true) s.size rfl ⟨0, s, by omega, rfl, by rw [ByteArray.extract_zero_size], fun i h => by omega⟩ ?_
  rintro g vals st' ⟨p, x, hp, rfl, hx, ha⟩
  have ez : x.size = s.size - p := by rw [hx]; exact ext_len s p s.size (Nat.le_refl _)
  have hb : ∀ hi : 0 < x.size, blkI (x[0].toNat : Int) = bkAt s p := fun hi => by
    subst hx
    rw [← bkAt_lt hi, ext_bk (by omega) (Nat.le_refl _), Nat.add_zero]
  refine cnd_split (fun h1 => ?_) (fun h1 => ?_)
  · have h1 := of_decide_eq_true h1
    have hps : p < s.size := by omega
    refine ⟨0, by omega, rfl, ?_⟩
    refine .p rfl (blank1_p _) ?_
    have hb1 := hb (by omega)
    refine cnd_split (fun h2 => ?_) (fun h2 => ?_)
    · refine ⟨1, rfl, by omega, Nat.le_refl _, ?_⟩
      refine ⟨g - 1, by omega, p + 1, _, by omega, rfl, ?_, fun i hi => ?_⟩
      · rw [hx, cut_cut s p 1]
      · by_cases e : i = p
        · rw [e, ← hb1]; exact h2
        · exact ha i (by omega)
    · have hstop : p < s.size → bkAt s p = false := fun _ => by rw [← hb1]; exact h2
      refine vc_loop [0] (fun g2 vals st2 => ∃ (q : Nat) (y : ByteArray), q = p + g2 ∧ q ≤ s.size ∧ vals = [.s y] ∧ y = s.extract p q ∧ ∀ i, q ≤ i → bkAt s i = true) (s.size - p) rfl ⟨s.size, x, by omega, by omega, rfl, hx, fun i hi => bkAt_ge hi⟩ ?_
      rintro g2 vals st2 ⟨q, y, hq, hqs, rfl, hy, hqb⟩
      have eq : y.size = q - p := by rw [hy]; exact ext_len s p q hqs
      have fin : (p < q → bkAt s (q - 1) = false) → y = trimC s spcS := fun hl => by
        rw [hy]
        by_cases hpq : p < q
        · exact (trimC_of hpq ha hqb (hstop (by omega)) (hl hpq)).symm
        · have h1 := (emp_iff _).2 (trimC_blank (s := s) fun i => if hi : i < p then ha i hi else hqb i (by omega))
          rw [h1]
          exact (emp_iff _).2 (by rw [← hy]; omega)
      have hb : ∀ i (hi : i < y.size), blkI (y[i].toNat : Int) = bkAt s (p + i) := fun i hi => by
        subst hy
        rw [← bkAt_lt hi, ext_bk (by omega) hqs]
      refine cnd_split (fun h1 => ?_) (fun h1 => ?_)
      · have h1 := of_decide_eq_true h1
        have hpq : p < q := by omega
        intro c hc
        rw [IntWalk.i64_in _ (by omega)] at hc
        obtain rfl : c = ((q - p - 1 : Nat) : Int) := by omega
        refine ⟨q - p - 1, by omega, rfl, ?_⟩
        refine .p rfl (blank1_p _) ?_
        have hb1 := hb (q - p - 1) (by omega)
        rw [show p + (q - p - 1) = q - 1 by omega] at hb1
        refine cnd_split (fun h2 => ?_) (fun h2 => ?_)
        · intro c hc
          rw [IntWalk.i64_in _ (by omega)] at hc
          obtain rfl : c = ((q - p - 1 : Nat) : Int) := by omega
          refine ⟨q - p - 1, rfl, Nat.zero_le _, by omega, ?_⟩
          refine ⟨g2 - 1, by omega, q - 1, _, by omega, by omega, rfl, ?_, fun i hi => ?_⟩
          · rw [hy, ext_ext2 _ _ _ _ _ (by omega), Nat.add_zero, show p + (q - p - 1) = q - 1 by omega]
          · by_cases e : i = q - 1
            · rw [e, ← hb1]; exact h2
            · exact hqb i (by omega)
        · exact rets (fin fun _ => by rw [← hb1]; exact h2)
      · have h1 := of_decide_eq_false h1
        exact rets (fin fun h => by omega)
  · have h1 := of_decide_eq_false h1
    have hstop : p < s.size → bkAt s p = false := fun h => by omega
    refine vc_loop [0] (fun g2 vals st2 => ∃ (q : Nat) (y : ByteArray), q = p + g2 ∧ q ≤ s.size ∧ vals = [.s y] ∧ y = s.extract p q ∧ ∀ i, q ≤ i → bkAt s i = true) (s.size - p) rfl ⟨s.size, x, by omega, by omega, rfl, hx, fun i hi => bkAt_ge hi⟩ ?_
    rintro g2 vals st2 ⟨q, y, hq, hqs, rfl, hy, hqb⟩
    have eq : y.size = q - p := by rw [hy]; exact ext_len s p q hqs
    have fin : (p < q → bkAt s (q - 1) = false) → y = trimC s spcS := fun hl => by
      rw [hy]
      by_cases hpq : p < q
      · exact (trimC_of hpq ha hqb (hstop (by omega)) (hl hpq)).symm
      · have h1 := (emp_iff _).2 (trimC_blank (s := s) fun i => if hi : i < p then ha i hi else hqb i (by omega))
        rw [h1]
        exact (emp_iff _).2 (by rw [← hy]; omega)
    have hb : ∀ i (hi : i < y.size), blkI (y[i].toNat : Int) = bkAt s (p + i) := fun i hi => by
      subst hy
      rw [← bkAt_lt hi, ext_bk (by omega) hqs]
    refine cnd_split (fun h1 => ?_) (fun h1 => ?_)
    · have h1 := of_decide_eq_true h1
      have hpq : p < q := by omega
      intro c hc
      rw [IntWalk.i64_in _ (by omega)] at hc
      obtain rfl : c = ((q - p - 1 : Nat) : Int) := by omega
      refine ⟨q - p - 1, by omega, rfl, ?_⟩
      refine .p rfl (blank1_p _) ?_
      have hb1 := hb (q - p - 1) (by omega)
      rw [show p + (q - p - 1) = q - 1 by omega] at hb1
      refine cnd_split (fun h2 => ?_) (fun h2 => ?_)
      · intro c hc
        rw [IntWalk.i64_in _ (by omega)] at hc
        obtain rfl : c = ((q - p - 1 : Nat) : Int) := by omega
        refine ⟨q - p - 1, rfl, Nat.zero_le _, by omega, ?_⟩
        refine ⟨g2 - 1, by omega, q - 1, _, by omega, by omega, rfl, ?_, fun i hi => ?_⟩
        · rw [hy, ext_ext2 _ _ _ _ _ (by omega), Nat.add_zero, show p + (q - p - 1) = q - 1 by omega]
        · by_cases e : i = q - 1
          · rw [e, ← hb1]; exact h2
          · exact hqb i (by omega)
      · exact rets (fin fun _ => by rw [← hb1]; exact h2)
    · have h1 := of_decide_eq_false h1
      exact rets (fin fun h => by omega)

theorem inner6_p (s : ByteArray) (h0 : 0 < s.size) (hs : s.size ≤ 1099511627776) (hq : atB s 0 34 = true ∨ atB s 0 40 = true) : APure Tryd.prog 136 [.s s] (.i (innI s)) [] := by
  have hmx : maxLen = 9223372036854775807 := rfl
  have hI : innI s = match (if atB s 0 34 = true then (frontS s 0).map (·.2) else cmtW s 1 1) with | some j => (j : Int) | none => 0 := rfl
  refine APure.of rfl (ACalls.of_vc T_ok mixed Tryd.func136 rfl Tryd.call136 ?_)
  refine ⟨0, h0, rfl, ?_⟩
  have e34 := atB_lt h0 34
  refine cnd_split (fun h1 => ?_) (fun h1 => ?_)
  · rw [e34, show ((s[0].toNat : Int) == 34) = true from h1, if_pos rfl] at hI
    refine .p rfl (front5_p s hs) ?_
    refine reti ?_
    rw [hI]
    unfold frontR
    cases frontS s 0 with
    | none => rfl
    | some x => rfl
  · have n34 : atB s 0 34 = false := e34.trans h1
    have h40 : atB s 0 40 = true := hq.resolve_left (by rw [n34]; decide)
    rw [n34, if_neg (by decide)] at hI
    have d0 : ∀ d : Int, d ≠ 40 → atB s 0 d = false := fun d hd => by
      rw [atB_lt h0] at h40 ⊢
      have := beq_iff_eq.1 h40
      rw [beq_eq_false_iff_ne]; omega
    generalize hC : cmtW s 1 1 = C at *
    have bad : C = none → innI s = 0 := fun h => by rw [hI, h]
    have good : ∀ j, C = some j → innI s = (j : Int) := fun j h => by rw [hI, h]
    refine vc_loop [5, 6] (fun g vals st' => ∃ k d : Nat, vals = [.i d, .i k] ∧ k + g = s.size + 1 ∧ ((k = 0 ∧ d = 0) ∨ (1 ≤ k ∧ 1 ≤ d ∧ d ≤ k ∧ ((k ≤ s.size ∧ cmtW s k d = C) ∨ (s.size < k ∧ C = none))))) (s.size + 1) rfl ⟨0, 0, rfl, by omega, .inl ⟨rfl, rfl⟩⟩ ?_
    rintro g vals st' ⟨k, d, rfl, hg, hcase⟩
    refine cnd_split (fun hd => ?_) (fun hd => ?_)
    · have hd := of_decide_eq_true hd
      have k1 : k < s.size := by omega
      have hW : (k = 0 ∧ d = 0) ∨ (1 ≤ k ∧ 1 ≤ d ∧ d ≤ k ∧ cmtW s k d = C) := by
        rcases hcase with h | ⟨a, b, c, h | h⟩
        · exact .inl h
        · exact .inr ⟨a, b, c, h.2⟩
        · omega
      have q40 := atB_lt k1 40
      have q41 := atB_lt k1 41
      have q92 := atB_lt k1 92
      refine ⟨k, k1, rfl, ?_⟩
      refine cnd_split (fun h2 => ?_) (fun h2 => ?_)
      · have a40 : atB s k 40 = true := q40.trans h2
        intro c hc
        rw [IntWalk.i64_in _ (by rcases hW with h | h <;> omega)] at hc
        have hn : (c = 0) = False := by simp; omega
        have hbf : (c == 0) = false := by rw [beq_eq_false_iff_ne]; omega
        refine cnd_split (fun h3 => ?_) (fun h3 => ?_)
        · rw [show (c == 0) = true from h3] at hbf; cases hbf
        · intro c2 hc2
          rw [IntWalk.i64_in _ (by omega)] at hc2
          refine ⟨g - 1, by omega, k + 1, d + 1, by rw [hc, hc2]; rfl, by omega, .inr ⟨by omega, by omega, ?_, .inl ⟨by omega, ?_⟩⟩⟩
          · rcases hW with h | h <;> omega
          · rcases hW with ⟨rfl, rfl⟩ | ⟨_, b, _, h⟩
            · exact hC
            · rw [cmtW, if_neg (by omega), dif_pos k1, if_pos a40] at h; exact h
      · have a40 : atB s k 40 = false := q40.trans h2
        have hk0 : k ≠ 0 := fun e => by subst e; rw [a40] at h40; cases h40
        obtain ⟨_, hd1, hdk, h⟩ := hW.resolve_left (fun h => hk0 h.1)
        rw [cmtW, if_neg (by omega), dif_pos k1, if_neg (by rw [a40]; decide)] at h
        refine cnd_split (fun h3 => ?_) (fun h3 => ?_)
        · rw [if_pos (q41.trans h3)] at h
          intro c hc
          rw [IntWalk.i64_in _ (by omega)] at hc
          refine cnd_split (fun h4 => ?_) (fun h4 => ?_)
          · have h4 : c = 0 := beq_iff_eq.1 h4
            rw [show d - 1 = 0 by omega, cmtW, if_pos rfl] at h
            intro c2 hc2
            rw [IntWalk.i64_in _ (by omega)] at hc2
            exact reti (by rw [good _ h.symm, hc2]; rfl)
          · have h4 : c ≠ 0 := beq_eq_false_iff_ne.1 h4
            intro c2 hc2
            rw [IntWalk.i64_in _ (by omega)] at hc2
            exact ⟨g - 1, by omega, k + 1, d - 1, by rw [hc, hc2, Int.ofNat_sub hd1]; rfl, by omega, .inr ⟨by omega, by omega, by omega, .inl ⟨by omega, h⟩⟩⟩
        · rw [if_neg (by rw [q41.trans h3]; decide)] at h
          have dn : ((d : Int) == 0) = false := by rw [beq_eq_false_iff_ne]; omega
          refine cnd_split (fun h4 => ?_) (fun h4 => ?_)
          · rw [if_pos (q92.trans h4)] at h
            intro c hc
            rw [IntWalk.i64_in _ (by omega)] at hc
            refine cnd_split (fun h5 => ?_) (fun h5 => ?_)
            · rw [show ((d : Int) == 0) = true from h5] at dn; cases dn
            · intro c2 hc2
              rw [IntWalk.i64_in _ (by omega)] at hc2
              refine ⟨g - 2, by omega, k + 2, d, by rw [hc2, hc]; rfl, by omega, .inr ⟨by omega, by omega, by omega, ?_⟩⟩
              by_cases h6 : k + 1 < s.size
              · rw [if_pos h6] at h; exact .inl ⟨by omega, h⟩
              · rw [if_neg h6, cmtW, if_neg (by omega), dif_neg (by omega)] at h
                exact .inr ⟨by omega, h.symm⟩
          · rw [if_neg (by rw [q92.trans h4]; decide)] at h
            refine cnd_split (fun h5 => ?_) (fun h5 => ?_)
            · rw [show ((d : Int) == 0) = true from h5] at dn; cases dn
            · intro c2 hc2
              rw [IntWalk.i64_in _ (by omega)] at hc2
              exact ⟨g - 1, by omega, k + 1, d, by rw [hc2]; rfl, by omega, .inr ⟨by omega, by omega, by omega, .inl ⟨by omega, h⟩⟩⟩
    · have hd := of_decide_eq_false hd
      refine reti (bad ?_).symm
      rcases hcase with h | ⟨a, b, c, h | h⟩
      · omega
      · have h2 := h.2
        rw [cmtW, if_neg (by omega), dif_neg (by omega)] at h2
        exact h2.symm
      · exact h.2
end Go.Proofs.YtopmflkeohicjaaDoor
