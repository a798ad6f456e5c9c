/- CommasSplits: the document's inner lengths and its trim. No statement of its own. -/
import Derived.Test.YtfhodppaelfcfaaDoorSp1
set_option maxRecDepth 100000
namespace Go.Proofs.YtfhodppaelfcfaaDoor
open Go.RowKit
theorem trim6_p (s : ByteArray) (hs : s.size ≤ 1099511627776) : APure Tryd.prog 89 [.s s] (.s (trimC s spcS)) [] := by
  have hmx : maxLen = 9223372036854775807 := rfl
  refine APure.of rfl (ACalls.of_vc T_ok mixed Tryd.func89 rfl Tryd.call89 ?_)
  refine vc_loop [0] (fun g vals st' => ∃ (p : Nat) (x : ByteArray), p + g = s.size ∧ vals = [.s x] ∧ x = s.extract p s.size ∧ ∀ i, i < p → bkAt s i = true) s.size rfl ⟨0, s, by omega, rfl, by rw [ByteArray.extract_zero_size], fun i h => by omega⟩ ?_
  rintro g vals st' ⟨p, x, hp, rfl, hx, ha⟩
  have ez : x.size = s.size - p := by rw [hx]; exact ext_len s p s.size (Nat.le_refl _)
  have hb : ∀ hi : 0 < x.size, blkI (x[0].toNat : Int) = bkAt s p := fun hi => by
    subst hx
    rw [← bkAt_lt hi, ext_bk (by omega) (Nat.le_refl _), Nat.add_zero]
  refine cnd_split (fun h1 => ?_) (fun h1 => ?_)
  · have h1 := of_decide_eq_true h1
    have hps : p < s.size := by omega
    refine ⟨0, by omega, rfl, ?_⟩
    refine .p rfl (blank1_p _) ?_
    have hb1 := hb (by omega)
    refine cnd_split (fun h2 => ?_) (fun h2 => ?_)
    · refine ⟨1, rfl, by omega, Nat.le_refl _, ?_⟩
      refine ⟨g - 1, by omega, p + 1, _, by omega, rfl, ?_, fun i hi => ?_⟩
      · rw [hx, cut_cut s p 1]
      · by_cases e : i = p
        · rw [e, ← hb1]; exact h2
        · exact ha i (by omega)
    · have hstop : p < s.size → bkAt s p = false := fun _ => by rw [← hb1]; exact h2
      refine vc_loop [0] (fun g2 vals st2 => ∃ (q : Nat) (y : ByteArray), q = p + g2 ∧ q ≤ s.size ∧ vals = [.s y] ∧ y = s.extract p q ∧ ∀ i, q ≤ i → bkAt s i = true) (s.size - p) rfl ⟨s.size, x, by omega, by omega, rfl, hx, fun i hi => bkAt_ge hi⟩ ?_
      rintro g2 vals st2 ⟨q, y, hq, hqs, rfl, hy, hqb⟩
      have eq : y.size = q - p := by rw [hy]; exact ext_len s p q hqs
      have fin : (p < q → bkAt s (q - 1) = false) → y = trimC s spcS := fun hl => by
        rw [hy]
        by_cases hpq : p < q
        · exact (trimC_of hpq ha hqb (hstop (by omega)) (hl hpq)).symm
        · have h1 := (emp_iff _).2 (trimC_blank (s := s) fun i => if hi : i < p then ha i hi else hqb i (by omega))
          rw [h1]
          exact (emp_iff _).2 (by rw [← hy]; omega)
      have hb : ∀ i (hi : i < y.size), blkI (y[i].toNat : Int) = bkAt s (p + i) := fun i hi => by
        subst hy
        rw [← bkAt_lt hi, ext_bk (by omega) hqs]
      refine cnd_split (fun h1 => ?_) (fun h1 => ?_)
      · have h1 := of_decide_eq_true h1
        have hpq : p < q := by omega
        intro c hc
        rw [IntWalk.i64_in _ (by omega)] at hc
        obtain rfl : c = ((q - p - 1 : Nat) : Int) := by omega
        refine ⟨q - p - 1, by omega, rfl, ?_⟩
        refine .p rfl (blank1_p _) ?_
        have hb1 := hb (q - p - 1) (by omega)
        rw [show p + (q - p - 1) = q - 1 by omega] at hb1
        refine cnd_split (fun h2 => ?_) (fun h2 => ?_)
        · intro c hc
          rw [IntWalk.i64_in _ (by omega)] at hc
          obtain rfl : c = ((q - p - 1 : Nat) : Int) := by omega
          refine ⟨q - p - 1, rfl, Nat.zero_le _, by omega, ?_⟩
          refine ⟨g2 - 1, by omega, q - 1, _, by omega, by omega, rfl, ?_, fun i hi => ?_⟩
          · rw [hy, ext_ext2 _ _ _ _ _ (by omega), Nat.add_zero, show p + (q - p - 1) = q - 1 by omega]
          · by_cases e : i = q - 1
            · rw [e, ← hb1]; exact h2
            · exact hqb i (by omega)
        · exact rets (fin fun _ => by rw [← hb1]; exact h2)
      · have h1 := of_decide_eq_false h1
        exact rets (fin fun h => by omega)
  · have h1 := of_decide_eq_false h1
    have hstop : p < s.size → bkAt s p = false := fun h => by omega
    refine vc_loop [0] (fun g2 vals st2 => ∃ (q : Nat) (y : ByteArray), q = p + g2 ∧ q ≤ s.size ∧ vals = [.s y] ∧ y = s.extract p q ∧ ∀ i, q ≤ i → bkAt s i = true) (s.size - p) rfl ⟨s.size, x, by omega, by omega, rfl, hx, fun i hi => bkAt_ge hi⟩ ?_
    rintro g2 vals st2 ⟨q, y, hq, hqs, rfl, hy, hqb⟩
    have eq : y.size = q - p := by rw [hy]; exact ext_len s p q hqs
    have fin : (p < q → bkAt s (q - 1) = false) → y = trimC s spcS := fun hl => by
      rw [hy]
      by_cases hpq : p < q
      · exact (trimC_of hpq ha hqb (hstop (by omega)) (hl hpq)).symm
      · have h1 := (emp_iff _).2 (trimC_blank (s := s) fun i => if hi : i < p then ha i hi else hqb i (by omega))
        rw [h1]
        exact (emp_iff _).2 (by rw [← hy]; omega)
    have hb : ∀ i (hi : i < y.size), blkI (y[i].toNat : Int) = bkAt s (p + i) := fun i hi => by
      subst hy
      rw [← bkAt_lt hi, ext_bk (by omega) hqs]
    refine cnd_split (fun h1 => ?_) (fun h1 => ?_)
    · have h1 := of_decide_eq_true h1
      have hpq : p < q := by omega
      intro c hc
      rw [IntWalk.i64_in _ (by omega)] at hc
      obtain rfl : c = ((q - p - 1 : Nat) : Int) := by omega
      refine ⟨q - p - 1, by omega, rfl, ?_⟩
      refine .p rfl (blank1_p _) ?_
      have hb1 := hb (q - p - 1) (by omega)
      rw [show p + (q - p - 1) = q - 1 by omega] at hb1
      refine cnd_split (fun h2 => ?_) (fun h2 => ?_)
      · intro c hc
        rw [IntWalk.i64_in _ (by omega)] at hc
        obtain rfl : c = ((q - p - 1 : Nat) : Int) := by omega
        refine ⟨q - p - 1, rfl, Nat.zero_le _, by omega, ?_⟩
        refine ⟨g2 - 1, by omega, q - 1, _, by omega, by omega, rfl, ?_, fun i hi => ?_⟩
        · rw [hy, ext_ext2 _ _ _ _ _ (by omega), Nat.add_zero, show p + (q - p - 1) = q - 1 by omega]
        · by_cases e : i = q - 1
          · rw [e, ← hb1]; exact h2
          · exact hqb i (by omega)
      · exact rets (fin fun _ => by rw [← hb1]; exact h2)
    · have h1 := of_decide_eq_false h1
      exact rets (fin fun h => by omega)

end Go.Proofs.YtfhodppaelfcfaaDoor
