/- A line of a body in chunks, read in the document. No statement of its own. -/
import Derived.Test.YtookaenbpfpegaaDoorPq
import Derived.Test.YtookaenbpfpegaaDoorDq
set_option linter.unusedSimpArgs false
set_option linter.unusedVariables false
set_option maxRecDepth 100000
namespace Go.Proofs.YtookaenbpfpegaaDoor
open Go.RowKit
set_option maxHeartbeats 2000000 in
theorem read19_p (s : ByteArray) (b sp : Nat) (mo : Int) (lim : Option Nat) (hs : s.size ≤ 1000000) (hb : b ≤ s.size) (hsp : sp ≤ 1000000) (hmo : mo ≤ 1000000) (hlim : (mo < 0 ∧ lim = none) ∨ ∃ q : Nat, mo = (sp + q : Nat) ∧ lim = some q) :
    APure Tryd.prog 52 [.s s, .i b, .i sp, .i mo] (.agg [.i (readW lim 0 false (s.data.toList.drop b)).1, .i (readW lim 0 false (s.data.toList.drop b)).2.1, .i (readW lim 0 false (s.data.toList.drop b)).2.2]) [] := by
  have hmx : maxLen = 9223372036854775807 := rfl
  have hbl := blen s
  obtain ⟨Z, hZ⟩ : ∃ Z, readW lim 0 false (s.data.toList.drop b) = Z := ⟨_, rfl⟩
  rw [hZ]
  refine APure.of rfl (ACalls.of_vc T_ok mixed Tryd.func52 rfl Tryd.call52 ?_)
  refine vc_loop [9] (fun g vals st' => ∃ (k : Nat) (cr : Bool), b + k + g = s.size ∧ vals = [.i (b + k : Nat)] ∧ st'.heap = [[AV.i 0, .i 0, .i 0]] ∧ Z = readW lim k cr (s.data.toList.drop (b + k)) ∧ cr = (decide (0 < k) && decide (s.data.toList[b + k - 1]? = some 13))) (s.size - b) rfl ⟨0, false, by omega, rfl, rfl, hZ.symm, rfl⟩ ?_
  rintro g vals ⟨H, tk⟩ ⟨k, cr, hk, rfl, hh, hZ2, hcr⟩
  obtain rfl : H = [[AV.i 0, .i 0, .i 0]] := hh
  refine cnd_split (fun hd => ?_) (fun hd => ?_)
  · have hd := of_decide_eq_true hd
    have k1 : b + k < s.size := by omega
    have e0 : s.data.toList.drop (b + k) = s[b + k] :: s.data.toList.drop (b + k + 1) := by
      rw [List.drop_eq_getElem_cons (by omega)]; rfl
    rw [e0, readW] at hZ2
    intro c hc
    rw [IntWalk.i64_in _ (by omega)] at hc
    obtain rfl : c = ((k : Nat) : Int) := by omega
    have hnl9 : ∀ q : Nat, mo = (sp + q : Nat) → lim = some q → ((∃ m, lim = some m ∧ m < k + 1) ↔ q < k + 1) := fun q _ e => ⟨fun ⟨m, h1, h2⟩ => by rw [e] at h1; cases h1; exact h2, fun h => ⟨q, e, h⟩⟩
    refine cnd_split (fun h4 => ?_) (fun h4 => ?_)
    · rw [if_pos (.inl (by have := of_decide_eq_true h4; omega))] at hZ2
      subst hZ2
      intro c hc
      rw [IntWalk.i64_in _ (by omega)] at hc
      obtain rfl : c = ((k + 1 : Nat) : Int) := by omega
      refine ⟨_, rfl, ?_⟩
      refine ⟨_, rfl, ?_⟩
      rfl
    have h4 := of_decide_eq_false h4
    refine cnd_split (fun h5 => ?_) (fun h5 => ?_)
    · have h5 := of_decide_eq_true h5
      obtain ⟨q, hq, hlq⟩ : ∃ q : Nat, mo = (sp + q : Nat) ∧ lim = some q := hlim.elim (fun h => by omega) id
      intro c hc
      rw [IntWalk.i64_in _ (by omega)] at hc
      obtain rfl : c = ((sp + k : Nat) : Int) := by omega
      intro c hc
      rw [IntWalk.i64_in _ (by omega)] at hc
      obtain rfl : c = ((sp + k + 1 : Nat) : Int) := by omega
      refine cnd_split (fun h6 => ?_) (fun h6 => ?_)
      · have h6 := of_decide_eq_true h6
        rw [if_pos (.inr ((hnl9 q hq hlq).2 (by omega)))] at hZ2
        subst hZ2
        intro c hc
        rw [IntWalk.i64_in _ (by omega)] at hc
        obtain rfl : c = ((k + 1 : Nat) : Int) := by omega
        refine ⟨_, rfl, ?_⟩
        refine ⟨_, rfl, ?_⟩
        rfl
      have h6 := of_decide_eq_false h6
      have hnl : ¬ ∃ m, lim = some m ∧ m < k + 1 := fun h => by have := (hnl9 q hq hlq).1 h; omega
      rw [if_neg (fun h => h.elim (fun h => by omega) hnl)] at hZ2
      have q10 : ((s[b + k].toNat : Int) == 10) = decide (s[b + k] = 10) := by
        rw [Bool.eq_iff_iff, beq_iff_eq, decide_eq_true_eq]
        exact ⟨fun h => UInt8.toNat_inj.1 (by show _ = 10; omega), fun h => by rw [h]; rfl⟩
      have fin : ∀ C : Bool, C = cr → True := fun _ _ => trivial
      refine cnd_split (fun h0 => ?_) (fun h0 => ?_)
      · have h0 := of_decide_eq_true h0
        have kp : 0 < k := by omega
        intro c hc
        rw [IntWalk.i64_in _ (by omega)] at hc
        obtain rfl : c = ((b + k - 1 : Nat) : Int) := by omega
        refine ⟨b + k - 1, by omega, rfl, ?_⟩
        have q13 : ((s[b + k - 1].toNat : Int) == 13) = cr := by
          rw [hcr, decide_eq_true kp, Bool.true_and, at_lt (by omega), Bool.eq_iff_iff, beq_iff_eq, decide_eq_true_eq, Option.some.injEq]
          exact ⟨fun h => UInt8.toNat_inj.1 (by show _ = 13; omega), fun h => by rw [h]; rfl⟩
        refine ⟨b + k, k1, rfl, ?_⟩
        refine cnd_split (fun h1 => ?_) (fun h1 => ?_)
        · have t10 : s[b + k] = 10 := by rw [q10] at h1; exact of_decide_eq_true h1
          refine cnd_split (fun h2 => ?_) (fun h2 => ?_)
          · have hcf : cr = false := by rw [← q13]; simpa only [Bool.not_eq_true'] using h2
            rw [if_pos (by rw [decide_eq_true t10, hcf]; decide)] at hZ2
            subst hZ2
            intro c hc
            rw [IntWalk.i64_in _ (by omega)] at hc
            obtain rfl : c = ((k + 1 : Nat) : Int) := by omega
            refine ⟨_, rfl, ?_⟩
            refine ⟨_, rfl, ?_⟩
            rfl
          · have hct : cr = true := by rw [← q13]; simpa only [Bool.not_eq_false'] using h2
            rw [if_neg (by rw [decide_eq_true t10, hct]; decide), if_pos t10] at hZ2
            refine ⟨b + k, k1, rfl, ?_⟩
            refine cnd_split (fun h3 => absurd (beq_iff_eq.1 h1) (bne_iff_ne.1 h3)) (fun h3 => ?_)
            refine ⟨b + k, k1, rfl, ?_⟩
            refine cnd_split (fun h9 => ?_) (fun h9 => absurd (beq_iff_eq.1 h1) (beq_eq_false_iff_ne.1 h9))
            subst hZ2
            intro c hc
            rw [IntWalk.i64_in _ (by omega)] at hc
            obtain rfl : c = ((k + 1 : Nat) : Int) := by omega
            refine ⟨_, rfl, ?_⟩
            refine ⟨_, rfl, ?_⟩
            rfl
        · have t10 : s[b + k] ≠ 10 := by rw [q10] at h1; exact of_decide_eq_false h1
          refine ⟨b + k, k1, rfl, ?_⟩
          refine cnd_split (fun h3 => ?_) (fun h3 => absurd (bne_eq_false_iff_eq.1 h3) (beq_eq_false_iff_ne.1 h1))
          refine cnd_split (fun h2 => ?_) (fun h2 => ?_)
          · have hct : cr = true := by rw [← q13]; exact h2
            rw [if_pos (by rw [decide_eq_false t10, hct]; decide)] at hZ2
            subst hZ2
            intro c hc
            rw [IntWalk.i64_in _ (by omega)] at hc
            obtain rfl : c = ((k + 1 : Nat) : Int) := by omega
            refine ⟨_, rfl, ?_⟩
            refine ⟨_, rfl, ?_⟩
            rfl
          · have hcf : cr = false := by rw [← q13]; exact h2
            rw [if_neg (by rw [decide_eq_false t10, hcf]; decide), if_neg t10] at hZ2
            refine ⟨b + k, k1, rfl, ?_⟩
            refine cnd_split (fun h9 => absurd (beq_iff_eq.1 h9) (beq_eq_false_iff_ne.1 h1)) (fun h9 => ?_)
            intro c hc
            rw [IntWalk.i64_in _ (by omega)] at hc
            obtain rfl : c = ((b + (k + 1) : Nat) : Int) := by omega
            exact ⟨g - 1, by omega, k + 1, _, by omega, rfl, rfl, hZ2, by rw [decide_eq_true (Nat.succ_pos k), Bool.true_and, show b + (k + 1) - 1 = b + k by omega, at_lt k1]; simp⟩
      · have h0 := of_decide_eq_false h0
        have k0 : ¬ 0 < k := by omega
        have hcf : cr = false := by rw [hcr, decide_eq_false k0, Bool.false_and]
        refine ⟨b + k, k1, rfl, ?_⟩
        refine cnd_split (fun h1 => ?_) (fun h1 => ?_)
        · have t10 : s[b + k] = 10 := by rw [q10] at h1; exact of_decide_eq_true h1
          rw [if_pos (by rw [decide_eq_true t10, hcf]; decide)] at hZ2
          subst hZ2
          intro c hc
          rw [IntWalk.i64_in _ (by omega)] at hc
          obtain rfl : c = ((k + 1 : Nat) : Int) := by omega
          refine ⟨_, rfl, ?_⟩
          refine ⟨_, rfl, ?_⟩
          rfl
        · have t10 : s[b + k] ≠ 10 := by rw [q10] at h1; exact of_decide_eq_false h1
          rw [if_neg (by rw [decide_eq_false t10, hcf]; decide), if_neg t10] at hZ2
          refine ⟨b + k, k1, rfl, ?_⟩
          refine cnd_split (fun h3 => ?_) (fun h3 => absurd (bne_eq_false_iff_eq.1 h3) (beq_eq_false_iff_ne.1 h1))
          refine ⟨b + k, k1, rfl, ?_⟩
          refine cnd_split (fun h9 => absurd (beq_iff_eq.1 h9) (beq_eq_false_iff_ne.1 h1)) (fun h9 => ?_)
          intro c hc
          rw [IntWalk.i64_in _ (by omega)] at hc
          obtain rfl : c = ((b + (k + 1) : Nat) : Int) := by omega
          exact ⟨g - 1, by omega, k + 1, _, by omega, rfl, rfl, hZ2, by rw [decide_eq_true (Nat.succ_pos k), Bool.true_and, show b + (k + 1) - 1 = b + k by omega, at_lt k1]; simp⟩
    · have h5 := of_decide_eq_false h5
      have hnl : ¬ ∃ m, lim = some m ∧ m < k + 1 := fun ⟨m, e, _⟩ => hlim.elim (fun h => by rw [h.2] at e; cases e) (fun ⟨q, h, _⟩ => by omega)
      rw [if_neg (fun h => h.elim (fun h => by omega) hnl)] at hZ2
      have q10 : ((s[b + k].toNat : Int) == 10) = decide (s[b + k] = 10) := by
        rw [Bool.eq_iff_iff, beq_iff_eq, decide_eq_true_eq]
        exact ⟨fun h => UInt8.toNat_inj.1 (by show _ = 10; omega), fun h => by rw [h]; rfl⟩
      have fin : ∀ C : Bool, C = cr → True := fun _ _ => trivial
      refine cnd_split (fun h0 => ?_) (fun h0 => ?_)
      · have h0 := of_decide_eq_true h0
        have kp : 0 < k := by omega
        intro c hc
        rw [IntWalk.i64_in _ (by omega)] at hc
        obtain rfl : c = ((b + k - 1 : Nat) : Int) := by omega
        refine ⟨b + k - 1, by omega, rfl, ?_⟩
        have q13 : ((s[b + k - 1].toNat : Int) == 13) = cr := by
          rw [hcr, decide_eq_true kp, Bool.true_and, at_lt (by omega), Bool.eq_iff_iff, beq_iff_eq, decide_eq_true_eq, Option.some.injEq]
          exact ⟨fun h => UInt8.toNat_inj.1 (by show _ = 13; omega), fun h => by rw [h]; rfl⟩
        refine ⟨b + k, k1, rfl, ?_⟩
        refine cnd_split (fun h1 => ?_) (fun h1 => ?_)
        · have t10 : s[b + k] = 10 := by rw [q10] at h1; exact of_decide_eq_true h1
          refine cnd_split (fun h2 => ?_) (fun h2 => ?_)
          · have hcf : cr = false := by rw [← q13]; simpa only [Bool.not_eq_true'] using h2
            rw [if_pos (by rw [decide_eq_true t10, hcf]; decide)] at hZ2
            subst hZ2
            intro c hc
            rw [IntWalk.i64_in _ (by omega)] at hc
            obtain rfl : c = ((k + 1 : Nat) : Int) := by omega
            refine ⟨_, rfl, ?_⟩
            refine ⟨_, rfl, ?_⟩
            rfl
          · have hct : cr = true := by rw [← q13]; simpa only [Bool.not_eq_false'] using h2
            rw [if_neg (by rw [decide_eq_true t10, hct]; decide), if_pos t10] at hZ2
            refine ⟨b + k, k1, rfl, ?_⟩
            refine cnd_split (fun h3 => absurd (beq_iff_eq.1 h1) (bne_iff_ne.1 h3)) (fun h3 => ?_)
            refine ⟨b + k, k1, rfl, ?_⟩
            refine cnd_split (fun h9 => ?_) (fun h9 => absurd (beq_iff_eq.1 h1) (beq_eq_false_iff_ne.1 h9))
            subst hZ2
            intro c hc
            rw [IntWalk.i64_in _ (by omega)] at hc
            obtain rfl : c = ((k + 1 : Nat) : Int) := by omega
            refine ⟨_, rfl, ?_⟩
            refine ⟨_, rfl, ?_⟩
            rfl
        · have t10 : s[b + k] ≠ 10 := by rw [q10] at h1; exact of_decide_eq_false h1
          refine ⟨b + k, k1, rfl, ?_⟩
          refine cnd_split (fun h3 => ?_) (fun h3 => absurd (bne_eq_false_iff_eq.1 h3) (beq_eq_false_iff_ne.1 h1))
          refine cnd_split (fun h2 => ?_) (fun h2 => ?_)
          · have hct : cr = true := by rw [← q13]; exact h2
            rw [if_pos (by rw [decide_eq_false t10, hct]; decide)] at hZ2
            subst hZ2
            intro c hc
            rw [IntWalk.i64_in _ (by omega)] at hc
            obtain rfl : c = ((k + 1 : Nat) : Int) := by omega
            refine ⟨_, rfl, ?_⟩
            refine ⟨_, rfl, ?_⟩
            rfl
          · have hcf : cr = false := by rw [← q13]; exact h2
            rw [if_neg (by rw [decide_eq_false t10, hcf]; decide), if_neg t10] at hZ2
            refine ⟨b + k, k1, rfl, ?_⟩
            refine cnd_split (fun h9 => absurd (beq_iff_eq.1 h9) (beq_eq_false_iff_ne.1 h1)) (fun h9 => ?_)
            intro c hc
            rw [IntWalk.i64_in _ (by omega)] at hc
            obtain rfl : c = ((b + (k + 1) : Nat) : Int) := by omega
            exact ⟨g - 1, by omega, k + 1, _, by omega, rfl, rfl, hZ2, by rw [decide_eq_true (Nat.succ_pos k), Bool.true_and, show b + (k + 1) - 1 = b + k by omega, at_lt k1]; simp⟩
      · have h0 := of_decide_eq_false h0
        have k0 : ¬ 0 < k := by omega
        have hcf : cr = false := by rw [hcr, decide_eq_false k0, Bool.false_and]
        refine ⟨b + k, k1, rfl, ?_⟩
        refine cnd_split (fun h1 => ?_) (fun h1 => ?_)
        · have t10 : s[b + k] = 10 := by rw [q10] at h1; exact of_decide_eq_true h1
          rw [if_pos (by rw [decide_eq_true t10, hcf]; decide)] at hZ2
          subst hZ2
          intro c hc
          rw [IntWalk.i64_in _ (by omega)] at hc
          obtain rfl : c = ((k + 1 : Nat) : Int) := by omega
          refine ⟨_, rfl, ?_⟩
          refine ⟨_, rfl, ?_⟩
          rfl
        · have t10 : s[b + k] ≠ 10 := by rw [q10] at h1; exact of_decide_eq_false h1
          rw [if_neg (by rw [decide_eq_false t10, hcf]; decide), if_neg t10] at hZ2
          refine ⟨b + k, k1, rfl, ?_⟩
          refine cnd_split (fun h3 => ?_) (fun h3 => absurd (bne_eq_false_iff_eq.1 h3) (beq_eq_false_iff_ne.1 h1))
          refine ⟨b + k, k1, rfl, ?_⟩
          refine cnd_split (fun h9 => absurd (beq_iff_eq.1 h9) (beq_eq_false_iff_ne.1 h1)) (fun h9 => ?_)
          intro c hc
          rw [IntWalk.i64_in _ (by omega)] at hc
          obtain rfl : c = ((b + (k + 1) : Nat) : Int) := by omega
          exact ⟨g - 1, by omega, k + 1, _, by omega, rfl, rfl, hZ2, by rw [decide_eq_true (Nat.succ_pos k), Bool.true_and, show b + (k + 1) - 1 = b + k by omega, at_lt k1]; simp⟩
  · have hd := of_decide_eq_false hd
    rw [List.drop_of_length_le (by omega)] at hZ2
    have hZ3 : Z = (0, 0, 0) := hZ2
    subst hZ3
    refine ⟨_, rfl, ?_⟩
    refine ⟨_, rfl, ?_⟩
    rfl
end Go.Proofs.YtookaenbpfpegaaDoor
