/- The decoder: a step, and its feeding. No statement of its own. -/
import Derived.Test.YtookaenbpfpegaaDoorDl
set_option linter.unusedSimpArgs false
set_option linter.unusedVariables false
set_option maxRecDepth 100000
namespace Go.Proofs.YtookaenbpfpegaaDoor
open Go.RowKit
theorem sizeD_In {L : Nat} {d : Dc} (hI : d.In L) (s : ByteArray) : (sizeD d s).1.In L ∧ (sizeD d s).1.spent = d.spent := by
  have hb := parseC_bnd s
  have hm : (mostB : Int) = 1099511627776 := rfl
  have h5 := hI.sum
  unfold sizeD
  split
  · exact ⟨hI, rfl⟩
  split
  · exact ⟨hI, rfl⟩
  split
  · exact ⟨⟨Nat.le_refl _, hI.left, fun h => (by cases h), fun h => (by cases h), hI.sum, hI.spent, hI.line, hI.tr⟩, rfl⟩
  · rename_i h1 h2 h3
    exact ⟨⟨by show 1 ≤ 3; decide, by show (parseC s).1.toNat ≤ _; omega, fun _ => (by show 1 ≤ (parseC s).1.toNat; omega), fun h => (by cases h), by show d.sum + (parseC s).1.toNat ≤ _; omega, hI.spent, hI.line, hI.tr⟩, rfl⟩
theorem trailD_In {L : Nat} {d : Dc} (hI : d.In L) (s : ByteArray) : (trailD d s).1.In L ∧ (trailD d s).1.spent = d.spent := by
  unfold trailD
  split
  · exact ⟨hI, rfl⟩
  split
  · exact ⟨hI, rfl⟩
  split
  · exact ⟨hI, rfl⟩
  · rename_i h1 h2 h3
    exact ⟨⟨hI.a, hI.left, hI.one, hI.two, hI.sum, hI.spent, hI.line, by show (d.tr ++ _).length ≤ _; simp; omega⟩, rfl⟩
theorem endD_In {L : Nat} {d : Dc} (hI : d.In L) (s : ByteArray) : (endD d s).1.In L ∧ (endD d s).1.spent = d.spent := by
  unfold endD
  split
  · exact sizeD_In hI s
  · exact trailD_In hI s
theorem linedD_In {L : Nat} {d : Dc} (hI : d.In L) (b : UInt8) (hf : ¬ ((linedD L d b).2.1 = true ∨ (linedD L d b).2.2 ≠ 0)) : (linedD L d b).1.In L ∧ (linedD L d b).1.spent ≤ L := by
  unfold linedD at hf ⊢
  split at hf
  · exact absurd (.inr (show (3 : Int) ≠ 0 by decide)) hf
  rename_i h1
  split at hf
  · exact absurd (.inr (show (24 : Int) ≠ 0 by decide)) hf
  rename_i h2
  rw [if_neg h1, if_neg h2]
  split
  · exact ⟨⟨hI.a, hI.left, hI.one, hI.two, hI.sum, hI.spent, by show (d.line ++ [b]).length ≤ _; simp; omega, hI.tr⟩, by show d.spent ≤ L; omega⟩
  · have h := endD_In (L := L) (d := { d with line := [] }) ⟨hI.a, hI.left, hI.one, hI.two, hI.sum, hI.spent, Nat.zero_le _, hI.tr⟩ (toB d.line.dropLast)
    exact ⟨h.1, by rw [h.2]; show d.spent ≤ L; omega⟩
theorem stepD_In {L : Nat} {d : Dc} (hI : d.In L) (hs : d.spent ≤ L) (b : UInt8) (hf : ¬ ((stepD L d b).2.2.1 = true ∨ (stepD L d b).2.2.2 ≠ 0)) : (stepD L d b).1.In L ∧ (stepD L d b).1.spent ≤ L := by
  by_cases h1 : d.a = 1
  · have := hI.one h1
    have := hI.left
    unfold stepD
    rw [if_pos h1]
    dsimp only
    split
    · exact ⟨⟨by show 2 ≤ 3; decide, by show 2 ≤ _; decide, fun h => (by cases h), fun _ => .inr rfl, hI.sum, hI.spent, hI.line, hI.tr⟩, hs⟩
    · exact ⟨⟨hI.a, by show d.left - 1 ≤ _; omega, fun _ => (by show 1 ≤ d.left - 1; omega), fun h => (by have : d.a = 2 := h; omega), hI.sum, hI.spent, hI.line, hI.tr⟩, hs⟩
  by_cases h2 : d.a = 2
  · have h22 := hI.two h2
    unfold stepD at hf ⊢
    rw [if_neg h1, if_pos h2] at hf ⊢
    generalize (if d.left = 1 then (10 : UInt8) else 13) = z at hf ⊢
    by_cases hb : b ≠ z
    · rw [if_pos hb] at hf
      exact absurd (.inr (show (31 : Int) ≠ 0 by decide)) hf
    rw [if_neg hb]
    dsimp only
    split
    · exact ⟨⟨Nat.zero_le _, Nat.zero_le _, fun h => (by cases h), fun h => (by cases h), hI.sum, hI.spent, hI.line, hI.tr⟩, hs⟩
    · exact ⟨⟨hI.a, by show d.left - 1 ≤ _; omega, fun h => (by have : d.a = 1 := h; omega), fun _ => (by show d.left - 1 = 1 ∨ d.left - 1 = 2; omega), hI.sum, hI.spent, hI.line, hI.tr⟩, hs⟩
  · unfold stepD at hf ⊢
    rw [if_neg h1, if_neg h2] at hf ⊢
    have h := linedD_In (In.spend hI (by omega)) b hf
    exact h
/-- a step: bytes taken, data, done, an error, where it stands -/
def stepS (L : Nat) (d : Dc) (s : List UInt8) : Rs :=
  if d.a = 1 then ⟨min d.left s.length, s.take (min d.left s.length), false, 0, d.took (min d.left s.length)⟩
  else match s with
    | [] => ⟨0, [], false, 0, d⟩
    | b :: _ => ⟨1, (stepD L d b).2.1, (stepD L d b).2.2.1, (stepD L d b).2.2.2, (stepD L d b).1⟩
theorem stepD_len (L : Nat) (d : Dc) (b : UInt8) : (stepD L d b).2.1.length ≤ 1 := by
  unfold stepD
  split
  · exact Nat.le_refl 1
  · split
    · generalize (if d.left = 1 then (10 : UInt8) else 13) = z
      by_cases hb : b ≠ z
      · rw [if_pos hb]; exact Nat.zero_le _
      · rw [if_neg hb]; exact Nat.zero_le _
    · exact Nat.zero_le _
theorem stepS_run {L : Nat} {d : Dc} (hI : d.In L) (hs : d.spent ≤ L) {s : List UInt8} (h0 : 0 < s.length) : (stepS L d s).n ≤ s.length ∧ 1 ≤ (stepS L d s).n ∧ (stepS L d s).o.length ≤ (stepS L d s).n ∧
    (((stepS L d s).dn = true ∨ (stepS L d s).e ≠ 0) → runD L d s = ⟨(stepS L d s).n, (stepS L d s).o, (stepS L d s).dn, (stepS L d s).e, (stepS L d s).d.shut⟩) ∧
    (¬ ((stepS L d s).dn = true ∨ (stepS L d s).e ≠ 0) → (stepS L d s).dn = false ∧ (stepS L d s).e = 0 ∧ runD L d s = (runD L (stepS L d s).d (s.drop (stepS L d s).n)).more (stepS L d s).n (stepS L d s).o ∧ (stepS L d s).d.In L ∧ (stepS L d s).d.spent ≤ L) := by
  by_cases h1 : d.a = 1
  · have h2 := hI.one h1
    have h3 := hI.left
    obtain ⟨k, hk⟩ : ∃ k, min d.left s.length = k + 1 := ⟨min d.left s.length - 1, by omega⟩
    have e : stepS L d s = ⟨k + 1, s.take (k + 1), false, 0, d.took (k + 1)⟩ := by unfold stepS; rw [if_pos h1, hk]
    rw [e]
    refine ⟨by show k + 1 ≤ _; omega, by show 1 ≤ k + 1; omega, by show (s.take (k + 1)).length ≤ k + 1; rw [List.length_take]; omega, fun h => absurd h noFin, fun _ => ⟨rfl, rfl, runD_data k d s h1 (by omega) (by omega), ?_, ?_⟩⟩
    · show (d.took (k + 1)).In L
      unfold Dc.took
      split
      · exact ⟨by show 2 ≤ 3; decide, by show 2 ≤ _; decide, fun h => (by cases h), fun _ => .inr rfl, hI.sum, hI.spent, hI.line, hI.tr⟩
      · exact ⟨hI.a, by show d.left - (k + 1) ≤ _; omega, fun _ => (by show 1 ≤ d.left - (k + 1); omega), fun h => (by have : d.a = 2 := h; omega), hI.sum, hI.spent, hI.line, hI.tr⟩
    · show (d.took (k + 1)).spent ≤ L
      unfold Dc.took
      split <;> exact hs
  · cases s with
    | nil => simp at h0
    | cons b r =>
      have e : stepS L d (b :: r) = ⟨1, (stepD L d b).2.1, (stepD L d b).2.2.1, (stepD L d b).2.2.2, (stepD L d b).1⟩ := by unfold stepS; rw [if_neg h1]
      rw [e]
      refine ⟨by show 1 ≤ _; simp, Nat.le_refl 1, stepD_len L d b, fun h => runD_stop rfl h, fun h => ?_⟩
      have hd : (stepD L d b).2.2.1 = false := by
        cases hx : (stepD L d b).2.2.1 with
        | false => rfl
        | true => exact absurd (.inl hx) h
      have he : (stepD L d b).2.2.2 = 0 := Decidable.byContradiction fun hx => h (.inr hx)
      have hg := stepD_In hI hs b h
      refine ⟨hd, he, runD_go ?_, hg.1, hg.2⟩
      rw [← hd, ← he]
section
attribute [local irreducible] vcApp
variable {st : St} {p L : Nat} {d : Dc} {ln tr : AV} {R : AV → St → Prop}
theorem step_a (hD : DI st p L d ln tr) (hI : d.In L) (hs : d.spent ≤ L) (hL : L ≤ 65536) (s : ByteArray) (h0 : 0 < s.size) (hsz : s.size ≤ 9000000000000000000)
    (hR : ∀ st' ln' tr' (o : ByteArray) (x : Rs), stepS L d s.data.toList = x → o.data.toList = x.o → Kp p ln tr ln' tr' st st' → DI st' p L x.d ln' tr' → R (.tup [.i x.n, .s o, .b x.dn, .i x.e]) st') : ACalls Tryd.prog 55 [.ptr p 0, .s s] st R := by
  have hb := blen s
  have hc : s.data.toList = s[0] :: s.data.toList.drop 1 := headB s h0
  have hS : stepS L d s.data.toList = if d.a = 1 then ⟨min d.left s.size, s.data.toList.take (min d.left s.size), false, 0, d.took (min d.left s.size)⟩ else ⟨1, (stepD L d s[0]).2.1, (stepD L d s[0]).2.2.1, (stepD L d s[0]).2.2.2, (stepD L d s[0]).1⟩ := by
    unfold stepS
    rw [hb]
    split
    · rfl
    · rw [hc]
  have hR := fun st' ln' tr' o x e => hR st' ln' tr' o x (hS.trans e)
  clear hS
  have hlF := hD.lnF
  have htF := hD.trF
  rcases hlF with rfl | ⟨t0, e0, es0, rfl⟩ <;> rcases htF with rfl | ⟨t1, e1, es1, rfl⟩
  all_goals
    refine ACalls.of_vc T_ok mixed Tryd.func55 rfl Tryd.call55 ?_
    refine ⟨_, hD.h, ?_⟩
    refine cnd_split (fun h1 => ?_) (fun h1 => ?_)
    · have h1 : d.a = 1 := by have := beq_iff_eq.1 h1; omega
      refine .s (data_a hD hI h1 s hsz (fun k st' hk kk hd => ?_))
      have ex : (s.extract 0 k).size = k := by rw [ByteArray.size_extract]; omega
      have := hR st' _ _ (s.extract 0 k) _ (if_pos h1) (by rw [extB, List.drop_zero, hk]) kk (by rw [hk] at hd; exact hd)
      rw [show (min d.left s.size) = (s.extract 0 k).size by rw [ex, hk]] at this
      exact this
    have h1 : ¬ d.a = 1 := by have := beq_eq_false_iff_ne.1 h1; omega
    have hR := fun st' ln' tr' o x e => hR st' ln' tr' o x ((if_neg h1).trans e)
    refine cnd_split (fun h2 => ?_) (fun h2 => ?_)
    · have h2 : d.a = 2 := by have := beq_iff_eq.1 h2; omega
      refine ⟨0, h0, rfl, ?_⟩
      refine .s (ended_a hD hI h2 s[0] (fun st' kk hd => ?_))
      have ed : (stepD L d s[0]).2.1 = [] ∧ (stepD L d s[0]).2.2.1 = false := by
        unfold stepD
        rw [if_neg h1, if_pos h2]
        generalize (if d.left = 1 then (10 : UInt8) else 13) = z
        by_cases hb : s[0] ≠ z
        · rw [if_pos hb]; exact ⟨rfl, rfl⟩
        · rw [if_neg hb]; exact ⟨rfl, rfl⟩
      have := hR st' _ _ ⟨#[]⟩ _ rfl ed.1.symm kk hd
      dsimp only at this
      rw [ed.2] at this
      exact this
    have h2 : ¬ d.a = 2 := by have := beq_eq_false_iff_ne.1 h2; omega
    refine ⟨0, h0, rfl, ?_⟩
    have ha := hI.a
    have ed : stepD L d s[0] = ((linedD L d.spend s[0]).1, [], (linedD L d.spend s[0]).2.1, (linedD L d.spend s[0]).2.2) := by
      unfold stepD
      rw [if_neg h1, if_neg h2]
    refine .s (lined_a hD hI s[0] (by omega) hL (by omega) (fun st' ln' tr' kk hd => ?_))
    have := hR st' _ _ ⟨#[]⟩ _ rfl (by rw [ed]) kk (by rw [ed]; exact hd)
    rw [ed] at this
    exact this
end
end Go.Proofs.YtookaenbpfpegaaDoor
