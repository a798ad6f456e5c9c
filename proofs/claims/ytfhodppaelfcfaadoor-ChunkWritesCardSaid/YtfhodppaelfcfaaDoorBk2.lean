/- Lists behind commas: pieces, trimmed. No program in sight. -/
import Derived.Test.YtfhodppaelfcfaaDoorBk1
set_option maxRecDepth 100000
namespace Go.Proofs.YtfhodppaelfcfaaDoor
open Go.RowKit

/-- blank, or beyond the end -/
def bkAt (s : ByteArray) (i : Nat) : Bool := (s.data.toList[i]?).all fun b => blkI (b.toNat : Int)
theorem bkAt_lt {s : ByteArray} {i : Nat} (h : i < s.size) : bkAt s i = blkI (s[i].toNat : Int) := by
  unfold bkAt; rw [at_lt h]; rfl
theorem bkAt_ge {s : ByteArray} {i : Nat} (h : s.size ≤ i) : bkAt s i = true := by
  unfold bkAt; rw [List.getElem?_eq_none (by rw [blen]; exact h)]; rfl
theorem lt_of_bk {s : ByteArray} {i : Nat} (h : bkAt s i = false) : i < s.size := Decidable.byContradiction fun hc => by rw [bkAt_ge (by omega)] at h; cases h
theorem bk_of_at {s : ByteArray} {i : Nat} {b : Int} (h : atB s i b = true) (hb : blkI b = false) : bkAt s i = false := by
  have hl := atB_iff h
  rw [atB_lt hl] at h
  rw [bkAt_lt hl, beq_iff_eq.1 h, hb]
theorem at_of_bk {s : ByteArray} {i : Nat} {b : Int} (h : bkAt s i = true) (hb : blkI b = false) : atB s i b = false := by
  cases e : atB s i b with
  | false => rfl
  | true => rw [bk_of_at e hb] at h; cases h

theorem cmtW_last {s : ByteArray} {j : Nat} : ∀ (z k n : Nat), s.size - k ≤ z → n ≠ 0 → k ≤ s.size → cmtW s k n = some j → k < j ∧ atB s (j - 1) 41 = true := by
  intro z
  induction z with
  | zero =>
    intro k n hz hn hk h
    unfold cmtW at h
    rw [if_neg hn, dif_neg (by omega)] at h
    cases h
  | succ z ih =>
    intro k n hz hn hk h
    unfold cmtW at h
    rw [if_neg hn] at h
    split at h
    · split at h
      · have := ih (k + 1) _ (by omega) (by omega) (by omega) h; exact ⟨by omega, this.2⟩
      · split at h
        · rename_i q
          by_cases h0 : n - 1 = 0
          · rw [h0] at h
            unfold cmtW at h
            rw [if_pos rfl] at h
            cases h
            exact ⟨by omega, q⟩
          · have := ih (k + 1) _ (by omega) h0 (by omega) h; exact ⟨by omega, this.2⟩
        · split at h
          · by_cases h1 : k + 1 < s.size
            · rw [if_pos h1] at h
              have := ih (k + 2) _ (by omega) hn (by omega) h; exact ⟨by omega, this.2⟩
            · rw [if_neg h1] at h
              have := ih (k + 1) _ (by omega) hn (by omega) h; exact ⟨by omega, this.2⟩
          · have := ih (k + 1) _ (by omega) hn (by omega) h; exact ⟨by omega, this.2⟩
    · cases h
theorem frontW_last {s : ByteArray} {j : Nat} {v : List UInt8} : ∀ (z k : Nat) (acc : List UInt8), s.size - k = z → frontW s k acc = some (v, j) → k < j ∧ atB s (j - 1) 34 = true := by
  intro z
  induction z using Nat.strongRecOn with
  | _ z ih =>
    intro k acc hz h
    have hle := frontW_le _ _ _ _ _ rfl h
    cases hq : atB s k 34
    · cases hn : nxt s k with
      | none => rw [frontW_none acc hq hn] at h; cases h
      | some bi =>
        obtain ⟨b, i⟩ := bi
        rw [frontW_some acc hq hn] at h
        have hl := nxt_lt hn
        exact ⟨hle.1, (ih (s.size - i) (by omega) i _ rfl h).2⟩
    · rw [frontW_end acc hq] at h
      cases h
      exact ⟨hle.1, hq⟩
theorem stepW_last {s : ByteArray} {k j : Nat} (hk : k < s.size) (h : stepW s k = some j) : j = k + 1 ∨ bkAt s (j - 1) = false := by
  unfold stepW at h
  split at h
  · cases h; exact .inl rfl
  · split at h
    · exact .inr (bk_of_at (cmtW_last _ (k + 1) 1 (Nat.le_refl _) (by decide) (by omega) h).2 (by decide))
    · split at h
      · rename_i q
        unfold frontS at h
        rw [if_pos q] at h
        cases hf : frontW s (k + 1) [] with
        | none => rw [hf] at h; cases h
        | some x =>
          obtain ⟨v, i⟩ := x
          rw [hf] at h
          cases h
          exact .inr (bk_of_at (frontW_last _ _ _ rfl hf).2 (by decide))
      · cases h; exact .inl rfl
theorem stepW_blank {s : ByteArray} {k : Nat} (h : bkAt s k = true) : stepW s k = some (k + 1) := by
  unfold stepW
  rw [at_of_bk h (by decide), at_of_bk h (by decide), at_of_bk h (by decide)]
  rfl
theorem Run.back {s : ByteArray} {k e : Nat} (h : Run s k e) (hk : k < e) (hb : bkAt s (e - 1) = true) : Run s k (e - 1) := by
  induction h with
  | nil k => omega
  | @step k i e hk' hc h r ih =>
    have hl := stepW_lt hk' h
    by_cases hie : i < e
    · exact .step hk' hc h (ih hie hb)
    · have := r.le
      obtain rfl : i = e := by omega
      rcases stepW_last hk' h with rfl | h2
      · exact .nil k
      · rw [hb] at h2; cases h2
theorem Run.fore {s : ByteArray} {k e : Nat} (h : Run s k e) (hk : k < e) (hb : bkAt s k = true) : Run s (k + 1) e := by
  cases h with
  | nil => omega
  | step hk' hc h r =>
    rw [stepW_blank hb] at h
    cases h
    exact r
theorem Run.backs {s : ByteArray} {k e : Nat} : ∀ (m q : Nat), q + m = e → k ≤ q → Run s k e → (∀ i, q ≤ i → i < e → bkAt s i = true) → Run s k q
  | 0, q, h, _, hr, _ => by rw [show q = e by omega]; exact hr
  | m + 1, q, h, hk, hr, hb => Run.backs (e := e - 1) m q (by omega) hk (hr.back (by omega) (hb _ (by omega) (by omega))) (fun i h1 h2 => hb i h1 (by omega))
theorem Run.fores {s : ByteArray} {e : Nat} : ∀ (m k p : Nat), k + m = p → p ≤ e → Run s k e → (∀ i, k ≤ i → i < p → bkAt s i = true) → Run s p e
  | 0, k, p, h, _, hr, _ => by rw [show p = k by omega]; exact hr
  | m + 1, k, p, h, hk, hr, hb => Run.fores m (k + 1) p (by omega) hk (hr.fore (by omega) (hb _ (by omega) (by omega))) (fun i h1 h2 => hb i (by omega) h2)

theorem first_of (P : Nat → Bool) : ∀ n, (∃ i, i < n ∧ P i = false) → ∃ p, p < n ∧ P p = false ∧ ∀ i, i < p → P i = true
  | 0, ⟨i, h, _⟩ => by omega
  | n + 1, h => by
    by_cases h2 : ∃ i, i < n ∧ P i = false
    · obtain ⟨p, h3, h4, h5⟩ := first_of P n h2
      exact ⟨p, by omega, h4, h5⟩
    · obtain ⟨i, h3, h4⟩ := h
      refine ⟨i, h3, h4, fun j hj => ?_⟩
      cases e : P j with
      | true => rfl
      | false => exact absurd ⟨j, by omega, e⟩ h2
theorem last_of (P : Nat → Bool) : ∀ n, (∃ i, i < n ∧ P i = false) → ∃ q, q < n ∧ P q = false ∧ ∀ i, q < i → i < n → P i = true
  | 0, ⟨i, h, _⟩ => by omega
  | n + 1, h => by
    cases e : P n with
    | false => exact ⟨n, by omega, e, fun i h1 h2 => by omega⟩
    | true =>
      obtain ⟨i, h3, h4⟩ := h
      have : i ≠ n := fun h => by rw [h, e] at h4; cases h4
      obtain ⟨q, h5, h6, h7⟩ := last_of P n ⟨i, by omega, h4⟩
      refine ⟨q, by omega, h6, fun j h1 h2 => ?_⟩
      by_cases hj : j = n
      · rw [hj, e]
      · exact h7 j h1 (by omega)
theorem trimC_of {s : ByteArray} {p q : Nat} (hpq : p < q) (hp : ∀ i, i < p → bkAt s i = true) (hq : ∀ i, q ≤ i → bkAt s i = true) (h1 : bkAt s p = false) (h2 : bkAt s (q - 1) = false) : trimC s spcS = s.extract p q := by
  have hql := lt_of_bk h2
  have hpl := lt_of_bk h1
  have hR : Lib.trimRightS s.data.toList [32, 9] = s.data.toList.take q := by
    have := trimRC_at (m := q - 1) hql (fun j hj hjq => by rw [← bkAt_lt hj]; exact hq j (by omega)) (by rw [← bkAt_lt hql]; exact h2)
    have := congrArg (fun x : ByteArray => x.data.toList) this
    simp only [exL, List.drop_zero] at this
    rw [show q - 1 + 1 = q by omega] at this
    exact this
  apply inL
  rw [exL]
  show Lib.trimS s.data.toList [32, 9] = _
  unfold Lib.trimS
  rw [hR]
  unfold Lib.trimLeftS
  have hb := blen s
  have hsp : s.data.toList.take q = (s.data.toList.take q).take p ++ (s.data.toList.take q).drop p := (List.take_append_drop _ _).symm
  conv => lhs; rw [hsp]
  rw [List.dropWhile_append_of_pos (fun x hx => by
    obtain ⟨j, hj, rfl⟩ := List.getElem_of_mem hx
    rw [List.length_take, List.length_take] at hj
    rw [List.getElem_take, List.getElem_take, blk_c]
    have := hp j (by omega)
    rw [bkAt_lt (by omega)] at this
    exact this)]
  have hd : (s.data.toList.take q).drop p = s.data.toList[p] :: (s.data.toList.take q).drop (p + 1) := by
    rw [List.drop_eq_getElem_cons (by rw [List.length_take]; omega), List.getElem_take]
  rw [hd, List.dropWhile_cons_of_neg (by rw [blk_c]; rw [bkAt_lt hpl] at h1; rw [show s.data.toList[p] = s[p] from rfl, h1]; decide)]
theorem trimC_blank {s : ByteArray} (h : ∀ i, bkAt s i = true) : (trimC s spcS).size = 0 := by
  have e : (trimC s spcS).size = (Lib.trimS s.data.toList [32, 9]).length := by unfold trimC; show (Array.size _) = _; rw [List.size_toArray]; rfl
  rw [e, List.length_eq_zero_iff, trimS_nil]
  intro x hx
  obtain ⟨j, hj, rfl⟩ := List.getElem_of_mem hx
  rw [blen] at hj
  have := h j
  rw [bkAt_lt hj] at this
  rw [blk_c]
  exact this
theorem trimC_cases (s : ByteArray) : (∀ i, bkAt s i = true) ∨ ∃ p q, p < q ∧ q ≤ s.size ∧ (∀ i, i < p → bkAt s i = true) ∧ (∀ i, q ≤ i → bkAt s i = true) ∧ bkAt s p = false ∧ bkAt s (q - 1) = false := by
  by_cases h : ∃ i, i < s.size ∧ bkAt s i = false
  · obtain ⟨p, p1, p2, p3⟩ := first_of _ _ h
    obtain ⟨q, q1, q2, q3⟩ := last_of _ _ h
    refine .inr ⟨p, q + 1, ?_, by omega, p3, fun i hi => ?_, p2, q2⟩
    · apply Decidable.byContradiction
      intro hc
      have := p3 q (by omega)
      rw [q2] at this; cases this
    · by_cases hi2 : i < s.size
      · exact q3 i (by omega) hi2
      · exact bkAt_ge (by omega)
  · refine .inl fun i => ?_
    cases e : bkAt s i with
    | true => rfl
    | false => exact absurd ⟨i, lt_of_bk e, e⟩ h
end Go.Proofs.YtfhodppaelfcfaaDoor
