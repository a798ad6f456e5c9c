/- The two ways of reading a field's line are one: plain law. -/
import Derived.Test.YthncigahodannaaDoorRef12
namespace Go.Proofs.YthncigahodannaaDoor
open Go.RowKit

theorem rt_take (p : UInt8 → Bool) (l : List UInt8) : ∃ m, m ≤ l.length ∧ rt p l = l.take m ∧ (∀ i (hi : i < l.length), m ≤ i → p l[i] = true) ∧ (m = 0 ∨ ∃ (h : m - 1 < l.length), p (l[m - 1]'h) = false) := by
  induction l with
  | nil => exact ⟨0, Nat.le_refl _, rfl, fun i hi => absurd hi (by simp), .inl rfl⟩
  | cons x r ih =>
    obtain ⟨m, h1, h2, h3, h4⟩ := ih
    rw [rt_cons]
    by_cases h : rt p r = []
    · rw [if_pos h]
      have hm : m = 0 := by
        rw [h] at h2
        have h5 := congrArg List.length h2
        rw [List.length_take, List.length_nil] at h5
        omega
      subst hm
      cases hx : p x
      · refine ⟨1, by simp, by simp, fun i hi h1i => ?_, .inr ⟨by simp, hx⟩⟩
        rcases i with _ | i
        · omega
        · exact h3 i (by simpa using hi) (by omega)
      · refine ⟨0, by simp, by simp, fun i hi _ => ?_, .inl rfl⟩
        rcases i with _ | i
        · exact hx
        · exact h3 i (by simpa using hi) (by omega)
    · rw [if_neg h, h2]
      refine ⟨m + 1, by simpa using h1, by simp, fun i hi hmi => ?_, .inr ?_⟩
      · rcases i with _ | i
        · omega
        · exact h3 i (by simpa using hi) (by omega)
      · rcases h4 with h4 | ⟨h5, h6⟩
        · subst h4; rw [h2] at h; simp at h
        · obtain ⟨k, rfl⟩ : ∃ k, m = k + 1 := by
            rcases m with _ | k
            · rw [h2] at h; simp at h
            · exact ⟨k, rfl⟩
          exact ⟨by simpa using h5, by simpa using h6⟩

theorem trim_take (s : ByteArray) (c : Nat) (hc : c ≤ s.size) (hh : s.data.toList.head?.any blkP = false) :
    ∃ m, m ≤ c ∧ trimB (s.extract 0 c) = s.extract 0 m ∧ (∀ i (hi : i < s.size), m ≤ i → i < c → blkI (s[i].toNat : Int) = true) ∧ (m = 0 ∨ ∃ (h : m - 1 < s.size), blkI ((s[m - 1]'h).toNat : Int) = false) := by
  have hl := blen s
  have e : (s.extract 0 c).data.toList = s.data.toList.take c := by rw [extB, List.drop_zero]
  have hd : (s.data.toList.take c).dropWhile blkP = s.data.toList.take c := by
    apply dw_head
    intro h
    have h0 : 0 < s.size := by rw [List.length_take] at h; omega
    rw [headAny h0] at hh
    rw [List.getElem_take]
    exact hh
  obtain ⟨m, h1, h2, h3, h4⟩ := rt_take blkP (s.data.toList.take c)
  rw [List.length_take, hl] at h1
  refine ⟨m, by omega, ?_, fun i hi hmi hic => ?_, ?_⟩
  · rw [trimB_eq, e, hd, h2, List.take_take, Nat.min_eq_left (by omega)]
    exact (mkB (by rw [extB, List.drop_zero])).symm
  · have := h3 i (by rw [List.length_take]; omega) hmi
    rw [List.getElem_take] at this
    exact this
  · rcases h4 with h4 | ⟨h5, h6⟩
    · exact .inl h4
    · rw [List.length_take] at h5
      rw [List.getElem_take] at h6
      exact .inr ⟨by omega, h6⟩

theorem tok_blk : ∀ n : Nat, n < 256 → tokI (n : Int) = true → blkI (n : Int) = false := by decide +kernel
theorem tok_col : ∀ n : Nat, n < 256 → tokI (n : Int) = true → colI (n : Int) = true := by decide +kernel
theorem blk_col : ∀ n : Nat, n < 256 → blkI (n : Int) = true → colI (n : Int) = true := by decide +kernel

theorem all_tw {f : UInt8 → Bool} : ∀ (l : List UInt8), ∀ x ∈ l.takeWhile f, f x = true := by
  intro l
  induction l with
  | nil => intro x h; cases h
  | cons y r ih =>
    intro x h
    cases hy : f y
    · rw [List.takeWhile_cons_of_neg (by simp [hy])] at h; cases h
    · rw [List.takeWhile_cons_of_pos hy] at h
      cases h with
      | head => exact hy
      | tail _ h => exact ih x h
theorem tw_all {q : Int → Bool} {s : ByteArray} {k : Nat} : ∀ i (hi : i < s.size), k ≤ i → i < k + tw q s k → q (s[i].toNat : Int) = true := by
  intro i hi h1 h2
  have hp := List.takeWhile_prefix (fun b : UInt8 => q (b.toNat : Int)) (l := s.data.toList.drop k)
  unfold tw at h2
  have hlt : i - k < (List.takeWhile (fun b : UInt8 => q (b.toNat : Int)) (s.data.toList.drop k)).length := by omega
  have hm := List.getElem_mem hlt
  have hq := all_tw _ _ hm
  have e := hp.getElem hlt
  rw [e, List.getElem_drop] at hq
  have e2 : k + (i - k) = i := by omega
  simp only [e2] at hq
  exact hq
theorem tw_stop {q : Int → Bool} {s : ByteArray} {k : Nat} (hj : k + tw q s k < s.size) : q ((s[k + tw q s k]'hj).toNat : Int) = false := by
  have key : ∀ (f : UInt8 → Bool) (l : List UInt8) (h : (l.takeWhile f).length < l.length), f (l[(l.takeWhile f).length]'h) = false := by
    intro f l
    induction l with
    | nil => intro h; simp at h
    | cons x r ih =>
      intro h
      cases hx : f x
      · simp [hx]
      · have e : (List.takeWhile f (x :: r)) = x :: r.takeWhile f := List.takeWhile_cons_of_pos hx
        simp only [e, List.length_cons, List.getElem_cons_succ]
        exact ih (by rw [e] at h; simpa using h)
  have hl := blen s
  have := key (fun b : UInt8 => q (b.toNat : Int)) (s.data.toList.drop k) (by rw [List.length_drop]; unfold tw at hj; omega)
  rw [List.getElem_drop] at this
  exact this

theorem parse_eq (s : ByteArray) : parseR s = parseF s := by
  unfold parseR parseF
  cases hcr : crlfB s
  · simp only [Bool.false_eq_true, if_false]
    cases hh : s.data.toList.head?.any blkP
    · have hb0 : tw blkI s 0 = 0 := by
        unfold tw
        rw [List.drop_zero]
        cases hs : s.data.toList with
        | nil => rfl
        | cons x r =>
          rw [hs] at hh
          have hx : blkI (x.toNat : Int) = false := by simpa [blkP] using hh
          rw [List.takeWhile_cons_of_neg (by simp [hx])]
          rfl
      rw [if_neg (by decide), if_neg (show ¬ 0 < tw blkI s 0 by omega)]
      have hl := blen s
      have hn := tw_le tokI s 0 (Nat.zero_le _)
      rw [Nat.zero_add] at hn
      have hg := tw_le blkI s (tw tokI s 0) hn
      have hnall := tw_all (q := tokI) (s := s) (k := 0)
      have hgall := tw_all (q := blkI) (s := s) (k := tw tokI s 0)
      have hns := @tw_stop tokI s 0
      have hgs := @tw_stop blkI s (tw tokI s 0)
      have hns : ∀ (hj : tw tokI s 0 < s.size), tokI ((s[tw tokI s 0]'hj).toNat : Int) = false := fun hj => by
        have := hns (by omega)
        simpa only [Nat.zero_add] using this
      simp only [Nat.zero_add] at hnall
      generalize tw tokI s 0 = n at *
      generalize hgd : n + tw blkI s n = g at *
      by_cases hA : n = 0 ∨ ¬ (s.data.toList[g]? = some 58)
      · rw [if_pos hA]
        have hcs := @tw_stop colI s 0
        have hcl := tw_le colI s 0 (Nat.zero_le _)
        have hcs : ∀ (hj : tw colI s 0 < s.size), colI ((s[tw colI s 0]'hj).toNat : Int) = false := fun hj => by
          have := hcs (by omega)
          simpa only [Nat.zero_add] using this
        rw [Nat.zero_add] at hcl
        generalize tw colI s 0 = c at *
        by_cases hB : c = s.size ∨ tokB (trimB (s.extract 0 c)) = false
        · rw [if_pos hB]
        · exfalso
          simp only [not_or] at hB
          obtain ⟨hB1, hB2⟩ := hB
          obtain ⟨m, h1, h2, h3, h4⟩ := trim_take s c hcl hh
          have htb : tokB (s.extract 0 m) = true := by rw [← h2]; simpa using hB2
          unfold tokB at htb
          rw [Bool.and_eq_true, decide_eq_true_eq, ext_size _ _ _ (by omega)] at htb
          obtain ⟨hm0, hta⟩ := htb
          have hmt : ∀ i (hi : i < s.size), i < m → tokI (s[i].toNat : Int) = true := fun i hi him => by
            unfold allI at hta
            rw [List.all_eq_true, extB, List.drop_zero] at hta
            exact hta s[i] (List.mem_iff_getElem.2 ⟨i, by rw [List.length_take]; omega, by rw [List.getElem_take]; rfl⟩)
          have hcol := hcs (by omega)
          have hc58 : s[c]'(by omega) = 58 := by
            have h := hcol
            unfold colI at h
            rw [bne_eq_false_iff_eq] at h
            exact UInt8.toNat_inj.1 (by show _ = 58; omega)
          have hnm : n = m := by
            rcases Nat.lt_trichotomy n m with h | h | h
            · have := hns (by omega)
              rw [hmt n (by omega) h] at this
              cases this
            · exact h
            · have htk := hnall m (by omega) (Nat.zero_le _) h
              by_cases hmc : m = c
              · subst hmc
                have := tok_col _ (s[m]'(by omega)).toNat_lt htk
                rw [hcol] at this
                cases this
              · have hb := h3 m (by omega) (Nat.le_refl _) (by omega)
                rw [tok_blk _ (s[m]'(by omega)).toNat_lt htk] at hb
                cases hb
          subst hnm
          have hgc : g = c := by
            rcases Nat.lt_trichotomy g c with h | h | h
            · have := hgs (by omega)
              rw [h3 g (by omega) (by omega) h] at this
              cases this
            · exact h
            · have := hgall c (by omega) h1 h
              have := blk_col _ (s[c]'(by omega)).toNat_lt this
              rw [hcol] at this
              cases this
          subst hgc
          rcases hA with hA | hA
          · omega
          · exact hA (by rw [Lib.data_getElem? s g (by omega), hc58])
      · rw [if_neg hA]
        simp only [not_or, Classical.not_not] at hA
        obtain ⟨hn0, h58⟩ := hA
        have hgs2 : g < s.size := by
          have := (List.getElem?_eq_some_iff.1 h58).1
          omega
        rw [Lib.data_getElem? s g hgs2] at h58
        have h58' := Option.some.inj h58
        have hcg : tw colI s 0 = g := by
          have := tw_at (q := colI) (s := s) (k := 0) (m := g) (fun i hi _ hig => ?_) (Nat.zero_le _) (by omega) (fun _ => by rw [h58']; rfl)
          · rw [Nat.zero_add] at this; exact this
          · by_cases hin : i < n
            · exact tok_col _ s[i].toNat_lt (hnall i hi (Nat.zero_le _) hin)
            · exact blk_col _ s[i].toNat_lt (hgall i hi (by omega) hig)
        rw [hcg]
        obtain ⟨m, h1, h2, h3, h4⟩ := trim_take s g (by omega) hh
        have hmn : m = n := by
          rcases Nat.lt_trichotomy m n with h | h | h
          · have hb := h3 (n - 1) (by omega) (by omega) (by omega)
            have ht := hnall (n - 1) (by omega) (Nat.zero_le _) (by omega)
            rw [tok_blk _ (s[n - 1]'(by omega)).toNat_lt ht] at hb
            cases hb
          · exact h
          · rcases h4 with h4 | ⟨h5, h6⟩
            · omega
            · rw [hgall (m - 1) h5 (by omega) (by omega)] at h6
              cases h6
        subst hmn
        have htb : tokB (s.extract 0 m) = true := by
          unfold tokB
          rw [Bool.and_eq_true, decide_eq_true_eq, ext_size _ _ _ (by omega)]
          refine ⟨by omega, ?_⟩
          unfold allI
          rw [List.all_eq_true, extB, List.drop_zero]
          intro x hx
          obtain ⟨i, hi, rfl⟩ := List.getElem_of_mem hx
          rw [List.length_take] at hi
          rw [List.getElem_take]
          exact hnall i (by omega) (Nat.zero_le _) (by omega)
        rw [h2, htb, ext_size _ _ _ (by omega), if_neg (by simp; omega)]
        by_cases hgm : g = m
        · subst hgm
          rw [if_neg (show ¬ g - 0 < g by omega), if_neg (show ¬ (g ≠ g) by simp)]
        · rw [if_pos (show m - 0 < g by omega), if_pos hgm]
    · rw [if_pos rfl, if_pos (show 0 < tw blkI s 0 from ?_)]
      unfold tw
      rw [List.drop_zero]
      cases hs : s.data.toList with
      | nil => rw [hs] at hh; cases hh
      | cons x r =>
        rw [hs] at hh
        have hx : blkI (x.toNat : Int) = true := by simpa [blkP] using hh
        rw [List.takeWhile_cons_of_pos (p := fun b : UInt8 => blkI (b.toNat : Int)) hx]
        simp
  · rw [if_pos rfl, if_pos rfl]
end Go.Proofs.YthncigahodannaaDoor
