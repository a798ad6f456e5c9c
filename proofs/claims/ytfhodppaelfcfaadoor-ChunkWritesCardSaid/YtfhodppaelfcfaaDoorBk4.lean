/- Lists behind commas: what is joined or appended splits again. No program in sight. -/
import Derived.Test.YtfhodppaelfcfaaDoorBk3
import Derived.Test.YtfhodppaelfcfaaDoorS9
set_option maxRecDepth 100000
namespace Go.Proofs.YtfhodppaelfcfaaDoor
open Go.RowKit

theorem cut_pre {s x t : ByteArray} {a : Nat} (ha : a ≤ s.size) (h : s.extract a s.size = x ++ t) : a + x.size ≤ s.size ∧ s.extract a (a + x.size) = x ∧ s.extract (a + x.size) s.size = t := by
  have hl : s.data.toList.drop a = x.data.toList ++ t.data.toList := by
    rw [← cut_l, h, app_l]
  have hx := blen x
  have hs := blen s
  have h1 : a + x.size ≤ s.size := by
    have := congrArg List.length hl
    rw [List.length_drop, List.length_append] at this
    omega
  refine ⟨h1, ?_, ?_⟩
  · apply inL
    rw [exL, List.drop_take, hl, Nat.add_sub_cancel_left, List.take_append_of_le_length (by omega), List.take_of_length_le (by omega)]
  · apply inL
    rw [cut_l, ← List.drop_drop, hl, List.drop_append_of_le_length (by omega), List.drop_of_length_le (by omega), List.nil_append]
theorem Run.blanks {s : ByteArray} : ∀ (m k : Nat), (∀ i, k ≤ i → i < k + m → bkAt s i = true) → k + m ≤ s.size → Run s k (k + m)
  | 0, k, _, _ => .nil k
  | m + 1, k, h, hs => by
    have r := Run.blanks m (k + 1) (fun i h1 h2 => h i (by omega) (by omega)) (by omega)
    rw [show k + 1 + m = k + (m + 1) by omega] at r
    have hb := h k (Nat.le_refl _) (by omega)
    exact .step (by omega) (at_of_bk hb (by decide)) (stepW_blank hb) r
/-- a good piece behind blanks -/
theorem piece_at {s x : ByteArray} {b w : Nat} (hx : Piece x) (hw : ∀ i, b ≤ i → i < b + w → bkAt s i = true) (he : b + w + x.size ≤ s.size) (h : s.extract (b + w) (b + w + x.size) = x) (out : List ByteArray) :
    Run s b (b + w + x.size) ∧ endW s b (b + w + x.size) out = out ++ [x] := by
  have hpos := hx.pos
  have get : ∀ i, i < x.size → s.data.toList[b + w + i]? = x.data.toList[i]? := fun i hi => by
    conv => rhs; rw [← h]
    rw [ext_get s (b + w) (b + w + x.size) i (by omega) he]
  have bk : ∀ i, i < x.size → bkAt s (b + w + i) = bkAt x i := fun i hi => by unfold bkAt; rw [get i hi]
  have r2 := hx.run.move (t := s) (c := 0) (d := b + w) ⟨Nat.le_refl _, fun i _ h2 => by
    rw [show i + (b + w) - 0 = b + w + i by omega]; exact get i h2⟩
  rw [show 0 + (b + w) - 0 = b + w by omega, show x.size + (b + w) - 0 = b + w + x.size by omega] at r2
  refine ⟨(Run.blanks w b hw (by omega)).trans r2, ?_⟩
  have ht : trimC (s.extract b (b + w + x.size)) spcS = x := by
    rw [trimC_of (p := w) (q := w + x.size) (by omega) (fun i hi => by rw [ext_bk (by omega) he]; exact hw _ (by omega) (by omega)) (fun i hi => bkAt_ge (by rw [ext_sz _ _ _ he]; omega))
      (by rw [ext_bk (by omega) he]; have := bk 0 hpos; rw [Nat.add_zero] at this; rw [this]; exact hx.hd)
      (by rw [ext_bk (by omega) he, show b + (w + x.size - 1) = b + w + (x.size - 1) by omega, bk _ (by omega)]; exact hx.tl)]
    rw [ext_ext2 _ _ _ _ _ (by omega), ← Nat.add_assoc]
    exact h
  unfold endW
  rw [ht, if_neg (by omega)]
theorem comS_get (t : ByteArray) : (comS ++ t).data.toList[0]? = some 44 ∧ (comS ++ t).data.toList[1]? = some 32 := by
  rw [app_l]; exact ⟨rfl, rfl⟩
theorem join_split : ∀ (l : List ByteArray), l ≠ [] → (∀ x ∈ l, Piece x) → ∀ (s : ByteArray) (b w : Nat) (out : List ByteArray), b + w ≤ s.size → (∀ i, b ≤ i → i < b + w → bkAt s i = true) → s.extract (b + w) s.size = joinC comS l → splW s b b out = some (out ++ l)
  | [], h, _, _, _, _, _, _, _, _ => absurd rfl h
  | [x], _, hg, s, b, w, out, hb, hw, h => by
    rw [joinC_one] at h
    have e : b + w + x.size = s.size := by rw [← h, ext_sz _ _ _ (Nat.le_refl _)]; omega
    obtain ⟨r, he⟩ := piece_at (hg x (.head _)) hw (by omega) (by rw [e]; exact h) out
    rw [e] at r he
    rw [splW_run r, splW_end (by omega), he]
  | x :: y :: r, _, hg, s, b, w, out, hb, hw, h => by
    rw [joinC_cons (by simp), ByteArray.append_assoc] at h
    obtain ⟨h1, h2, h3⟩ := cut_pre hb h
    obtain ⟨k1, k2, k3⟩ := cut_pre h1 h3
    obtain ⟨hr, he⟩ := piece_at (hg x (.head _)) hw h1 h2 out
    have c2 : comS.size = 2 := rfl
    rw [c2] at k1 k2 k3
    generalize b + w + x.size = e at *
    have g : ∀ i, e + i < s.size → s.data.toList[e + i]? = (comS ++ joinC comS (y :: r)).data.toList[i]? := fun i hi => by
      rw [← h3, ext_get s e s.size i hi (Nat.le_refl _)]
    have h44 : atB s e 44 = true := by
      unfold atB
      have := g 0 (by omega)
      rw [Nat.add_zero] at this
      rw [this, (comS_get _).1]; rfl
    have h32 : bkAt s (e + 1) = true := by
      unfold bkAt
      rw [g 1 (by omega), (comS_get _).2]; rfl
    rw [splW_run hr, splW_some (by omega) (j := e + 1) (by unfold stepW; rw [if_pos h44]), if_pos h44, he]
    rw [join_split (y :: r) (by simp) (fun z hz => hg z (.tail _ hz)) s (e + 1) 1 (out ++ [x]) (by omega) (fun i i1 i2 => by rw [show i = e + 1 by omega]; exact h32) (by rw [show e + 1 + 1 = e + 2 by omega]; exact k3)]
    simp
theorem join_back (l : List ByteArray) (hg : ∀ x ∈ l, Piece x) : splitW (joinC comS l) = some l := by
  cases l with
  | nil => decide +kernel
  | cons x r =>
    have := join_split (x :: r) (by simp) hg (joinC comS (x :: r)) 0 0 [] (Nat.zero_le _) (fun i h1 h2 => by omega) (by rw [Nat.add_zero, ByteArray.extract_zero_size])
    simpa [splitW] using this

theorem trimC_cut {m : ByteArray} {q : Nat} (hq : q ≤ m.size) (hb : ∀ i, q ≤ i → bkAt m i = true) : trimC m spcS = trimC (m.extract 0 q) spcS := by
  have bk : ∀ i, i < q → bkAt (m.extract 0 q) i = bkAt m i := fun i hi => by rw [ext_bk (by omega) hq, Nat.zero_add]
  have big : ∀ i, q ≤ i → bkAt (m.extract 0 q) i = true := fun i hi => bkAt_ge (by rw [ext_sz _ _ _ hq]; omega)
  rcases trimC_cases m with h | ⟨p, q2, hpq, hq2, p1, q1, b1, b2⟩
  · rw [(emp_iff _).2 (trimC_blank h), (emp_iff _).2 (trimC_blank (s := m.extract 0 q) fun i => by
      by_cases hi : i < q
      · rw [bk i hi]; exact h i
      · exact big i (by omega))]
  · have hlt : q2 - 1 < q := Decidable.byContradiction fun hc => by rw [hb _ (by omega)] at b2; cases b2
    rw [trimC_of hpq p1 q1 b1 b2, trimC_of (s := m.extract 0 q) hpq (fun i hi => by rw [bk i (by omega)]; exact p1 i hi) (fun i hi => by
      by_cases h2 : i < q
      · rw [bk i h2]; exact q1 i hi
      · exact big i (by omega)) (by rw [bk p (by omega)]; exact b1) (by rw [bk _ hlt]; exact b2), ext_ext2 _ _ _ _ _ (by omega), Nat.zero_add, Nat.zero_add]
/-- trailing blanks change nothing -/
theorem splW_trim {s : ByteArray} {q : Nat} (hq : q ≤ s.size) (hb : ∀ i, q ≤ i → bkAt s i = true) : ∀ (z k : Nat) (out r : List ByteArray), s.size - k = z → k ≤ q → splW s k k out = some r → splW (s.extract 0 q) k k out = some r := by
  have hsz := ext_sz s 0 q hq
  have mv : ∀ {k e : Nat}, Run s k e → e ≤ q → Run (s.extract 0 q) k e := fun {k e} hr he => by
    have := hr.move (t := s.extract 0 q) (c := 0) (d := 0) ⟨Nat.zero_le _, fun i h1 h2 => by
      rw [show i + 0 - 0 = i by omega, ext_get s 0 q i (by omega) hq, Nat.zero_add]⟩
    simpa using this
  intro z
  induction z using Nat.strongRecOn with
  | _ z ih =>
    intro k out r hz hk h
    obtain ⟨e, hr, he, h2 | ⟨h2, h3, h4⟩⟩ := splW_piece _ k rfl (by omega) h
    · obtain ⟨rfl, rfl⟩ := h2
      have r1 : Run s k q := Run.backs (s.size - q) q (by omega) hk hr (fun i h1 _ => hb i h1)
      rw [splW_run (mv r1 (Nat.le_refl _)), splW_end (by omega), hsz]
      have : trimC (s.extract k s.size) spcS = trimC ((s.extract 0 q).extract k q) spcS := by
        rw [trimC_cut (m := s.extract k s.size) (q := q - k) (by rw [ext_sz _ _ _ (Nat.le_refl _)]; omega) (fun i hi => by
          by_cases h5 : k + i < s.size
          · rw [ext_bk h5 (Nat.le_refl _)]; exact hb _ (by omega)
          · exact bkAt_ge (by rw [ext_sz _ _ _ (Nat.le_refl _)]; omega)), ext_ext2 _ _ _ _ _ (by omega), ext_ext2 _ _ _ _ _ (by omega)]
        simp only [Nat.add_zero, Nat.zero_add]
        rw [show k + (q - k) = q by omega]
      unfold endW
      rw [show q - 0 = q by omega, this]
    · have heq : e < q := Decidable.byContradiction fun hc => by
        have := hb e (by omega)
        rw [bk_of_at h3 (by decide)] at this; cases this
      have h44 : atB (s.extract 0 q) e 44 = true := by unfold atB at h3 ⊢; rw [ext_get s 0 q e (by omega) hq, Nat.zero_add]; exact h3
      rw [splW_run (mv hr (by omega)), splW_some (by omega) (j := e + 1) (by unfold stepW; rw [if_pos h44]), if_pos h44]
      have : endW (s.extract 0 q) k e out = endW s k e out := by unfold endW; rw [ext_ext2 _ _ _ _ _ (by omega), Nat.zero_add, Nat.zero_add]
      rw [this]
      have := hr.le
      exact ih (s.size - (e + 1)) (by omega) (e + 1) _ r rfl (by omega) h4
theorem splW_bc {s : ByteArray} (ha : allI bcI s = true) : ∀ (z k : Nat) (out r : List ByteArray), s.size - k = z → k ≤ s.size → splW s k k out = some r → r = out := by
  have run : ∀ {k e : Nat}, Run s k e → ∀ i, k ≤ i → i < e → bkAt s i = true := by
    intro k e h
    induction h with
    | nil k => intro i h1 h2; omega
    | @step k j e hk hc hst r ih =>
      intro i h1 h2
      have hb : bkAt s k = true := by
        have := allI_at ha k hk
        rw [atB_lt hk] at hc
        rw [bkAt_lt hk]
        unfold bcI at this
        rw [hc, Bool.or_false] at this
        exact this
      rw [stepW_blank hb] at hst
      cases hst
      by_cases e1 : i = k
      · rw [e1]; exact hb
      · exact ih i (by omega) h2
  have fin : ∀ {k e : Nat} (out : List ByteArray), Run s k e → e ≤ s.size → endW s k e out = out := fun {k e} out hr he => by
    unfold endW
    rw [if_pos (trimC_blank fun i => by
      by_cases hi : k + i < e
      · rw [ext_bk hi he]; exact run hr _ (by omega) hi
      · exact bkAt_ge (by rw [ext_sz _ _ _ he]; omega))]
  intro z
  induction z using Nat.strongRecOn with
  | _ z ih =>
    intro k out r hz hk h
    obtain ⟨e, hr, he, h2 | ⟨h2, h3, h4⟩⟩ := splW_piece _ k rfl hk h
    · obtain ⟨rfl, rfl⟩ := h2
      exact fin out hr he
    · rw [fin out hr he] at h4
      have := hr.le
      exact ih (s.size - (e + 1)) (by omega) (e + 1) _ r rfl (by omega) h4
theorem append_back {a : ByteArray} {la lb : List ByteArray} (h : splitW a = some la) (hg : ∀ x ∈ lb, Piece x) : splitW (appW a lb) = some (la ++ lb) := by
  unfold appW
  by_cases h0 : lb = []
  · rw [if_pos h0, h0, List.append_nil]; exact h
  · rw [if_neg h0]
    by_cases h1 : allI bcI a = true
    · rw [if_pos h1]
      have : la = [] := splW_bc h1 _ 0 [] la rfl (Nat.zero_le _) h
      rw [this, List.nil_append]
      exact join_back lb hg
    · rw [if_neg h1, joinC_cons h0, ByteArray.append_assoc]
      have hex : ∃ i, i < a.size ∧ bkAt a i = false := by
        apply Decidable.byContradiction
        intro hc
        refine h1 (allI_true fun i hi => ?_)
        cases e : bkAt a i with
        | true => rw [bkAt_lt hi] at e; unfold bcI; rw [e]; rfl
        | false => exact absurd ⟨i, hi, e⟩ hc
      obtain ⟨q, q1, q2, q3⟩ := last_of _ _ hex
      have ht : trimRC a spcS = a.extract 0 (q + 1) := trimRC_at q1 (fun j hj hjq => by rw [← bkAt_lt hj]; exact q3 j hjq hj) (by rw [← bkAt_lt q1]; exact q2)
      have h2 : splW (trimRC a spcS) 0 0 [] = some la := by
        rw [ht]
        exact splW_trim (by omega) (fun i hi => by
          by_cases hi2 : i < a.size
          · exact q3 i (by omega) hi2
          · exact bkAt_ge (by omega)) _ 0 [] la rfl (Nat.zero_le _) h
      generalize trimRC a spcS = a' at *
      have ha : atB (comS ++ joinC comS lb) 0 44 = true := by unfold atB; rw [(comS_get _).1]; rfl
      unfold splitW
      rw [splW_app _ ha _ 0 [] la rfl (Nat.zero_le _) h2]
      have c2 : comS.size = 2 := rfl
      have hs1 := app_size a' (comS ++ joinC comS lb)
      have hs2 := app_size comS (joinC comS lb)
      have hcut : (a' ++ (comS ++ joinC comS lb)).extract (a'.size + 1 + 1) (a' ++ (comS ++ joinC comS lb)).size = joinC comS lb := by
        apply inL
        rw [cut_l, app_l, app_l, List.drop_append, List.drop_of_length_le (by rw [blen]; omega), blen, List.nil_append, show a'.size + 1 + 1 - a'.size = 2 by omega]
        rfl
      exact join_split lb h0 hg _ (a'.size + 1) 1 la (by omega) (fun i i1 i2 => by
        rw [show i = a'.size + 1 by omega]
        unfold bkAt
        rw [app_hi, (comS_get _).2]; rfl) hcut

theorem trimC_size (s : ByteArray) : (trimC s spcS).size ≤ s.size := by
  have e : (trimC s spcS).size = (Lib.trimS s.data.toList [32, 9]).length := by unfold trimC; show (Array.size _) = _; rw [List.size_toArray]; rfl
  rw [e, ← blen]
  unfold Lib.trimS Lib.trimLeftS Lib.trimRightS
  refine Nat.le_trans (List.dropWhile_sublist _).length_le ?_
  rw [List.length_reverse]
  refine Nat.le_trans (List.dropWhile_sublist _).length_le ?_
  rw [List.length_reverse]
  exact Nat.le_refl _
theorem endW_size {s : ByteArray} {b e : Nat} {out : List ByteArray} (he : e ≤ s.size) : ∀ x ∈ endW s b e out, x ∈ out ∨ x.size ≤ s.size := by
  intro x hx
  unfold endW at hx
  split at hx
  · exact .inl hx
  · rcases List.mem_append.1 hx with h | h
    · exact .inl h
    · rw [List.mem_singleton.1 h]
      have := trimC_size (s.extract b e)
      rw [ext_sz _ _ _ he] at this
      exact .inr (by omega)
theorem splW_bound {s : ByteArray} : ∀ (z k : Nat) (out r : List ByteArray), s.size - k = z → k ≤ s.size → splW s k k out = some r → r.length ≤ out.length + z + 1 ∧ ∀ x ∈ r, x ∈ out ∨ x.size ≤ s.size := by
  intro z
  induction z using Nat.strongRecOn with
  | _ z ih =>
    intro k out r hz hk h
    obtain ⟨e, hr, he, h2 | ⟨h2, h3, h4⟩⟩ := splW_piece _ k rfl hk h
    · obtain ⟨rfl, rfl⟩ := h2
      have := endW_len s k s.size out
      exact ⟨by omega, endW_size he⟩
    · have h5 := endW_len s k e out
      have := hr.le
      obtain ⟨i1, i2⟩ := ih (s.size - (e + 1)) (by omega) (e + 1) _ r rfl (by omega) h4
      refine ⟨by omega, fun x hx => ?_⟩
      rcases i2 x hx with h6 | h6
      · exact endW_size he x h6
      · exact .inr h6
theorem split_bound {s : ByteArray} {l : List ByteArray} (h : splitW s = some l) (hs : s.size ≤ 80) : l.length ≤ 81 ∧ (joinC comS l).size ≤ 6642 := by
  obtain ⟨h1, h2⟩ := splW_bound _ 0 [] l rfl (Nat.zero_le _) h
  have h3 : l.length ≤ 81 := by simp at h1; omega
  have := joinC_bound comS l (fun x hx => by
    rcases h2 x hx with h4 | h4
    · simp at h4
    · omega)
  have h5 : l.length * (80 + comS.size) ≤ 81 * 82 := Nat.mul_le_mul h3 (by decide)
  exact ⟨h3, by omega⟩
end Go.Proofs.YtfhodppaelfcfaaDoor
