/- CommasSplits: the document's reading of quoted texts and comments, its trim. No statement of its own. -/
import Derived.Test.YtgaidgblihnldaaGreatDoorSb
import Derived.Test.YtgaidgblihnldaaGreatDoorFoP
set_option linter.unusedSimpArgs false
set_option linter.unusedVariables false
set_option maxRecDepth 100000
namespace Go.Proofs.YtgaidgblihnldaaGreatDoor
open Go.RowKit
theorem value1_p (n : Int) (h0 : 0 ≤ n) (h1 : n ≤ 255) : APure Tryz.prog 44 [.int .u8 n] (.b (valI n)) [] := by
  have e : valI n = r1valI n := by
    obtain ⟨m, rfl⟩ := Int.eq_ofNat_of_zero_le h0
    exact (valI_eq m (by omega)).symm
  rw [e]
  refine APure.of rfl (ACalls.of_vc T_ok mixed Tryz.func44 rfl Tryz.call44 ?_)
  unfold r1valI
  refine cnd_split (fun h => ?_) (fun h => ?_)
  · have h := of_decide_eq_true h
    rw [show decide (32 ≤ n) = true from decide_eq_true h]
    refine cnd_split (fun h2 => ?_) (fun h2 => ?_)
    · exact retb (by rw [show (n == 127) = false by simpa using h2]; rfl)
    · exact retb (by rw [show (n == 127) = true by simpa using h2]; rfl)
  · have h := of_decide_eq_false h
    rw [show decide (32 ≤ n) = false from decide_eq_false h]
    exact retb rfl
theorem front5_p (s : ByteArray) (hs : s.size ≤ 1099511627776) : APure Tryz.prog 92 [.s s] (.tup [.s (frontR s).1, .i (frontR s).2]) [] := by
  have hmx : maxLen = 9223372036854775807 := rfl
  have hF : frontS s 0 = if atB s 0 34 = true then frontW s 1 [] else none := rfl
  have bad : frontS s 0 = none → frontR s = (⟨#[]⟩, 0) := fun h => by unfold frontR; rw [h]
  have good : ∀ v j, frontS s 0 = some (v, j) → frontR s = (⟨v.toArray⟩, (j : Int)) := fun v j h => by unfold frontR; rw [h]
  generalize frontS s 0 = F at *
  generalize frontR s = G at *
  refine APure.of (by cases G; rfl) ?_
  refine ACalls.of_vc T_ok mixed Tryz.func92 rfl Tryz.call92 ?_
  refine cnd_split (fun h0 => ?_) (fun h0 => ?_)
  · have h0 : s.size = 0 := by
      have : ((s.size : Int) == 0) = true := h0
      have := beq_iff_eq.1 this
      omega
    rw [atB_ge (by omega), if_neg (by decide)] at hF
    rw [bad hF]; rfl
  · have h0 : 0 < s.size := by
      have : ((s.size : Int) == 0) = false := h0
      have := beq_eq_false_iff_ne.1 this
      omega
    refine ⟨0, h0, rfl, ?_⟩
    have e34 := atB_lt h0 34
    refine cnd_split (fun h1 => ?_) (fun h1 => ?_)
    · have h1 : ((s[0].toNat : Int) == 34) = false := by rw [bne, Bool.not_eq_true'] at h1; exact h1
      rw [e34, h1, if_neg (by decide)] at hF
      rw [bad hF]; rfl
    · have h1 : ((s[0].toNat : Int) == 34) = true := by rw [bne, Bool.not_eq_false'] at h1; exact h1
      rw [e34, h1, if_pos rfl] at hF
      refine vc_loop [4, 5] (fun g vals st' => ∃ (k : Nat) (acc : List UInt8), k + g = s.size ∧ vals = [.s ⟨acc.toArray⟩, .i k] ∧ acc.length ≤ k ∧ frontW s k acc = F) (s.size - 1) rfl ⟨1, [], by omega, rfl, by simp, hF.symm⟩ ?_
      rintro g vals st' ⟨k, acc, hk, rfl, hac, hW⟩
      refine cnd_split (fun hd => ?_) (fun hd => ?_)
      · have hd := of_decide_eq_true hd
        have k1 : k < s.size := by omega
        refine ⟨k, k1, rfl, ?_⟩
        have q34 := atB_lt k1 34
        refine cnd_split (fun h2 => ?_) (fun h2 => ?_)
        · rw [frontW_end acc (q34.trans h2)] at hW
          intro c hc
          rw [IntWalk.i64_in _ (by omega)] at hc
          subst hc
          rw [good _ _ hW.symm]; rfl
        · have h34 : atB s k 34 = false := q34.trans h2
          refine ⟨k, k1, rfl, ?_⟩
          have q92 := atB_lt k1 92
          have go : ∀ i : Nat, (if atB s k 92 = true then k + 1 else k) = i → nxt s k = match s.data.toList[i]? with | some b => if valI (b.toNat : Int) = true then some (b, i + 1) else none | none => none := fun i hi => by unfold nxt; rw [hi]; rfl
          refine cnd_split (fun h3 => ?_) (fun h3 => ?_)
          · have hi := go (k + 1) (by rw [q92]; rw [show ((s[k].toNat : Int) == 92) = true from h3]; rfl)
            intro c hc
            rw [IntWalk.i64_in _ (by omega)] at hc
            obtain rfl : c = ((k + 1 : Nat) : Int) := by omega
            refine cnd_split (fun h4 => ?_) (fun h4 => ?_)
            · have h4 : (k + 1 : Nat) = s.size := by
                have := beq_iff_eq.1 h4
                omega
              rw [List.getElem?_eq_none (by rw [blen]; omega)] at hi
              rw [frontW_none acc h34 hi] at hW
              rw [bad hW.symm]; rfl
            · have h4 : ¬ (k + 1 : Nat) = s.size := by
                have := beq_eq_false_iff_ne.1 h4
                omega
              have hlt : k + 1 < s.size := by omega
              rw [at_lt hlt] at hi
              simp only at hi
              refine ⟨k + 1, hlt, rfl, ?_⟩
              refine .p rfl (value1_p _ (by omega) (by have := (s[k + 1]'hlt).toNat_lt; omega)) ?_
              refine cnd_split (fun h5 => ?_) (fun h5 => ?_)
              · rw [Bool.not_eq_true'] at h5
                rw [h5, if_neg (by decide)] at hi
                rw [frontW_none acc h34 hi] at hW
                rw [bad hW.symm]; rfl
              · rw [Bool.not_eq_false'] at h5
                rw [h5, if_pos rfl] at hi
                rw [frontW_some acc h34 hi] at hW
                have ez : (⟨acc.toArray⟩ : ByteArray).size = acc.length := by show (Array.size _) = _; rw [List.size_toArray]
                have ex := ext_len s (k + 1) (k + 1 + 1) (by omega)
                intro c hc
                rw [IntWalk.i64_in _ (by omega)] at hc
                obtain rfl : c = ((k + 1 + 1 : Nat) : Int) := by omega
                refine ⟨k + 1 + 1, rfl, k + 1, rfl, by omega, by omega, ?_⟩
                refine ⟨by omega, ?_⟩
                intro c hc
                rw [IntWalk.i64_in _ (by omega)] at hc
                obtain rfl : c = ((k + 1 + 1 : Nat) : Int) := by omega
                refine ⟨s.size - (k + 1 + 1), by omega, k + 1 + 1, acc ++ [s[k + 1]], by omega, ?_, by simp; omega, hW⟩
                have : (⟨acc.toArray⟩ : ByteArray) ++ s.extract (k + 1) (k + 1 + 1) = ⟨(acc ++ [s[k + 1]]).toArray⟩ := by
                  rw [ext1 s _ hlt]
                  apply inL
                  rw [app_l]
                rw [← this]; rfl
          · have hi := go k (by rw [q92]; rw [show ((s[k].toNat : Int) == 92) = false from h3]; rfl)
            refine cnd_split (fun h4 => ?_) (fun h4 => ?_)
            · have h4 : (k : Nat) = s.size := by
                have := beq_iff_eq.1 h4
                omega
              rw [List.getElem?_eq_none (by rw [blen]; omega)] at hi
              rw [frontW_none acc h34 hi] at hW
              rw [bad hW.symm]; rfl
            · have h4 : ¬ (k : Nat) = s.size := by
                have := beq_eq_false_iff_ne.1 h4
                omega
              have hlt : k < s.size := by omega
              rw [at_lt hlt] at hi
              simp only at hi
              refine ⟨k, hlt, rfl, ?_⟩
              refine .p rfl (value1_p _ (by omega) (by have := (s[k]'hlt).toNat_lt; omega)) ?_
              refine cnd_split (fun h5 => ?_) (fun h5 => ?_)
              · rw [Bool.not_eq_true'] at h5
                rw [h5, if_neg (by decide)] at hi
                rw [frontW_none acc h34 hi] at hW
                rw [bad hW.symm]; rfl
              · rw [Bool.not_eq_false'] at h5
                rw [h5, if_pos rfl] at hi
                rw [frontW_some acc h34 hi] at hW
                have ez : (⟨acc.toArray⟩ : ByteArray).size = acc.length := by show (Array.size _) = _; rw [List.size_toArray]
                have ex := ext_len s (k) (k + 1) (by omega)
                intro c hc
                rw [IntWalk.i64_in _ (by omega)] at hc
                obtain rfl : c = ((k + 1 : Nat) : Int) := by omega
                refine ⟨k + 1, rfl, k, rfl, by omega, by omega, ?_⟩
                refine ⟨by omega, ?_⟩
                intro c hc
                rw [IntWalk.i64_in _ (by omega)] at hc
                obtain rfl : c = ((k + 1 : Nat) : Int) := by omega
                refine ⟨s.size - (k + 1), by omega, k + 1, acc ++ [s[k]], by omega, ?_, by simp; omega, hW⟩
                have : (⟨acc.toArray⟩ : ByteArray) ++ s.extract (k) (k + 1) = ⟨(acc ++ [s[k]]).toArray⟩ := by
                  rw [ext1 s _ hlt]
                  apply inL
                  rw [app_l]
                rw [← this]; rfl
      · have hd := of_decide_eq_false hd
        have hN : nxt s k = none := by
          unfold nxt
          rw [atB_ge (by omega), if_neg (by decide), List.getElem?_eq_none (by rw [blen]; omega)]
        rw [frontW_none acc (atB_ge (by omega) _) hN] at hW
        rw [bad hW.symm]; rfl
theorem cut_at (s : ByteArray) (m : Nat) (hm : m ≤ s.size) : Smw (s.extract m s.size) s 0 m 0 (s.size - m) := ⟨Nat.le_refl _, fun i _ h2 => by
  rw [ext_get s m s.size i (by omega) (Nat.le_refl _)]; congr 1; omega⟩
theorem cut_cmt {s : ByteArray} {m : Nat} (hm : m < s.size) : (cmtW (s.extract m s.size) 1 1).map (· + m) = cmtW s (m + 1) 1 := by
  have hsz := ext_sz s m s.size (Nat.le_refl _)
  cases h : cmtW (s.extract m s.size) 1 1 with
  | some j =>
    have hl := cmtW_le _ _ _ _ _ (Nat.le_refl _) (by omega) h
    have := cmtW_move (s := s.extract m s.size) (t := s) (c := 0) (d := m) _ 1 1 (Nat.le_refl _) (by omega) h (((cut_at s m (by omega)).from (by omega)).upto (by omega))
    rw [show 1 + m - 0 = m + 1 by omega] at this
    rw [this]; rfl
  | none =>
    cases h2 : cmtW s (m + 1) 1 with
    | none => rfl
    | some j =>
      have hl := cmtW_le _ _ _ _ _ (Nat.le_refl _) (by omega) h2
      have := cmtW_move (s := s) (t := s.extract m s.size) (c := m) (d := 0) _ (m + 1) 1 (Nat.le_refl _) (by omega) h2 ⟨by omega, fun i h1 h2 => by
        rw [ext_get s m s.size _ (by omega) (Nat.le_refl _)]; congr 1; omega⟩
      rw [show m + 1 + 0 - m = 1 by omega, h] at this
      cases this
def innW (s : ByteArray) : Option Nat := if atB s 0 34 = true then (frontS s 0).map (·.2) else cmtW s 1 1
def innI (s : ByteArray) : Int := match innW s with | some j => (j : Int) | none => 0
theorem innW_step {s : ByteArray} {m : Nat} (hm : m < s.size) (h : atB s m 34 = true ∨ atB s m 40 = true) : (innW (s.extract m s.size)).map (· + m) = stepW s m := by
  have h0 := cut_atB s m 0 34
  rw [Nat.add_zero] at h0
  have x34 : ∀ b : Int, atB s m b = true → ∀ d : Int, d ≠ b → atB s m d = false := fun b hb d hd => by
    rw [atB_lt hm] at hb ⊢
    have := beq_iff_eq.1 hb
    rw [beq_eq_false_iff_ne]; omega
  unfold innW stepW
  rw [h0]
  rcases h with h | h
  · rw [if_pos h, x34 34 h 44 (by decide), x34 34 h 40 (by decide), h]
    simp only [Bool.false_eq_true, if_false, if_true]
    have hf := cut_front s m (by omega) _ 1 [] rfl
    unfold frontS
    rw [h0, h, if_pos rfl, if_pos rfl, hf]
    cases hq : frontW s (m + 1) [] with
    | none => rfl
    | some x =>
      obtain ⟨v, j⟩ := x
      have := frontW_le _ _ _ _ _ rfl hq
      simp only [Option.map_some, Option.some.injEq]
      omega
  · rw [x34 40 h 34 (by decide), x34 40 h 44 (by decide), h]
    simp only [Bool.false_eq_true, if_false, if_true]
    exact cut_cmt hm
theorem trim6_p (s : ByteArray) (hs : s.size ≤ 1099511627776) : APure Tryz.prog 125 [.s s] (.s (trimC s spcS)) [] := by
  have hmx : maxLen = 9223372036854775807 := rfl
  refine APure.of rfl (ACalls.of_vc T_ok mixed Tryz.func125 rfl Tryz.call125 ?_)
  refine vc_loop [0] (fun g vals st' => ∃ (p : Nat) (x : ByteArray), p + g = s.size ∧ vals = [.s x] ∧ x = s.extract p s.size ∧ ∀ i, i < p → bkAt s i = true) s.size rfl ⟨0, s, by omega, rfl, by rw [ByteArray.extract_zero_size], fun i h => by omega⟩ ?_
  rintro g vals st' ⟨p, x, hp, rfl, hx, ha⟩
  have ez : x.size = s.size - p := by rw [hx]; exact ext_len s p s.size (Nat.le_refl _)
  have hb : ∀ hi : 0 < x.size, blkI (x[0].toNat : Int) = bkAt s p := fun hi => by
    subst hx
    rw [← bkAt_lt hi, ext_bk (by omega) (Nat.le_refl _), Nat.add_zero]
  refine cnd_split (fun h1 => ?_) (fun h1 => ?_)
  · have h1 := of_decide_eq_true h1
    have hps : p < s.size := by omega
    refine ⟨0, by omega, rfl, ?_⟩
    refine .p rfl (blank1_p _) ?_
    have hb1 := hb (by omega)
    refine cnd_split (fun h2 => ?_) (fun h2 => ?_)
    · refine ⟨1, rfl, by omega, Nat.le_refl _, ?_⟩
      refine ⟨g - 1, by omega, p + 1, _, by omega, rfl, ?_, fun i hi => ?_⟩
      · rw [hx, cut_cut s p 1]
      · by_cases e : i = p
        · rw [e, ← hb1]; exact h2
        · exact ha i (by omega)
    · have hstop : p < s.size → bkAt s p = false := fun _ => by rw [← hb1]; exact h2
      refine vc_loop [0] (fun g2 vals st2 => ∃ (q : Nat) (y : ByteArray), q = p + g2 ∧ q ≤ s.size ∧ vals = [.s y] ∧ y = s.extract p q ∧ ∀ i, q ≤ i → bkAt s i = true) (s.size - p) rfl ⟨s.size, x, by omega, by omega, rfl, hx, fun i hi => bkAt_ge hi⟩ ?_
      rintro g2 vals st2 ⟨q, y, hq, hqs, rfl, hy, hqb⟩
      have eq : y.size = q - p := by rw [hy]; exact ext_len s p q hqs
      have fin : (p < q → bkAt s (q - 1) = false) → y = trimC s spcS := fun hl => by
        rw [hy]
        by_cases hpq : p < q
        · exact (trimC_of hpq ha hqb (hstop (by omega)) (hl hpq)).symm
        · have h1 := (emp_iff _).2 (trimC_blank (s := s) fun i => if hi : i < p then ha i hi else hqb i (by omega))
          rw [h1]
          exact (emp_iff _).2 (by rw [← hy]; omega)
      have hb : ∀ i (hi : i < y.size), blkI (y[i].toNat : Int) = bkAt s (p + i) := fun i hi => by
        subst hy
        rw [← bkAt_lt hi, ext_bk (by omega) hqs]
      refine cnd_split (fun h1 => ?_) (fun h1 => ?_)
      · have h1 := of_decide_eq_true h1
        have hpq : p < q := by omega
        intro c hc
        rw [IntWalk.i64_in _ (by omega)] at hc
        obtain rfl : c = ((q - p - 1 : Nat) : Int) := by omega
        refine ⟨q - p - 1, by omega, rfl, ?_⟩
        refine .p rfl (blank1_p _) ?_
        have hb1 := hb (q - p - 1) (by omega)
        rw [show p + (q - p - 1) = q - 1 by omega] at hb1
        refine cnd_split (fun h2 => ?_) (fun h2 => ?_)
        · intro c hc
          rw [IntWalk.i64_in _ (by omega)] at hc
          obtain rfl : c = ((q - p - 1 : Nat) : Int) := by omega
          refine ⟨q - p - 1, rfl, Nat.zero_le _, by omega, ?_⟩
          refine ⟨g2 - 1, by omega, q - 1, _, by omega, by omega, rfl, ?_, fun i hi => ?_⟩
          · rw [hy, ext_ext2 _ _ _ _ _ (by omega), Nat.add_zero, show p + (q - p - 1) = q - 1 by omega]
          · by_cases e : i = q - 1
            · rw [e, ← hb1]; exact h2
            · exact hqb i (by omega)
        · exact rets (fin fun _ => by rw [← hb1]; exact h2)
      · have h1 := of_decide_eq_false h1
        exact rets (fin fun h => by omega)
  · have h1 := of_decide_eq_false h1
    have hstop : p < s.size → bkAt s p = false := fun h => by omega
    refine vc_loop [0] (fun g2 vals st2 => ∃ (q : Nat) (y : ByteArray), q = p + g2 ∧ q ≤ s.size ∧ vals = [.s y] ∧ y = s.extract p q ∧ ∀ i, q ≤ i → bkAt s i = true) (s.size - p) rfl ⟨s.size, x, by omega, by omega, rfl, hx, fun i hi => bkAt_ge hi⟩ ?_
    rintro g2 vals st2 ⟨q, y, hq, hqs, rfl, hy, hqb⟩
    have eq : y.size = q - p := by rw [hy]; exact ext_len s p q hqs
    have fin : (p < q → bkAt s (q - 1) = false) → y = trimC s spcS := fun hl => by
      rw [hy]
      by_cases hpq : p < q
      · exact (trimC_of hpq ha hqb (hstop (by omega)) (hl hpq)).symm
      · have h1 := (emp_iff _).2 (trimC_blank (s := s) fun i => if hi : i < p then ha i hi else hqb i (by omega))
        rw [h1]
        exact (emp_iff _).2 (by rw [← hy]; omega)
    have hb : ∀ i (hi : i < y.size), blkI (y[i].toNat : Int) = bkAt s (p + i) := fun i hi => by
      subst hy
      rw [← bkAt_lt hi, ext_bk (by omega) hqs]
    refine cnd_split (fun h1 => ?_) (fun h1 => ?_)
    · have h1 := of_decide_eq_true h1
      have hpq : p < q := by omega
      intro c hc
      rw [IntWalk.i64_in _ (by omega)] at hc
      obtain rfl : c = ((q - p - 1 : Nat) : Int) := by omega
      refine ⟨q - p - 1, by omega, rfl, ?_⟩
      refine .p rfl (blank1_p _) ?_
      have hb1 := hb (q - p - 1) (by omega)
      rw [show p + (q - p - 1) = q - 1 by omega] at hb1
      refine cnd_split (fun h2 => ?_) (fun h2 => ?_)
      · intro c hc
        rw [IntWalk.i64_in _ (by omega)] at hc
        obtain rfl : c = ((q - p - 1 : Nat) : Int) := by omega
        refine ⟨q - p - 1, rfl, Nat.zero_le _, by omega, ?_⟩
        refine ⟨g2 - 1, by omega, q - 1, _, by omega, by omega, rfl, ?_, fun i hi => ?_⟩
        · rw [hy, ext_ext2 _ _ _ _ _ (by omega), Nat.add_zero, show p + (q - p - 1) = q - 1 by omega]
        · by_cases e : i = q - 1
          · rw [e, ← hb1]; exact h2
          · exact hqb i (by omega)
      · exact rets (fin fun _ => by rw [← hb1]; exact h2)
    · have h1 := of_decide_eq_false h1
      exact rets (fin fun h => by omega)

def ne8 (x : ByteArray) : Bool := decide (¬ x.size = 0)
theorem endW_filter (s : ByteArray) (b e : Nat) (o : List ByteArray) : endW s b e (o.filter ne8) = (o ++ [trimC (s.extract b e) spcS]).filter ne8 := by
  rw [List.filter_append]
  unfold endW
  by_cases h : (trimC (s.extract b e) spcS).size = 0
  · rw [if_pos h, show [trimC (s.extract b e) spcS].filter ne8 = [] by simp [ne8, h], List.append_nil]
  · rw [if_neg h, show [trimC (s.extract b e) spcS].filter ne8 = [trimC (s.extract b e) spcS] by simp [ne8, h]]
section
attribute [local irreducible] vcApp
end
theorem one_p (n : Int) (l : ByteArray) : APure Tryz.prog 138 [.int .u8 n, .s l] (.b (decide (0 ≤ Lib.indexByte l.data.toList n.toNat.toUInt8))) [] := by
  refine APure.of rfl (ACalls.of_vc T_ok mixed Tryz.func138 rfl Tryz.call138 ?_)
  refine .p rfl (indexByte_p l n) ?_
  exact retb rfl
def tokSB : ByteArray := ⟨#[33, 35, 36, 37, 38, 39, 42, 43, 45, 46, 94, 95, 96, 124, 126]⟩
theorem isToken_p (n : Int) (h0 : 0 ≤ n) (h1 : n ≤ 255) : APure Tryz.prog 117 [.int .u8 n] (.b (tokI n)) [] := by
  refine APure.of rfl (ACalls.of_vc T_ok mixed Tryz.func117 rfl Tryz.call117 ?_)
  unfold tokI
  refine .p rfl (isAlpha_p n h0 h1) ?_
  cases alpI n with
  | true =>
    exact retb rfl
  | false =>
    refine .p rfl (isDigit_p n) ?_
    cases digI n with
    | true => exact retb rfl
    | false =>
      refine .p rfl (one_p n tokSB) ?_
      exact retb rfl
theorem isToken_f : ByteF 117 tokI := fun n h0 h1 => isToken_p n h0 h1
theorem allF_p {f : FuncId} {q : Int → Bool} (hq : ByteF f q) (s : ByteArray) (hs : s.size ≤ maxLen) : APure Tryz.prog 76 [.lit (.func (.func f) #[] #[]), .sl .no 1 [[.s s]]] (.b (allI q s)) [] := by
  unfold maxLen at hs
  refine APure.of rfl (ACalls.of_vc T_ok mixed Tryz.func76 rfl Tryz.call76 ?_)
  refine vc_loop [10] (fun g vals st' => (g = 1 ∧ vals = [.i 0]) ∨ (g = 0 ∧ vals = [.i 1] ∧ allI q s = true)) 1 rfl (.inl ⟨rfl, rfl⟩) ?_
  rintro g vals st' (⟨rfl, rfl⟩ | ⟨rfl, rfl, ha⟩)
  · refine ⟨0, _, rfl, rfl, ?_⟩
    refine vc_loop [16] (fun g2 vals st2 => ∃ k : Nat, k + g2 = s.size ∧ vals = [.i k] ∧ ARel q s k) s.size rfl ⟨0, by omega, rfl, fun j _ h => absurd h (by omega)⟩ ?_
    rintro g2 vals st2 ⟨k, hk, rfl, hr⟩
    refine cnd_split (fun hd => ?_) (fun hd => ?_)
    · have hd := of_decide_eq_true hd
      have k1 : k < s.size := by omega
      refine ⟨k, k1, rfl, ?_⟩
      refine .p rfl (hq _ (by omega) (by have := s[k].toNat_lt; omega)) ?_
      refine cnd_split (fun h2 => ?_) (fun h2 => ?_)
      · rw [Bool.not_eq_true'] at h2
        exact retb (allI_false k1 h2).symm
      · rw [Bool.not_eq_false'] at h2
        intro c hc
        rw [IntWalk.i64_in _ (by omega)] at hc
        obtain rfl : c = ((k + 1 : Nat) : Int) := by omega
        refine ⟨g2 - 1, by omega, k + 1, by omega, rfl, fun j hj hjk => ?_⟩
        by_cases e : j = k
        · subst e; exact h2
        · exact hr j hj (by omega)
    · have hd := of_decide_eq_false hd
      intro c hc
      obtain rfl : c = 1 := by rw [IntWalk.i64_in _ (by omega)] at hc; omega
      exact ⟨0, by omega, .inr ⟨rfl, rfl, allI_true fun j hj => hr j hj (by omega)⟩⟩
  · exact retb ha.symm
theorem token_p (s : ByteArray) (hs : s.size ≤ maxLen) : APure Tryz.prog 87 [.s s] (.b (tokB s)) [] := by
  refine APure.of rfl (ACalls.of_vc T_ok mixed Tryz.func87 rfl Tryz.call87 ?_)
  unfold tokB
  intro t ht
  have h0 := ht.trans (emp_iff s)
  cases t with
  | true =>
    have : 0 < s.size := by
      apply Decidable.byContradiction
      intro hc
      have := h0.2 (by omega)
      cases this
    rw [decide_eq_true this]
    refine .p rfl (allF_p isToken_f s hs) ?_
    exact retb rfl
  | false =>
    have : s.size = 0 := h0.1 rfl
    rw [show decide (0 < s.size) = false by rw [decide_eq_false_iff_not]; omega]
    exact retb rfl
theorem in1_p (n : Int) (l : ByteArray) (hl : l.size ≤ maxLen) : APure Tryz.prog 123 [.int .u8 n, .s l] (.b (inI l n)) [] := by
  unfold maxLen at hl
  refine APure.of rfl (ACalls.of_vc T_ok mixed Tryz.func123 rfl Tryz.call123 ?_)
  refine vc_loop [5] (fun g vals st' => ∃ k : Nat, k + g = l.size ∧ vals = [.i k] ∧ ∀ j (hj : j < l.size), j < k → ((l[j].toNat : Int) == n) = false) l.size rfl ⟨0, by omega, rfl, fun j _ h => absurd h (by omega)⟩ ?_
  rintro g vals st' ⟨k, hk, rfl, hr⟩
  refine cnd_split (fun hd => ?_) (fun hd => ?_)
  · have hd := of_decide_eq_true hd
    have k1 : k < l.size := by omega
    refine ⟨k, k1, rfl, ?_⟩
    refine cnd_split (fun h2 => ?_) (fun h2 => ?_)
    · exact retb (inI_true k1 h2).symm
    · intro c hc
      rw [IntWalk.i64_in _ (by omega)] at hc
      obtain rfl : c = ((k + 1 : Nat) : Int) := by omega
      refine ⟨g - 1, by omega, k + 1, by omega, rfl, fun j hj hjk => ?_⟩
      by_cases e : j = k
      · subst e; exact h2
      · exact hr j hj (by omega)
  · have hd := of_decide_eq_false hd
    exact retb (inI_false fun j hj => hr j hj (by omega)).symm
theorem tok1_p (n : Int) (h0 : 0 ≤ n) (h1 : n ≤ 255) : APure Tryz.prog 91 [.int .u8 n] (.b (tokI n)) [] := by
  have e : tokI n = inI tokC n := by
    obtain ⟨m, rfl⟩ := Int.eq_ofNat_of_zero_le h0
    exact (tokC_eq m (by omega)).symm
  rw [e]
  refine APure.of rfl (ACalls.of_vc T_ok mixed Tryz.func91 rfl Tryz.call91 ?_)
  exact .p rfl (in1_p n tokC (by decide)) rfl
theorem token1_p (s : ByteArray) (hs : s.size ≤ maxLen) : APure Tryz.prog 60 [.s s] (.b (tokB s)) [] := by
  unfold maxLen at hs
  refine APure.of rfl (ACalls.of_vc T_ok mixed Tryz.func60 rfl Tryz.call60 ?_)
  refine vc_loop [3] (fun g vals st' => ∃ k : Nat, k + g = s.size ∧ vals = [.i k] ∧ ARel tokI s k) s.size rfl ⟨0, by omega, rfl, fun j _ h => absurd h (by omega)⟩ ?_
  rintro g vals st' ⟨k, hk, rfl, hr⟩
  unfold tokB
  refine cnd_split (fun hd => ?_) (fun hd => ?_)
  · have hd := of_decide_eq_true hd
    have k1 : k < s.size := by omega
    refine ⟨k, k1, rfl, ?_⟩
    refine .p rfl (tok1_p _ (by omega) (by have := s[k].toNat_lt; omega)) ?_
    refine cnd_split (fun h2 => ?_) (fun h2 => ?_)
    · rw [Bool.not_eq_true'] at h2
      exact retb (by rw [allI_false k1 h2, Bool.and_false])
    · rw [Bool.not_eq_false'] at h2
      intro c hc
      rw [IntWalk.i64_in _ (by omega)] at hc
      obtain rfl : c = ((k + 1 : Nat) : Int) := by omega
      refine ⟨g - 1, by omega, k + 1, by omega, rfl, fun j hj hjk => ?_⟩
      by_cases e : j = k
      · subst e; exact h2
      · exact hr j hj (by omega)
  · have hd := of_decide_eq_false hd
    refine retb ?_
    rw [allI_true (fun j hj => hr j hj (by omega)), Bool.and_true]
    exact decide_eq_decide.2 (by omega)
def upS : ByteArray := ⟨#[65, 66, 67, 68, 69, 70, 71, 72, 73, 74, 75, 76, 77, 78, 79, 80, 81, 82, 83, 84, 85, 86, 87, 88, 89, 90]⟩
def loS : ByteArray := ⟨#[97, 98, 99, 100, 101, 102, 103, 104, 105, 106, 107, 108, 109, 110, 111, 112, 113, 114, 115, 116, 117, 118, 119, 120, 121, 122]⟩
theorem upS_at : ∀ j : Nat, (h : j < 26) → (upS[j]'h).toNat = 65 + j := by decide +kernel
theorem loS_at : ∀ j : Nat, j < 26 → loS.extract j (j + 1) = ⟨#[UInt8.ofNat (97 + j)]⟩ := by decide +kernel
def lwJ (b : UInt8) (j : Nat) : UInt8 := if 65 ≤ b.toNat ∧ b.toNat < 65 + j then lowU b else b
theorem lwJ_low : ∀ m : Nat, m < 256 → lwJ (UInt8.ofNat m) 26 = lowU (UInt8.ofNat m) := by decide +kernel
theorem lowU_up : ∀ j : Nat, j < 26 → lowU (UInt8.ofNat (65 + j)) = UInt8.ofNat (97 + j) := by decide +kernel
theorem lwJ_26 (b : UInt8) : lwJ b 26 = lowU b := by
  have := lwJ_low b.toNat b.toNat_lt
  rwa [UInt8.ofNat_toNat] at this
theorem foldR_p (s : ByteArray) (hs : s.size ≤ 1099511627776) : APure Tryz.prog 95 [.s s] (.s (foldB s)) [] := by
  have hmx : maxLen = 9223372036854775807 := rfl
  refine APure.of rfl (ACalls.of_vc T_ok mixed Tryz.func95 rfl Tryz.call95 ?_)
  refine vc_loop [3, 4] (fun g vals st' => ∃ (k : Nat) (y : ByteArray), k + g = s.size ∧ vals = [.s y, .i k] ∧ y = ⟨(foldL (s.data.toList.take k)).toArray⟩) s.size rfl ⟨0, ⟨#[]⟩, by omega, rfl, rfl⟩ ?_
  rintro g vals st' ⟨k, y, hk, rfl, hy⟩
  refine cnd_split (fun hd => ?_) (fun hd => ?_)
  · have hd := of_decide_eq_true hd
    have k1 : k < s.size := by omega
    have ysz : y.size = k := by
      rw [hy]
      show (Array.size _) = _
      rw [List.size_toArray]
      unfold foldL
      rw [List.length_map, List.length_take, blen]; omega
    intro c hc
    rw [IntWalk.i64_in _ (by omega)] at hc
    obtain rfl : c = ((k + 1 : Nat) : Int) := by omega
    refine ⟨k + 1, rfl, k, rfl, by omega, by omega, ?_⟩
    refine vc_loop [5, 6] (fun g2 vals st2 => ∃ (j : Nat) (x : ByteArray), j + g2 = 26 ∧ vals = [.s x, .i j] ∧ x = ⟨#[lwJ s[k] j]⟩) 26 rfl ⟨0, s.extract k (k + 1), by omega, rfl, by rw [ext1 s k k1]; unfold lwJ; rw [if_neg (by omega)]⟩ ?_
    rintro g2 vals st2 ⟨j, x, hj, rfl, hx⟩
    refine cnd_split (fun hd2 => ?_) (fun hd2 => ?_)
    · have hd2 := of_decide_eq_true hd2
      have j1 : j < 26 := by omega
      have hu := upS_at j j1
      refine .e (by kernel_rfl) ?_
      refine ⟨j, j1, rfl, ?_⟩
      refine ⟨k, k1, rfl, ?_⟩
      have next : (s[k].toNat = 65 + j → UInt8.ofNat (97 + j) = lwJ s[k] (j + 1)) ∧ (s[k].toNat ≠ 65 + j → lwJ s[k] j = lwJ s[k] (j + 1)) := by
        constructor
        · intro h
          unfold lwJ
          rw [if_pos ⟨by omega, by omega⟩, ← lowU_up j j1, ← h, UInt8.ofNat_toNat]
        · intro h
          unfold lwJ
          by_cases h2 : 65 ≤ s[k].toNat ∧ s[k].toNat < 65 + j
          · rw [if_pos h2, if_pos ⟨h2.1, by omega⟩]
          · rw [if_neg h2, if_neg (by omega)]
      refine cnd_split (fun h3 => ?_) (fun h3 => ?_)
      · have h3 : ((upS[j]'j1).toNat : Int) = (s[k].toNat : Int) := beq_iff_eq.1 h3
        intro c hc
        rw [IntWalk.i64_in _ (by omega)] at hc
        obtain rfl : c = ((j + 1 : Nat) : Int) := by omega
        refine ⟨j + 1, rfl, j, rfl, by omega, by show j + 1 ≤ 26; omega, ?_⟩
        intro c hc
        rw [IntWalk.i64_in _ (by omega)] at hc
        obtain rfl : c = ((j + 1 : Nat) : Int) := by omega
        refine ⟨g2 - 1, by omega, j + 1, _, by omega, rfl, ?_⟩
        rw [← next.1 (by omega)]
        exact loS_at j j1
      · have h3 : ¬ ((upS[j]'j1).toNat : Int) = (s[k].toNat : Int) := beq_eq_false_iff_ne.1 h3
        intro c hc
        rw [IntWalk.i64_in _ (by omega)] at hc
        obtain rfl : c = ((j + 1 : Nat) : Int) := by omega
        exact ⟨g2 - 1, by omega, j + 1, x, by omega, rfl, by rw [hx, next.2 (fun e => h3 (by omega))]⟩
    · have hd2 := of_decide_eq_false hd2
      obtain rfl : j = 26 := by omega
      rw [lwJ_26] at hx
      have xsz : x.size = 1 := by rw [hx]; rfl
      refine ⟨by omega, ?_⟩
      intro c hc
      rw [IntWalk.i64_in _ (by omega)] at hc
      obtain rfl : c = ((k + 1 : Nat) : Int) := by omega
      refine ⟨g - 1, by omega, k + 1, _, by omega, rfl, ?_⟩
      rw [hy, hx, List.take_add_one, at_lt k1]
      apply inL
      rw [app_l]
      simp [foldL]
  · have hd := of_decide_eq_false hd
    refine rets ?_
    rw [hy, List.take_of_length_le (by rw [blen]; omega)]
    rfl
/-- the tokens of lists -/
def tokW : List ByteArray → Option (List ByteArray)
  | [] => some []
  | x :: r => match splitW x with
    | none => none
    | some p => if p.all tokB = true then (tokW r).map (p ++ ·) else none
def tokR (l : List ByteArray) : AV := match tokW l with
  | some o => .tup [.sl .no 1 (strL o), .i 0]
  | none => .tup [.nilS, .i 2]
theorem tokW_at {l : List ByteArray} {k : Nat} (h : k < l.length) : tokW (l.drop k) = match splitW l[k] with
    | none => none
    | some p => if p.all tokB = true then (tokW (l.drop (k + 1))).map (p ++ ·) else none := by
  rw [List.drop_eq_getElem_cons h]; rfl
theorem Acc.appL {n : Nat} {st : St} {i : TI} {a : AV} {es ys : List (List AV)} {tg : Tk} {K : AV → St → Prop} (h : Acc n st.tk i.size a es) (hn : n ≤ st.tk.length) (hb : (es.length + ys.length) * i.bytes ≤ 140737488355328) (hm : es.length + ys.length ≤ maxLen)
    (hK : ∀ a' tk', Acc n tk' i.size a' (es ++ ys) → K a' ⟨st.heap, tk'⟩) : vcApp i a (.sl tg i.size ys) st K := by
  unfold vcApp srcA
  simp only [decide_true]
  cases h with
  | nil =>
    refine ⟨fun e => ?_, fun _ => ⟨by simpa using hb, by simpa using hm, .inl ?_⟩⟩
    · subst e; exact hK _ st.tk .nil
    · exact hK _ _ (.own _ _ _ hn (by simp))
  | own t e es h1 h2 =>
    simp only [decide_true]
    have hlt := (List.getElem?_eq_some_iff.1 h2).1
    exact ⟨h2, hb, hm, hK _ _ (.own _ _ _ h1 (by rw [List.getElem?_set_self hlt]))⟩
section
attribute [local irreducible] vcApp
end
section
attribute [local irreducible] vcApp
end
def hasX (t x : ByteArray) : Bool := ((tokW [x]).getD []).any fun y => decide (foldB y = foldB t)
def hasW (t : ByteArray) (l : List ByteArray) : Bool := l.any fun x => hasX t x
theorem tokW_one {x : ByteArray} {p : List ByteArray} (h : tokW [x] = some p) : splitW x = some p := by
  unfold tokW at h
  cases hs : splitW x with
  | none => rw [hs] at h; cases h
  | some q =>
    rw [hs] at h
    simp only at h
    split at h
    · simp [tokW] at h; rw [h]
    · cases h
theorem hasW_true {t : ByteArray} {l : List ByteArray} {k : Nat} (hk : k < l.length) (h : hasX t l[k] = true) : hasW t l = true := List.any_eq_true.2 ⟨l[k], List.getElem_mem hk, h⟩
theorem hasW_false {t : ByteArray} {l : List ByteArray} (h : ∀ i (hi : i < l.length), hasX t l[i] = false) : hasW t l = false := List.any_eq_false.2 fun x hx => by
  obtain ⟨i, hi, rfl⟩ := List.getElem_of_mem hx
  rw [h i hi]; decide
theorem hasX_true {t x : ByteArray} {p : List ByteArray} {j : Nat} (hp : tokW [x] = some p) (hj : j < p.length) (h : decide (foldB p[j] = foldB t) = true) : hasX t x = true := by
  unfold hasX; rw [hp]; exact List.any_eq_true.2 ⟨p[j], List.getElem_mem hj, h⟩
theorem hasX_false {t x : ByteArray} {p : List ByteArray} (hp : tokW [x] = some p) (h : ∀ i (hi : i < p.length), decide (foldB p[i] = foldB t) = false) : hasX t x = false := by
  unfold hasX; rw [hp]
  exact List.any_eq_false.2 fun y hy => by
    obtain ⟨i, hi, rfl⟩ := List.getElem_of_mem hy
    intro e
    have h2 := h i hi
    rw [show decide (foldB p[i] = foldB t) = true from e] at h2
    cases h2
end Go.Proofs.YtgaidgblihnldaaGreatDoor
