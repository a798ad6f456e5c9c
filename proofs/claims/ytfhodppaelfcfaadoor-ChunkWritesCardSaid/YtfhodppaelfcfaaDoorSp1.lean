/- CommasSplits: the document's reading of quoted texts and comments, its trim. No statement of its own. -/
import Derived.Test.YtfhodppaelfcfaaDoorBk4
set_option maxRecDepth 100000
namespace Go.Proofs.YtfhodppaelfcfaaDoor
open Go.RowKit
theorem value1_p (n : Int) (h0 : 0 ≤ n) (h1 : n ≤ 255) : APure Tryd.prog 88 [.int .u8 n] (.b (valI n)) [] := by
  have e : valI n = r1valI n := by
    obtain ⟨m, rfl⟩ := Int.eq_ofNat_of_zero_le h0
    exact (valI_eq m (by omega)).symm
  rw [e]
  refine APure.of rfl (ACalls.of_vc T_ok mixed Tryd.func88 rfl Tryd.call88 ?_)
  unfold r1valI
  refine cnd_split (fun h => ?_) (fun h => ?_)
  · have h := of_decide_eq_true h
    rw [show decide (32 ≤ n) = true from decide_eq_true h]
    refine cnd_split (fun h2 => ?_) (fun h2 => ?_)
    · exact retb (by rw [show (n == 127) = false by simpa using h2]; rfl)
    · exact retb (by rw [show (n == 127) = true by simpa using h2]; rfl)
  · have h := of_decide_eq_false h
    rw [show decide (32 ≤ n) = false from decide_eq_false h]
    exact retb rfl
theorem front5_p (s : ByteArray) (hs : s.size ≤ 1099511627776) : APure Tryd.prog 123 [.s s] (.tup [.s (frontR s).1, .i (frontR s).2]) [] := by
  have hmx : maxLen = 9223372036854775807 := rfl
  have hF : frontS s 0 = if atB s 0 34 = true then frontW s 1 [] else none := rfl
  have bad : frontS s 0 = none → frontR s = (⟨#[]⟩, 0) := fun h => by unfold frontR; rw [h]
  have good : ∀ v j, frontS s 0 = some (v, j) → frontR s = (⟨v.toArray⟩, (j : Int)) := fun v j h => by unfold frontR; rw [h]
  generalize frontS s 0 = F at *
  generalize frontR s = G at *
  refine APure.of (by cases G; rfl) ?_
  refine ACalls.of_vc T_ok mixed Tryd.func123 rfl Tryd.call123 ?_
  refine cnd_split (fun h0 => ?_) (fun h0 => ?_)
  · have h0 : s.size = 0 := by
      have : ((s.size : Int) == 0) = true := h0
      have := beq_iff_eq.1 this
      omega
    rw [atB_ge (by omega), if_neg (by decide)] at hF
    rw [bad hF]; rfl
  · have h0 : 0 < s.size := by
      have : ((s.size : Int) == 0) = false := h0
      have := beq_eq_false_iff_ne.1 this
      omega
    refine ⟨0, h0, rfl, ?_⟩
    have e34 := atB_lt h0 34
    refine cnd_split (fun h1 => ?_) (fun h1 => ?_)
    · have h1 : ((s[0].toNat : Int) == 34) = false := by rw [bne, Bool.not_eq_true'] at h1; exact h1
      rw [e34, h1, if_neg (by decide)] at hF
      rw [bad hF]; rfl
    · have h1 : ((s[0].toNat : Int) == 34) = true := by rw [bne, Bool.not_eq_false'] at h1; exact h1
      rw [e34, h1, if_pos rfl] at hF
      refine vc_loop [4, 5] (fun g vals st' => ∃ (k : Nat) (acc : List UInt8), k + g = s.size ∧ vals = [.s ⟨acc.toArray⟩, .i k] ∧ acc.length ≤ k ∧ frontW s k acc = F) (s.size - 1) rfl ⟨1, [], by omega, rfl, by simp, hF.symm⟩ ?_
      rintro g vals st' ⟨k, acc, hk, rfl, hac, hW⟩
      refine cnd_split (fun hd => ?_) (fun hd => ?_)
      · have hd := of_decide_eq_true hd
        have k1 : k < s.size := by omega
        refine ⟨k, k1, rfl, ?_⟩
        have q34 := atB_lt k1 34
        refine cnd_split (fun h2 => ?_) (fun h2 => ?_)
        · rw [frontW_end acc (q34.trans h2)] at hW
          intro c hc
          rw [IntWalk.i64_in _ (by omega)] at hc
          subst hc
          rw [good _ _ hW.symm]; rfl
        · have h34 : atB s k 34 = false := q34.trans h2
          refine ⟨k, k1, rfl, ?_⟩
          have q92 := atB_lt k1 92
          have go : ∀ i : Nat, (if atB s k 92 = true then k + 1 else k) = i → nxt s k = match s.data.toList[i]? with | some b => if valI (b.toNat : Int) = true then some (b, i + 1) else none | none => none := fun i hi => by unfold nxt; rw [hi]; rfl
          refine cnd_split (fun h3 => ?_) (fun h3 => ?_)
          · have hi := go (k + 1) (by rw [q92]; rw [show ((s[k].toNat : Int) == 92) = true from h3]; rfl)
            intro c hc
            rw [IntWalk.i64_in _ (by omega)] at hc
            obtain rfl : c = ((k + 1 : Nat) : Int) := by omega
            refine cnd_split (fun h4 => ?_) (fun h4 => ?_)
            · have h4 : (k + 1 : Nat) = s.size := by
                have := beq_iff_eq.1 h4
                omega
              rw [List.getElem?_eq_none (by rw [blen]; omega)] at hi
              rw [frontW_none acc h34 hi] at hW
              rw [bad hW.symm]; rfl
            · have h4 : ¬ (k + 1 : Nat) = s.size := by
                have := beq_eq_false_iff_ne.1 h4
                omega
              have hlt : k + 1 < s.size := by omega
              rw [at_lt hlt] at hi
              simp only at hi
              refine ⟨k + 1, hlt, rfl, ?_⟩
              refine .p rfl (value1_p _ (by omega) (by have := (s[k + 1]'hlt).toNat_lt; omega)) ?_
              refine cnd_split (fun h5 => ?_) (fun h5 => ?_)
              · rw [Bool.not_eq_true'] at h5
                rw [h5, if_neg (by decide)] at hi
                rw [frontW_none acc h34 hi] at hW
                rw [bad hW.symm]; rfl
              · rw [Bool.not_eq_false'] at h5
                rw [h5, if_pos rfl] at hi
                rw [frontW_some acc h34 hi] at hW
                have ez : (⟨acc.toArray⟩ : ByteArray).size = acc.length := by show (Array.size _) = _; rw [List.size_toArray]
                have ex := ext_len s (k + 1) (k + 1 + 1) (by omega)
                intro c hc
                rw [IntWalk.i64_in _ (by omega)] at hc
                obtain rfl : c = ((k + 1 + 1 : Nat) : Int) := by omega
                refine ⟨k + 1 + 1, rfl, k + 1, rfl, by omega, by omega, ?_⟩
                refine ⟨by omega, ?_⟩
                intro c hc
                rw [IntWalk.i64_in _ (by omega)] at hc
                obtain rfl : c = ((k + 1 + 1 : Nat) : Int) := by omega
                refine ⟨s.size - (k + 1 + 1), by omega, k + 1 + 1, acc ++ [s[k + 1]], by omega, ?_, by simp; omega, hW⟩
                have : (⟨acc.toArray⟩ : ByteArray) ++ s.extract (k + 1) (k + 1 + 1) = ⟨(acc ++ [s[k + 1]]).toArray⟩ := by
                  rw [ext1 s _ hlt]
                  apply inL
                  rw [app_l]
                rw [← this]; rfl
          · have hi := go k (by rw [q92]; rw [show ((s[k].toNat : Int) == 92) = false from h3]; rfl)
            refine cnd_split (fun h4 => ?_) (fun h4 => ?_)
            · have h4 : (k : Nat) = s.size := by
                have := beq_iff_eq.1 h4
                omega
              rw [List.getElem?_eq_none (by rw [blen]; omega)] at hi
              rw [frontW_none acc h34 hi] at hW
              rw [bad hW.symm]; rfl
            · have h4 : ¬ (k : Nat) = s.size := by
                have := beq_eq_false_iff_ne.1 h4
                omega
              have hlt : k < s.size := by omega
              rw [at_lt hlt] at hi
              simp only at hi
              refine ⟨k, hlt, rfl, ?_⟩
              refine .p rfl (value1_p _ (by omega) (by have := (s[k]'hlt).toNat_lt; omega)) ?_
              refine cnd_split (fun h5 => ?_) (fun h5 => ?_)
              · rw [Bool.not_eq_true'] at h5
                rw [h5, if_neg (by decide)] at hi
                rw [frontW_none acc h34 hi] at hW
                rw [bad hW.symm]; rfl
              · rw [Bool.not_eq_false'] at h5
                rw [h5, if_pos rfl] at hi
                rw [frontW_some acc h34 hi] at hW
                have ez : (⟨acc.toArray⟩ : ByteArray).size = acc.length := by show (Array.size _) = _; rw [List.size_toArray]
                have ex := ext_len s (k) (k + 1) (by omega)
                intro c hc
                rw [IntWalk.i64_in _ (by omega)] at hc
                obtain rfl : c = ((k + 1 : Nat) : Int) := by omega
                refine ⟨k + 1, rfl, k, rfl, by omega, by omega, ?_⟩
                refine ⟨by omega, ?_⟩
                intro c hc
                rw [IntWalk.i64_in _ (by omega)] at hc
                obtain rfl : c = ((k + 1 : Nat) : Int) := by omega
                refine ⟨s.size - (k + 1), by omega, k + 1, acc ++ [s[k]], by omega, ?_, by simp; omega, hW⟩
                have : (⟨acc.toArray⟩ : ByteArray) ++ s.extract (k) (k + 1) = ⟨(acc ++ [s[k]]).toArray⟩ := by
                  rw [ext1 s _ hlt]
                  apply inL
                  rw [app_l]
                rw [← this]; rfl
      · have hd := of_decide_eq_false hd
        have hN : nxt s k = none := by
          unfold nxt
          rw [atB_ge (by omega), if_neg (by decide), List.getElem?_eq_none (by rw [blen]; omega)]
        rw [frontW_none acc (atB_ge (by omega) _) hN] at hW
        rw [bad hW.symm]; rfl
theorem cut_at (s : ByteArray) (m : Nat) (hm : m ≤ s.size) : Smw (s.extract m s.size) s 0 m 0 (s.size - m) := ⟨Nat.le_refl _, fun i _ h2 => by
  rw [ext_get s m s.size i (by omega) (Nat.le_refl _)]; congr 1; omega⟩
theorem cut_cmt {s : ByteArray} {m : Nat} (hm : m < s.size) : (cmtW (s.extract m s.size) 1 1).map (· + m) = cmtW s (m + 1) 1 := by
  have hsz := ext_sz s m s.size (Nat.le_refl _)
  cases h : cmtW (s.extract m s.size) 1 1 with
  | some j =>
    have hl := cmtW_le _ _ _ _ _ (Nat.le_refl _) (by omega) h
    have := cmtW_move (s := s.extract m s.size) (t := s) (c := 0) (d := m) _ 1 1 (Nat.le_refl _) (by omega) h (((cut_at s m (by omega)).from (by omega)).upto (by omega))
    rw [show 1 + m - 0 = m + 1 by omega] at this
    rw [this]; rfl
  | none =>
    cases h2 : cmtW s (m + 1) 1 with
    | none => rfl
    | some j =>
      have hl := cmtW_le _ _ _ _ _ (Nat.le_refl _) (by omega) h2
      have := cmtW_move (s := s) (t := s.extract m s.size) (c := m) (d := 0) _ (m + 1) 1 (Nat.le_refl _) (by omega) h2 ⟨by omega, fun i h1 h2 => by
        rw [ext_get s m s.size _ (by omega) (Nat.le_refl _)]; congr 1; omega⟩
      rw [show m + 1 + 0 - m = 1 by omega, h] at this
      cases this
def innW (s : ByteArray) : Option Nat := if atB s 0 34 = true then (frontS s 0).map (·.2) else cmtW s 1 1
def innI (s : ByteArray) : Int := match innW s with | some j => (j : Int) | none => 0
theorem innW_step {s : ByteArray} {m : Nat} (hm : m < s.size) (h : atB s m 34 = true ∨ atB s m 40 = true) : (innW (s.extract m s.size)).map (· + m) = stepW s m := by
  have h0 := cut_atB s m 0 34
  rw [Nat.add_zero] at h0
  have x34 : ∀ b : Int, atB s m b = true → ∀ d : Int, d ≠ b → atB s m d = false := fun b hb d hd => by
    rw [atB_lt hm] at hb ⊢
    have := beq_iff_eq.1 hb
    rw [beq_eq_false_iff_ne]; omega
  unfold innW stepW
  rw [h0]
  rcases h with h | h
  · rw [if_pos h, x34 34 h 44 (by decide), x34 34 h 40 (by decide), h]
    simp only [Bool.false_eq_true, if_false, if_true]
    have hf := cut_front s m (by omega) _ 1 [] rfl
    unfold frontS
    rw [h0, h, if_pos rfl, if_pos rfl, hf]
    cases hq : frontW s (m + 1) [] with
    | none => rfl
    | some x =>
      obtain ⟨v, j⟩ := x
      have := frontW_le _ _ _ _ _ rfl hq
      simp only [Option.map_some, Option.some.injEq]
      omega
  · rw [x34 40 h 34 (by decide), x34 40 h 44 (by decide), h]
    simp only [Bool.false_eq_true, if_false, if_true]
    exact cut_cmt hm
end Go.Proofs.YtfhodppaelfcfaaDoor
