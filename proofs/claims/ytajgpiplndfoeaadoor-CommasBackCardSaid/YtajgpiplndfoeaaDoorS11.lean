/- CommasBack: the law. No statement of its own. -/
import Derived.Test.YtajgpiplndfoeaaDoorBk4
set_option maxRecDepth 100000
namespace Go.Proofs.YtajgpiplndfoeaaDoor
open Go.RowKit
theorem appW_size (s : ByteArray) (l : List ByteArray) : (appW s l).size ≤ s.size + 2 + (joinC comS l).size := by
  unfold appW
  by_cases h0 : l = []
  · rw [if_pos h0]; omega
  · rw [if_neg h0]
    by_cases h1 : allI bcI s = true
    · rw [if_pos h1]; omega
    · rw [if_neg h1, joinC_cons h0, app_size, app_size]
      have := trimRC_size s spcS
      have h5 : comS.size = 2 := rfl
      omega
theorem commasBack_p (a0 b0 : ByteArray) : APure Tryd.prog 8 [.s a0, .s b0] (.b true) [] := by
  have ba : (a0.extract 0 (if 80 < a0.size then 80 else a0.size)).size ≤ 80 := by rw [ByteArray.size_extract]; split <;> omega
  have bb : (b0.extract 0 (if 80 < b0.size then 80 else b0.size)).size ≤ 80 := by rw [ByteArray.size_extract]; split <;> omega
  have pa := split_p (a0.extract 0 (if 80 < a0.size then 80 else a0.size)) (by omega)
  have pb := split_p (b0.extract 0 (if 80 < b0.size then 80 else b0.size)) (by omega)
  unfold splR at pa pb
  refine APure.of rfl (ACalls.of_vc T_ok mixed Tryd.func8 rfl Tryd.call8 ?_)
  refine .p rfl awake6_p ?_
  refine .e (by kernel_rfl) ?_
  refine ⟨_, minI_at a0.size 80, Nat.zero_le _, by split <;> omega, ?_⟩
  refine ⟨_, minI_at b0.size 80, Nat.zero_le _, by split <;> omega, ?_⟩
  cases ha : splitW (a0.extract 0 (if 80 < a0.size then 80 else a0.size)) with
  | none =>
    rw [ha] at pa
    refine .p rfl pa ?_
    cases hb : splitW (b0.extract 0 (if 80 < b0.size then 80 else b0.size)) with
    | none =>
      rw [hb] at pb
      refine .p rfl pb ?_
      exact retb rfl
    | some lb =>
      rw [hb] at pb
      refine .p rfl pb ?_
      exact retb rfl
  | some la =>
    rw [ha] at pa
    refine .p rfl pa ?_
    cases hb : splitW (b0.extract 0 (if 80 < b0.size then 80 else b0.size)) with
    | none =>
      rw [hb] at pb
      refine .p rfl pb ?_
      exact retb rfl
    | some lb =>
      rw [hb] at pb
      refine .p rfl pb ?_
      obtain ⟨l1, l2⟩ := split_bound ha ba
      obtain ⟨m1, m2⟩ := split_bound hb bb
      have pj := split_p (joinC comS la) (by omega)
      unfold splR at pj
      rw [join_back la (splitW_good ha)] at pj
      refine .p rfl (mjoin_p la (by omega) (by omega)) ?_
      refine .p rfl pj ?_
      have pk := append_back ha (splitW_good hb)
      have psz : (appW (a0.extract 0 (if 80 < a0.size then 80 else a0.size)) lb).size ≤ 10000 := by
        have := appW_size (a0.extract 0 (if 80 < a0.size then 80 else a0.size)) lb
        omega
      have pp := split_p (appW (a0.extract 0 (if 80 < a0.size then 80 else a0.size)) lb) (by omega)
      unfold splR at pp
      rw [pk] at pp
      refine .p rfl (append_p _ lb (by omega) (by omega) (by omega)) ?_
      refine .p rfl pp ?_
      have s1 := same6_p la la (by omega) (by omega)
      rw [decide_eq_true rfl] at s1
      refine .p rfl s1 ?_
      have s2 : ∀ X, X = strL (la ++ lb) → APure Tryd.prog 26 [.sl .no 1 (strL (la ++ lb)), .sl .no 1 X] (.b true) [] := fun X hX => by
        have := same6_p (la ++ lb) (la ++ lb) (by simp; omega) (by simp; omega)
        rw [decide_eq_true rfl] at this
        rw [hX]; exact this
      have ea : strL la ++ strL lb = strL (la ++ lb) := by simp [strL]
      have na := strL_len la
      have nb := strL_len lb
      have hmx : maxLen = 9223372036854775807 := rfl
      refine ⟨fun h => ?_, fun h => ⟨?_, ?_, ?_⟩⟩
      · refine ⟨fun h2 => ?_, fun h2 => ⟨?_, ?_, ?_⟩⟩
        · exact .p rfl (s2 _ (by rw [← ea, h, h2]; rfl)) rfl
        · show (0 + (strL lb).length) * 16 ≤ _; omega
        · show 0 + (strL lb).length ≤ _; omega
        · exact .p rfl (s2 _ (by rw [← ea, h])) rfl
      · show (0 + (strL la).length) * 16 ≤ _; omega
      · show 0 + (strL la).length ≤ _; omega
      · refine ⟨rfl, ?_, ?_, ?_⟩
        · show (([] ++ strL la : List (List AV)).length + (strL lb).length) * 16 ≤ _; simp only [List.nil_append]; omega
        · show ([] ++ strL la : List (List AV)).length + (strL lb).length ≤ _; simp only [List.nil_append]; omega
        · exact .p rfl (s2 _ ea) rfl
end Go.Proofs.YtajgpiplndfoeaaDoor
