/- CommasJoins: what the program's and the document's functions answer. No statement of its own. -/
import Derived.Test.YtfhodppaelfcfaaDoorS8
set_option maxRecDepth 100000
namespace Go.Proofs.YtfhodppaelfcfaaDoor
open Go.RowKit
def appW (s : ByteArray) (l : List ByteArray) : ByteArray := if l = [] then s else if allI bcI s = true then joinC comS l else joinC comS (trimRC s spcS :: l)
theorem trimRC_size (s cs : ByteArray) : (trimRC s cs).size ≤ s.size := by
  have e : (trimRC s cs).size = (Lib.trimRightS s.data.toList cs.data.toList).length := by unfold trimRC; show (Array.size _) = _; rw [List.size_toArray]
  rw [e, ← blen]
  unfold Lib.trimRightS
  rw [List.length_reverse]
  have := (List.dropWhile_sublist (fun x => cs.data.toList.contains x) (l := s.data.toList.reverse)).length_le
  rwa [List.length_reverse] at this
theorem strL_cons (x : ByteArray) (l : List ByteArray) : [AV.s x] :: strL l = strL (x :: l) := rfl
theorem append_p (s : ByteArray) (l : List ByteArray) (hs : s.size ≤ 1099511627776) (hl : l.length ≤ 1099511627776) (hm : (joinC comS l).size ≤ 1099511627776) : APure Tryd.prog 103 [.s s, .sl .no 1 (strL l)] (.s (appW s l)) [] := by
  have hmx : maxLen = 9223372036854775807 := rfl
  have hlen := strL_len l
  unfold appW
  refine APure.of rfl (ACalls.of_vc T_ok mixed Tryd.func103 rfl Tryd.call103 ?_)
  refine cnd_split (fun hd => ?_) (fun hd => ?_)
  · have hd : ((strL l).length : Int) = 0 := by simpa using hd
    exact rets (by rw [if_pos (List.eq_nil_of_length_eq_zero (by omega))])
  · have hd : ¬ ((strL l).length : Int) = 0 := by simpa using hd
    have hne : l ≠ [] := fun e => by subst e; exact hd rfl
    refine .p rfl (trim_p s bcS (by omega) (by decide) rfl) ?_
    intro t ht
    have h0 := (ht.trans (emp_iff _)).trans (trimC_zero s)
    refine cnd_split (fun h1 => ?_) (fun h1 => ?_)
    · refine .p rfl (mjoin_p l (by omega) (by omega)) ?_
      exact rets (by rw [if_neg hne, if_pos (h0.1 h1)])
    · have h2 := trimRC_size s spcS
      have h3 := joinC_cons (sep := comS) (x := trimRC s spcS) hne
      have h4 := congrArg ByteArray.size h3
      rw [app_size, app_size] at h4
      have h5 : comS.size = 2 := rfl
      refine .p rfl (trimR_p s spcS (by omega) (by decide) rfl) ?_
      refine ⟨fun e => by have := congrArg List.length e; rw [hlen] at this; exact absurd (List.eq_nil_of_length_eq_zero this) hne, fun _ => ⟨?_, ?_, ?_⟩⟩
      · show (1 + (strL l).length) * 16 ≤ _; omega
      · show 1 + (strL l).length ≤ _; omega
      refine .p rfl (mjoin_p (trimRC s spcS :: l) (by simp; omega) (by omega)) ?_
      exact rets (by rw [if_neg hne, if_neg (fun e => by rw [h0.2 e] at h1; cases h1)])
theorem same6_p (l m : List ByteArray) (h1 : l.length ≤ 1099511627776) (h2 : m.length ≤ 1099511627776) : APure Tryd.prog 28 [.sl .no 1 (strL l), .sl .no 1 (strL m)] (.b (decide (l = m))) [] := by
  have el := strL_len l
  have em := strL_len m
  refine APure.of rfl (ACalls.of_vc T_ok mixed Tryd.func28 rfl Tryd.call28 ?_)
  refine cnd_split (fun hd => ?_) (fun hd => ?_)
  · have hd : ¬ ((strL l).length : Int) = (strL m).length := by simpa using hd
    exact retb (decide_eq_false (fun e => by subst e; omega)).symm
  · have hd : ((strL l).length : Int) = (strL m).length := by simpa using hd
    refine vc_loop [5] (fun g vals st' => ∃ k : Nat, k + g = l.length ∧ vals = [.i k] ∧ ∀ j, j < k → l[j]? = m[j]?) l.length rfl ⟨0, by omega, rfl, fun j h => absurd h (by omega)⟩ ?_
    rintro g vals st' ⟨k, hk, rfl, ha⟩
    refine cnd_split (fun hd2 => ?_) (fun hd2 => ?_)
    · have hd2 := of_decide_eq_true hd2
      have k1 : k < l.length := by omega
      have k2 : k < m.length := by omega
      refine .e (by kernel_rfl) ?_
      refine ⟨k, _, rfl, strL_at k1, ?_⟩
      refine ⟨k, _, rfl, strL_at k2, ?_⟩
      intro t ht
      refine cnd_split (fun h3 => ?_) (fun h3 => ?_)
      · subst h3
        refine retb (decide_eq_false (fun e => ?_)).symm
        subst e
        exact absurd (ht.2 rfl) (by decide)
      · subst h3
        have e := ht.1 rfl
        intro c hc
        rw [IntWalk.i64_in _ (by omega)] at hc
        subst hc
        refine ⟨g - 1, by omega, k + 1, by omega, rfl, fun j hj => ?_⟩
        by_cases hjk : j = k
        · subst hjk; rw [List.getElem?_eq_getElem k1, List.getElem?_eq_getElem k2, e]
        · exact ha j (by omega)
    · have hd2 := of_decide_eq_false hd2
      refine retb (decide_eq_true (List.ext_getElem? fun j => ?_)).symm
      by_cases hj : j < k
      · exact ha j hj
      · rw [List.getElem?_eq_none (by omega), List.getElem?_eq_none (by omega)]
theorem ext_at (s : ByteArray) (m k : Nat) (h : k < (s.extract 0 m).size) (h2 : k < s.size) : (s.extract 0 m)[k] = s[k] := by
  simp [ByteArray.getElem_extract]
theorem ext_ext0 (s : ByteArray) (m k : Nat) (h : k ≤ m) : (s.extract 0 m).extract 0 k = s.extract 0 k := by
  apply inL
  rw [exL, exL, exL]
  simp only [List.drop_zero]
  rw [List.take_take, Nat.min_eq_left h]
theorem appendR_p (s : ByteArray) (l : List ByteArray) (hs : s.size ≤ 1099511627776) (hl : l.length ≤ 1099511627776) (hm : (joinC comS l).size ≤ 1099511627776) : APure Tryd.prog 145 [.s s, .sl .no 1 (strL l)] (.s (appW s l)) [] := by
  have hmx : maxLen = 9223372036854775807 := rfl
  have hlen := strL_len l
  have hc2 : comS.size = 2 := rfl
  unfold appW
  refine APure.of rfl (ACalls.of_vc T_ok mixed Tryd.func145 rfl Tryd.call145 ?_)
  refine cnd_split (fun hd => ?_) (fun hd => ?_)
  · have hd : ((strL l).length : Int) = 0 := by simpa using hd
    exact rets (by rw [if_pos (List.eq_nil_of_length_eq_zero (by omega))])
  · have hd : ¬ ((strL l).length : Int) = 0 := by simpa using hd
    have hne : l ≠ [] := fun e => by subst e; exact hd rfl
    refine .p rfl (r4join_p comS l (by omega) (by omega)) ?_
    refine vc_loop [0, 6] (fun g vals st' => ∃ k : Nat, k + g = s.size ∧ vals = [.s s, .i k] ∧ ∀ j (hj : j < s.size), j < k → bcI (s[j].toNat : Int) = true) s.size rfl ⟨0, by omega, rfl, fun j _ h => absurd h (by omega)⟩ ?_
    rintro g vals st' ⟨k, hk, rfl, ha⟩
    refine cnd_split (fun hd2 => ?_) (fun hd2 => ?_)
    · have hd2 := of_decide_eq_true hd2
      have k1 : k < s.size := by omega
      refine ⟨k, k1, rfl, ?_⟩
      have next : bcI (s[k].toNat : Int) = true → ∀ j (hj : j < s.size), j < k + 1 → bcI (s[j].toNat : Int) = true := fun h j hj hjk => by
        by_cases e : j = k
        · subst e; exact h
        · exact ha j hj (by omega)
      refine cnd_split (fun h44 => ?_) (fun h44 => ?_)
      · have h44 : ((s[k].toNat : Int) == 44) = false := by rw [bne, Bool.not_eq_true'] at h44; exact h44
        refine ⟨k, k1, rfl, ?_⟩
        refine .p rfl (blank1_p _) ?_
        refine cnd_split (fun hb => ?_) (fun hb => ?_)
        · have hb : blkI (s[k].toNat : Int) = false := by rw [Bool.not_eq_true'] at hb; exact hb
          have hall : ¬ allI bcI s = true := fun h => by
            have := allI_at h k k1
            unfold bcI at this
            rw [hb, h44] at this
            cases this
          refine vc_loop [0] (fun g2 vals st' => ∃ m : Nat, m = k + g2 ∧ m < s.size ∧ vals = [.s (s.extract 0 (m + 1))] ∧ ∀ j (hj : j < s.size), m < j → blkI (s[j].toNat : Int) = true) (s.size - 1 - k) rfl ⟨s.size - 1, by omega, by omega, ?_, fun j hj h => absurd h (by omega)⟩ ?_
          · rw [show s.size - 1 + 1 = s.size by omega, ByteArray.extract_zero_size]; rfl
          rintro g2 vals st2 ⟨m, hm2, hms, rfl, hbl⟩
          have esz := ext_len s 0 (m + 1) (by omega)
          intro c hc
          rw [IntWalk.i64_in _ (by omega)] at hc
          obtain rfl : c = (m : Int) := by omega
          refine ⟨m, by omega, rfl, ?_⟩
          refine .p rfl (blank1_p _) ?_
          rw [ext_at s (m + 1) m (by omega) hms]
          refine cnd_split (fun hbm => ?_) (fun hbm => ?_)
          · have hmk : m ≠ k := fun e => by subst e; rw [hb] at hbm; cases hbm
            intro c hc
            rw [IntWalk.i64_in _ (by omega)] at hc
            obtain rfl : c = (m : Int) := by omega
            refine ⟨m, rfl, Nat.zero_le _, by omega, ?_⟩
            refine ⟨g2 - 1, by omega, m - 1, by omega, by omega, ?_, fun j hj hjm => ?_⟩
            · rw [show m - 1 + 1 = m by omega, ← ext_ext0 s (m + 1) m (by omega)]; rfl
            · by_cases e : j = m
              · subst e; exact hbm
              · exact hbl j hj (by omega)
          · have ht := trimRC_at hms hbl hbm
            have hc3 : (⟨#[44, 32]⟩ : ByteArray).size = 2 := rfl
            refine ⟨by omega, ?_⟩
            refine ⟨by rw [app_size]; omega, ?_⟩
            exact rets (by rw [if_neg hne, if_neg hall, joinC_cons hne, ht]; rfl)
        · have hb : blkI (s[k].toNat : Int) = true := by rw [Bool.not_eq_false'] at hb; exact hb
          intro c hc
          rw [IntWalk.i64_in _ (by omega)] at hc
          subst hc
          exact ⟨g - 1, by omega, k + 1, by omega, rfl, next (by unfold bcI; rw [hb]; rfl)⟩
      · have h44 : ((s[k].toNat : Int) == 44) = true := by rw [bne, Bool.not_eq_false'] at h44; exact h44
        intro c hc
        rw [IntWalk.i64_in _ (by omega)] at hc
        subst hc
        exact ⟨g - 1, by omega, k + 1, by omega, rfl, next (by unfold bcI; rw [h44, Bool.or_true])⟩
    · have hd2 := of_decide_eq_false hd2
      exact rets (by rw [if_neg hne, if_pos (allI_true fun j hj => ha j hj (by omega))])
theorem joinC_bound (sep : ByteArray) : ∀ (l : List ByteArray), (∀ x ∈ l, x.size ≤ 80) → (joinC sep l).size ≤ l.length * (80 + sep.size)
  | [], _ => by rw [joinC_nil]; exact Nat.zero_le _
  | [x], h => by
    rw [joinC_one]
    have := h x (.head _)
    simp; omega
  | x :: y :: r, h => by
    have ih := joinC_bound sep (y :: r) (fun z hz => h z (.tail _ hz))
    have := h x (.head _)
    rw [joinC_cons (by simp), app_size, app_size, List.length_cons, Nat.add_mul]
    omega
theorem minI_at (n m : Nat) : (if (m : Int) < (n : Int) then (m : Int) else (n : Int)) = ((if m < n then m else n : Nat) : Int) := by
  split <;> split <;> omega
end Go.Proofs.YtfhodppaelfcfaaDoor
