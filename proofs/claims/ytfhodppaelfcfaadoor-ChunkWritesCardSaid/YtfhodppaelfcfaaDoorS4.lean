/- Lists of texts, joined, over abstract values. No statement of its own. -/
import Derived.Test.YtfhodppaelfcfaaDoorS3
set_option maxRecDepth 100000
namespace Go.Proofs.YtfhodppaelfcfaaDoor
open Go.RowKit
def comS : ByteArray := ⟨#[44, 32]⟩
theorem qjoin_p (sep : ByteArray) (l : List ByteArray) (hl : l.length ≤ 140737488355328) (hm : (joinC sep l).size ≤ 140737488355328) : APure Tryd.prog 76 [.s sep, .sl .no 1 (strL l)] (.s (joinC sep l)) [] := by
  refine APure.of rfl (ACalls.of_vc T_ok mixed Tryd.func76 rfl Tryd.call76 ?_)
  exact .p rfl (sjoin_p sep l hl hm) rfl
theorem mjoin_p (l : List ByteArray) (hl : l.length ≤ 140737488355328) (hm : (joinC comS l).size ≤ 140737488355328) : APure Tryd.prog 148 [.sl .no 1 (strL l)] (.s (joinC comS l)) [] := by
  refine APure.of rfl (ACalls.of_vc T_ok mixed Tryd.func148 rfl Tryd.call148 ?_)
  exact .p rfl (qjoin_p comS l hl hm) rfl

theorem joinC_nil (sep : ByteArray) : joinC sep [] = ⟨#[]⟩ := rfl
theorem joinC_snoc (sep : ByteArray) (l : List ByteArray) (x : ByteArray) (h : l ≠ []) : joinC sep (l ++ [x]) = joinC sep l ++ sep ++ x := by
  apply inL
  unfold joinC
  rw [ByteArray.data_append, ByteArray.data_append]
  simp only [Array.toList_append, List.map_append, List.map_cons, List.map_nil]
  cases l with
  | nil => exact absurd rfl h
  | cons y r =>
    rw [List.map_cons, List.cons_append, Lib.join_cons, Lib.join_cons]
    simp [Lib.joinTail]
theorem joinC_take {sep : ByteArray} {l : List ByteArray} {k : Nat} (hk : k < l.length) : joinC sep (l.take (k + 1)) = if k = 0 then l[k] else joinC sep (l.take k) ++ sep ++ l[k] := by
  rw [List.take_add_one, List.getElem?_eq_getElem hk]
  split
  · rename_i e; subst e; simp [joinC_one]
  · rename_i e
    exact joinC_snoc _ _ _ (fun h => by
      have := congrArg List.length h
      rw [List.length_take, List.length_nil] at this
      omega)
theorem app_size (a b : ByteArray) : (a ++ b).size = a.size + b.size := by
  rw [ByteArray.size_append]
theorem joinC_take_le (sep : ByteArray) (l : List ByteArray) : ∀ d k, k + d = l.length → (joinC sep (l.take k)).size ≤ (joinC sep l).size
  | 0, k, h => by rw [List.take_of_length_le (by omega)]; exact Nat.le_refl _
  | d + 1, k, h => by
    have := joinC_take_le sep l d (k + 1) (by omega)
    rw [joinC_take (by omega)] at this
    split at this
    · rename_i e; subst e; rw [List.take_zero, joinC_nil]; exact Nat.zero_le _
    · rw [app_size, app_size] at this; omega
theorem r4join_p (sep : ByteArray) (l : List ByteArray) (hl : l.length ≤ 140737488355328) (hm : (joinC sep l).size ≤ 140737488355328) : APure Tryd.prog 172 [.s sep, .sl .no 1 (strL l)] (.s (joinC sep l)) [] := by
  have hlen := strL_len l
  refine APure.of rfl (ACalls.of_vc T_ok mixed Tryd.func172 rfl Tryd.call172 ?_)
  refine vc_loop [5, 6] (fun g vals st' => ∃ k : Nat, k + g = l.length ∧ vals = [.s (joinC sep (l.take k)), .i k] ∧ st' = ⟨[], []⟩) l.length rfl ⟨0, by omega, rfl, rfl⟩ ?_
  rintro g vals _ ⟨k, hk, rfl, rfl⟩
  refine cnd_split (fun hd => ?_) (fun hd => ?_)
  · have hd := of_decide_eq_true hd
    have hkl : k < l.length := by omega
    have ht := joinC_take (sep := sep) hkl
    have hle := joinC_take_le sep l (g - 1) (k + 1) (by omega)
    have hmx : maxLen = 9223372036854775807 := rfl
    refine cnd_split (fun h0 => ?_) (fun h0 => ?_)
    · have h0 := of_decide_eq_true h0
      rw [if_neg (by omega)] at ht
      have hsz := congrArg ByteArray.size ht
      rw [app_size, app_size] at hsz
      refine ⟨by omega, ?_⟩
      refine ⟨k, _, rfl, strL_at hkl, ?_⟩
      refine ⟨by rw [app_size]; omega, ?_⟩
      intro c hc
      rw [IntWalk.i64_in _ (by omega)] at hc
      subst hc
      exact ⟨g - 1, by omega, k + 1, by omega, by rw [ht]; rfl, rfl⟩
    · have h0 := of_decide_eq_false h0
      rw [if_pos (by omega)] at ht
      have hsz := congrArg ByteArray.size ht
      have : l.take k = [] := by rw [show k = 0 by omega]; rfl
      rw [this, joinC_nil]
      refine ⟨k, _, rfl, strL_at hkl, ?_⟩
      refine ⟨by have : (⟨#[]⟩ : ByteArray).size = 0 := rfl
                 omega, ?_⟩
      intro c hc
      rw [IntWalk.i64_in _ (by omega)] at hc
      subst hc
      refine ⟨g - 1, by omega, k + 1, by omega, ?_, rfl⟩
      rw [ht]
      exact congrArg (fun x => [AV.s x, AV.i ((k + 1 : Nat) : Int)]) (by apply inL; rw [ByteArray.data_append]; simp)
  · have hd := of_decide_eq_false hd
    exact rets (by rw [List.take_of_length_le (by omega)])
theorem blank1_p (n : Int) : APure Tryd.prog 134 [.int .u8 n] (.b (blkI n)) [] := by
  refine APure.of rfl (ACalls.of_vc T_ok mixed Tryd.func134 rfl Tryd.call134 ?_)
  unfold blkI
  refine cnd_split (fun h => ?_) (fun h => ?_)
  · exact retb (by rw [show (n == 32) = true from h]; rfl)
  · exact retb (by rw [show (n == 32) = false from h]; rfl)
end Go.Proofs.YtfhodppaelfcfaaDoor
