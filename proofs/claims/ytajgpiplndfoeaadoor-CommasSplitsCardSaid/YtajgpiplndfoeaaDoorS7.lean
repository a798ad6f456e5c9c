/- Lists behind commas: joined, appended to; the program and the document. No statement of its own. -/
import Derived.Test.YtajgpiplndfoeaaDoorS6
set_option maxRecDepth 100000
namespace Go.Proofs.YtajgpiplndfoeaaDoor
open Go.RowKit
theorem minI_at (n m : Nat) : (if (m : Int) < (n : Int) then (m : Int) else (n : Int)) = ((if m < n then m else n : Nat) : Int) := by
  split <;> split <;> omega
def cut80 (s : ByteArray) : ByteArray := s.extract 0 (if 80 < (s.size : Int) then 80 else s.size)
theorem cut80_size (s : ByteArray) : (cut80 s).size ≤ 80 := by
  unfold cut80
  rw [ByteArray.size_extract]
  split <;> omega
def fewL (l : List ByteArray) : List ByteArray := (l.take 6).map cut80
section
attribute [local irreducible] vcApp
theorem few_p (l : List ByteArray) : APure Tryd.prog 33 [.sl .no 1 (strL l)] (.sl .no 1 (strL (fewL l))) [] := by
  have hlen := strL_len l
  have hmx : maxLen = 9223372036854775807 := rfl
  refine APure.ofW rfl ?_
  refine ACalls.of_vc T_ok mixed Tryd.func33 rfl Tryd.call33 ?_
  refine vc_loop [3, 4] (fun g vals st' => ∃ (k : Nat) (a : AV), k + g = 6 ∧ k ≤ l.length ∧ vals = [a, .i k] ∧ Acc 0 st'.tk 1 a (strL (fewL (l.take k)))) 6 rfl ⟨0, .nilS, by omega, by omega, rfl, .nil⟩ ?_
  rintro g vals st' ⟨k, a, hk, hkl, rfl, hA⟩
  have fin : ¬ (k < l.length ∧ k < 6) → resW a (.sl .no 1 (strL (fewL l))) := fun hn => by
    have : fewL (l.take k) = fewL l := by
      unfold fewL
      rw [List.take_take]
      by_cases h6 : k < 6
      · rw [Nat.min_eq_right (by omega), List.take_of_length_le (by omega), List.take_of_length_le (l := l) (by omega)]
      · rw [Nat.min_eq_left (by omega)]
    rw [this] at hA
    generalize strL (fewL l) = es at hA
    cases hA with
    | nil => exact .inr (.inl ⟨1, rfl, rfl⟩)
    | own t e es w1 w2 => exact .inl rfl
  have next : k < l.length → k < 6 → ∀ t e tk', tk'[t]? = some e → Acc 0 tk' 1 (.sl (.own t e) 1 (strL (fewL (l.take k)) ++ [[.s (cut80 (l.getD k ⟨#[]⟩))]])) (strL (fewL (l.take (k + 1)))) := fun h1 h2 t e tk' h3 => by
    have : strL (fewL (l.take k)) ++ [[.s (cut80 (l.getD k ⟨#[]⟩))]] = strL (fewL (l.take (k + 1))) := by
      rw [strL_app]
      unfold fewL
      rw [List.take_take, List.take_take, Nat.min_eq_right (by omega), Nat.min_eq_right (by omega), List.take_add_one, List.getElem?_eq_getElem h1]
      rw [show l.getD k ⟨#[]⟩ = l[k] by simp [h1]]
      simp only [Option.toList, List.map_append, List.map_cons, List.map_nil]
    rw [this]
    exact .own _ _ _ (Nat.zero_le _) h3
  have el : (strL (fewL (l.take k))).length ≤ 6 := by rw [strL_len]; unfold fewL; simp; omega
  have eg : ∀ h : k < l.length, l.getD k ⟨#[]⟩ = l[k] := fun h => by simp [h]
  generalize strL (fewL (l.take k)) = es at *
  cases hA with
  | nil =>
        refine cnd_split (fun hd => ?_) (fun hd => ?_)
        · have hd := of_decide_eq_true hd
          have hkl2 : k < l.length := by omega
          refine cnd_split (fun h6 => ?_) (fun h6 => ?_)
          · have h6 := of_decide_eq_true h6
            refine .e (by kernel_rfl) ?_
            refine ⟨k, _, rfl, strL_at hkl2, ?_⟩
            refine ⟨k, _, rfl, strL_at hkl2, ?_⟩
            refine ⟨if 80 < l[k].size then 80 else l[k].size, minI_at l[k].size 80, Nat.zero_le _, by split <;> omega, ?_⟩
            have e80 : l[k].extract 0 (if 80 < l[k].size then 80 else l[k].size) = cut80 (l.getD k ⟨#[]⟩) := by
              rw [eg hkl2]; unfold cut80; congr 1; split <;> split <;> omega
            refine Acc.app (n := 0) (i := ti9) (es := []) .nil (Nat.zero_le _) (List.cons_ne_nil _ _) ?_ ?_ (fun t e tk' p0 p1 p2 p3 => ?_)
            · show (([] : List (List AV)).length + 1) * 16 ≤ _; omega
            · show ([] : List (List AV)).length + 1 ≤ _; omega
            intro c hc
            rw [IntWalk.i64_in _ (by omega)] at hc
            subst hc
            exact ⟨g - 1, by omega, k + 1, _, by omega, by omega, rfl, by rw [e80]; exact next hkl2 (by omega) t e tk' p1⟩
          · have h6 := of_decide_eq_false h6
            exact fin (by omega)
        · have hd := of_decide_eq_false hd
          exact fin (by omega)
  | own t0 e0 es q0 q1 =>
        refine cnd_split (fun hd => ?_) (fun hd => ?_)
        · have hd := of_decide_eq_true hd
          have hkl2 : k < l.length := by omega
          refine cnd_split (fun h6 => ?_) (fun h6 => ?_)
          · have h6 := of_decide_eq_true h6
            refine .e (by kernel_rfl) ?_
            refine ⟨k, _, rfl, strL_at hkl2, ?_⟩
            refine ⟨k, _, rfl, strL_at hkl2, ?_⟩
            refine ⟨if 80 < l[k].size then 80 else l[k].size, minI_at l[k].size 80, Nat.zero_le _, by split <;> omega, ?_⟩
            have e80 : l[k].extract 0 (if 80 < l[k].size then 80 else l[k].size) = cut80 (l.getD k ⟨#[]⟩) := by
              rw [eg hkl2]; unfold cut80; congr 1; split <;> split <;> omega
            refine Acc.app (n := 0) (i := ti9) (es := es) (.own _ _ _ q0 q1) (Nat.zero_le _) (List.cons_ne_nil _ _) ?_ ?_ (fun t e tk' p0 p1 p2 p3 => ?_)
            · show ((es : List (List AV)).length + 1) * 16 ≤ _; omega
            · show (es : List (List AV)).length + 1 ≤ _; omega
            intro c hc
            rw [IntWalk.i64_in _ (by omega)] at hc
            subst hc
            exact ⟨g - 1, by omega, k + 1, _, by omega, by omega, rfl, by rw [e80]; exact next hkl2 (by omega) t e tk' p1⟩
          · have h6 := of_decide_eq_false h6
            exact fin (by omega)
        · have hd := of_decide_eq_false hd
          exact fin (by omega)
end
end Go.Proofs.YtajgpiplndfoeaaDoor
