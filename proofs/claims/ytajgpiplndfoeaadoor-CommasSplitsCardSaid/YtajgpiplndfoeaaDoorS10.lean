/- CommasJoins: the law. No statement of its own. -/
import Derived.Test.YtajgpiplndfoeaaDoorS9
set_option maxRecDepth 100000
namespace Go.Proofs.YtajgpiplndfoeaaDoor
open Go.RowKit
def awS : ByteArray := ⟨#[97, 44, 32, 34, 98, 44, 99, 34, 32, 44, 44, 32, 40, 120, 44, 121, 41, 32, 100]⟩
def awL : List ByteArray := [⟨#[97]⟩, ⟨#[34, 98, 44, 99, 34]⟩, ⟨#[40, 120, 44, 121, 41, 32, 100]⟩]
theorem aw_split : splR awS = .tup [.sl .no 1 (strL awL), .i 0] := by
  unfold splR
  rw [show splitW awS = some awL by decide +kernel]
theorem aw_app : appW ⟨#[97, 44, 32]⟩ [⟨#[98]⟩] = ⟨#[97, 44, 44, 32, 98]⟩ := by decide +kernel
theorem awake6_p : APure Tryd.prog 32 [] (.b true) [] := by
  refine APure.of rfl (ACalls.of_vc T_ok mixed Tryd.func32 rfl Tryd.call32 ?_)
  have h1 := split_p awS (by decide)
  rw [aw_split] at h1
  refine .p rfl h1 ?_
  have h0 := same6_p awL awL (by decide) (by decide)
  rw [decide_eq_true rfl] at h0
  refine .p rfl h0 ?_
  have h2 := append_p ⟨#[97, 44, 32]⟩ [⟨#[98]⟩] (by decide) (by decide) (by decide +kernel)
  rw [aw_app] at h2
  refine .p rfl h2 ?_
  intro t ht
  exact retb (ht.2 rfl)

theorem fewL_len (l : List ByteArray) : (fewL l).length ≤ 6 := by unfold fewL; simp; omega
theorem joinC_bound (sep : ByteArray) : ∀ (l : List ByteArray), (∀ x ∈ l, x.size ≤ 80) → (joinC sep l).size ≤ l.length * (80 + sep.size)
  | [], _ => by rw [joinC_nil]; exact Nat.zero_le _
  | [x], h => by
    rw [joinC_one]
    have := h x (.head _)
    simp; omega
  | x :: y :: r, h => by
    have ih := joinC_bound sep (y :: r) (fun z hz => h z (.tail _ hz))
    have := h x (.head _)
    rw [joinC_cons (by simp), app_size, app_size, List.length_cons, Nat.add_mul]
    omega
theorem fewL_bound (l : List ByteArray) : (joinC comS (fewL l)).size ≤ 492 := by
  have h := joinC_bound comS (fewL l) (fun x hx => by
    unfold fewL at hx
    obtain ⟨y, _, rfl⟩ := List.mem_map.1 hx
    exact cut80_size y)
  have h2 := fewL_len l
  have : (fewL l).length * (80 + comS.size) ≤ 6 * 82 := Nat.mul_le_mul h2 (by decide)
  omega
theorem commasJoins_p (s : ByteArray) (l : List ByteArray) : APure Tryd.prog 7 [.s s, .sl .no 1 (strL l)] (.b true) [] := by
  have b1 := fewL_len l
  have b2 := fewL_bound l
  refine APure.of rfl (ACalls.of_vc T_ok mixed Tryd.func7 rfl Tryd.call7 ?_)
  refine .p rfl awake6_p ?_
  refine .x (by kernel_rfl) ?_
  refine ⟨_, minI_at s.size 80, Nat.zero_le _, by split <;> omega, ?_⟩
  have b3 : (s.extract 0 (if 80 < s.size then 80 else s.size)).size ≤ 80 := by rw [ByteArray.size_extract]; split <;> omega
  refine .p rfl (few_p l) ?_
  refine .p rfl (mjoin_p (fewL l) (by omega) (by omega)) ?_
  refine .p rfl (r4join_p comS (fewL l) (by omega) (by omega)) ?_
  intro t ht
  obtain rfl := ht.2 rfl
  refine .p rfl (append_p _ (fewL l) (by omega) (by omega) (by omega)) ?_
  refine .p rfl (appendR_p _ (fewL l) (by omega) (by omega) (by omega)) ?_
  intro t ht
  exact retb (ht.2 rfl)
end Go.Proofs.YtajgpiplndfoeaaDoor
