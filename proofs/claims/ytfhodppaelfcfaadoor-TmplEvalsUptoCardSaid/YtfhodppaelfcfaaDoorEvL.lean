/- Templates: the law TmplEvals, where what is known is short. No statement of its own. -/
import Derived.Test.YtfhodppaelfcfaaDoorEvR
set_option linter.unusedSimpArgs false
set_option linter.unusedVariables false
set_option maxRecDepth 100000
namespace Go.Proofs.YtfhodppaelfcfaaDoor
open Go.RowKit
theorem clnB_ok (s : ByteArray) : checkF (⟨#[65]⟩, clnB s) = 0 := by
  refine ok_check (f := (⟨#[65]⟩, clnB s)) (show tokB ⟨#[65]⟩ = true by decide +kernel) ?_ (trim_trim _)
  unfold allI
  refine List.all_eq_true.2 fun b hb => ?_
  have h1 : b ∈ (clnB s).data.toList := hb
  have h2 := trim_mem (s := ⟨(clG s s.size).toArray⟩) b h1
  have h3 : b ∈ (clG s s.size).toArray.toList := h2
  rw [List.toList_toArray] at h3
  have h4 := List.mem_of_mem_take h3
  exact (List.mem_filter.1 h4).2
theorem clnB_size (s : ByteArray) : (clnB s).size ≤ 65536 := by
  refine Nat.le_trans (trimB_size _) ?_
  show (clG s s.size).toArray.size ≤ _
  rw [List.size_toArray]
  exact clG_len s s.size
set_option maxHeartbeats 1000000 in
theorem tmplEvals_p (kn fs : List Fld) (l : List Prt) (hk : ∀ f ∈ kn, f.2.size ≤ 1048576) : APure Tryd.prog 8 [.sl .no 2 (fldL kn), .sl .no 2 (fldL fs), .sl .no 2 (prtL l)] (.b true) [] := by
  have hmx : maxLen = 9223372036854775807 := rfl
  have ekn := fldL_len kn
  have h0 := few31_p l
  have h1 := few_h 0 0 0 ⟨#[]⟩ ⟨#[]⟩ ⟨#[]⟩ fs
  have hb1 := fewT_len l
  have hb2 := fewT_sum l
  have hF := FldOk.few fs
  have hl1 : ∀ p ∈ fewT l, p.2.size ≤ 2400 := fun p hp => Nat.le_trans (sumT_mem hp) hb2
  generalize fewT l = m at *
  generalize fewF fs = gs at *
  have hg3 : ∀ f ∈ gs, f.2.size ≤ 1048576 := fun f hf => by have := hF.size f hf; omega
  have hgl : gs.length ≤ 1000 := hF.len
  obtain ⟨K, hK⟩ : ∃ K, K = kn.take (if 10 < (fldL kn).length then 10 else (fldL kn).length) := ⟨_, rfl⟩
  have eK : fldL K = ((fldL kn).drop 0).take ((if 10 < (fldL kn).length then 10 else (fldL kn).length) - 0) := by
    rw [hK, List.drop_zero, Nat.sub_zero]
    simp only [fldL, List.map_take]
  have hKl : K.length ≤ 10 := by rw [hK, List.length_take]; split <;> omega
  have hK2 : ∀ f ∈ K, f.2.size ≤ 1048576 := fun f hf => hk f (List.mem_of_mem_take (hK ▸ hf))
  have hev := evT_size (kn := K) (fs := gs) (B := 1048576) m (fun p hp => by have := hl1 p hp; omega) hK2 hg3 m.length (Nat.le_refl _)
  rw [List.take_of_length_le (Nat.le_refl _)] at hev
  have hev2 : m.length * 1048576 ≤ 40 * 1048576 := Nat.mul_le_mul_right _ hb1
  have e1 := eval_p K gs m (by omega) (by omega) hF.big (by omega) (fun p hp => by have := hl1 p hp; omega) (by omega)
  have e2 := eval31_p K gs m 1048576 (by omega) (by omega) (by omega) hF.big (by omega) (fun p hp => by have := hl1 p hp; omega) (fun p hp => by have := hl1 p hp; omega) hK2 hg3
  rw [eK] at e1 e2
  have hc := clnB_ok (evT K gs m)
  have hz := clnB_size (evT K gs m)
  generalize clnB (evT K gs m) = t at *
  have e3 := check_p ⟨#[65]⟩ t (by decide) (by omega)
  rw [hc] at e3
  refine APure.of rfl (ACalls.of_vc T_ok mixed Tryd.func8 rfl Tryd.call8 ?_)
  refine .p rfl awake31_p ?_
  refine .x (by kernel_rfl) ?_
  refine .p rfl h0 ?_
  refine ⟨_, minI_at (fldL kn).length 10, Nat.zero_le _, by split <;> omega, ?_⟩
  refine .p rfl h1 ?_
  refine .p rfl e1 ?_
  refine .p rfl e2 ?_
  intro q hq
  obtain rfl : q = true := hq.2 rfl
  refine .p rfl e3 ?_
  rfl
end Go.Proofs.YtfhodppaelfcfaaDoor
