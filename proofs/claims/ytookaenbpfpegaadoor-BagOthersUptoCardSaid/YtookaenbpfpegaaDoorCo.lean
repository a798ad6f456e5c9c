/- slices.Contains at rows of texts. No statement of its own. -/
import Derived.Test.YtookaenbpfpegaaDoorMs
set_option linter.unusedSimpArgs false
set_option linter.unusedVariables false
set_option maxRecDepth 100000
namespace Go.Proofs.YtookaenbpfpegaaDoor
open Go.RowKit
theorem memB_true {l : List ByteArray} {t : ByteArray} (h : t ∈ l) : memB l t = true := List.any_eq_true.2 ⟨t, h, decide_eq_true rfl⟩
theorem memB_false {l : List ByteArray} {t : ByteArray} (h : t ∉ l) : memB l t = false := List.any_eq_false.2 fun x hx e => h (of_decide_eq_true e ▸ hx)
theorem first_mem : ∀ {l : List ByteArray} {t : ByteArray}, t ∈ l → ∃ (k : Nat) (hk : k < l.length), l[k] = t ∧ ∀ i (hi : i < l.length), i < k → l[i] ≠ t
  | x :: r, t, h => by
    by_cases e : x = t
    · exact ⟨0, by simp, e, fun i _ h => absurd h (by omega)⟩
    · obtain ⟨k, hk, h1, h2⟩ := first_mem (l := r) ((List.mem_cons.1 h).resolve_left (fun e' => e e'.symm))
      refine ⟨k + 1, by simp; omega, by simpa using h1, fun i hi hik => ?_⟩
      cases i with
      | zero => exact e
      | succ i => simpa using h2 i (by simpa using hi) (by omega)
end Go.Proofs.YtookaenbpfpegaaDoor
