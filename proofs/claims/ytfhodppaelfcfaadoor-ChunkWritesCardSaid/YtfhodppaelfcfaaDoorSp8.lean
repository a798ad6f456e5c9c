/- CommasSplits: Has, by the program and by the document; the law. No statement of its own. -/
import Derived.Test.YtfhodppaelfcfaaDoorSp7
set_option maxRecDepth 100000
namespace Go.Proofs.YtfhodppaelfcfaaDoor
open Go.RowKit
def hasX (t x : ByteArray) : Bool := ((tokW [x]).getD []).any fun y => decide (foldB y = foldB t)
def hasW (t : ByteArray) (l : List ByteArray) : Bool := l.any fun x => hasX t x
theorem tokW_one {x : ByteArray} {p : List ByteArray} (h : tokW [x] = some p) : splitW x = some p := by
  unfold tokW at h
  cases hs : splitW x with
  | none => rw [hs] at h; cases h
  | some q =>
    rw [hs] at h
    simp only at h
    split at h
    · simp [tokW] at h; rw [h]
    · cases h
theorem hasW_true {t : ByteArray} {l : List ByteArray} {k : Nat} (hk : k < l.length) (h : hasX t l[k] = true) : hasW t l = true := List.any_eq_true.2 ⟨l[k], List.getElem_mem hk, h⟩
theorem hasW_false {t : ByteArray} {l : List ByteArray} (h : ∀ i (hi : i < l.length), hasX t l[i] = false) : hasW t l = false := List.any_eq_false.2 fun x hx => by
  obtain ⟨i, hi, rfl⟩ := List.getElem_of_mem hx
  rw [h i hi]; decide
theorem hasX_true {t x : ByteArray} {p : List ByteArray} {j : Nat} (hp : tokW [x] = some p) (hj : j < p.length) (h : decide (foldB p[j] = foldB t) = true) : hasX t x = true := by
  unfold hasX; rw [hp]; exact List.any_eq_true.2 ⟨p[j], List.getElem_mem hj, h⟩
theorem hasX_false {t x : ByteArray} {p : List ByteArray} (hp : tokW [x] = some p) (h : ∀ i (hi : i < p.length), decide (foldB p[i] = foldB t) = false) : hasX t x = false := by
  unfold hasX; rw [hp]
  exact List.any_eq_false.2 fun y hy => by
    obtain ⟨i, hi, rfl⟩ := List.getElem_of_mem hy
    intro e
    have h2 := h i hi
    rw [show decide (foldB p[i] = foldB t) = true from e] at h2
    cases h2
end Go.Proofs.YtfhodppaelfcfaaDoor
