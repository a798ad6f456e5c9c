/- Bodies written in chunks: the encoder, by the program and by the document. No statement of its own. -/
import Derived.Test.YtookaenbpfpegaaDoorEn
set_option linter.unusedSimpArgs false
set_option linter.unusedVariables false
set_option maxRecDepth 100000
namespace Go.Proofs.YtookaenbpfpegaaDoor
open Go.RowKit
theorem outP_len (l : List (List UInt8)) : (outP l).length = l.length := by simp [outP]
theorem pieceW_size {s : ByteArray} (h : s.size ≤ 1099511627776) : (pieceW s).size ≤ s.size + 68 := by
  unfold pieceW
  split
  · exact Nat.zero_le _
  · rw [app_size, app_size, app_size, crlf_size]
    have : (textH (s.size : Int)).size ≤ 64 := textH_size (by omega)
    omega
theorem lastW_size {l : List Fld} (hl : l.length ≤ 1000) (hz : ∀ f ∈ l, f.1.size ≤ 1100000 ∧ f.2.size ≤ 1100000) : (lastW l).1.size ≤ 2300000000 := by
  have h := lastB_size hz l.length (Nat.le_refl _)
  rw [List.take_of_length_le (Nat.le_refl _)] at h
  unfold lastW
  split
  · exact Nat.zero_le _
  · split
    · exact Nat.zero_le _
    · show (lastB l ++ crlf).size ≤ _
      rw [app_size, crlf_size]
      omega
section
attribute [local irreducible] vcApp
variable {st : St} {p size : Nat} {buf : ByteArray} {R : AV → St → Prop}
end
end Go.Proofs.YtookaenbpfpegaaDoor
