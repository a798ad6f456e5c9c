/- numeral.HexText: the library's digits of base sixteen. No statement of its own. -/
import Derived.Lib.LaidTab
import Derived.Lib.ItoaNum
import Derived.Test.YtookaenbpfpegaaDoorN1
import Derived.Laws.Bits64b
import Derived.Shelf.Spec.TrailingZeros
set_option linter.unusedSimpArgs false
set_option linter.unusedVariables false
set_option maxRecDepth 100000
namespace Go.Proofs.YtookaenbpfpegaaDoor
open Go.RowKit
theorem tab_cell {w : World} {name : String} {g : Nat} {zs : List Int} {k : IntKind} (hg : Tryd.prog.globalNamed name = some g) (h : Lib.TabIs Tryd.prog w name k zs) {i : Nat} {z : Int} (hz : zs[i]? = some z) : w.cell? ⟨g, i, none⟩ = some (.int k z) := by
  unfold Lib.TabIs World.var? at h
  rw [hg] at h
  simp only [Option.bind_some] at h
  unfold World.cell?
  split at h
  · rename_i cs t f hc
    cases h
    rw [hc]
    simp [hz]
  · cases h
theorem and15 (a : Nat) (h : a < 18446744073709551616) : bits .and .u64 (a : Int) 15 = ((a % 16 : Nat) : Int) :=
  (bits_and_u64_nat a 15 h (by omega)).trans (congrArg Int.ofNat (Nat.and_two_pow_sub_one_eq_mod a 4))
theorem fdiv16 (a : Nat) : (a : Int).fdiv 16 = ((a / 16 : Nat) : Int) := by
  rw [Int.fdiv_eq_ediv_of_nonneg _ (by omega)]; omega
theorem st_u8 {cs : List AV} {o : Nat} {v : AV} {L : List AV → Prop} (h : o + 1 ≤ cs.length) (hL : L (cs.set o v)) :
    (match decide (o + TI.size ti5 ≤ cs.length) with | true => listK (setAll cs o [v]) L | false => False) := by
  have h1 : decide (o + TI.size ti5 ≤ cs.length) = true := decide_eq_true h
  rw [h1]
  exact listK_iff.2 hL
def digC : ByteArray := ⟨#[48, 49, 50, 51, 52, 53, 54, 55, 56, 57, 97, 98, 99, 100, 101, 102, 103, 104, 105, 106, 107, 108, 109, 110, 111, 112, 113, 114, 115, 116, 117, 118, 119, 120, 121, 122]⟩
theorem digC_at : ∀ d : Nat, d < 16 → ∀ h : d < digC.size, digC[d] = dgt d := by decide +kernel
theorem set_at {cs : List AV} {i j : Nat} {v : AV} (h : i + j * 1 < cs.length) : (cs.set (i + j * TI.size ti5) v)[i + j]? = some v := by
  show (cs.set (i + j * 1) v)[i + j]? = _
  rw [Nat.mul_one] at *
  exact List.getElem?_set_self h
theorem dig_st {cs : List AV} {j d : Nat} (hd : d < 16) (h : j < cs.length) : (cs.set (0 + j * TI.size ti5) (.u8 (digC[d]'(by show d < 36; omega))))[j + 0]? = some (.u8 (dgt d)) := by
  rw [digC_at d hd, show j + 0 = 0 + j by omega]
  exact set_at (by omega)
theorem set_off {cs : List AV} {i j k : Nat} {v : AV} (h : i + j ≠ k) : (cs.set (i + j * TI.size ti5) v)[k]? = cs[k]? := by
  show (cs.set (i + j * 1) v)[k]? = _
  rw [Nat.mul_one]
  exact List.getElem?_set_ne h
def textH (n : Int) : ByteArray := if n < 0 then ⟨#[]⟩ else digB 16 n.toNat
end Go.Proofs.YtookaenbpfpegaaDoor
