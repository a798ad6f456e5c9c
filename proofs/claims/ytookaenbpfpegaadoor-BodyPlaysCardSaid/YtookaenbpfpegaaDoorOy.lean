/- Bytes, frames, jobs, fields, as arguments. No statement of its own. -/
import Derived.Test.YtookaenbpfpegaaDoorOp
import Derived.Test.YtookaenbpfpegaaDoorEd
set_option linter.unusedSimpArgs false
set_option linter.unusedVariables false
set_option maxRecDepth 100000
namespace Go.Proofs.YtookaenbpfpegaaDoor
open Go.RowKit Go.Deep
section
variable {W : World} {H : Type} {enc : TypeId × Value → H} {b2 base : Nat} {spare : Nat → Bool} {held : Bool} {v : Value} {d : DataW H} {p : List MemPlace}
theorem opens_byte (W : World) : Opens Tryd.prog W 5 1 (fun z : Int => [AV.int .u8 z]) (fun z => 0 ≤ z ∧ z < 256) :=
  (Opens.int Tryd.underlying5).map (fun z => z) (fun _ => rfl) (fun z h => by
    simp only [Lit.wf, Bool.and_eq_true, decide_eq_true_eq] at h
    have h1 : 0 ≤ z := h.1
    have h2 : z ≤ 255 := h.2
    exact ⟨h1, by omega⟩)
theorem opens_bytes (W : World) : Opens Tryd.prog W 25 1 (fun l : List Int => [AV.sl .no 1 (byL l)]) (fun l => ∀ z ∈ l, 0 ≤ z ∧ z < 256) :=
  Opens.slice Tryd.underlying25 (by kernel_rfl) (by omega) (opens_byte W)
theorem open_bytes (hval : Value.okWide Tryd.prog W .any base 25 v) (hx : DataW.Trod enc Tryd.prog W b2 spare held 25 v d p) : ∃ l : List Int, AtR W (.sl .no 1 (byL l)) v ∧ ∀ z ∈ l, 0 ≤ z ∧ z < 256 :=
  Opens.row Tryd.underlying25 (opens_bytes W) hval hx
theorem opens_frame (W : World) : Opens Tryd.prog W 24 2 (fun f : Int × Int => [AV.i f.1, AV.i f.2]) (fun f => (-9223372036854775808 ≤ f.1 ∧ f.1 ≤ 9223372036854775807) ∧ (-9223372036854775808 ≤ f.2 ∧ f.2 ≤ 9223372036854775807)) :=
  (Opens.struct Tryd.underlying24 (by kernel_rfl) (OpensF.cons (Opens.int Tryd.underlying22) rfl (by kernel_rfl) (OpensF.cons (Opens.int Tryd.underlying3) rfl (by kernel_rfl) OpensF.nil))).map (fun p => (p.1, p.2.1)) (fun _ => rfl) (fun p h => by
    obtain ⟨h1, h2, _⟩ := h
    simp only [Lit.wf, Bool.and_eq_true, decide_eq_true_eq] at h1 h2
    exact ⟨h1, h2⟩)
theorem open_frame (hval : Value.okWide Tryd.prog W .any base 24 v) (hx : DataW.Trod enc Tryd.prog W b2 spare held 24 v d p) : ∃ f : Int × Int, AtR W (.agg [.i f.1, .i f.2]) v ∧ (-9223372036854775808 ≤ f.1 ∧ f.1 ≤ 9223372036854775807) ∧ (-9223372036854775808 ≤ f.2 ∧ f.2 ≤ 9223372036854775807) := by
  obtain ⟨us, rfl, _⟩ := Go.WideShapes.okWide_struct Tryd.underlying24 hval
  exact Opens.agg (opens_frame W) hx
theorem opens_fld' (W : World) : Opens Tryd.prog W 55 2 (fun f : Fld => [AV.s f.1, AV.s f.2]) (fun f => f.1.size ≤ maxLen ∧ f.2.size ≤ maxLen) :=
  (Opens.struct Tryd.underlying55 (by kernel_rfl) (OpensF.cons (Opens.str Tryd.underlying9) rfl (by kernel_rfl) (OpensF.cons (Opens.str Tryd.underlying9) rfl (by kernel_rfl) OpensF.nil))).map (fun p => (p.1, p.2.1)) (fun _ => rfl) (fun _ h => ⟨h.1, h.2.1⟩)
theorem opens_flds' (W : World) : Opens Tryd.prog W 32 1 (fun l : List Fld => [AV.sl .no 2 (fldL l)]) (fun l => ∀ f ∈ l, f.1.size ≤ maxLen ∧ f.2.size ≤ maxLen) :=
  Opens.slice Tryd.underlying32 (by kernel_rfl) (by omega) (opens_fld' W)
theorem open_fields' (hval : Value.okWide Tryd.prog W .any base 32 v) (hx : DataW.Trod enc Tryd.prog W b2 spare held 32 v d p) : ∃ l : List Fld, AtR W (.sl .no 2 (fldL l)) v ∧ ∀ f ∈ l, f.1.size ≤ maxLen ∧ f.2.size ≤ maxLen :=
  Opens.row Tryd.underlying32 (opens_flds' W) hval hx
end
end Go.Proofs.YtookaenbpfpegaaDoor
