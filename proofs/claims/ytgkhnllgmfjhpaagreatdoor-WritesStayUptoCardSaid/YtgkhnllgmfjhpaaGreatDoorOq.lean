/- Rows of parts, of fields, of names with values, as arguments. No statement of its own. -/
import Derived.Test.YtgkhnllgmfjhpaaGreatDoorOp
import Derived.Test.YtgkhnllgmfjhpaaGreatDoorTmA
set_option linter.unusedSimpArgs false
set_option linter.unusedVariables false
set_option maxRecDepth 100000
namespace Go.Proofs.YtgkhnllgmfjhpaaGreatDoor
open Go.RowKit Go.Deep
section
variable {W : World} {H : Type} {enc : TypeId × Value → H} {b2 base : Nat} {spare : Nat → Bool} {held : Bool} {v : Value} {d : DataW H} {p : List MemPlace}
theorem opens_part (W : World) : Opens Tryz.prog W 82 2 prtC (fun p => p.2.size ≤ maxLen) :=
  (Opens.struct Tryz.underlying82 (by kernel_rfl) (OpensF.cons (Opens.int Tryz.underlying80) rfl (by kernel_rfl) (OpensF.cons (Opens.str Tryz.underlying9) rfl (by kernel_rfl) OpensF.nil))).map (fun p => (p.1, p.2.1)) (fun _ => rfl) (fun _ h => h.2.1)
theorem opens_parts (W : World) : Opens Tryz.prog W 31 1 (fun l : List Prt => [AV.sl .no 2 (prtL l)]) (fun l => ∀ p ∈ l, p.2.size ≤ maxLen) :=
  Opens.slice Tryz.underlying31 (by kernel_rfl) (by omega) (opens_part W)
theorem open_parts (hval : Value.okWide Tryz.prog W .any base 31 v) (hx : DataW.Trod enc Tryz.prog W b2 spare held 31 v d p) : ∃ l : List Prt, AtR W (.sl .no 2 (prtL l)) v ∧ ∀ p ∈ l, p.2.size ≤ maxLen :=
  Opens.row Tryz.underlying31 (opens_parts W) hval hx
theorem opens_fld (W : World) : Opens Tryz.prog W 48 2 (fun f : Fld => [AV.s f.1, AV.s f.2]) (fun f => f.1.size ≤ maxLen ∧ f.2.size ≤ maxLen) :=
  (Opens.struct Tryz.underlying48 (by kernel_rfl) (OpensF.cons (Opens.str Tryz.underlying9) rfl (by kernel_rfl) (OpensF.cons (Opens.str Tryz.underlying9) rfl (by kernel_rfl) OpensF.nil))).map (fun p => (p.1, p.2.1)) (fun _ => rfl) (fun _ h => ⟨h.1, h.2.1⟩)
theorem opens_flds (W : World) : Opens Tryz.prog W 23 1 (fun l : List Fld => [AV.sl .no 2 (fldL l)]) (fun l => ∀ f ∈ l, f.1.size ≤ maxLen ∧ f.2.size ≤ maxLen) :=
  Opens.slice Tryz.underlying23 (by kernel_rfl) (by omega) (opens_fld W)
theorem open_fields (hval : Value.okWide Tryz.prog W .any base 23 v) (hx : DataW.Trod enc Tryz.prog W b2 spare held 23 v d p) : ∃ l : List Fld, AtR W (.sl .no 2 (fldL l)) v ∧ ∀ f ∈ l, f.1.size ≤ maxLen ∧ f.2.size ≤ maxLen :=
  Opens.row Tryz.underlying23 (opens_flds W) hval hx
end
end Go.Proofs.YtgkhnllgmfjhpaaGreatDoor
