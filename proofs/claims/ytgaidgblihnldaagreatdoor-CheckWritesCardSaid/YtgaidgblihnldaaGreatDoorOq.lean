/- Rows of parts, of fields, of names with values, as arguments. No statement of its own. -/
import Derived.Test.YtgaidgblihnldaaGreatDoorOp
import Derived.Test.YtgaidgblihnldaaGreatDoorTmA
set_option linter.unusedSimpArgs false
set_option linter.unusedVariables false
set_option maxRecDepth 100000
namespace Go.Proofs.YtgaidgblihnldaaGreatDoor
open Go.RowKit Go.Deep
section
variable {W : World} {H : Type} {enc : TypeId × Value → H} {b2 base : Nat} {spare : Nat → Bool} {held : Bool} {v : Value} {d : DataW H} {p : List MemPlace}
theorem opens_part (W : World) : Opens Tryz.prog W 86 2 prtC (fun p => p.2.size ≤ maxLen) :=
  (Opens.struct Tryz.underlying86 (by kernel_rfl) (OpensF.cons (Opens.int Tryz.underlying84) rfl (by kernel_rfl) (OpensF.cons (Opens.str Tryz.underlying9) rfl (by kernel_rfl) OpensF.nil))).map (fun p => (p.1, p.2.1)) (fun _ => rfl) (fun _ h => h.2.1)
theorem opens_parts (W : World) : Opens Tryz.prog W 27 1 (fun l : List Prt => [AV.sl .no 2 (prtL l)]) (fun l => ∀ p ∈ l, p.2.size ≤ maxLen) :=
  Opens.slice Tryz.underlying27 (by kernel_rfl) (by omega) (opens_part W)
theorem open_parts (hval : Value.okWide Tryz.prog W .any base 27 v) (hx : DataW.Trod enc Tryz.prog W b2 spare held 27 v d p) : ∃ l : List Prt, AtR W (.sl .no 2 (prtL l)) v ∧ ∀ p ∈ l, p.2.size ≤ maxLen :=
  Opens.row Tryz.underlying27 (opens_parts W) hval hx
theorem opens_fld (W : World) : Opens Tryz.prog W 130 2 (fun f : Fld => [AV.s f.1, AV.s f.2]) (fun f => f.1.size ≤ maxLen ∧ f.2.size ≤ maxLen) :=
  (Opens.struct Tryz.underlying130 (by kernel_rfl) (OpensF.cons (Opens.str Tryz.underlying9) rfl (by kernel_rfl) (OpensF.cons (Opens.str Tryz.underlying9) rfl (by kernel_rfl) OpensF.nil))).map (fun p => (p.1, p.2.1)) (fun _ => rfl) (fun _ h => ⟨h.1, h.2.1⟩)
end
end Go.Proofs.YtgaidgblihnldaaGreatDoor
