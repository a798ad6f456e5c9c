/- Rows of rules, of instructions, as arguments. No statement of its own. -/
import Derived.Test.YtgkhnllgmfjhpaaGreatDoorPc
set_option linter.unusedSimpArgs false
set_option linter.unusedVariables false
set_option maxRecDepth 100000
namespace Go.Proofs.YtgkhnllgmfjhpaaGreatDoor
open Go.RowKit Go.Deep
instance : Inhabited Rl := ⟨⟨0, 0, emB, emB, 0, emB, emB, []⟩⟩
instance : Inhabited Opn := ⟨⟨0, emB, emB, [], 0⟩⟩
section
variable {W : World} {H : Type} {enc : TypeId × Value → H} {b2 base : Nat} {spare : Nat → Bool} {held : Bool} {v : Value} {d : DataW H} {p : List MemPlace}
theorem opens_rules (W : World) : Opens Tryz.prog W 26 1 (fun l : List Rl => [AV.sl .no 8 (rlL l)]) (fun l => ∀ r ∈ l, True) :=
  Opens.slice Tryz.underlying26 (by kernel_rfl) (by omega) (opens_rule W)
theorem open_rules (hval : Value.okWide Tryz.prog W .any base 26 v) (hx : DataW.Trod enc Tryz.prog W b2 spare held 26 v d p) : ∃ l : List Rl, AtR W (.sl .no 8 (rlL l)) v ∧ ∀ r ∈ l, True :=
  Opens.row Tryz.underlying26 (opens_rules W) hval hx
theorem opens_op (W : World) : Opens Tryz.prog W 87 5 Opn.cs (fun _ => True) :=
  (Opens.struct Tryz.underlying87 (by kernel_rfl) (OpensF.cons (Opens.int Tryz.underlying85) rfl (by kernel_rfl) (OpensF.cons (Opens.str Tryz.underlying9) rfl (by kernel_rfl) (OpensF.cons (Opens.str Tryz.underlying9) rfl (by kernel_rfl) (OpensF.cons (opens_parts W) rfl (by kernel_rfl) (OpensF.cons (Opens.int Tryz.underlying3) rfl (by kernel_rfl) OpensF.nil)))))).map (fun p => (⟨p.1, p.2.1, p.2.2.1, p.2.2.2.1, p.2.2.2.2.1⟩ : Opn)) (fun _ => rfl) (fun _ _ => trivial)
theorem opens_ops (W : World) : Opens Tryz.prog W 50 1 (fun l : List Opn => [AV.sl .no 5 (opL l)]) (fun l => ∀ r ∈ l, True) :=
  Opens.slice Tryz.underlying50 (by kernel_rfl) (by omega) (opens_op W)
theorem open_ops (hval : Value.okWide Tryz.prog W .any base 50 v) (hx : DataW.Trod enc Tryz.prog W b2 spare held 50 v d p) : ∃ l : List Opn, AtR W (.sl .no 5 (opL l)) v ∧ ∀ r ∈ l, True :=
  Opens.row Tryz.underlying50 (opens_ops W) hval hx
end
end Go.Proofs.YtgkhnllgmfjhpaaGreatDoor
