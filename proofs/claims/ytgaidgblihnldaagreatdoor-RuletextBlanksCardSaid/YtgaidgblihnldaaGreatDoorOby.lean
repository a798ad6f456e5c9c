/- Bytes as an argument. No statement of its own. -/
import Derived.Test.YtgaidgblihnldaaGreatDoorOp
import Derived.Test.YtgaidgblihnldaaGreatDoorR8
set_option linter.unusedSimpArgs false
set_option linter.unusedVariables false
set_option maxRecDepth 100000
namespace Go.Proofs.YtgaidgblihnldaaGreatDoor
open Go.RowKit Go.Deep
section
variable {W : World} {H : Type} {enc : TypeId × Value → H} {b2 base : Nat} {spare : Nat → Bool} {held : Bool} {v : Value} {d : DataW H} {p : List MemPlace}
theorem opens_byt (W : World) : Opens Tryz.prog W 5 1 (fun z : Int => [AV.int .u8 z]) (fun z => 0 ≤ z ∧ z < 256) :=
  (Opens.int Tryz.underlying5).map (fun z => z) (fun _ => rfl) (fun z h => by
    simp only [Lit.wf, Bool.and_eq_true, decide_eq_true_eq] at h
    have h1 : 0 ≤ z := h.1
    have h2 : z ≤ 255 := h.2
    exact ⟨h1, by omega⟩)
theorem opens_byts (W : World) : Opens Tryz.prog W 47 1 (fun l : List Int => [AV.sl .no 1 (bytL l)]) (fun l => ∀ z ∈ l, 0 ≤ z ∧ z < 256) :=
  Opens.slice Tryz.underlying47 (by kernel_rfl) (by omega) (opens_byt W)
theorem open_byts (hval : Value.okWide Tryz.prog W .any base 47 v) (hx : DataW.Trod enc Tryz.prog W b2 spare held 47 v d p) : ∃ l : List Int, AtR W (.sl .no 1 (bytL l)) v ∧ ∀ z ∈ l, 0 ≤ z ∧ z < 256 :=
  Opens.row Tryz.underlying47 (opens_byts W) hval hx
end
end Go.Proofs.YtgaidgblihnldaaGreatDoor
