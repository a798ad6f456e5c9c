/- A rule as an argument. No statement of its own. -/
import Derived.Test.YtgaidgblihnldaaGreatDoorOq
import Derived.Test.YtgaidgblihnldaaGreatDoorRu
set_option linter.unusedSimpArgs false
set_option linter.unusedVariables false
set_option maxRecDepth 100000
namespace Go.Proofs.YtgaidgblihnldaaGreatDoor
open Go.RowKit Go.Deep
def Rl.cs (r : Rl) : List AV := [.i r.sd, .i r.gk, .s r.ga, .s r.gb, .i r.ac, .s r.nm, .s r.un, .sl .no 2 (prtL r.ps)]
section
variable {W : World} {H : Type} {enc : TypeId × Value → H} {b2 base : Nat} {spare : Nat → Bool} {held : Bool} {v : Value} {d : DataW H} {p : List MemPlace}
theorem opens_guard (W : World) : Opens Tryz.prog W 25 3 (fun g : Int × ByteArray × ByteArray => [AV.i g.1, AV.s g.2.1, AV.s g.2.2]) (fun _ => True) :=
  (Opens.struct Tryz.underlying25 (by kernel_rfl) (OpensF.cons (Opens.int Tryz.underlying23) rfl (by kernel_rfl) (OpensF.cons (Opens.str Tryz.underlying9) rfl (by kernel_rfl) (OpensF.cons (Opens.str Tryz.underlying9) rfl (by kernel_rfl) OpensF.nil)))).map (fun p => (p.1, p.2.1, p.2.2.1)) (fun _ => rfl) (fun _ _ => trivial)
theorem opens_rule (W : World) : Opens Tryz.prog W 29 8 Rl.cs (fun _ => True) :=
  (Opens.struct Tryz.underlying29 (by kernel_rfl) (OpensF.cons (Opens.int Tryz.underlying22) rfl (by kernel_rfl) (OpensF.cons (opens_guard W) rfl (by kernel_rfl) (OpensF.cons (Opens.int Tryz.underlying26) rfl (by kernel_rfl) (OpensF.cons (Opens.str Tryz.underlying9) rfl (by kernel_rfl) (OpensF.cons (Opens.str Tryz.underlying9) rfl (by kernel_rfl) (OpensF.cons (opens_parts W) rfl (by kernel_rfl) OpensF.nil))))))).map (fun p => (⟨p.1, p.2.1.1, p.2.1.2.1, p.2.1.2.2, p.2.2.1, p.2.2.2.1, p.2.2.2.2.1, p.2.2.2.2.2.1⟩ : Rl)) (fun _ => rfl) (fun _ _ => trivial)
theorem open_rule (hval : Value.okWide Tryz.prog W .any base 29 v) (hx : DataW.Trod enc Tryz.prog W b2 spare held 29 v d p) : ∃ r : Rl, AtR W r.av v ∧ True := by
  obtain ⟨us, rfl, _⟩ := Go.WideShapes.okWide_struct Tryz.underlying29 hval
  exact Opens.agg (opens_rule W) hx
end
end Go.Proofs.YtgaidgblihnldaaGreatDoor
