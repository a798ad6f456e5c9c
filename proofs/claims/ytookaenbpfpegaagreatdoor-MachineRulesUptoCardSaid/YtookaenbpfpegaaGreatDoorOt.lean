/- Tasks as arguments, bounded. No statement of its own. -/
import Derived.Test.YtookaenbpfpegaaGreatDoorOb
set_option linter.unusedSimpArgs false
set_option linter.unusedVariables false
set_option maxRecDepth 100000
namespace Go.Proofs.YtookaenbpfpegaaGreatDoor
open Go.RowKit Go.Deep
theorem Opens.toB' {P : Program} {W : World} {t : TypeId} {n : Nat} {α β : Type} {f : α → List AV} {Q : α → Prop} (h : Opens P W t n f Q) (g : α → β) {f' : β → List AV} (hf : ∀ a, Q a → f a = f' (g a)) : OpensB P W t n f' (fun _ => 0) := by
  refine ⟨?_⟩
  intro H enc base spare held fuel cs x hx
  obtain ⟨a, h1, h2, h3, h4⟩ := h.op hx
  rw [hf a h1] at h2 h4
  exact ⟨g a, Nat.zero_le _, h2, h3, h4⟩
abbrev Tsk := List Fld × List Fld × Int
def tskB (t : Tsk) : Nat := (t.1.map fldB).sum
section
variable {W : World} {H : Type} {enc : TypeId × Value → H} {b2 base : Nat} {spare : Nat → Bool} {held : Bool} {v : Value} {d : DataW H} {p : List MemPlace}
theorem opensB_side (W : World) : OpensB Tryz.prog W 22 1 (fun k : Int => [AV.i k]) (fun _ => 0) :=
  (Opens.int Tryz.underlying22).toB' id (fun _ _ => rfl)
theorem opensB_task (W : World) : OpensB Tryz.prog W 43 3 (fun t : Tsk => [AV.sl .no 2 (fldL t.1), AV.sl .no 2 (fldL t.2.1), AV.i t.2.2]) tskB :=
  (OpensB.struct Tryz.underlying43 (by kernel_rfl) (OpensBF.cons (OpensB.slice Tryz.underlying40 (by kernel_rfl) (by omega) (opensB_param W)) rfl (by kernel_rfl) (OpensBF.cons (OpensB.slice Tryz.underlying41 (by kernel_rfl) (by omega) (opensB_fld W)) rfl (by kernel_rfl) (OpensBF.cons (opensB_side W) rfl (by kernel_rfl) OpensBF.nil)))).map (fun p => (p.1, p.2.1, p.2.2.1)) (fun _ => rfl) (fun p => by
    show (p.1.map fldB).sum ≤ (p.1.map fldB).sum + _; omega)
theorem openB_task (hval : Value.okWide Tryz.prog W .any base 43 v) (hx : DataW.Trod enc Tryz.prog W b2 spare held 43 v d p) : ∃ t : Tsk, AtR W (.agg [.sl .no 2 (fldL t.1), .sl .no 2 (fldL t.2.1), .i t.2.2]) v ∧ tskB t ≤ Rows.uptoBulk d := by
  obtain ⟨us, rfl, _⟩ := Go.WideShapes.okWide_struct Tryz.underlying43 hval
  exact OpensB.agg (opensB_task W) hx
end
end Go.Proofs.YtookaenbpfpegaaGreatDoor
