/- For the cards whose code looks for texts: the library's variable holds some number. No statement of its own. -/
import Derived.Test.YtgaidgblihnldaaGreatDoorRoot
import Derived.Shelf.Vars
set_option linter.unusedSimpArgs false
set_option linter.unusedVariables false
namespace Go.Proofs.YtgaidgblihnldaaGreatDoor
open Go.RowKit
theorem max_laid {W : World} (h : W.ShapedOpen Tryz.prog) : ∀ w', Below W.heap.size W w' → LaidW w' := by
  obtain ⟨m, hm⟩ := cell_of_shapedOpen_int (zero := #[.int .i64 0]) (t := 3) (g := 0) h (of_decide_eq_true (by kernel_rfl)) (by kernel_rfl) rfl (by kernel_rfl) (by kernel_rfl) Tryz.underlying3
  have hl := World.block_lt_of_cell? W ⟨0, 0, none⟩ hm
  refine fun w' hb => ⟨m, ?_⟩
  rw [← hm]
  unfold World.cell?
  rw [hb.block _ hl]
end Go.Proofs.YtgaidgblihnldaaGreatDoor
