/- Deeds as arguments, bounded. No statement of its own. -/
import Derived.Test.YtookaenbpfpegaaDoorBu
set_option linter.unusedSimpArgs false
set_option linter.unusedVariables false
set_option maxRecDepth 100000
namespace Go.Proofs.YtookaenbpfpegaaDoor
open Go.RowKit Go.Deep
theorem Opens.toB {P : Program} {W : World} {t : TypeId} {n : Nat} {α β : Type} {f : α → List AV} {Q : α → Prop} (h : Opens P W t n f Q) (g : α → β) {f' : β → List AV} (hf : ∀ a, Q a → f a = f' (g a)) : OpensB P W t n f' (fun _ => 0) := by
  refine ⟨?_⟩
  intro H enc base spare held fuel cs x hx
  obtain ⟨a, h1, h2, h3, h4⟩ := h.op hx
  rw [hf a h1] at h2 h4
  exact ⟨g a, Nat.zero_le _, h2, h3, h4⟩
def deedB (d : Deed) : Nat := d.2.1.size + d.2.2.size
theorem deedB_mem {l : List Deed} {f : Deed} (h : f ∈ l) : f.2.1.size + f.2.2.size ≤ (l.map deedB).sum := by
  induction l with
  | nil => cases h
  | cons x r ih =>
    rw [List.map_cons, List.sum_cons]
    rcases List.mem_cons.1 h with rfl | h
    · unfold deedB; omega
    · have := ih h; omega
section
variable {W : World} {H : Type} {enc : TypeId × Value → H} {b2 base : Nat} {spare : Nat → Bool} {held : Bool} {v : Value} {d : DataW H} {p : List MemPlace}
theorem opensB_kind (W : World) : OpensB Tryd.prog W 5 1 (fun k : Nat => [AV.int .u8 (k : Int)]) (fun _ => 0) :=
  (Opens.int Tryd.underlying5).toB Int.toNat (fun z h => by
    simp only [Lit.wf, Bool.and_eq_true, decide_eq_true_eq] at h
    have h1 : 0 ≤ z := h.1
    rw [Int.toNat_of_nonneg h1])
theorem opensB_deed (W : World) : OpensB Tryd.prog W 47 3 (fun d : Deed => [AV.int .u8 (d.1 : Int), AV.s d.2.1, AV.s d.2.2]) deedB :=
  (OpensB.struct Tryd.underlying47 (by kernel_rfl) (OpensBF.cons (opensB_kind W) rfl (by kernel_rfl) (OpensBF.cons (OpensB.str Tryd.underlying9) rfl (by kernel_rfl) (OpensBF.cons (OpensB.str Tryd.underlying9) rfl (by kernel_rfl) OpensBF.nil)))).map (fun p => (p.1, p.2.1, p.2.2.1)) (fun _ => rfl) (fun p => by
    show p.2.1.size + p.2.2.1.size ≤ 0 + (p.2.1.size + (p.2.2.1.size + 0)); omega)
theorem openB_deeds (hval : Value.okWide Tryd.prog W .any base 57 v) (hx : DataW.Trod enc Tryd.prog W b2 spare held 57 v d p) : ∃ l : List Deed, AtR W (.sl .no 3 (deedL l)) v ∧ (l.map deedB).sum ≤ Rows.uptoBulk d :=
  OpensB.row Tryd.underlying57 (OpensB.slice Tryd.underlying57 (by kernel_rfl) (by omega) (opensB_deed W)) hval hx
theorem openB_deed (hval : Value.okWide Tryd.prog W .any base 47 v) (hx : DataW.Trod enc Tryd.prog W b2 spare held 47 v d p) : ∃ f : Deed, AtR W (.agg [.int .u8 (f.1 : Int), .s f.2.1, .s f.2.2]) v ∧ deedB f ≤ Rows.uptoBulk d := by
  obtain ⟨us, rfl, _⟩ := Go.WideShapes.okWide_struct Tryd.underlying47 hval
  exact OpensB.agg (opensB_deed W) hx
end
end Go.Proofs.YtookaenbpfpegaaDoor
