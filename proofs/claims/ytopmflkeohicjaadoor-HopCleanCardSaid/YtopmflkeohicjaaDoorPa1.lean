/- Whether a connection ends: the program and the document. No statement of its own. -/
import Derived.Test.YtopmflkeohicjaaDoorMs
set_option maxRecDepth 100000
namespace Go.Proofs.YtopmflkeohicjaaDoor
open Go.RowKit
def coS : ByteArray := ⟨#[99, 111, 110, 110, 101, 99, 116, 105, 111, 110]⟩
def cloS : ByteArray := ⟨#[99, 108, 111, 115, 101]⟩
def keepS : ByteArray := ⟨#[107, 101, 101, 112, 45, 97, 108, 105, 118, 101]⟩
def closeW (l : List Fld) (mi : Int) : Bool := if mi = 1 then hasW cloS (valsW coS l) else !hasW keepS (valsW coS l)
theorem argsW_sn (s : ByteArray) : ArgsW [.s s, .nilS] [.s s, .sl .no 1 (strL [])] := ⟨.inl (.inl ⟨rfl, rfl⟩), .inr ⟨rfl, 1, rfl⟩, trivial⟩
theorem CO_fold : foldB ⟨#[67, 111, 110, 110, 101, 99, 116, 105, 111, 110]⟩ = foldB coS := rfl
set_option maxHeartbeats 1000000 in
theorem close_p (k c mi : Int) (m t r : ByteArray) (l : List Fld) (hl : FldOk l) : APure Tryd.prog 42 [hdA k c mi m t r (.sl .no 2 (fldL l))] (.b (closeW l mi)) [] := by
  have hll := hl.len
  have sC := valsW_congr CO_fold l
  have vc := hl.vlen coS
  have vcs := hl.vsize coS
  have hE : closeW l mi = if mi = 1 then hasW cloS (valsW coS l) else !hasW keepS (valsW coS l) := rfl
  generalize closeW l mi = Z at hE
  refine APure.of rfl (ACalls.of_vc T_ok mixed Tryd.func42 rfl Tryd.call42 ?_)
  refine ⟨_, rfl, ?_⟩
  refine .s (newB_a l (by omega) ?_)
  refine .s (values_a l _ (by omega) hl.big (by decide) rfl fun a st2 g2 a2 => ?_)
  rw [sC] at a2
  have h0 : st2.heap[0]? = some [.i k, .s m, .s t, .i c, .s r, .i mi, .sl .no 2 (fldL l)] := g2.pre.at' rfl
  generalize valsW coS l = v at *
  generalize hes : strL v = es at a2
  cases a2 with
  | nil =>
    have : v = [] := (nil_len v).1 hes
    subst this
    refine ⟨_, h0, ?_⟩
    refine cnd_split (fun h => ?_) (fun h => ?_)
    · rw [if_pos (beq_iff_eq.1 h)] at hE
      refine .w rfl (argsW_sn _) (has_p cloS [] (by decide) (by decide) vcs) ?_
      exact retb hE.symm
    · rw [if_neg (beq_eq_false_iff_ne.1 h)] at hE
      refine .w rfl (argsW_sn _) (has_p keepS [] (by decide) (by decide) vcs) ?_
      exact retb hE.symm
  | own t0 e0 es q0 q1 =>
    subst hes
    refine ⟨_, h0, ?_⟩
    refine cnd_split (fun h => ?_) (fun h => ?_)
    · rw [if_pos (beq_iff_eq.1 h)] at hE
      refine .p rfl (has_p cloS v (by decide) (by omega) vcs) ?_
      exact retb hE.symm
    · rw [if_neg (beq_eq_false_iff_ne.1 h)] at hE
      refine .p rfl (has_p keepS v (by decide) (by omega) vcs) ?_
      exact retb hE.symm
theorem close24_p (k c mi : Int) (m t r : ByteArray) (l : List Fld) (hl : FldOk l) : APure Tryd.prog 35 [hdA k c mi m t r (.sl .no 2 (fldL l))] (.b (closeW l mi)) [] := by
  have hll := hl.len
  have p1 := vals13_p l coS (by omega) hl.big (by decide)
  have vc := hl.vlen coS
  have vcs := hl.vsize coS
  have hE : closeW l mi = if mi = 1 then hasW cloS (valsW coS l) else !hasW keepS (valsW coS l) := rfl
  generalize closeW l mi = Z at hE
  generalize valsW coS l = v at *
  refine APure.of rfl (ACalls.of_vc T_ok mixed Tryd.func35 rfl Tryd.call35 ?_)
  refine ⟨_, rfl, ?_⟩
  refine .p rfl p1 ?_
  refine ⟨_, rfl, ?_⟩
  refine cnd_split (fun h => ?_) (fun h => ?_)
  · rw [if_pos (beq_iff_eq.1 h)] at hE
    refine .p rfl (hasR_p cloS v (by decide) (by omega) vcs) ?_
    exact retb hE.symm
  · rw [if_neg (beq_eq_false_iff_ne.1 h)] at hE
    refine .p rfl (hasR_p keepS v (by decide) (by omega) vcs) ?_
    exact retb hE.symm
end Go.Proofs.YtopmflkeohicjaaDoor
