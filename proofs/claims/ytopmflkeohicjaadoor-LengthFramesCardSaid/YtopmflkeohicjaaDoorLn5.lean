/- LengthFrames: the law. No statement of its own. -/
import Derived.Test.YtopmflkeohicjaaDoorLn4
set_option maxRecDepth 100000
namespace Go.Proofs.YtopmflkeohicjaaDoor
open Go.RowKit
def exL1 : List Fld := [(⟨#[67, 111, 110, 116, 101, 110, 116, 45, 76, 101, 110, 103, 116, 104]⟩, ⟨#[53, 44, 32, 48, 53]⟩)]
def exL2 : List Fld := exL1 ++ [(teS, chkS)]
theorem ex1 : ofW exL1 1 1 = (2, 5, 0) := by decide +kernel
theorem ex2 : ofW exL2 1 1 = (0, 0, 29) := by decide +kernel
theorem exOk1 : FldOk exL1 := ⟨by decide, by decide⟩
theorem exOk2 : FldOk exL2 := ⟨by decide, by decide⟩
theorem awake17_p : APure Tryd.prog 25 [] (.b true) [] := by
  have r1 := request_p 1 0 1 .empty .empty .empty exL1 exOk1
  have r2 := request_p 1 0 1 .empty .empty .empty exL2 exOk2
  rw [ex1] at r1
  rw [ex2] at r2
  refine APure.of rfl (ACalls.of_vc T_ok mixed Tryd.func25 rfl Tryd.call25 ?_)
  refine ⟨_, rfl, ?_⟩
  refine ⟨_, rfl, ?_⟩
  refine .w rfl (hdW1 exL1 (.inl ⟨rfl, rfl⟩)) r1 ?_
  refine ⟨_, rfl, ?_⟩
  refine ⟨_, rfl, ?_⟩
  refine ⟨fun e => by simp at e, fun _ => ⟨by decide, by decide, ?_⟩⟩
  refine ⟨_, rfl, ?_⟩
  refine ⟨_, rfl, ?_⟩
  refine .w rfl (hdW1 exL2 (.inl ⟨rfl, rfl⟩)) r2 ?_
  refine ⟨_, rfl, ?_⟩
  refine ⟨_, rfl, ?_⟩
  refine ⟨by kernel_rfl, fun q hq => ?_⟩
  have : q = true := hq.2 ⟨rfl, rfl, trivial⟩
  subst this
  rfl
theorem lengthFrames_p (k c mi : Int) (mth m t r : ByteArray) (l : List Fld) : APure Tryd.prog 6 [hdA k c mi m t r (.sl .no 2 (fldL l)), .s mth] (.b true) [] := by
  have hok := FldOk.few l
  have a1 := request_p k c mi (cut400 m) (cut400 t) (cut400 r) (fewF l) hok
  have a2 := of17_p k c mi 1 (cut400 m) (cut400 t) (cut400 r) (fewF l) hok
  have a3 := response_p k c mi mth (cut400 m) (cut400 t) (cut400 r) (fewF l) hok
  have a4 := resp17_p k c mi mth (cut400 m) (cut400 t) (cut400 r) (fewF l) hok
  generalize ofW (fewF l) mi 1 = X at a1 a2
  generalize respW (fewF l) mth c mi = Y at a3 a4
  have fw := few_h k c mi m t r l
  generalize fewF l = fl at *
  generalize cut400 m = m' at *
  generalize cut400 t = t' at *
  generalize cut400 r = r' at *
  refine APure.of rfl (ACalls.of_vc T_ok mixed Tryd.func6 rfl Tryd.call6 ?_)
  refine .p rfl awake17_p ?_
  refine ⟨_, rfl, ?_⟩
  refine .p rfl fw ?_
  refine ⟨_, rfl, ?_⟩
  refine ⟨_, rfl, ?_⟩
  refine .p rfl a1 ?_
  refine ⟨_, rfl, ?_⟩
  refine ⟨_, rfl, ?_⟩
  refine .p rfl a2 ?_
  refine ⟨_, rfl, ?_⟩
  refine ⟨_, rfl, ?_⟩
  refine .p rfl a3 ?_
  refine ⟨_, rfl, ?_⟩
  refine ⟨_, rfl, ?_⟩
  refine .p rfl a4 ?_
  refine ⟨_, rfl, ?_⟩
  refine ⟨_, rfl, ?_⟩
  refine ⟨_, rfl, ?_⟩
  refine ⟨by kernel_rfl, fun q hq => ?_⟩
  have : q = true := hq.2 ⟨rfl, rfl, trivial⟩
  subst this
  refine cnd_split (fun h => ?_) (fun h => ?_)
  case refine_2 => exact absurd (beq_eq_false_iff_ne.1 h) (fun h => h rfl)
  refine ⟨_, rfl, ?_⟩
  refine ⟨_, rfl, ?_⟩
  refine ⟨by kernel_rfl, fun q hq => ?_⟩
  have : q = true := hq.2 ⟨rfl, rfl, trivial⟩
  subst this
  exact retb (by simp)
end Go.Proofs.YtopmflkeohicjaaDoor
