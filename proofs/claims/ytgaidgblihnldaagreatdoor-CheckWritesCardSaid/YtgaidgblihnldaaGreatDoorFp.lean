/- Field lines read, in the program and in the document. No statement of its own. -/
import Derived.Test.YtgaidgblihnldaaGreatDoorSx
import Derived.Test.YtgaidgblihnldaaGreatDoorFd
import Derived.Test.YtgaidgblihnldaaGreatDoorSm
set_option linter.unusedSimpArgs false
set_option linter.unusedVariables false
set_option maxRecDepth 100000
namespace Go.Proofs.YtgaidgblihnldaaGreatDoor
open Go.RowKit
def fldA (f : Fld) : AV := .agg [.s f.1, .s f.2]
theorem blk_f : ByteF 58 blkI := fun n _ _ => isBlank_p n
theorem blanks_m {st : St} {p k n m : Nat} {s : ByteArray} {R : AV → St → Prop} (h : Sc st p s k) (hn : n ≤ st.tk.length) (hm : k + tw blkI s k = m) (hR : ∀ st', Mv n (· = p) st st' → Sc st' p s m → R (.s (s.extract k m)) st') : ACalls Tryz.prog 109 [.ptr p 0] st R := by
  refine ACalls.of_vc T_ok mixed Tryz.func109 rfl Tryz.call109 ?_
  refine .s (while_m blk_f h hn hm (fun st' m hs => ?_))
  exact hR _ m hs
theorem rest_m {st : St} {p k : Nat} {s x : ByteArray} {R : AV → St → Prop} (h : Sc st p s k) (hx : s.extract k s.size = x) (hR : R (.s x) st) : ACalls Tryz.prog 116 [.ptr p 0] st R := by
  subst hx
  exact rest_a h hR
theorem atB_58 (s : ByteArray) (k : Nat) : atB s k 58 = true ↔ s.data.toList[k]? = some 58 := by
  unfold atB
  cases h : s.data.toList[k]? with
  | none => simp
  | some x =>
    simp only [Option.any_some, beq_iff_eq, Option.some.injEq]
    exact ⟨fun h => UInt8.toNat_inj.1 (by show _ = 58; omega), fun h => by subst h; rfl⟩
end Go.Proofs.YtgaidgblihnldaaGreatDoor
