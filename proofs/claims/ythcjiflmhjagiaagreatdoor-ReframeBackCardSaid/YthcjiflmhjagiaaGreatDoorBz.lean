/- Laws of bodies: BodyNone, BodyLengths. No statement of its own. -/
import Derived.Test.YthcjiflmhjagiaaGreatDoorBy
set_option linter.unusedSimpArgs false
set_option linter.unusedVariables false
set_option maxRecDepth 100000
namespace Go.Proofs.YthcjiflmhjagiaaGreatDoor
open Go.RowKit
section
attribute [local irreducible] vcApp
variable {st : St} {p q L left n : Nat} {d : Dc} {ln tr : AV} {R : AV → St → Prop}
theorem feedB_chunk (hB : BI st p q 3 n left L false false d ln tr) (hI : d.In L) (hs : d.spent ≤ L) (hL : L ≤ 65536) (s : ByteArray) (hsz : s.size ≤ 70000000000000)
    (hR : ∀ st' s1 ln' tr' (o : ByteArray) (x : Rs), runD L d s.data.toList = x → o.data.toList = x.o → BI st' p q 3 n left L x.dn (x.e != 0) x.d ln' tr' → Kp q ln tr ln' tr' st s1 → st' = ⟨s1.heap.set p [.ptr q 0, .i 3, .i n, .i left, .b x.dn, .b (x.e != 0)], s1.tk⟩ → R (.tup [.i x.n, .s o, .b x.dn, .i x.e]) st') : ACalls Tryz.prog 21 [.ptr p 0, .s s] st R := by
  have h : st.heap[p]? = some [.ptr q 0, .i 3, .i n, .i left, .b false, .b false] := hB.h
  have hlt := lt_of h
  refine ACalls.of_vc T_ok mixed Tryz.func21 rfl Tryz.call21 ?_
  refine ⟨_, h, ?_⟩
  refine ⟨_, h, ?_⟩
  refine ⟨_, h, ?_⟩
  refine ⟨_, h, ?_⟩
  refine .s (feed_a hB.d hI hs hL s hsz (fun s1 ln' tr' o x hx ho kp hd => ?_))
  have h1 := (kp.heap p hlt hB.ne).trans h
  refine ⟨_, h1, ?_⟩
  refine ⟨_, st_eq h1, ?_⟩
  have := hR ⟨s1.heap.set p [.ptr q 0, .i 3, .i n, .i left, .b x.dn, .b (x.e != 0)], s1.tk⟩ s1 ln' tr' o x hx ho ⟨st_eq h1, ⟨st_ne hB.ne hd.h, hd.l, hd.t, hd.ne, hd.nz⟩, hB.ne⟩ kp rfl
  rw [← List.set_set (a := [.ptr q 0, .i 3, .i n, .i left, .b x.dn, .b false])] at this
  exact this
end
theorem emp_decide {s : ByteArray} {t : Bool} (ht : t = true ↔ s = ⟨#[]⟩) : t = decide (s.size = 0) := by
  rw [Bool.eq_iff_iff, decide_eq_true_eq, ht]
  exact emp_iff s
end Go.Proofs.YthcjiflmhjagiaaGreatDoor
