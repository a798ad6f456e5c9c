/- Laws of bodies: BodyNone, BodyLengths. No statement of its own. -/
import Derived.Test.YtookaenbpfpegaaDoorBy
set_option linter.unusedSimpArgs false
set_option linter.unusedVariables false
set_option maxRecDepth 100000
namespace Go.Proofs.YtookaenbpfpegaaDoor
open Go.RowKit
section
attribute [local irreducible] vcApp
variable {st : St} {p q L left n : Nat} {d : Dc} {ln tr : AV} {R : AV → St → Prop}
theorem feedB_chunk (hB : BI st p q 3 n left L false false d ln tr) (hI : d.In L) (hs : d.spent ≤ L) (hL : L ≤ 65536) (s : ByteArray) (hsz : s.size ≤ 70000000000000)
    (hR : ∀ st' s1 ln' tr' (o : ByteArray) (x : Rs), runD L d s.data.toList = x → o.data.toList = x.o → BI st' p q 3 n left L x.dn (x.e != 0) x.d ln' tr' → Kp q ln tr ln' tr' st s1 → st' = ⟨s1.heap.set p [.ptr q 0, .i 3, .i n, .i left, .b x.dn, .b (x.e != 0)], s1.tk⟩ → R (.tup [.i x.n, .s o, .b x.dn, .i x.e]) st') : ACalls Tryd.prog 13 [.ptr p 0, .s s] st R := by
  have h : st.heap[p]? = some [.ptr q 0, .i 3, .i n, .i left, .b false, .b false] := hB.h
  have hlt := lt_of h
  refine ACalls.of_vc T_ok mixed Tryd.func13 rfl Tryd.call13 ?_
  refine ⟨_, h, ?_⟩
  refine ⟨_, h, ?_⟩
  refine ⟨_, h, ?_⟩
  refine ⟨_, h, ?_⟩
  refine .s (feed_a hB.d hI hs hL s hsz (fun s1 ln' tr' o x hx ho kp hd => ?_))
  have h1 := (kp.heap p hlt hB.ne).trans h
  refine ⟨_, h1, ?_⟩
  refine ⟨_, st_eq h1, ?_⟩
  have := hR ⟨s1.heap.set p [.ptr q 0, .i 3, .i n, .i left, .b x.dn, .b (x.e != 0)], s1.tk⟩ s1 ln' tr' o x hx ho ⟨st_eq h1, ⟨st_ne hB.ne hd.h, hd.l, hd.t, hd.ne, hd.nz⟩, hB.ne⟩ kp rfl
  rw [← List.set_set (a := [.ptr q 0, .i 3, .i n, .i left, .b x.dn, .b false])] at this
  exact this
end
theorem awake21_p : APure Tryd.prog 7 [] (.b true) [] := by
  refine APure.of rfl ?_
  refine ACalls.of_vc T_ok mixed Tryd.func7 rfl Tryd.call7 ?_
  refine .s (newB21_a 2 3 9 (fun h => absurd h (by decide)) (fun _ st' p q n' L hn hL hB _ _ _ _ => ?_))
  obtain rfl : n' = 3 := by omega
  obtain rfl : L = 9 := by omega
  have hB : st'.heap[p]? = some [.nilP, .i 2, .i (3 : Nat), .i (3 : Nat), .b false, .b false] := hB.h
  refine .s (feedB_len (n := 3) ⟨#[97, 98, 99, 100]⟩ (by decide) (by decide) hB (fun m hm => ?_))
  obtain rfl : m = 3 := hm
  intro t ht
  cases t with
  | false => have := ht.2 (by decide); cases this
  | true =>
    refine .s (doneB_a (.inl rfl) (st_eq hB) ?_)
    rfl
theorem emp_decide {s : ByteArray} {t : Bool} (ht : t = true ↔ s = ⟨#[]⟩) : t = decide (s.size = 0) := by
  rw [Bool.eq_iff_iff, decide_eq_true_eq, ht]
  exact emp_iff s
end Go.Proofs.YtookaenbpfpegaaDoor
