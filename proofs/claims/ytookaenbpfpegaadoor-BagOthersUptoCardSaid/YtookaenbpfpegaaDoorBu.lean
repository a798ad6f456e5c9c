/- The law of a nil row: BagNone; deeds as arguments. No statement of its own. -/
import Derived.Test.YtookaenbpfpegaaDoorBt
import Derived.Test.YtookaenbpfpegaaDoorOb
set_option linter.unusedSimpArgs false
set_option linter.unusedVariables false
set_option maxRecDepth 100000
namespace Go.Proofs.YtookaenbpfpegaaDoor
open Go.RowKit Go.Deep
section
variable {st : St} {R : AV → St → Prop}
theorem addN_a {x y : ByteArray} (h : R (.tup []) st) : ACalls Tryd.prog 29 [.nilP, .sl .tight 2 [[.s x, .s y]]] st R := by
  refine ACalls.of_vc T_ok mixed Tryd.func29 rfl Tryd.call29 ?_
  exact h
theorem listN_a (h : R .nilS st) : ACalls Tryd.prog 23 [.nilP] st R := by
  refine ACalls.of_vc T_ok mixed Tryd.func23 rfl Tryd.call23 ?_
  exact h
theorem lenN_a (h : R (.i 0) st) : ACalls Tryd.prog 24 [.nilP] st R := by
  refine ACalls.of_vc T_ok mixed Tryd.func24 rfl Tryd.call24 ?_
  refine .s (listN_a ?_)
  exact h
theorem valuesN_a {n : ByteArray} (h : R .nilS st) : ACalls Tryd.prog 28 [.nilP, .s n] st R := by
  refine ACalls.of_vc T_ok mixed Tryd.func28 rfl Tryd.call28 ?_
  refine .s (listN_a ?_)
  refine vc_loop [5, 11] (fun g vals st' => vals = [.nilS, .i 0] ∧ st' = st) 0 rfl ⟨rfl, rfl⟩ ?_
  rintro g vals st' ⟨rfl, rfl⟩
  exact h
theorem getN_a {n : ByteArray} (h : R (.tup [.s ⟨#[]⟩, .b false]) st) : ACalls Tryd.prog 25 [.nilP, .s n] st R := by
  refine ACalls.of_vc T_ok mixed Tryd.func25 rfl Tryd.call25 ?_
  refine .s (valuesN_a ?_)
  exact h
theorem removeN_a {n : ByteArray} (h : ∀ x, R (.i 0) ⟨st.heap ++ [x], st.tk⟩) : ACalls Tryd.prog 32 [.nilP, .sl .tight 1 [[.s n]]] st R := by
  refine ACalls.of_vc T_ok mixed Tryd.func32 rfl Tryd.call32 ?_
  exact h _
theorem renameN_a {n v : ByteArray} (h : R (.i 0) st) : ACalls Tryd.prog 33 [.nilP, .s n, .s v] st R := by
  refine ACalls.of_vc T_ok mixed Tryd.func33 rfl Tryd.call33 ?_
  exact h
theorem putN_a {n v : ByteArray} (h : ∀ x, R (.tup []) ⟨st.heap ++ [x], st.tk⟩) : ACalls Tryd.prog 30 [.nilP, .s n, .s v] st R := by
  refine ACalls.of_vc T_ok mixed Tryd.func30 rfl Tryd.call30 ?_
  exact h _
theorem behindN_a {n v : ByteArray} (h : R (.tup []) st) : ACalls Tryd.prog 31 [.nilP, .s n, .s v] st R := by
  refine ACalls.of_vc T_ok mixed Tryd.func31 rfl Tryd.call31 ?_
  exact h
theorem bagNone_p (kd : Int) (n v name : ByteArray) : APure Tryd.prog 6 [.agg [.int .u8 kd, .s n, .s v], .s name] (.b true) [] := by
  refine APure.of rfl ?_
  refine ACalls.of_vc T_ok mixed Tryd.func6 rfl Tryd.call6 ?_
  refine .p rfl awake13_p ?_
  refine .s (addN_a ?_)
  refine ⟨_, rfl, ?_⟩
  refine .s (putN_a (fun x => ?_))
  refine ⟨_, rfl, ?_⟩
  refine .s (behindN_a ?_)
  refine .s (getN_a ?_)
  refine .n (.one 0 (.one 1 (.one 2 (.one 3 (.one 4 (.one 5 (.one 7 (.one 8 (.one 9 (.one 10 (.one 13 (.one 16 (.one 20 (.one 21 (.one 6 (.one 11 (.one 12 (.one 14 (.one 15 (.one 17 (.one 18 (.one 19 (.one 22 (.one 23 (.one 24 (.one 25 (.one 26 (.one 27 .done)))))))))))))))))))))))))))) (by kernel_rfl) ?_
  refine ⟨_, rfl, ?_⟩
  refine .s (removeN_a (fun y => ⟨⟨[y], rfl⟩, ?_⟩))
  refine .s (renameN_a ⟨.refl _, ?_⟩)
  intro c hc
  rw [IntWalk.i64_in _ (by omega)] at hc
  obtain rfl : c = ((0 : Nat) : Int) := by omega
  refine .s (lenN_a ⟨.refl _, ?_⟩)
  intro c hc
  rw [IntWalk.i64_in _ (by omega)] at hc
  obtain rfl : c = ((0 : Nat) : Int) := by omega
  refine .s (listN_a ⟨.refl _, ?_⟩)
  intro c hc
  rw [IntWalk.i64_in _ (by omega)] at hc
  obtain rfl : c = ((0 : Nat) : Int) := by omega
  refine .s (valuesN_a ⟨.refl _, ?_⟩)
  intro c hc
  rw [IntWalk.i64_in _ (by omega)] at hc
  obtain rfl : c = ((0 : Nat) : Int) := by omega
  rfl
end
section
variable {W : World} {H : Type} {enc : TypeId × Value → H} {b2 base : Nat} {spare : Nat → Bool} {held : Bool} {v : Value} {d : DataW H} {p : List MemPlace}
theorem opens_deed (W : World) : Opens Tryd.prog W 47 3 (fun f : Int × ByteArray × ByteArray => [AV.int .u8 f.1, AV.s f.2.1, AV.s f.2.2]) (fun f => 0 ≤ f.1 ∧ f.1 < 256) :=
  (Opens.struct Tryd.underlying47 (by kernel_rfl) (OpensF.cons (Opens.int Tryd.underlying5) rfl (by kernel_rfl) (OpensF.cons (Opens.str Tryd.underlying9) rfl (by kernel_rfl) (OpensF.cons (Opens.str Tryd.underlying9) rfl (by kernel_rfl) OpensF.nil)))).map (fun p => (p.1, p.2.1, p.2.2.1)) (fun _ => rfl) (fun p h => by
    have h := h.1
    simp only [Lit.wf, Bool.and_eq_true, decide_eq_true_eq] at h
    have h1 : 0 ≤ p.1 := h.1
    have h2 : p.1 ≤ 255 := h.2
    exact ⟨h1, by show p.1 < 256; omega⟩)
theorem open_deed (hval : Value.okWide Tryd.prog W .any base 47 v) (hx : DataW.Trod enc Tryd.prog W b2 spare held 47 v d p) : ∃ f : Int × ByteArray × ByteArray, AtR W (.agg [.int .u8 f.1, .s f.2.1, .s f.2.2]) v ∧ 0 ≤ f.1 ∧ f.1 < 256 := by
  obtain ⟨us, rfl, _⟩ := Go.WideShapes.okWide_struct Tryd.underlying47 hval
  exact Opens.agg (opens_deed W) hx
end
end Go.Proofs.YtookaenbpfpegaaDoor
