/-
  PROVED HERE: PairingPlays, as given: for every number and every deeds the law returns true, and its arguments read afterwards as before. No condition.
-/
import Derived.Test.YthncigahodannaaRows
import Derived.Test.YthncigahodannaaPair6
import Derived.Test.YthncigahodannaaOpen
namespace Go.Proofs.Ythncigahodannaa.pairingPlays
open Go.ChangeShapes Go.WideShapes Go.ChangeAt Go.RowKit Go.Deep

theorem own : ownKnob Try.prog.godebug = none := by kernel_rfl
theorem laidOut : laidOutB Try.prog = true := by kernel_rfl
theorem cells1 : Try.prog.cellsOf 32 = 1 := by kernel_rfl
theorem cells2 : Try.prog.cellsOf 4 = 1 := by kernel_rfl
theorem cells3 : Try.prog.cellsOf 28 = 1 := by kernel_rfl

theorem open_deeds {H : Type} {enc : TypeId × Value → H} {w : World} {base : Nat} {spare : Nat → Bool} {held : Bool} {fuel : Nat} {cs : List Value} {x : DataW H × List MemPlace}
    (h : DataW.trod enc Try.prog w base spare held fuel 22 cs = some x) : ∃ v, cs = [v] ∧ ∃ dd, DeedsAt w v dd := by
  obtain ⟨v, n, xs, rfl, hh, hx⟩ := open_has Try.underlying22 cells1 (by omega) h
  have hl : xs.length = n := by simpa using hh.len
  have all : ∀ i, i < n → ∃ l : List Bool, ∃ u, xs[i]? = some u ∧ Has w 1 u l.length (bcs l) := fun i hi => by
    obtain ⟨k, y, hy⟩ := hx i hi
    obtain ⟨ys, m, _, _, _, hyl, hf⟩ := DataW.trod_struct Try.underlying32 hy
    have h0 := hf 0 _ rfl
    obtain ⟨y0, hy0⟩ : ∃ y0, ys[0]? = some y0 := ⟨ys[0]'(by rw [hyl]; decide), List.getElem?_eq_getElem _⟩
    rw [hy0] at h0
    obtain ⟨u, hu, l, hl2⟩ := open_bools Try.underlying28 Try.underlying4 cells2 h0
    refine ⟨l, u, ?_, hl2⟩
    have e : ((xs.drop (i * 1)).take 1).length = 1 := by simp; omega
    have e2 := congrArg (·[0]?) hu
    simpa [List.getElem?_take, List.getElem?_drop, cells3] using e2
  obtain ⟨f, hf⟩ := choose_lt all
  refine ⟨v, rfl, (List.range n).map f, xs, by simpa using hh, fun i hi => ?_⟩
  obtain ⟨u, h1, h2⟩ := hf i (by simpa using hi)
  exact ⟨u, h1, by simpa using h2⟩

theorem contract (H : Type) (enc : TypeId × Value → H) (W : World) (base : Nat) (args : Array Value) (ds gs : List (DataW H)) (before : List MemPlace)
    (hval : ∀ (j : Nat) t v, Try.f3.params[j]? = some t → args[j]? = some v → Value.okWide Try.prog W .any base t v)
    (hW : DataW.Whole enc Try.prog Try.f3.params.toList Rows.pairingPlaysSpec.vars false W args.toList ds gs before) :
    Calls Try.prog 3 args W fun e W' => ∃ v, e = .returned v ∧ Rows.pairingPlaysSpec.post enc Try.prog Try.f3 false true false false W args v W' := by
  have hW' := hW
  obtain ⟨p, q, hA0, hV, rfl, _, _⟩ := hW
  have hA : DataW.TrodAll enc Try.prog W 0 (fun _ => true) true Try.f3.params.toList args.toList ds p := hA0
  rw [Try.params3] at hA hval
  obtain ⟨v0, vs0, d0, ds0, p0, q0, hargs, rfl, rfl, h0, r0⟩ := trodAll_cons hA
  obtain ⟨v1, vs1, d1, ds1, p1, q1, rfl, rfl, rfl, h1, r1⟩ := trodAll_cons r0
  obtain ⟨rfl, rfl, rfl⟩ := trodAll_nil r1
  obtain rfl : args = #[v0, v1] := by cases args; simp_all
  obtain ⟨rfl, rfl⟩ := trodVars_none hV
  obtain ⟨m, rfl, rfl, rfl, wm⟩ := open_int Try.underlying3 (hval 0 3 v0 rfl rfl) h0
  obtain ⟨fuel, hf⟩ := h1
  obtain ⟨v, hv, dd, hdd⟩ := open_deeds hf
  obtain ⟨a, c, hlv, hl, hm⟩ := hdd.choose_spec.1.slice
  subst hlv
  obtain rfl : v1 = .slice a dd.length c := by
    obtain ⟨a1, n1, c1, rfl⟩ := okWide_slice Try.underlying22 (hval 1 22 v1 rfl rfl)
    simpa [Value.cells] using hv
  have fin : ∀ W', Chg W W' (fun _ => False) → Rows.pairingPlaysSpec.post enc Try.prog Try.f3 false true false false W #[.int .i64 m, .slice a dd.length c] (.bool true) W' := fun W' hc =>
    law_post laidOut (by kernel_rfl) rfl (by kernel_rfl) Try.underlying4 hW' rfl (hc.below (Nat.le_refl _) (fun _ _ h => h))
  by_cases hb : m < 1 ∨ 64 < m
  · exact (plays_bad m _ W hb).mono fun e W' ⟨he, hc⟩ => ⟨_, he, fin W' hc⟩
  · exact (plays_good m _ dd W hdd (by omega) (by omega) ⟨a, c, rfl, hl, hm⟩).mono fun e W' ⟨he, hc⟩ => ⟨_, he, fin W' hc⟩

set_option maxRecDepth 100000 in
theorem lifted (os : Os) (started : os.Started) (H : Type) (enc : TypeId × Value → H) :
    ReturnsInHanded {} Try.checked os 3 .any (Rows.pairingPlaysSpec.pre6 enc Try.prog Try.f3 Rows.pairingPlaysRow.domain false) (Rows.pairingPlaysSpec.post enc Try.prog Try.f3 false true false false) := by
  refine returnsInHanded_of_change (C := Try.checked) own started (by kernel_rfl) Try.func3
    (ChangeSpec.witness6 (enc := enc) (C := Try.checked) false ⟨#[], #[.int .i64 0, .slice none 0 0], []⟩ 8 (by kernel_rfl) (by kernel_rfl) (by kernel_rfl) (by kernel_rfl)) ?_
  intro W base args ds gs before hval hW _ _
  exact contract H enc W base args ds gs before hval hW

theorem proved : Rows.PairingPlaysSaid :=
  OpenClaim.holds_of_wide 3 Try.f3 rfl rfl rfl rfl rfl rfl rfl ⟨rfl, rfl, rfl, rfl, rfl⟩ rfl rfl rfl rfl rfl (by kernel_rfl) Try.func3 (by kernel_rfl)
    (of_decide_eq_true (by kernel_rfl)) (by unfold Func.isWrapper; first | (rw [if_pos (by decide +kernel)]; kernel_rfl) | (rw [if_neg (by decide +kernel)]; exact ⟨rfl, rfl⟩))
    (fun os started H enc _ => lifted os started H enc)
#print axioms proved
end Go.Proofs.Ythncigahodannaa.pairingPlays
