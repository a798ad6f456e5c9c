/- HopCloses: the law. No statement of its own. -/
import Derived.Test.YtopmflkeohicjaaDoorHp4
set_option maxRecDepth 100000
namespace Go.Proofs.YtopmflkeohicjaaDoor
open Go.RowKit
theorem fldL_at' {l : List Fld} {j : Nat} (h : j < l.length) : (fldL l)[j]? = some [.s l[j].1, .s l[j].2] := fldL_at h
theorem same12_p (l m : List Fld) (h1 : l.length ≤ 1099511627776) (h2 : m.length ≤ 1099511627776) : APure Tryd.prog 48 [.sl .no 2 (fldL l), .sl .no 2 (fldL m)] (.b (decide (l = m))) [] := by
  have el := fldL_len l
  have em := fldL_len m
  refine APure.of rfl (ACalls.of_vc T_ok mixed Tryd.func48 rfl Tryd.call48 ?_)
  refine cnd_split (fun hd => ?_) (fun hd => ?_)
  · have hd : ¬ ((fldL l).length : Int) = (fldL m).length := by simpa using hd
    exact retb (decide_eq_false (fun e => by subst e; omega)).symm
  · have hd : ((fldL l).length : Int) = (fldL m).length := by simpa using hd
    refine vc_loop [5] (fun g vals st' => ∃ k : Nat, k + g = l.length ∧ vals = [.i k] ∧ ∀ j, j < k → l[j]? = m[j]?) l.length rfl ⟨0, by omega, rfl, fun j h => absurd h (by omega)⟩ ?_
    rintro g vals st' ⟨k, hk, rfl, ha⟩
    refine cnd_split (fun hd2 => ?_) (fun hd2 => ?_)
    · have hd2 := of_decide_eq_true hd2
      have k1 : k < l.length := by omega
      have k2 : k < m.length := by omega
      refine .e (by kernel_rfl) ?_
      refine ⟨k, _, rfl, fldL_at k1, ?_⟩
      refine ⟨k, _, rfl, fldL_at k2, ?_⟩
      refine ⟨by kernel_rfl, fun q hq => ?_⟩
      have hq : q = true ↔ l[k].1 = m[k].1 ∧ l[k].2 = m[k].2 ∧ True := hq
      cases q with
      | false =>
        refine retb (decide_eq_false (fun e => ?_)).symm
        subst e
        have := hq.2 ⟨rfl, rfl, trivial⟩
        cases this
      | true =>
        obtain ⟨e1, e2, _⟩ := hq.1 rfl
        intro c hc
        rw [IntWalk.i64_in _ (by omega)] at hc
        obtain rfl : c = ((k + 1 : Nat) : Int) := by omega
        refine ⟨g - 1, by omega, k + 1, by omega, rfl, fun j hj => ?_⟩
        by_cases hjk : j = k
        · subst hjk; rw [List.getElem?_eq_getElem k1, List.getElem?_eq_getElem k2]; exact congrArg some (Prod.ext e1 e2)
        · exact ha j (by omega)
    · have hd2 := of_decide_eq_false hd2
      refine retb (decide_eq_true (List.ext_getElem? fun j => ?_)).symm
      by_cases hj : j < k
      · exact ha j hj
      · rw [List.getElem?_eq_none (by omega), List.getElem?_eq_none (by omega)]
def exH : List Fld := [(⟨#[67, 111, 110, 110, 101, 99, 116, 105, 111, 110]⟩, ⟨#[99, 108, 111, 115, 101, 44, 32, 88, 45, 65]⟩), (⟨#[88, 45, 97]⟩, ⟨#[49]⟩), (⟨#[66]⟩, ⟨#[50]⟩)]
theorem exH_ok : FldOk exH := ⟨by decide, by decide⟩
theorem exH_strip : stripW exH = exH.drop 2 := by decide +kernel
theorem exH_close : closeW exH 1 = true := by decide +kernel
theorem awake24_p : APure Tryd.prog 41 [] (.b true) [] := by
  have p1 := strip_w exH exH_ok
  rw [exH_strip] at p1
  have p2 := same12_p (exH.drop 2) (exH.drop 2) (by decide) (by decide)
  rw [decide_eq_true rfl] at p2
  have p3 := close_p 0 0 1 .empty .empty .empty exH exH_ok
  rw [exH_close] at p3
  refine APure.of rfl (ACalls.of_vc T_ok mixed Tryd.func41 rfl Tryd.call41 ?_)
  refine .x (by kernel_rfl) ?_
  refine .p rfl p1 ?_
  refine ⟨2, rfl, by decide, Nat.le_refl _, ?_⟩
  refine .p rfl p2 ?_
  refine .w rfl (hdW1 exH (.inl ⟨rfl, rfl⟩)) p3 ?_
  rfl
theorem hopCloses_p (k c mi : Int) (m t r : ByteArray) (l : List Fld) : APure Tryd.prog 9 [hdA k c mi m t r (.sl .no 2 (fldL l))] (.b true) [] := by
  have hok := FldOk.few l
  have a1 := close_p k c mi (cut400 m) (cut400 t) (cut400 r) (fewF l) hok
  have a2 := close24_p k c mi (cut400 m) (cut400 t) (cut400 r) (fewF l) hok
  have fw := few_h k c mi m t r l
  generalize closeW (fewF l) mi = Z at a1 a2
  generalize fewF l = fl at *
  generalize cut400 m = m' at *
  generalize cut400 t = t' at *
  generalize cut400 r = r' at *
  refine APure.of rfl (ACalls.of_vc T_ok mixed Tryd.func9 rfl Tryd.call9 ?_)
  refine .p rfl awake24_p ?_
  refine ⟨_, rfl, ?_⟩
  refine .p rfl fw ?_
  refine ⟨_, rfl, ?_⟩
  refine .x (by kernel_rfl) ?_
  refine ⟨_, rfl, ?_⟩
  refine .p rfl a1 ?_
  refine ⟨_, rfl, ?_⟩
  refine .p rfl a2 ?_
  exact retb (by cases Z <;> rfl)
end Go.Proofs.YtopmflkeohicjaaDoor
