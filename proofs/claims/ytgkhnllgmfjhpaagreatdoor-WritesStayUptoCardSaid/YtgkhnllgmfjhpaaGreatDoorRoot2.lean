/- Messages as arguments: what is read as a head, or as a row of fields. No statement of its own. -/
import Derived.Test.YtgkhnllgmfjhpaaGreatDoorRoot
import Derived.Test.YtgkhnllgmfjhpaaGreatDoorMs
set_option linter.unusedSimpArgs false
set_option linter.unusedVariables false
set_option maxRecDepth 100000
namespace Go.Proofs.YtgkhnllgmfjhpaaGreatDoor
open Go.RowKit Go.Deep

theorem flat_of {α : Type} (f : α → List Value) (size : Nat) (Q : α → Prop) : ∀ (n : Nat) (xs : List Value), xs.length = n * size → (∀ i, i < n → ∃ a, (xs.drop (i * size)).take size = f a ∧ Q a) → ∃ l : List α, l.length = n ∧ xs = l.flatMap f ∧ ∀ a ∈ l, Q a
  | 0, xs, hl, _ => ⟨[], rfl, by simpa using hl, by simp⟩
  | n + 1, xs, hl, h => by
    obtain ⟨a, ha, hq⟩ := h 0 (by omega)
    rw [Nat.zero_mul, List.drop_zero] at ha
    obtain ⟨l, h1, h2, h3⟩ := flat_of f size Q n (xs.drop size) (by rw [List.length_drop, hl, Nat.add_mul]; omega) (fun i hi => by
      obtain ⟨b, hb, hqb⟩ := h (i + 1) (by omega)
      refine ⟨b, ?_, hqb⟩
      rw [List.drop_drop, show size + i * size = (i + 1) * size from by rw [Nat.add_mul]; omega]
      exact hb)
    refine ⟨a :: l, by simp [h1], ?_, fun b hb => ?_⟩
    · rw [List.flatMap_cons, ← h2, ← ha, List.take_append_drop]
    · rcases List.mem_cons.1 hb with rfl | hb
      · exact hq
      · exact h3 b hb
def fcells (f : Fld) : List Value := [.string f.1, .string f.2]
theorem fcells_at : ∀ (l : List Fld) (k j : Nat) (h : k < l.length), j < 2 → (l.flatMap fcells)[k * 2 + j]? = (fcells l[k])[j]?
  | f :: r, 0, j, _, hj => by
    rw [List.flatMap_cons, Nat.zero_mul, Nat.zero_add, List.getElem?_append_left (by simpa [fcells] using hj)]
    rfl
  | f :: r, k + 1, j, h, hj => by
    rw [List.flatMap_cons, List.getElem?_append_right (by simp [fcells]; omega), show (k + 1) * 2 + j - (fcells f).length = k * 2 + j by simp [fcells]; omega]
    exact fcells_at r k j (by simpa using h) hj
theorem AtR.flds {W : World} {v : Value} {l : List Fld} (h : Has W 2 v l.length (l.flatMap fcells)) : AtR W (.sl .no 2 (fldL l)) v := by
  rcases h.is with ⟨h0, a, c, rfl, hc⟩ | ⟨g, o, cap, rfl, h1, h2, h3⟩
  · have : l = [] := List.eq_nil_of_length_eq_zero h0
    subst this
    exact .sl0 2 a c hc
  · have el := fldL_len l
    have hk : ∀ (k : Nat) (e : List AV), (fldL l)[k]? = some e → ∃ hk : k < l.length, e = [.s l[k].1, .s l[k].2] := fun k e he => by
      have hk := (List.getElem?_eq_some_iff.1 he).1
      rw [el] at hk
      rw [fldL_at hk] at he
      exact ⟨hk, (Option.some.inj he).symm⟩
    have key : ∀ (k : Nat) (e : List AV) (j : Nat) (a : AV), (fldL l)[k]? = some e → e[j]? = some a → ∃ (hk : k < l.length) (u : Value), j < 2 ∧ (fcells l[k])[j]? = some u ∧ a = .lit u := fun k e j a he ha => by
      obtain ⟨hkl, rfl⟩ := hk k e he
      have hj := (List.getElem?_eq_some_iff.1 ha).1
      match j, hj with
      | 0, _ => cases ha; exact ⟨hkl, _, by omega, rfl, rfl⟩
      | 1, _ => cases ha; exact ⟨hkl, _, by omega, rfl, rfl⟩
    have := Rp.sl (w := W) (I := Im W.heap.size (fun _ _ => True) ⟨[], []⟩ (fun _ => 0) (fun _ => ⟨0, 0, 0⟩)) (hl := 0) (μ := fun _ => 0) (tk := []) (σ := fun _ => ⟨0, 0, 0⟩) .no 2 (fldL l) g o cap (fun k j => (l.flatMap fcells).getD (k * 2 + j) undef) (fun k e he => by
      obtain ⟨_, rfl⟩ := hk k e he
      exact ⟨rfl, rfl⟩) (by omega) h2 (fun k e j a he ha => by
      obtain ⟨hkl, u, hj, hu, rfl⟩ := key k e j a he ha
      have hat := fcells_at l k j hkl hj
      rw [hu] at hat
      refine ⟨⟨fun _ => trivial, fun p hp => by simp at hp, fun t e ht => by simp at ht⟩, ?_⟩
      have := h3 (k * 2 + j) (by omega)
      rw [← Nat.add_assoc] at this
      rw [this, List.getD_eq_getElem?_getD, hat]
      rfl) (fun k e j a he ha => by
      obtain ⟨hkl, u, hj, hu, rfl⟩ := key k e j a he ha
      have hat := fcells_at l k j hkl hj
      rw [hu] at hat
      rw [List.getD_eq_getElem?_getD, hat]
      exact .lit u) (fun h => by cases h) (fun i e h => by cases h)
    rw [el] at this
    exact this
theorem cellsFld : Tryz.prog.cellsOf 48 = 2 := by kernel_rfl
theorem cellsHead : Tryz.prog.cellsOf 25 = 7 := by kernel_rfl
theorem cellsStr : Tryz.prog.cellsOf 9 = 1 := by kernel_rfl
theorem cellsHk : Tryz.prog.cellsOf 22 = 1 := by kernel_rfl
theorem cellsInt : Tryz.prog.cellsOf 3 = 1 := by kernel_rfl
theorem cellsFs : Tryz.prog.cellsOf 23 = 1 := by kernel_rfl

section
variable {H : Type} {enc : TypeId × Value → H} {w : World} {base : Nat} {spare : Nat → Bool} {held : Bool}
theorem open_flds {fuel : Nat} {cs : List Value} {x : DataW H × List MemPlace} (h : DataW.trod enc Tryz.prog w base spare held fuel 23 cs = some x) :
    ∃ v, cs = [v] ∧ ∃ l : List Fld, Has w 2 v l.length (l.flatMap fcells) ∧ ∀ p ∈ l, p.1.size ≤ maxLen ∧ p.2.size ≤ maxLen := by
  obtain ⟨v, n, xs, rfl, hh, hx⟩ := open_has Tryz.underlying23 cellsFld (by omega) h
  obtain ⟨l, h1, h2, h3⟩ := flat_of fcells 2 (fun p => p.1.size ≤ maxLen ∧ p.2.size ≤ maxLen) n xs hh.len (fun i hi => by
    obtain ⟨k, y, hy⟩ := hx i hi
    obtain ⟨ys, m, _, _, hcl, hyl, hf⟩ := DataW.trod_struct Tryz.underlying48 hy
    rw [cellsFld] at hcl
    generalize (xs.drop (i * 2)).take 2 = c at *
    match c, hcl with
    | [c0, c1], _ =>
      have h0 := hf 0 _ rfl
      have h1 := hf 1 _ rfl
      obtain ⟨y0, hy0⟩ : ∃ y0, ys[0]? = some y0 := ⟨ys[0]'(by rw [hyl]; decide), List.getElem?_eq_getElem _⟩
      obtain ⟨y1, hy1⟩ : ∃ y1, ys[1]? = some y1 := ⟨ys[1]'(by rw [hyl]; decide), List.getElem?_eq_getElem _⟩
      rw [hy0] at h0
      rw [hy1] at h1
      obtain ⟨a, ha, _, hm0⟩ := DataW.trod_string Tryz.underlying9 h0
      obtain ⟨s, hs, _, hm⟩ := DataW.trod_string Tryz.underlying9 h1
      obtain rfl : c0 = .string a := by simpa [cellsStr] using ha
      obtain rfl : c1 = .string s := by simpa [cellsStr] using hs
      exact ⟨(a, s), rfl, hm0, hm⟩)
  subst h2
  rw [← h1] at hh
  exact ⟨v, rfl, l, hh, h3⟩
theorem open_flds_arg {t0 : DataW H} {v : Value} {p : List MemPlace} (hval : Value.okWide Tryz.prog w .any base 23 v) {b2 : Nat} (h : DataW.Trod enc Tryz.prog w b2 spare held 23 v t0 p) : ∃ l : List Fld, Has w 2 v l.length (l.flatMap fcells) := by
  obtain ⟨fuel, hf⟩ := h
  obtain ⟨a1, n1, c1, rfl⟩ := Go.WideShapes.okWide_slice Tryz.underlying23 hval
  obtain ⟨v, hv, l, hl, _⟩ := open_flds hf
  have : v = .slice a1 n1 c1 := by simpa [Value.cells, eq_comm] using hv
  subst this
  exact ⟨l, hl⟩
/-- a head that is read -/
theorem open_head {t0 : DataW H} {v : Value} {p : List MemPlace} (h : DataW.Trod enc Tryz.prog w base spare held 25 v t0 p) :
    ∃ (k c mi : Int) (m t r : ByteArray) (u : Value) (l : List Fld), v = .agg #[.int .i64 k, .string m, .string t, .int .i64 c, .string r, .int .i64 mi, u] ∧ Has w 2 u l.length (l.flatMap fcells) := by
  obtain ⟨fuel, hf⟩ := h
  obtain ⟨ys, m, _, _, hcl, hyl, hf⟩ := DataW.trod_struct Tryz.underlying25 hf
  rw [cellsHead] at hcl
  have hv : ∃ us, v = .agg us := by
    cases v with
    | agg us => exact ⟨us, rfl⟩
    | _ => simp [Value.cells] at hcl
  obtain ⟨us, rfl⟩ := hv
  obtain ⟨cs⟩ := us
  have hcs : (Value.agg ⟨cs⟩).cells.toList = cs := rfl
  rw [hcs] at hcl hf
  match cs, hcl with
  | [c0, c1, c2, c3, c4, c5, c6], _ =>
    have g0 := hf 0 _ rfl
    have g1 := hf 1 _ rfl
    have g2 := hf 2 _ rfl
    have g3 := hf 3 _ rfl
    have g4 := hf 4 _ rfl
    have g5 := hf 5 _ rfl
    have g6 := hf 6 _ rfl
    obtain ⟨y0, hy0⟩ : ∃ y0, ys[0]? = some y0 := ⟨ys[0]'(by rw [hyl]; decide), List.getElem?_eq_getElem _⟩
    obtain ⟨y1, hy1⟩ : ∃ y1, ys[1]? = some y1 := ⟨ys[1]'(by rw [hyl]; decide), List.getElem?_eq_getElem _⟩
    obtain ⟨y2, hy2⟩ : ∃ y2, ys[2]? = some y2 := ⟨ys[2]'(by rw [hyl]; decide), List.getElem?_eq_getElem _⟩
    obtain ⟨y3, hy3⟩ : ∃ y3, ys[3]? = some y3 := ⟨ys[3]'(by rw [hyl]; decide), List.getElem?_eq_getElem _⟩
    obtain ⟨y4, hy4⟩ : ∃ y4, ys[4]? = some y4 := ⟨ys[4]'(by rw [hyl]; decide), List.getElem?_eq_getElem _⟩
    obtain ⟨y5, hy5⟩ : ∃ y5, ys[5]? = some y5 := ⟨ys[5]'(by rw [hyl]; decide), List.getElem?_eq_getElem _⟩
    obtain ⟨y6, hy6⟩ : ∃ y6, ys[6]? = some y6 := ⟨ys[6]'(by rw [hyl]; decide), List.getElem?_eq_getElem _⟩
    rw [hy0] at g0
    rw [hy1] at g1
    rw [hy2] at g2
    rw [hy3] at g3
    rw [hy4] at g4
    rw [hy5] at g5
    rw [hy6] at g6
    obtain ⟨a0, e0, _⟩ := DataW.trod_int Tryz.underlying22 g0
    obtain ⟨s1, e1, _⟩ := DataW.trod_string Tryz.underlying9 g1
    obtain ⟨s2, e2, _⟩ := DataW.trod_string Tryz.underlying9 g2
    obtain ⟨a3, e3, _⟩ := DataW.trod_int Tryz.underlying3 g3
    obtain ⟨s4, e4, _⟩ := DataW.trod_string Tryz.underlying9 g4
    obtain ⟨a5, e5, _⟩ := DataW.trod_int Tryz.underlying3 g5
    obtain ⟨u, hu, l, hl, _⟩ := open_flds g6
    obtain rfl : c0 = .int .i64 a0 := by simpa [cellsHk] using e0
    obtain rfl : c1 = .string s1 := by simpa [cellsStr] using e1
    obtain rfl : c2 = .string s2 := by simpa [cellsStr] using e2
    obtain rfl : c3 = .int .i64 a3 := by simpa [cellsInt] using e3
    obtain rfl : c4 = .string s4 := by simpa [cellsStr] using e4
    obtain rfl : c5 = .int .i64 a5 := by simpa [cellsInt] using e5
    obtain rfl : c6 = u := by simpa [cellsFs] using hu
    exact ⟨a0, a3, a5, s1, s2, s4, c6, l, rfl, hl⟩
theorem AtR.head {k c mi : Int} {m t r : ByteArray} {u : Value} {l : List Fld} (h : Has w 2 u l.length (l.flatMap fcells)) : AtR w (.agg [.i k, .s m, .s t, .i c, .s r, .i mi, .sl .no 2 (fldL l)]) (.agg #[.int .i64 k, .string m, .string t, .int .i64 c, .string r, .int .i64 mi, u]) := by
  refine .agg _ _ rfl fun j a x ha hx => ?_
  have hj := (List.getElem?_eq_some_iff.1 ha).1
  match j, hj with
  | 0, _ => cases ha; cases hx; exact .lit _
  | 1, _ => cases ha; cases hx; exact .lit _
  | 2, _ => cases ha; cases hx; exact .lit _
  | 3, _ => cases ha; cases hx; exact .lit _
  | 4, _ => cases ha; cases hx; exact .lit _
  | 5, _ => cases ha; cases hx; exact .lit _
  | 6, _ => cases ha; cases hx; exact AtR.flds h
end
end Go.Proofs.YtgkhnllgmfjhpaaGreatDoor
