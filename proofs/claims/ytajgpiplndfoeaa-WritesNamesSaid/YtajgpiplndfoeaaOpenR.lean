/- What is read as a slice of parts, or of rules. -/
import Derived.Test.YtajgpiplndfoeaaOpen
import Derived.Test.YtajgpiplndfoeaaFew3
namespace Go.Proofs.Ytajgpiplndfoeaa
open Go.RowKit Go.Deep

theorem flat_of {α : Type} (f : α → List Value) (size : Nat) (Q : α → Prop) : ∀ (n : Nat) (xs : List Value), xs.length = n * size → (∀ i, i < n → ∃ a, (xs.drop (i * size)).take size = f a ∧ Q a) → ∃ l : List α, l.length = n ∧ xs = l.flatMap f ∧ ∀ a ∈ l, Q a
  | 0, xs, hl, _ => ⟨[], rfl, by simpa using hl, by simp⟩
  | n + 1, xs, hl, h => by
    obtain ⟨a, ha, hq⟩ := h 0 (by omega)
    rw [Nat.zero_mul, List.drop_zero] at ha
    obtain ⟨l, h1, h2, h3⟩ := flat_of f size Q n (xs.drop size) (by rw [List.length_drop, hl, Nat.add_mul]; omega) (fun i hi => by
      obtain ⟨b, hb, hqb⟩ := h (i + 1) (by omega)
      refine ⟨b, ?_, hqb⟩
      rw [List.drop_drop, show size + i * size = (i + 1) * size from by rw [Nat.add_mul]; omega]
      exact hb)
    refine ⟨a :: l, by simp [h1], ?_, fun b hb => ?_⟩
    · rw [List.flatMap_cons, ← h2, ← ha, List.take_append_drop]
    · rcases List.mem_cons.1 hb with rfl | hb
      · exact hq
      · exact h3 b hb

theorem cellsPart : Try.prog.cellsOf 54 = 2 := by kernel_rfl
theorem cellsRule : Try.prog.cellsOf 35 = 8 := by kernel_rfl
theorem cellsGuard : Try.prog.cellsOf 31 = 3 := by kernel_rfl
theorem cellsStr : Try.prog.cellsOf 9 = 1 := by kernel_rfl
theorem cellsPk : Try.prog.cellsOf 52 = 1 := by kernel_rfl
theorem cellsGk : Try.prog.cellsOf 29 = 1 := by kernel_rfl
theorem cellsRk : Try.prog.cellsOf 32 = 1 := by kernel_rfl
theorem cellsHk : Try.prog.cellsOf 22 = 1 := by kernel_rfl
theorem cellsPs : Try.prog.cellsOf 33 = 1 := by kernel_rfl

section
variable {H : Type} {enc : TypeId × Value → H} {w : World} {base : Nat} {spare : Nat → Bool} {held : Bool}
theorem open_parts {fuel : Nat} {cs : List Value} {x : DataW H × List MemPlace} (h : DataW.trod enc Try.prog w base spare held fuel 33 cs = some x) :
    ∃ v, cs = [v] ∧ ∃ ps : List (Int × ByteArray), Has w 2 v ps.length (ps.flatMap pcells) ∧ ∀ p ∈ ps, p.2.size ≤ maxLen := by
  obtain ⟨v, n, xs, rfl, hh, hx⟩ := open_has Try.underlying33 cellsPart (by omega) h
  obtain ⟨ps, h1, h2, h3⟩ := flat_of pcells 2 (fun p => p.2.size ≤ maxLen) n xs hh.len (fun i hi => by
    obtain ⟨k, y, hy⟩ := hx i hi
    obtain ⟨ys, m, _, _, hcl, hyl, hf⟩ := DataW.trod_struct Try.underlying54 hy
    rw [cellsPart] at hcl
    generalize (xs.drop (i * 2)).take 2 = c at *
    match c, hcl with
    | [c0, c1], _ =>
      have h0 := hf 0 _ rfl
      have h1 := hf 1 _ rfl
      obtain ⟨y0, hy0⟩ : ∃ y0, ys[0]? = some y0 := ⟨ys[0]'(by rw [hyl]; decide), List.getElem?_eq_getElem _⟩
      obtain ⟨y1, hy1⟩ : ∃ y1, ys[1]? = some y1 := ⟨ys[1]'(by rw [hyl]; decide), List.getElem?_eq_getElem _⟩
      rw [hy0] at h0
      rw [hy1] at h1
      obtain ⟨a, ha, _⟩ := DataW.trod_int Try.underlying52 h0
      obtain ⟨s, hs, _, hm⟩ := DataW.trod_string Try.underlying9 h1
      obtain rfl : c0 = .int .i64 a := by simpa [cellsPk] using ha
      obtain rfl : c1 = .string s := by simpa [cellsStr] using hs
      exact ⟨(a, s), rfl, hm⟩)
  subst h2
  rw [← h1] at hh
  exact ⟨v, rfl, ps, hh, h3⟩

theorem open_rules {fuel : Nat} {cs : List Value} {x : DataW H × List MemPlace} (h : DataW.trod enc Try.prog w base spare held fuel 23 cs = some x) :
    ∃ v, cs = [v] ∧ ∃ rs : List Rv, Has w 8 v rs.length (rs.flatMap Rv.cells) ∧ ∀ r ∈ rs, r.Ok w := by
  obtain ⟨v, n, xs, rfl, hh, hx⟩ := open_has Try.underlying23 cellsRule (by omega) h
  obtain ⟨rs, h1, h2, h3⟩ := flat_of Rv.cells 8 (fun r => r.Ok w) n xs hh.len (fun i hi => by
    obtain ⟨k, y, hy⟩ := hx i hi
    obtain ⟨ys, m, _, _, hcl, hyl, hf⟩ := DataW.trod_struct Try.underlying35 hy
    rw [cellsRule] at hcl
    generalize (xs.drop (i * 8)).take 8 = c at *
    match c, hcl with
    | [c0, c1, c2, c3, c4, c5, c6, c7], _ =>
      have g0 := hf 0 _ rfl
      have g1 := hf 1 _ rfl
      have g2 := hf 2 _ rfl
      have g3 := hf 3 _ rfl
      have g4 := hf 4 _ rfl
      have g5 := hf 5 _ rfl
      obtain ⟨y0, hy0⟩ : ∃ y0, ys[0]? = some y0 := ⟨ys[0]'(by rw [hyl]; decide), List.getElem?_eq_getElem _⟩
      obtain ⟨y1, hy1⟩ : ∃ y1, ys[1]? = some y1 := ⟨ys[1]'(by rw [hyl]; decide), List.getElem?_eq_getElem _⟩
      obtain ⟨y2, hy2⟩ : ∃ y2, ys[2]? = some y2 := ⟨ys[2]'(by rw [hyl]; decide), List.getElem?_eq_getElem _⟩
      obtain ⟨y3, hy3⟩ : ∃ y3, ys[3]? = some y3 := ⟨ys[3]'(by rw [hyl]; decide), List.getElem?_eq_getElem _⟩
      obtain ⟨y4, hy4⟩ : ∃ y4, ys[4]? = some y4 := ⟨ys[4]'(by rw [hyl]; decide), List.getElem?_eq_getElem _⟩
      obtain ⟨y5, hy5⟩ : ∃ y5, ys[5]? = some y5 := ⟨ys[5]'(by rw [hyl]; decide), List.getElem?_eq_getElem _⟩
      rw [hy0] at g0
      rw [hy1] at g1
      rw [hy2] at g2
      rw [hy3] at g3
      rw [hy4] at g4
      rw [hy5] at g5
      obtain ⟨a0, e0, _⟩ := DataW.trod_int Try.underlying22 g0
      obtain ⟨zs, m2, _, _, hcl2, hzl, hf2⟩ := DataW.trod_struct Try.underlying31 g1
      obtain ⟨a2, e2, _⟩ := DataW.trod_int Try.underlying32 g2
      obtain ⟨s3, e3, _, hm3⟩ := DataW.trod_string Try.underlying9 g3
      obtain ⟨s4, e4, _, hm4⟩ := DataW.trod_string Try.underlying9 g4
      obtain ⟨u, hu, ps, hp1, hp2⟩ := open_parts g5
      have q0 := hf2 0 _ rfl
      have q1 := hf2 1 _ rfl
      have q2 := hf2 2 _ rfl
      obtain ⟨z0, hz0⟩ : ∃ y0, zs[0]? = some y0 := ⟨zs[0]'(by rw [hzl]; decide), List.getElem?_eq_getElem _⟩
      obtain ⟨z1, hz1⟩ : ∃ y0, zs[1]? = some y0 := ⟨zs[1]'(by rw [hzl]; decide), List.getElem?_eq_getElem _⟩
      obtain ⟨z2, hz2⟩ : ∃ y0, zs[2]? = some y0 := ⟨zs[2]'(by rw [hzl]; decide), List.getElem?_eq_getElem _⟩
      rw [hz0] at q0
      rw [hz1] at q1
      rw [hz2] at q2
      obtain ⟨b0, d0, _⟩ := DataW.trod_int Try.underlying29 q0
      obtain ⟨b1, d1, _, hn1⟩ := DataW.trod_string Try.underlying9 q1
      obtain ⟨b2, d2, _, hn2⟩ := DataW.trod_string Try.underlying9 q2
      obtain rfl : c0 = .int .i64 a0 := by simpa [cellsHk] using e0
      obtain rfl : c1 = .int .i64 b0 := by simpa [cellsGuard, cellsGk] using d0
      obtain rfl : c2 = .string b1 := by simpa [cellsGuard, cellsStr] using d1
      obtain rfl : c3 = .string b2 := by simpa [cellsGuard, cellsStr] using d2
      obtain rfl : c4 = .int .i64 a2 := by simpa [cellsRk] using e2
      obtain rfl : c5 = .string s3 := by simpa [cellsStr] using e3
      obtain rfl : c6 = .string s4 := by simpa [cellsStr] using e4
      obtain rfl : c7 = u := by simpa [cellsPs] using hu
      exact ⟨⟨a0, b0, b1, b2, a2, s3, s4, c7⟩, rfl, hm3, hm4, hn1, hn2, ps, hp1, hp2⟩)
  subst h2
  rw [← h1] at hh
  exact ⟨v, rfl, rs, hh, h3⟩
end
end Go.Proofs.Ytajgpiplndfoeaa
