/- From a law over abstract values to the statement's call. No statement of its own. -/
import Derived.Test.YtgaidgblihnldaaGreatDoorCard
import Derived.Test.YtgaidgblihnldaaGreatDoorSa
set_option linter.unusedSimpArgs false
set_option linter.unusedVariables false
namespace Go.Proofs.YtgaidgblihnldaaGreatDoor
open Go.RowKit

def AtR (W : World) (a : AV) (v : Value) : Prop := At W.heap.size (fun _ _ => True) ⟨[], []⟩ (fun _ => 0) (fun _ => ⟨0, 0, 0⟩) W a v
def AtRs (W : World) : List AV → List Value → Prop
  | [], [] => True
  | a :: r, v :: s => AtR W a v ∧ AtRs W r s
  | _, _ => False
theorem AtRs.len {W : World} : ∀ {l : List AV} {vs : List Value}, AtRs W l vs → l.length = vs.length
  | [], [], _ => rfl
  | _ :: _, _ :: _, h => congrArg (· + 1) (AtRs.len h.2)
theorem AtRs.at {W : World} : ∀ {l : List AV} {vs : List Value}, AtRs W l vs → ∀ (j : Nat) a v, l[j]? = some a → vs[j]? = some v → AtR W a v
  | _ :: _, _ :: _, h, 0, _, _, h1, h2 => by cases h1; cases h2; exact h.1
  | _ :: _, _ :: _, h, j + 1, _, _, h1, h2 => AtRs.at h.2 j _ _ h1 h2
theorem APure.root {P : Program} {f : FuncId} {args : List AV} (h : APure P f args (.b true) []) (W : World) (vs : List Value) (hl : ∀ w', Below W.heap.size W w' → LaidW w') (ha : AtRs W args vs) :
    Calls P f vs.toArray W fun e W' => e = .returned (.bool true) ∧ Below W.heap.size W W' := by
  refine (h.2.2 (fun _ _ => True) W vs.toArray hl (by simpa using ha.len) (fun j a v h1 h2 => ha.at j a v h1 (by simpa using h2))).mono ?_
  rintro e w' ⟨v, σ', rfl, hok, hat⟩
  rw [hat.of_lit]
  exact ⟨rfl, hok.below⟩
theorem AtR.lit (W : World) (v : Value) : AtR W (.lit v) v := Rp.lit v
theorem AtR.strs {W : World} {v : Value} {l : List ByteArray} (h : Has W 1 v l.length (l.map Value.string)) : AtR W (.sl .no 1 (strL l)) v := by
  rcases h.is with ⟨h0, a, c, rfl, hc⟩ | ⟨g, o, cap, rfl, h1, h2, h3⟩
  · have : l = [] := List.eq_nil_of_length_eq_zero h0
    subst this
    exact .sl0 1 a c hc
  · have el := strL_len l
    have hk : ∀ (k : Nat) (e : List AV), (strL l)[k]? = some e → ∃ hk : k < l.length, e = [.s l[k]] := fun k e he => by
      have hk := (List.getElem?_eq_some_iff.1 he).1
      rw [el] at hk
      rw [strL_at hk] at he
      exact ⟨hk, (Option.some.inj he).symm⟩
    have := Rp.sl (w := W) (I := Im W.heap.size (fun _ _ => True) ⟨[], []⟩ (fun _ => 0) (fun _ => ⟨0, 0, 0⟩)) (hl := 0) (μ := fun _ => 0) (tk := []) (σ := fun _ => ⟨0, 0, 0⟩) .no 1 (strL l) g o cap (fun k _ => .string (l.getD k ⟨#[]⟩)) (fun k e he => by
      obtain ⟨_, rfl⟩ := hk k e he
      exact ⟨rfl, rfl⟩) (by omega) h2 (fun k e j a he ha => by
      obtain ⟨hkl, rfl⟩ := hk k e he
      have hj : j = 0 := by have := (List.getElem?_eq_some_iff.1 ha).1; simpa using this
      subst hj
      refine ⟨⟨fun _ => trivial, fun p hp => by simp at hp, fun t e ht => by simp at ht⟩, ?_⟩
      have := h3 k (by omega)
      simp only [Nat.mul_one, Nat.add_zero]
      rw [this]
      simp [hkl]) (fun k e j a he ha => by
      obtain ⟨hkl, rfl⟩ := hk k e he
      have hj : j = 0 := by have := (List.getElem?_eq_some_iff.1 ha).1; simpa using this
      subst hj
      cases ha
      have := Rp.lit (w := W) (I := Im W.heap.size (fun _ _ => True) ⟨[], []⟩ (fun _ => 0) (fun _ => ⟨0, 0, 0⟩)) (hl := 0) (μ := fun _ => 0) (tk := []) (σ := fun _ => ⟨0, 0, 0⟩) (.string l[k])
      simpa [hkl] using this) (fun h => by cases h) (fun i e h => by cases h)
    rw [el] at this
    exact this
theorem open_strs_arg {H : Type} {enc : TypeId × Value → H} {P : Program} {W : World} {base b2 : Nat} {spare : Nat → Bool} {held : Bool} {t e : TypeId} {v : Value} {d : DataW H} {p : List MemPlace} (ht : P.underlying t = some (.slice e)) (he : P.underlying e = some .string) (hs : P.cellsOf e = 1)
    (hval : Value.okWide P W .any base t v) (h : DataW.Trod enc P W b2 spare held t v d p) : ∃ l : List ByteArray, Has W 1 v l.length (l.map Value.string) ∧ ∀ s ∈ l, s.size ≤ maxLen := by
  obtain ⟨fuel, hf⟩ := h
  obtain ⟨a1, n1, c1, rfl⟩ := Go.WideShapes.okWide_slice ht hval
  obtain ⟨v, hv, l, hl, hm⟩ := open_strs ht he hs hf
  have : v = .slice a1 n1 c1 := by simpa [Value.cells, eq_comm] using hv
  subst this
  exact ⟨l, hl, hm⟩
end Go.Proofs.YtgaidgblihnldaaGreatDoor
