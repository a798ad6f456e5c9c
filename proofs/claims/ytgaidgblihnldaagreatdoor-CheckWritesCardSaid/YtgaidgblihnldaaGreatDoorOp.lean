/- What is read as data of a type, as an abstract value: for any type made of numbers, texts, rows and structs. No statement of its own. -/
import Derived.Test.YtgaidgblihnldaaGreatDoorRoot
set_option linter.unusedSimpArgs false
set_option linter.unusedVariables false
set_option maxRecDepth 100000
namespace Go.Proofs.YtgaidgblihnldaaGreatDoor
open Go.RowKit Go.Deep
structure Opens (P : Program) (W : World) (t : TypeId) (n : Nat) {α : Type} (f : α → List AV) (Q : α → Prop) : Prop where
  op : ∀ {H : Type} {enc : TypeId × Value → H} {base : Nat} {spare : Nat → Bool} {held : Bool} {fuel : Nat} {cs : List Value} {x : DataW H × List MemPlace}, DataW.trod enc P W base spare held fuel t cs = some x →
    ∃ a : α, Q a ∧ (f a).length = n ∧ cs.length = n ∧ ∀ (j : Nat) c u, (f a)[j]? = some c → cs[j]? = some u → AtR W c u ∧ c.flat = true
structure OpensF (P : Program) (W : World) (fs : List Go.Field) (off n : Nat) {α : Type} (f : α → List AV) (Q : α → Prop) : Prop where
  op : ∀ {H : Type} {enc : TypeId × Value → H} {base : Nat} {spare : Nat → Bool} {held : Bool} {fuel : Nat} {cs : List Value} {xs : List (DataW H × List MemPlace)}, xs.length = fs.length → cs.length = off + n →
    (∀ (i : Nat) (fd : Go.Field), fs[i]? = some fd → DataW.trod enc P W base spare held fuel fd.type ((cs.drop fd.offset).take (P.cellsOf fd.type)) = xs[i]?) →
    ∃ a : α, Q a ∧ (f a).length = n ∧ ∀ (j : Nat) c u, (f a)[j]? = some c → cs[off + j]? = some u → AtR W c u ∧ c.flat = true
section
variable {P : Program} {W : World} {t e : TypeId} {n m off : Nat} {α β : Type}
theorem Opens.int {k : IntKind} (ht : P.underlying t = some (.int k)) : Opens P W t 1 (fun z : Int => [AV.int k z]) (fun z => (Lit.int k z).wf = true) := by
  refine ⟨?_⟩
  intro H enc base spare held fuel cs x h
  obtain ⟨z, rfl, _, hw⟩ := DataW.trod_int ht h
  refine ⟨z, hw, rfl, rfl, fun j c u h1 h2 => ?_⟩
  cases j with
  | zero => simp at h1 h2; subst h1; subst h2; exact ⟨.lit _ _, rfl⟩
  | succ j => simp at h1
theorem Opens.str (ht : P.underlying t = some .string) : Opens P W t 1 (fun s : ByteArray => [AV.s s]) (fun s => s.size ≤ maxLen) := by
  refine ⟨?_⟩
  intro H enc base spare held fuel cs x h
  obtain ⟨s, rfl, _, hm⟩ := DataW.trod_string ht h
  refine ⟨s, hm, rfl, rfl, fun j c u h1 h2 => ?_⟩
  cases j with
  | zero => simp at h1 h2; subst h1; subst h2; exact ⟨.lit _ _, rfl⟩
  | succ j => simp at h1
theorem Opens.bool (ht : P.underlying t = some .bool) : Opens P W t 1 (fun b : Bool => [AV.b b]) (fun _ => True) := by
  refine ⟨?_⟩
  intro H enc base spare held fuel cs x h
  obtain ⟨b, rfl, _⟩ := DataW.trod_bool ht h
  refine ⟨b, trivial, rfl, rfl, fun j c u h1 h2 => ?_⟩
  cases j with
  | zero => simp at h1 h2; subst h1; subst h2; exact ⟨.lit _ _, rfl⟩
  | succ j => simp at h1
theorem Opens.map {f : α → List AV} {Q : α → Prop} (h : Opens P W t n f Q) (g : α → β) {f' : β → List AV} {Q' : β → Prop} (hf : ∀ a, f a = f' (g a)) (hQ : ∀ a, Q a → Q' (g a)) : Opens P W t n f' Q' := by
  refine ⟨?_⟩
  intro H enc base spare held fuel cs x hx
  obtain ⟨a, h1, h2, h3, h4⟩ := h.op hx
  exact ⟨g a, hQ a h1, by rw [← hf]; exact h2, h3, fun j c u hc => h4 j c u (by rw [hf]; exact hc)⟩
theorem OpensF.nil : OpensF P W [] off 0 (fun _ : Unit => []) (fun _ => True) := by
  refine ⟨?_⟩
  intro H enc base spare held fuel cs xs _ _ _
  exact ⟨(), trivial, rfl, fun j c u h => by simp at h⟩
theorem OpensF.cons {fd : Go.Field} {fs : List Go.Field} {f : α → List AV} {g : β → List AV} {Q : α → Prop} {R : β → Prop} (h1 : Opens P W fd.type n f Q) (ho : fd.offset = off) (hc : P.cellsOf fd.type = n) (h2 : OpensF P W fs (off + n) m g R) :
    OpensF P W (fd :: fs) off (n + m) (fun p : α × β => f p.1 ++ g p.2) (fun p => Q p.1 ∧ R p.2) := by
  refine ⟨?_⟩
  intro H enc base spare held fuel cs xs hl hcl hx
  cases xs with
  | nil => simp at hl
  | cons y ys =>
    have h0 := hx 0 fd rfl
    rw [ho, hc] at h0
    obtain ⟨a, qa, la, _, fa⟩ := h1.op (x := y) h0
    obtain ⟨b, qb, lb, fb⟩ := h2.op (cs := cs) (xs := ys) (by simpa using hl) (by omega) (fun i fd' hi => by simpa using hx (i + 1) fd' (by simpa using hi))
    refine ⟨(a, b), ⟨qa, qb⟩, by rw [List.length_append, la, lb], fun j c u h1 h2 => ?_⟩
    have h1 : (f a ++ g b)[j]? = some c := h1
    by_cases hj : j < n
    · rw [List.getElem?_append_left (by omega)] at h1
      refine fa j c u h1 ?_
      rw [List.getElem?_take, if_pos hj, List.getElem?_drop]
      exact h2
    · rw [List.getElem?_append_right (by omega), la] at h1
      refine fb (j - n) c u h1 ?_
      rw [show off + n + (j - n) = off + j by omega]
      exact h2
theorem Opens.struct {fs : Array Go.Field} {f : α → List AV} {Q : α → Prop} (ht : P.underlying t = some (.struct fs)) (hn : P.cellsOf t = n) (h : OpensF P W fs.toList 0 n f Q) : Opens P W t n f Q := by
  refine ⟨?_⟩
  intro H enc base spare held fuel cs x hx
  obtain ⟨xs, m, _, _, hcl, hxl, hf⟩ := DataW.trod_struct ht hx
  obtain ⟨a, h1, h2, h3⟩ := h.op (cs := cs) (xs := xs) (by simpa using hxl) (by omega) (fun i fd hi => hf i fd (by simpa using hi))
  exact ⟨a, h1, h2, by omega, fun j c u hc hu => h3 j c u hc (by rw [Nat.zero_add]; exact hu)⟩
theorem Opens.slice [Inhabited α] {f : α → List AV} {Q : α → Prop} (ht : P.underlying t = some (.slice e)) (hc : P.cellsOf e = n) (h0 : 0 < n) (h : Opens P W e n f Q) : Opens P W t 1 (fun l : List α => [AV.sl .no n (l.map f)]) (fun l => ∀ a ∈ l, Q a) := by
  refine ⟨?_⟩
  intro H enc base spare held fuel cs x hx
  obtain ⟨v, len, xs, rfl, hh, hel⟩ := open_has ht hc h0 hx
  have hone : ∀ i, i < len → ∃ a : α, Q a ∧ (f a).length = n ∧ ((xs.drop (i * n)).take n).length = n ∧ ∀ (j : Nat) c u, (f a)[j]? = some c → ((xs.drop (i * n)).take n)[j]? = some u → AtR W c u ∧ c.flat = true := fun i hi => by
    obtain ⟨k, y, hy⟩ := hel i hi
    exact h.op hy
  obtain ⟨F, hF⟩ := choose_lt hone
  obtain ⟨l, hl⟩ : ∃ l : List α, l = (List.range len).map F := ⟨_, rfl⟩
  have ll : l.length = len := by rw [hl]; simp
  have lat : ∀ k (hk : k < l.length), l[k] = F k := fun k hk => by subst hl; simp
  have hxl := hh.len
  refine ⟨l, fun a ha => ?_, rfl, rfl, fun j c u h1 h2 => ?_⟩
  · obtain ⟨k, hk, rfl⟩ := List.getElem_of_mem ha
    rw [lat k hk]
    exact (hF k (by omega)).1
  · cases j with
    | succ j => simp at h1
    | zero =>
      simp at h1 h2
      subst h1
      subst h2
      refine ⟨?_, rfl⟩
      rcases hh.is with ⟨hz, a, c, rfl, hcm⟩ | ⟨g, o, cap, rfl, q1, q2, q3⟩
      · have : l = [] := List.eq_nil_of_length_eq_zero (by omega)
        subst this
        exact .sl0 n a c hcm
      · have hk : ∀ (k : Nat) (es : List AV), (l.map f)[k]? = some es → ∃ hk : k < len, es = f (F k) := fun k es he => by
          rw [List.getElem?_map, Option.map_eq_some_iff] at he
          obtain ⟨a, ha, rfl⟩ := he
          have hkl := (List.getElem?_eq_some_iff.1 ha).1
          refine ⟨by omega, ?_⟩
          rw [← lat k hkl, (List.getElem?_eq_some_iff.1 ha).2]
        have key : ∀ (k : Nat) (es : List AV) (j : Nat) (a : AV), (l.map f)[k]? = some es → es[j]? = some a → ∃ u, xs[k * n + j]? = some u ∧ AtR W a u ∧ k < len ∧ j < n := fun k es j a he ha => by
          obtain ⟨hkl, rfl⟩ := hk k es he
          obtain ⟨_, f2, f3, f4⟩ := hF k hkl
          have hj := (List.getElem?_eq_some_iff.1 ha).1
          have hj2 : j < ((xs.drop (k * n)).take n).length := by omega
          obtain ⟨h5, _⟩ := f4 j a _ ha (List.getElem?_eq_getElem hj2)
          refine ⟨_, ?_, h5, hkl, by omega⟩
          have := List.getElem?_eq_getElem hj2
          rw [List.getElem?_take, if_pos (by omega), List.getElem?_drop] at this
          exact this
        have := Rp.sl (w := W) (I := Im W.heap.size (fun _ _ => True) ⟨[], []⟩ (fun _ => 0) (fun _ => ⟨0, 0, 0⟩)) (hl := 0) (μ := fun _ => 0) (tk := []) (σ := fun _ => ⟨0, 0, 0⟩) .no n (l.map f) g o cap (fun k j => xs.getD (k * n + j) undef) (fun k es he => by
          obtain ⟨hkl, rfl⟩ := hk k es he
          obtain ⟨_, f2, f3, f4⟩ := hF k hkl
          refine ⟨f2, List.all_eq_true.2 fun a ha => ?_⟩
          obtain ⟨j, hj, rfl⟩ := List.getElem_of_mem ha
          exact (f4 j _ _ (List.getElem?_eq_getElem hj) (List.getElem?_eq_getElem (by omega))).2) (by rw [List.length_map]; omega) q2 (fun k es j a he ha => by
          obtain ⟨u, z1, z2, z3, z4⟩ := key k es j a he ha
          refine ⟨⟨fun _ => trivial, fun p hp => by simp at hp, fun t e ht => by simp at ht⟩, ?_⟩
          have hlt := lt_mul (sz := n) z3 z4
          have := q3 (k * n + j) (by omega)
          rw [← Nat.add_assoc] at this
          rw [this, List.getD_eq_getElem?_getD, z1]
          rfl) (fun k es j a he ha => by
          obtain ⟨u, z1, z2, z3, z4⟩ := key k es j a he ha
          rw [List.getD_eq_getElem?_getD, z1]
          exact z2) (fun h => by cases h) (fun i e h => by cases h)
        rw [List.length_map, ll] at this
        exact this
/-- an argument that is one cell -/
theorem Opens.cell {H : Type} {enc : TypeId × Value → H} {b2 : Nat} {spare : Nat → Bool} {held : Bool} {v : Value} {d : DataW H} {p : List MemPlace} {f : α → AV} {Q : α → Prop} (h : Opens P W t 1 (fun a => [f a]) Q) (hv : v.cells = #[v]) (hx : DataW.Trod enc P W b2 spare held t v d p) : ∃ a, AtR W (f a) v ∧ Q a := by
  obtain ⟨fuel, hf⟩ := hx
  obtain ⟨a, h1, _, _, h4⟩ := h.op hf
  exact ⟨a, (h4 0 _ v rfl (by rw [hv]; rfl)).1, h1⟩
/-- an argument that is a row -/
theorem Opens.row {H : Type} {enc : TypeId × Value → H} {b2 base : Nat} {spare : Nat → Bool} {held : Bool} {v : Value} {d : DataW H} {p : List MemPlace} {f : α → AV} {Q : α → Prop} (ht : P.underlying t = some (.slice e)) (h : Opens P W t 1 (fun a => [f a]) Q) (hval : Value.okWide P W .any base t v) (hx : DataW.Trod enc P W b2 spare held t v d p) : ∃ a, AtR W (f a) v ∧ Q a := by
  obtain ⟨a1, n1, c1, rfl⟩ := Go.WideShapes.okWide_slice ht hval
  exact h.cell rfl hx
/-- an argument that is a struct -/
theorem Opens.agg {H : Type} {enc : TypeId × Value → H} {b2 : Nat} {spare : Nat → Bool} {held : Bool} {us : Array Value} {d : DataW H} {p : List MemPlace} {f : α → List AV} {Q : α → Prop} (h : Opens P W t n f Q) (hx : DataW.Trod enc P W b2 spare held t (.agg us) d p) : ∃ a, AtR W (.agg (f a)) (.agg us) ∧ Q a := by
  obtain ⟨fuel, hf⟩ := hx
  obtain ⟨a, h1, h2, h3, h4⟩ := h.op hf
  have hus : (Value.agg us).cells.toList = us.toList := rfl
  rw [hus] at h3 h4
  refine ⟨a, .agg _ us (by rw [h2]; simpa using h3.symm) fun j c u hc hu => (h4 j c u hc (by simpa using hu)).1, h1⟩
end
end Go.Proofs.YtgaidgblihnldaaGreatDoor
