/- What is read as data of a type, as an abstract value that is no greater than what was read (bulk). No statement of its own. -/
import Derived.Test.YtgkhnllgmfjhpaaGreatDoorOp
import Derived.Test.YtgkhnllgmfjhpaaGreatDoorMs
set_option linter.unusedSimpArgs false
set_option linter.unusedVariables false
set_option maxRecDepth 100000
namespace Go.Proofs.YtgkhnllgmfjhpaaGreatDoor
open Go.RowKit Go.Deep

section
variable {H : Type} {enc : TypeId × Value → H} {P : Program} {w : World} {base : Nat} {spare : Nat → Bool} {held : Bool}
theorem open_hasD {t e : TypeId} {fuel size : Nat} {cs : List Value} {x : DataW H × List MemPlace} (ht : P.underlying t = some (.slice e)) (hs : P.cellsOf e = size) (hp : 0 < size)
    (h : DataW.trod enc P w base spare held fuel t cs = some x) :
    ∃ v n xs, cs = [v] ∧ Has w size v n xs ∧ ∃ (D : Nat → DataW H), (n = 0 ∨ ∃ rest, x.1 = .slice ((List.range n).map D) rest) ∧ ∀ i, i < n → ∃ k pl, DataW.trod enc P w base spare held k e ((xs.drop (i * size)).take size) = some (D i, pl) := by
  rcases open_slice ht h with ⟨rfl, _⟩ | ⟨a, len, cap, m, k, D, Pl, rfl, _, hl, hm, hmm, hxe, hx⟩
  · exact ⟨_, 0, [], rfl, Has.nil _ _, fun _ => .nil, .inl rfl, fun i hi => absurd hi (by omega)⟩
  have hlm : len ≤ m := by rw [hmm]; split <;> omega
  obtain ⟨f, hf⟩ := choose_lt (α := List Value) (p := fun i c => w.cells? base (a.add (i * size)) size = some c ∧ DataW.trod enc P w base spare held k e c = some (D i, Pl i)) (n := len) (fun i hi => by
    obtain ⟨c, h1, h2⟩ := hx i (by omega)
    rw [hs] at h1
    exact ⟨c, h1, h2⟩)
  have hlen : ∀ i, i < len → (f i).length = size := fun i hi => (World.cells?_some (hf i hi).1).2.1
  have hflat : ∀ n, n ≤ len → ((List.range n).flatMap f).length = n * size := by
    intro n
    induction n with
    | zero => intro _; simp
    | succ n ih => intro hn; rw [List.range_succ, List.flatMap_append, List.length_append, ih (by omega)]; simp [hlen n (by omega), Nat.add_mul]
  have hsplit : ∀ i, i < len → ∃ pre post, (List.range len).flatMap f = pre ++ f i ++ post ∧ pre.length = i * size := by
    intro i hi
    refine ⟨(List.range i).flatMap f, ((List.range len).drop (i + 1)).flatMap f, ?_, hflat i (by omega)⟩
    have h := List.drop_eq_getElem_cons (l := List.range len) (i := i) (by simpa using hi)
    rw [List.getElem_range] at h
    have ht : (List.range len).take i = List.range i := by rw [List.take_range, Nat.min_eq_left (by omega)]
    have he : List.range len = List.range i ++ i :: (List.range len).drop (i + 1) := by rw [← h, ← ht, List.take_append_drop]
    conv => lhs; rw [he]
    simp
  have hget : ∀ i, i < len → ∀ j, j < size → ((List.range len).flatMap f)[i * size + j]? = (f i)[j]? := by
    intro i hi j hj
    obtain ⟨pre, post, he, hpl⟩ := hsplit i hi
    rw [he, List.append_assoc, List.getElem?_append_right (by omega), hpl, Nat.add_sub_cancel_left, List.getElem?_append_left (by rw [hlen i hi]; exact hj)]
  refine ⟨_, len, (List.range len).flatMap f, rfl, ⟨hflat len (Nat.le_refl _), ?_⟩, D, .inr ⟨_, by rw [hxe]⟩, fun i hi => ⟨k, Pl i, ?_⟩⟩
  · by_cases h0 : len = 0
    · subst h0
      exact .inl ⟨rfl, _, _, rfl, hm⟩
    · right
      have hc0 := (World.cells?_some (hf 0 (by omega)).1).2.2 0 hp
      obtain ⟨b, off, spot⟩ := a
      have hspot : spot = none := by
        cases hv : (f 0)[0]? with
        | none => rw [List.getElem?_eq_none_iff, hlen 0 (by omega)] at hv; omega
        | some v => rw [hv] at hc0; simpa [Addr.add] using World.cell?_spot hc0
      subst hspot
      refine ⟨b, off, cap, rfl, hl, hm, fun j hj => ?_⟩
      have hq : j / size < len := Nat.div_lt_of_lt_mul (by rw [Nat.mul_comm]; exact hj)
      have hr : j % size < size := Nat.mod_lt _ hp
      have := (World.cells?_some (hf (j / size) hq).1).2.2 (j % size) hr
      rw [Addr.add_lit, Addr.add_lit, Nat.add_assoc] at this
      have hj' : j / size * size + j % size = j := by rw [Nat.mul_comm]; exact Nat.div_add_mod j size
      rw [hj'] at this
      rw [this, ← hget (j / size) hq (j % size) hr, hj']
  · obtain ⟨pre, post, he, hpl⟩ := hsplit i hi
    rw [he, List.append_assoc, List.drop_left' hpl, List.take_left' (hlen i hi)]
    exact (hf i hi).2

end
theorem bulkAll_map {H : Type} (D : Nat → DataW H) (m : Nat → Nat) : ∀ n, (∀ i, i < n → m i ≤ Rows.uptoBulk (D i)) → ((List.range n).map m).sum ≤ Rows.uptoBulkAll ((List.range n).map D) := by
  have key : ∀ l : List Nat, (∀ i ∈ l, m i ≤ Rows.uptoBulk (D i)) → (l.map m).sum ≤ Rows.uptoBulkAll (l.map D) := by
    intro l
    induction l with
    | nil => intro _; exact Nat.zero_le _
    | cons a r ih =>
      intro h
      have h1 := h a List.mem_cons_self
      have h2 := ih fun i hi => h i (List.mem_cons_of_mem _ hi)
      rw [List.map_cons, List.map_cons, List.sum_cons, Rows.uptoBulkAll]
      omega
  intro n h
  exact key _ fun i hi => h i (List.mem_range.1 hi)
structure OpensB (P : Program) (W : World) (t : TypeId) (n : Nat) {α : Type} (f : α → List AV) (m : α → Nat) : Prop where
  op : ∀ {H : Type} {enc : TypeId × Value → H} {base : Nat} {spare : Nat → Bool} {held : Bool} {fuel : Nat} {cs : List Value} {x : DataW H × List MemPlace}, DataW.trod enc P W base spare held fuel t cs = some x →
    ∃ a : α, m a ≤ Rows.uptoBulk x.1 ∧ (f a).length = n ∧ cs.length = n ∧ ∀ (j : Nat) c u, (f a)[j]? = some c → cs[j]? = some u → AtR W c u ∧ c.flat = true
structure OpensBF (P : Program) (W : World) (fs : List Go.Field) (off n : Nat) {α : Type} (f : α → List AV) (m : α → Nat) : Prop where
  op : ∀ {H : Type} {enc : TypeId × Value → H} {base : Nat} {spare : Nat → Bool} {held : Bool} {fuel : Nat} {cs : List Value} {xs : List (DataW H × List MemPlace)}, xs.length = fs.length → cs.length = off + n →
    (∀ (i : Nat) (fd : Go.Field), fs[i]? = some fd → DataW.trod enc P W base spare held fuel fd.type ((cs.drop fd.offset).take (P.cellsOf fd.type)) = xs[i]?) →
    ∃ a : α, m a ≤ Rows.uptoBulkAll (xs.map (·.1)) ∧ (f a).length = n ∧ ∀ (j : Nat) c u, (f a)[j]? = some c → cs[off + j]? = some u → AtR W c u ∧ c.flat = true
section
variable {P : Program} {W : World} {t e : TypeId} {n m off : Nat} {α β : Type}
theorem OpensB.str (ht : P.underlying t = some .string) : OpensB P W t 1 (fun s : ByteArray => [AV.s s]) (fun s => s.size) := by
  refine ⟨?_⟩
  intro H enc base spare held fuel cs x h
  obtain ⟨s, rfl, rfl, hm⟩ := DataW.trod_string ht h
  refine ⟨s, ?_, rfl, rfl, fun j c u h1 h2 => ?_⟩
  · show s.size ≤ Rows.uptoBulk (.lit (.string s.data.toList))
    rw [Rows.uptoBulk, blen]
    omega
  · cases j with
    | zero => simp at h1 h2; subst h1; subst h2; exact ⟨.lit _ _, rfl⟩
    | succ j => simp at h1
theorem OpensB.map {f : α → List AV} {m : α → Nat} (h : OpensB P W t n f m) (g : α → β) {f' : β → List AV} {m' : β → Nat} (hf : ∀ a, f a = f' (g a)) (hm : ∀ a, m' (g a) ≤ m a) : OpensB P W t n f' m' := by
  refine ⟨?_⟩
  intro H enc base spare held fuel cs x hx
  obtain ⟨a, h1, h2, h3, h4⟩ := h.op hx
  exact ⟨g a, Nat.le_trans (hm a) h1, by rw [← hf]; exact h2, h3, fun j c u hc => h4 j c u (by rw [hf]; exact hc)⟩
theorem OpensBF.nil : OpensBF P W [] off 0 (fun _ : Unit => []) (fun _ => 0) := by
  refine ⟨?_⟩
  intro H enc base spare held fuel cs xs _ _ _
  exact ⟨(), Nat.zero_le _, rfl, fun j c u h => by simp at h⟩
theorem OpensBF.cons {fd : Go.Field} {fs : List Go.Field} {f : α → List AV} {g : β → List AV} {q : α → Nat} {r : β → Nat} (h1 : OpensB P W fd.type n f q) (ho : fd.offset = off) (hc : P.cellsOf fd.type = n) (h2 : OpensBF P W fs (off + n) m g r) :
    OpensBF P W (fd :: fs) off (n + m) (fun p : α × β => f p.1 ++ g p.2) (fun p => q p.1 + r p.2) := by
  refine ⟨?_⟩
  intro H enc base spare held fuel cs xs hl hcl hx
  cases xs with
  | nil => simp at hl
  | cons y ys =>
    have h0 := hx 0 fd rfl
    rw [ho, hc] at h0
    obtain ⟨a, qa, la, _, fa⟩ := h1.op (x := y) h0
    obtain ⟨b, qb, lb, fb⟩ := h2.op (cs := cs) (xs := ys) (by simpa using hl) (by omega) (fun i fd' hi => by simpa using hx (i + 1) fd' (by simpa using hi))
    refine ⟨(a, b), ?_, by rw [List.length_append, la, lb], fun j c u h1 h2 => ?_⟩
    · rw [List.map_cons, Rows.uptoBulkAll]
      show q a + r b ≤ _
      omega
    have h1 : (f a ++ g b)[j]? = some c := h1
    by_cases hj : j < n
    · rw [List.getElem?_append_left (by omega)] at h1
      refine fa j c u h1 ?_
      rw [List.getElem?_take, if_pos hj, List.getElem?_drop]
      exact h2
    · rw [List.getElem?_append_right (by omega), la] at h1
      refine fb (j - n) c u h1 ?_
      rw [show off + n + (j - n) = off + j by omega]
      exact h2
theorem OpensB.struct {fs : Array Go.Field} {f : α → List AV} {q : α → Nat} (ht : P.underlying t = some (.struct fs)) (hn : P.cellsOf t = n) (h : OpensBF P W fs.toList 0 n f q) : OpensB P W t n f q := by
  refine ⟨?_⟩
  intro H enc base spare held fuel cs x hx
  obtain ⟨xs, m, _, hxe, hcl, hxl, hf⟩ := DataW.trod_struct ht hx
  obtain ⟨a, h1, h2, h3⟩ := h.op (cs := cs) (xs := xs) (by simpa using hxl) (by omega) (fun i fd hi => hf i fd (by simpa using hi))
  refine ⟨a, ?_, h2, by omega, fun j c u hc hu => h3 j c u hc (by rw [Nat.zero_add]; exact hu)⟩
  rw [hxe]
  show _ ≤ Rows.uptoBulk (.agg _)
  rw [Rows.uptoBulk]
  omega
theorem OpensB.slice [Inhabited α] {f : α → List AV} {q : α → Nat} (ht : P.underlying t = some (.slice e)) (hc : P.cellsOf e = n) (h0 : 0 < n) (h : OpensB P W e n f q) : OpensB P W t 1 (fun l : List α => [AV.sl .no n (l.map f)]) (fun l => (l.map q).sum) := by
  refine ⟨?_⟩
  intro H enc base spare held fuel cs x hx
  obtain ⟨v, len, xs, rfl, hh, D, hxD, hel⟩ := open_hasD ht hc h0 hx
  have hone : ∀ i, i < len → ∃ a : α, q a ≤ Rows.uptoBulk (D i) ∧ (f a).length = n ∧ ((xs.drop (i * n)).take n).length = n ∧ ∀ (j : Nat) c u, (f a)[j]? = some c → ((xs.drop (i * n)).take n)[j]? = some u → AtR W c u ∧ c.flat = true := fun i hi => by
    obtain ⟨k, pl, hy⟩ := hel i hi
    exact h.op hy
  obtain ⟨F, hF⟩ := choose_lt hone
  obtain ⟨l, hl⟩ : ∃ l : List α, l = (List.range len).map F := ⟨_, rfl⟩
  have ll : l.length = len := by rw [hl]; simp
  have lat : ∀ k (hk : k < l.length), l[k] = F k := fun k hk => by subst hl; simp
  have hxl := hh.len
  refine ⟨l, ?_, rfl, rfl, fun j c u h1 h2 => ?_⟩
  · show (l.map q).sum ≤ _
    have hb := bulkAll_map D (fun i => q (F i)) len fun i hi => (hF i hi).1
    have hlm : l.map q = (List.range len).map (fun i => q (F i)) := by rw [hl, List.map_map]; rfl
    rw [hlm]
    rcases hxD with rfl | ⟨rest, hr⟩
    · exact Nat.zero_le _
    · rw [hr, Rows.uptoBulk]
      omega
  · cases j with
    | succ j => simp at h1
    | zero =>
      simp at h1 h2
      subst h1
      subst h2
      refine ⟨?_, rfl⟩
      rcases hh.is with ⟨hz, a, c, rfl, hcm⟩ | ⟨g, o, cap, rfl, q1, q2, q3⟩
      · have : l = [] := List.eq_nil_of_length_eq_zero (by omega)
        subst this
        exact .sl0 n a c hcm
      · have hk : ∀ (k : Nat) (es : List AV), (l.map f)[k]? = some es → ∃ hk : k < len, es = f (F k) := fun k es he => by
          rw [List.getElem?_map, Option.map_eq_some_iff] at he
          obtain ⟨a, ha, rfl⟩ := he
          have hkl := (List.getElem?_eq_some_iff.1 ha).1
          refine ⟨by omega, ?_⟩
          rw [← lat k hkl, (List.getElem?_eq_some_iff.1 ha).2]
        have key : ∀ (k : Nat) (es : List AV) (j : Nat) (a : AV), (l.map f)[k]? = some es → es[j]? = some a → ∃ u, xs[k * n + j]? = some u ∧ AtR W a u ∧ k < len ∧ j < n := fun k es j a he ha => by
          obtain ⟨hkl, rfl⟩ := hk k es he
          obtain ⟨_, f2, f3, f4⟩ := hF k hkl
          have hj := (List.getElem?_eq_some_iff.1 ha).1
          have hj2 : j < ((xs.drop (k * n)).take n).length := by omega
          obtain ⟨h5, _⟩ := f4 j a _ ha (List.getElem?_eq_getElem hj2)
          refine ⟨_, ?_, h5, hkl, by omega⟩
          have := List.getElem?_eq_getElem hj2
          rw [List.getElem?_take, if_pos (by omega), List.getElem?_drop] at this
          exact this
        have := Rp.sl (w := W) (I := Im W.heap.size (fun _ _ => True) ⟨[], []⟩ (fun _ => 0) (fun _ => ⟨0, 0, 0⟩)) (hl := 0) (μ := fun _ => 0) (tk := []) (σ := fun _ => ⟨0, 0, 0⟩) .no n (l.map f) g o cap (fun k j => xs.getD (k * n + j) undef) (fun k es he => by
          obtain ⟨hkl, rfl⟩ := hk k es he
          obtain ⟨_, f2, f3, f4⟩ := hF k hkl
          refine ⟨f2, List.all_eq_true.2 fun a ha => ?_⟩
          obtain ⟨j, hj, rfl⟩ := List.getElem_of_mem ha
          exact (f4 j _ _ (List.getElem?_eq_getElem hj) (List.getElem?_eq_getElem (by omega))).2) (by rw [List.length_map]; omega) q2 (fun k es j a he ha => by
          obtain ⟨u, z1, z2, z3, z4⟩ := key k es j a he ha
          refine ⟨⟨fun _ => trivial, fun p hp => by simp at hp, fun t e ht => by simp at ht⟩, ?_⟩
          have hlt := lt_mul (sz := n) z3 z4
          have := q3 (k * n + j) (by omega)
          rw [← Nat.add_assoc] at this
          rw [this, List.getD_eq_getElem?_getD, z1]
          rfl) (fun k es j a he ha => by
          obtain ⟨u, z1, z2, z3, z4⟩ := key k es j a he ha
          rw [List.getD_eq_getElem?_getD, z1]
          exact z2) (fun h => by cases h) (fun i e h => by cases h)
        rw [List.length_map, ll] at this
        exact this

/-- an argument that is a row -/
theorem OpensB.row {H : Type} {enc : TypeId × Value → H} {b2 base : Nat} {spare : Nat → Bool} {held : Bool} {v : Value} {d : DataW H} {p : List MemPlace} {f : α → AV} {q : α → Nat} (ht : P.underlying t = some (.slice e)) (h : OpensB P W t 1 (fun a => [f a]) q) (hval : Value.okWide P W .any base t v) (hx : DataW.Trod enc P W b2 spare held t v d p) : ∃ a, AtR W (f a) v ∧ q a ≤ Rows.uptoBulk d := by
  obtain ⟨a1, n1, c1, rfl⟩ := Go.WideShapes.okWide_slice ht hval
  obtain ⟨fuel, hf⟩ := hx
  obtain ⟨a, h1, _, _, h4⟩ := h.op hf
  exact ⟨a, (h4 0 _ _ rfl rfl).1, h1⟩
end
/-- an argument that is a struct -/
theorem OpensB.agg {P : Program} {W : World} {t : TypeId} {n : Nat} {α : Type} {H : Type} {enc : TypeId × Value → H} {b2 : Nat} {spare : Nat → Bool} {held : Bool} {us : Array Value} {d : DataW H} {p : List MemPlace} {f : α → List AV} {q : α → Nat} (h : OpensB P W t n f q) (hx : DataW.Trod enc P W b2 spare held t (.agg us) d p) : ∃ a, AtR W (.agg (f a)) (.agg us) ∧ q a ≤ Rows.uptoBulk d := by
  obtain ⟨fuel, hf⟩ := hx
  obtain ⟨a, h1, h2, h3, h4⟩ := h.op hf
  have hus : (Value.agg us).cells.toList = us.toList := rfl
  rw [hus] at h3 h4
  exact ⟨a, .agg _ us (by rw [h2]; simpa using h3.symm) fun j c u hc hu => (h4 j c u hc (by simpa using hu)).1, h1⟩
def fldB (f : Fld) : Nat := f.1.size + f.2.size
theorem sumB_mem' {l : List Fld} {f : Fld} (h : f ∈ l) : f.1.size + f.2.size ≤ (l.map fldB).sum := by
  induction l with
  | nil => cases h
  | cons x r ih =>
    rw [List.map_cons, List.sum_cons]
    rcases List.mem_cons.1 h with rfl | h
    · unfold fldB; omega
    · have := ih h; omega
theorem sumB_mem {l : List Fld} {f : Fld} (h : f ∈ l) : f.2.size ≤ (l.map fldB).sum := by
  induction l with
  | nil => cases h
  | cons x r ih =>
    rw [List.map_cons, List.sum_cons]
    rcases List.mem_cons.1 h with rfl | h
    · unfold fldB; omega
    · have := ih h; omega
section
variable {W : World} {H : Type} {enc : TypeId × Value → H} {b2 base : Nat} {spare : Nat → Bool} {held : Bool} {v : Value} {d : DataW H} {p : List MemPlace}
theorem opensB_param (W : World) : OpensB Tryz.prog W 179 2 (fun f : Fld => [AV.s f.1, AV.s f.2]) fldB :=
  (OpensB.struct Tryz.underlying179 (by kernel_rfl) (OpensBF.cons (OpensB.str Tryz.underlying9) rfl (by kernel_rfl) (OpensBF.cons (OpensB.str Tryz.underlying9) rfl (by kernel_rfl) OpensBF.nil))).map (fun p => (p.1, p.2.1)) (fun _ => rfl) (fun _ => Nat.le_refl _)
theorem openB_params (hval : Value.okWide Tryz.prog W .any base 27 v) (hx : DataW.Trod enc Tryz.prog W b2 spare held 27 v d p) : ∃ l : List Fld, AtR W (.sl .no 2 (fldL l)) v ∧ (l.map fldB).sum ≤ Rows.uptoBulk d :=
  OpensB.row Tryz.underlying27 (OpensB.slice Tryz.underlying27 (by kernel_rfl) (by omega) (opensB_param W)) hval hx
theorem opensB_fld (W : World) : OpensB Tryz.prog W 48 2 (fun f : Fld => [AV.s f.1, AV.s f.2]) fldB :=
  (OpensB.struct Tryz.underlying48 (by kernel_rfl) (OpensBF.cons (OpensB.str Tryz.underlying9) rfl (by kernel_rfl) (OpensBF.cons (OpensB.str Tryz.underlying9) rfl (by kernel_rfl) OpensBF.nil))).map (fun p => (p.1, p.2.1)) (fun _ => rfl) (fun _ => Nat.le_refl _)
theorem openB_fields (hval : Value.okWide Tryz.prog W .any base 23 v) (hx : DataW.Trod enc Tryz.prog W b2 spare held 23 v d p) : ∃ l : List Fld, AtR W (.sl .no 2 (fldL l)) v ∧ (l.map fldB).sum ≤ Rows.uptoBulk d :=
  OpensB.row Tryz.underlying23 (OpensB.slice Tryz.underlying23 (by kernel_rfl) (by omega) (opensB_fld W)) hval hx
theorem openB_field (hval : Value.okWide Tryz.prog W .any base 48 v) (hx : DataW.Trod enc Tryz.prog W b2 spare held 48 v d p) : ∃ f : Fld, AtR W (.agg [.s f.1, .s f.2]) v ∧ fldB f ≤ Rows.uptoBulk d := by
  obtain ⟨us, rfl, _⟩ := Go.WideShapes.okWide_struct Tryz.underlying48 hval
  exact OpensB.agg (opensB_fld W) hx
end
end Go.Proofs.YtgkhnllgmfjhpaaGreatDoor
