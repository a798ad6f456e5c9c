/- Rows of texts sorted, and made compact, in place: the library's contracts, over abstract values. No statement of its own. -/
import Derived.Test.YtgkhnllgmfjhpaaGreatDoorVg
import Derived.Test.YtgkhnllgmfjhpaaGreatDoorCo
import Derived.Test.YtgkhnllgmfjhpaaGreatDoorShelf
import Derived.Lib.SlicesCompact
import Derived.Lib.SlicesS
import Derived.Test.YtgkhnllgmfjhpaaGreatDoorRuF
import Derived.Test.YtgkhnllgmfjhpaaGreatDoorPc
import Derived.Test.YtgkhnllgmfjhpaaGreatDoorHpm
import Derived.Test.YtgkhnllgmfjhpaaGreatDoorCp
import Derived.Test.YtgkhnllgmfjhpaaGreatDoorRoot2
import Derived.Test.YtgkhnllgmfjhpaaGreatDoorOp
set_option linter.unusedSimpArgs false
set_option linter.unusedVariables false
set_option maxRecDepth 100000
namespace Go.Proofs.YtgkhnllgmfjhpaaGreatDoor
open Go.RowKit Go.Sort Go.ChangeShapes Go.WideShapes Go.ChangeAt Go.Deep
abbrev zR : List AV := [.i 0, .i 0, .s ⟨#[]⟩, .s ⟨#[]⟩, .i 0, .s ⟨#[]⟩, .s ⟨#[]⟩, .nilS]
theorem cellW.flat {a a' : AV} (h : cellW a a') : a'.flat = true := by
  rcases h with ⟨_, h⟩ | ⟨_, sz, rfl⟩
  · exact h
  · rfl
/-- rows, cell by cell said less of -/
def deepV (a a' : AV) : Prop := a' = a ∨ ∃ sz es es', a = .sl .no sz es ∧ a' = .sl .no sz es' ∧ es.length = es'.length ∧ ∀ (k : Nat) e e', es[k]? = some e → es'[k]? = some e' → CellsW e e'
def DeepV : List AV → List AV → Prop
  | [], [] => True
  | a :: r, a' :: r' => deepV a a' ∧ DeepV r r'
  | _, _ => False
theorem DeepV.at' : ∀ {l l' : List AV}, DeepV l l' → l.length = l'.length ∧ ∀ (j : Nat) a', l'[j]? = some a' → ∃ a, l[j]? = some a ∧ deepV a a'
  | [], [], _ => ⟨rfl, fun j a h => by simp at h⟩
  | a :: r, b :: r', h => by
    obtain ⟨h1, h2⟩ := h
    obtain ⟨i1, i2⟩ := DeepV.at' h2
    refine ⟨by simp [i1], fun j a' hj => ?_⟩
    cases j with
    | zero => simp at hj; subst hj; exact ⟨a, rfl, h1⟩
    | succ j => simpa using i2 j a' (by simpa using hj)
  | [], _ :: _, h => h.elim
  | _ :: _, [], h => h.elim
theorem Rp.deep {w : World} {I : Nat → Nat → Prop} {hl : Nat} {μ : Nat → Nat} {tk : List Nat} {σ : Nat → Tkt} {sz : Nat} {es es' : List (List AV)} {v : Value} (h : Rp w I hl μ tk σ (.sl .no sz es) v) (hlen : es.length = es'.length) (hw : ∀ (k : Nat) e e', es[k]? = some e → es'[k]? = some e' → CellsW e e') : Rp w I hl μ tk σ (.sl .no sz es') v := by
  have pick : ∀ (k : Nat) e', es'[k]? = some e' → ∃ e, es[k]? = some e ∧ CellsW e e' := fun k e' he' => by
    have hk := (List.getElem?_eq_some_iff.1 he').1
    have he := List.getElem?_eq_getElem (l := es) (i := k) (by omega)
    exact ⟨_, he, hw k _ _ he he'⟩
  cases h with
  | sl0 _ a cap hm =>
    have : es' = [] := List.eq_nil_of_length_eq_zero (by rw [← hlen]; rfl)
    subst this
    exact .sl0 sz a cap hm
  | sl _ _ _ g o cap us hs hn hm hc hr ht1 ht2 =>
    rw [hlen]
    refine .sl .no sz es' g o cap us (fun k e' he' => ?_) (by omega) hm (fun k e' j a he' ha => ?_) (fun k e' j a he' ha => ?_) (fun h => by cases h) (fun i e h => by cases h)
    · obtain ⟨e, he, hw⟩ := pick k e' he'
      refine ⟨hw.length.symm.trans (hs k e he).1, List.all_eq_true.2 fun x hx => ?_⟩
      obtain ⟨j, hj⟩ := List.mem_iff_getElem?.1 hx
      obtain ⟨b, _, hb⟩ := hw.get j x hj
      exact hb.flat
    · obtain ⟨e, he, hw⟩ := pick k e' he'
      obtain ⟨b, hb, hbw⟩ := hw.get j a ha
      exact hc k e j b he hb
    · obtain ⟨e, he, hw⟩ := pick k e' he'
      obtain ⟨b, hb, hbw⟩ := hw.get j a ha
      have h2 := hr k e j b he hb
      rcases hbw with ⟨rfl, hf⟩ | ⟨rfl, sz, rfl⟩
      · exact h2.strip
      · rw [h2.of_lit]
        exact .sl0 sz none 0 (Nat.zero_le _)
theorem APure.deep {P : Program} {f : FuncId} {args args' : List AV} {r : AV} {ns : List Nat} (hw : DeepV args args') (h : APure P f args' r ns) : APure P f args r ns := by
  obtain ⟨h1, h2⟩ := hw.at'
  refine ⟨h.1, h.2.1, fun J w vs hl hlen ha => h.2.2 J w vs hl (by omega) fun j a' v hj hv => ?_⟩
  obtain ⟨a, e, hv'⟩ := h2 j a' hj
  have := ha j a v e hv
  rcases hv' with rfl | ⟨sz, es, es', rfl, rfl, hl, hc⟩
  · exact this
  · exact this.deep hl hc
theorem deepO (l : List Opn) : deepV (.sl .no 5 (l.map fun o => [.i o.k, .s o.nm, .s o.tx, .nilS, .i o.n])) (.sl .no 5 (opL (l.map fun o => ⟨o.k, o.nm, o.tx, [], o.n⟩))) := by
  refine .inr ⟨5, _, _, rfl, rfl, by simp [opL], fun k e e' he he' => ?_⟩
  have hk := (List.getElem?_eq_some_iff.1 he).1
  rw [List.length_map] at hk
  rw [List.getElem?_map, List.getElem?_eq_getElem hk] at he
  unfold opL at he'
  rw [List.getElem?_map, List.getElem?_map, List.getElem?_eq_getElem hk] at he'
  cases he
  cases he'
  exact ⟨.inl ⟨rfl, rfl⟩, .inl ⟨rfl, rfl⟩, .inl ⟨rfl, rfl⟩, .inr ⟨rfl, 2, rfl⟩, .inl ⟨rfl, rfl⟩, trivial⟩
theorem deepR (l : List Rl) : deepV (.sl .no 8 (l.map fun r => [.i r.sd, .i r.gk, .s r.ga, .s r.gb, .i r.ac, .s r.nm, .s r.un, .nilS])) (.sl .no 8 (rlL (l.map fun r => ⟨r.sd, r.gk, r.ga, r.gb, r.ac, r.nm, r.un, []⟩))) := by
  refine .inr ⟨8, _, _, rfl, rfl, by simp [rlL], fun k e e' he he' => ?_⟩
  have hk := (List.getElem?_eq_some_iff.1 he).1
  rw [List.length_map] at hk
  rw [List.getElem?_map, List.getElem?_eq_getElem hk] at he
  unfold rlL at he'
  rw [List.getElem?_map, List.getElem?_map, List.getElem?_eq_getElem hk] at he'
  cases he
  cases he'
  exact ⟨.inl ⟨rfl, rfl⟩, .inl ⟨rfl, rfl⟩, .inl ⟨rfl, rfl⟩, .inl ⟨rfl, rfl⟩, .inl ⟨rfl, rfl⟩, .inl ⟨rfl, rfl⟩, .inl ⟨rfl, rfl⟩, .inr ⟨rfl, 2, rfl⟩, trivial⟩
theorem compact_mem {α : Type} [Inhabited α] [DecidableEq α] (zs : List α) (x : α) : x ∈ Lib.compact zs ↔ x ∈ zs := by
  unfold Lib.compact Lib.compactUpTo
  rw [List.mem_map]
  constructor
  · rintro ⟨j, hj, rfl⟩
    rw [List.mem_filter, List.mem_range] at hj
    have : zs.toArray[j]! = zs[j]'hj.1 := by simp [hj.1]
    rw [this]
    exact List.getElem_mem _
  · intro hx
    obtain ⟨i, hi, rfl⟩ := List.getElem_of_mem hx
    clear hx
    have e : ∀ j (hj : j < zs.length), zs.toArray[j]! = zs[j] := fun j hj => by simp [hj]
    induction i with
    | zero => exact ⟨0, by rw [List.mem_filter, List.mem_range]; exact ⟨hi, by simp [Lib.keeps]⟩, e 0 hi⟩
    | succ i ih =>
      by_cases h : zs.toArray[i + 1]! = zs.toArray[i]!
      · rw [e _ hi, e i (by omega)] at h
        obtain ⟨j, h1, h2⟩ := ih (by omega)
        exact ⟨j, h1, by rw [h2, h]⟩
      · refine ⟨i + 1, ?_, e _ hi⟩
        rw [List.mem_filter, List.mem_range]
        exact ⟨hi, Lib.keeps_pos h⟩
section
variable {base : Nat} {J : Nat → Nat → Prop} {w0 : World} {st : St} {μ : Nat → Nat} {σ : Nat → Tkt} {w w' : World}
def bS (l : List (List UInt8)) : List AV := l.map fun x => AV.s ⟨x.toArray⟩
/-- cells of texts put into a variable, draws and new blocks beside -/
theorem Ok.rowPut (h : Ok base J w0 st μ σ w) {p lo : Nat} {cs : List AV} {d : List (List UInt8)} (hc : st.heap[p]? = some cs) (hle : lo + d.length ≤ cs.length) {nq : Nat} {os : Array Obj}
    (hw : w' = grow (putRow encStr (Sort.ahead w nq) (μ p) lo d.toArray) os) :
    Ok base J w0 ⟨st.heap.set p (setAll cs lo (bS d)), st.tk⟩ μ σ w' ∧ Ext base J st μ σ w ⟨st.heap.set p (setAll cs lo (bS d)), st.tk⟩ μ σ w' := by
  have hp : p < st.heap.length := (List.getElem?_eq_some_iff.1 hc).1
  obtain ⟨b1, us0, T, hb, hlen, hr0⟩ := h.hp p cs hc
  have hg : μ p < w.heap.size := (h.mu_lt hp).2
  obtain ⟨o1, x1⟩ := h.store (p := p) (off := lo) (cs := cs) (vs := bS d) (us := d.map encStr) hc (by simp [bS]) (by simpa [bS] using hle) (fun j a u ha hu => by
    unfold bS at ha
    simp only [List.getElem?_map, Option.map_eq_some_iff] at ha hu
    obtain ⟨x, hx, rfl⟩ := ha
    obtain ⟨y, hy, rfl⟩ := hu
    rw [hx] at hy
    cases hy
    exact ⟨rfl, rfl, .lit _⟩)
  obtain ⟨s1, s2, s3, s4, s5⟩ := below_setCells w (μ p) lo (d.map encStr)
  obtain ⟨us1, hb1, hsz1⟩ := heap_setCells (d.map encStr) lo w us0 hb
  have hcells : ∀ j, j < (d.map encStr).length → (w.cell? ⟨μ p, lo + j, Option.none⟩).isSome = true := fun j hj => by
    rw [List.length_map] at hj
    rw [cell_block hb, Array.getElem?_eq_getElem (by omega)]; rfl
  have hput : (putRow encStr (Sort.ahead w nq) (μ p) lo d.toArray).heap[μ p]? = some (.cells us1 T (0, 0)) := by
    have e1 : (putRow encStr (Sort.ahead w nq) (μ p) lo d.toArray).heap[μ p]? = some (.cells (putCells encStr lo d.toArray us0) T (0, 0)) := by
      have hb' : (Sort.ahead w nq).heap[μ p]? = some (.cells us0 T (0, 0)) := hb
      unfold putRow mapBlock
      simp [Array.getElem?_modify, hb', onCells]
      exact ⟨_, hb, rfl⟩
    rw [e1]
    congr 2
    apply Array.ext_getElem?
    intro k
    simp only [putCells, Array.getElem?_mapIdx]
    rw [← cell_block hb1]
    by_cases hk : lo ≤ k ∧ k < lo + d.length
    · have hin := World.cell?_setCells_in (μ p) (d.map encStr) lo w hcells (k - lo) (by rw [List.length_map]; omega)
      rw [show lo + (k - lo) = k by omega] at hin
      rw [hin, Array.getElem?_eq_getElem (show k < us0.size by omega)]
      simp only [Option.map_some, List.getElem_map]
      have hk2 : lo ≤ k ∧ k < lo + d.toArray.size := by simpa using hk
      rw [if_pos hk2, getElem!_pos _ _ (by simp; omega)]
      simp
    · rw [World.cell?_setCells_out (μ p) (d.map encStr) lo w ⟨μ p, k, Option.none⟩ (fun _ _ => by simp; omega), cell_block hb]
      have hk2 : ¬ (lo ≤ k ∧ k < lo + d.toArray.size) := by simpa using hk
      cases us0[k]? with
      | none => rfl
      | some x => exact congrArg some (if_neg hk2)
  have hbl : Below (w.setCells (μ p) lo (d.map encStr)).heap.size (w.setCells (μ p) lo (d.map encStr)) w' := by
    subst hw
    have hsz : (putRow encStr (Sort.ahead w nq) (μ p) lo d.toArray).heap.size = w.heap.size := by simp [putRow, mapBlock, Sort.ahead]
    refine ⟨s1.symm, s2.symm, s3.symm, ?_, fun k hk => ?_⟩
    · rw [s4]
      simp [grow, hsz]
    · rw [s4] at hk
      rw [heap_grow_old _ _ (by rw [hsz]; exact hk)]
      by_cases e : k = μ p
      · subst e
        rw [hput, hb1]
      · rw [s5 k e]
        unfold putRow mapBlock
        simp [Array.getElem?_modify, Ne.symm e, Sort.ahead]
  obtain ⟨o2, x2⟩ := o1.step hbl
  exact ⟨o2, x1.trans x2⟩
theorem Ok.rowHolds (h : Ok base J w0 st μ σ w) {p lo : Nat} {cs : List AV} {d : List (List UInt8)} (hc : st.heap[p]? = some cs) (hd : ∀ j (hj : j < d.length), cs[lo + j]? = some (.s ⟨d[j].toArray⟩)) : Holds encStr w (μ p) lo d.toArray := by
  obtain ⟨b1, us0, T, hb, hlen, hr0⟩ := h.hp p cs hc
  intro j hj
  have hj : j < d.length := by simpa using hj
  have h1 := hd j hj
  have hlt := (List.getElem?_eq_some_iff.1 h1).1
  have hu : us0[lo + j]? = some (us0[lo + j]'(by omega)) := Array.getElem?_eq_getElem (by omega)
  have h2 := (hr0 (lo + j) _ _ h1 hu).2.2.of_lit
  refine ⟨?_, by simp [World.frozen?, hb]⟩
  rw [cell_block hb, hu, h2, getElem!_pos _ _ (by simpa using hj)]
  rfl
end
section
variable {st : St} {R : AV → St → Prop} {p lo cap : Nat}
theorem sort_a (d : List (List UInt8)) {cs : List AV} (hl : d.length ≤ 1000000) (hc : st.heap[p]? = some cs) (hd : ∀ j (hj : j < d.length), cs[lo + j]? = some (.s ⟨d[j].toArray⟩)) (hle : lo + d.length ≤ cs.length)
    (h : R (.tup []) ⟨st.heap.set p (setAll cs lo (bS (d.mergeSort fun x y => decide (x ≤ y)))), st.tk⟩) : ACalls Tryz.prog 17 [.hs p lo d.length cap 1] st R := by
  refine ⟨Tryz.call17, fun base J w0 μ σ w vs hok hlen ha => ?_⟩
  obtain ⟨v, rfl⟩ : ∃ v, vs = #[v] := by
    refine ⟨vs[0]'(by rw [← hlen]; simp), ?_⟩
    apply Array.ext
    · exact hlen.symm
    · intro i h1 h2
      have : i = 0 := by simp at h2; omega
      subst this; rfl
  have hv := ha 0 _ v rfl rfl
  cases hv with
  | hs _ _ _ _ _ hp hn hm =>
    refine (Tryz.slices_Sort_string (μ p) lo cap d w (hok.rowHolds hc hd) (hok.mu_lt hp).2 (by omega)).mono ?_
    rintro e w' ⟨rfl, nq, os, hw⟩
    obtain ⟨o1, x1⟩ := hok.rowPut (d := d.mergeSort fun x y => decide (x ≤ y)) hc (by rw [List.length_mergeSort]; exact hle) hw
    exact ⟨_, _, _, μ, σ, rfl, h, o1, x1, .tup [] #[] rfl (fun j a u h => by simp at h)⟩
theorem compact_a (d : List (List UInt8)) {cs : List AV} (hl : d.length ≤ 1000000) (hc : st.heap[p]? = some cs) (hd : ∀ j (hj : j < d.length), cs[lo + j]? = some (.s ⟨d[j].toArray⟩)) (hle : lo + d.length ≤ cs.length)
    (h : (Lib.compact d).length ≤ d.length → R (.hs p lo (Lib.compact d).length cap 1) ⟨st.heap.set p (setAll cs lo (bS (Lib.compact d ++ List.replicate (d.length - (Lib.compact d).length) []))), st.tk⟩) : ACalls Tryz.prog 18 [.hs p lo d.length cap 1] st R := by
  refine ⟨Tryz.call18, fun base J w0 μ σ w vs hok hlen ha => ?_⟩
  obtain ⟨v, rfl⟩ : ∃ v, vs = #[v] := by
    refine ⟨vs[0]'(by rw [← hlen]; simp), ?_⟩
    apply Array.ext
    · exact hlen.symm
    · intro i h1 h2
      have : i = 0 := by simp at h2; omega
      subst this; rfl
  have hcl : (Lib.compact d).length ≤ d.length := by
    unfold Lib.compact Lib.compactUpTo
    rw [List.length_map]
    exact Nat.le_trans (List.length_filter_le _ _) (by simp)
  have hv := ha 0 _ v rfl rfl
  cases hv with
  | hs _ _ _ _ _ hp hn hm =>
    refine (Tryz.slices_Compact_string (μ p) lo cap d w (hok.rowHolds hc hd) (by omega) hn).mono ?_
    rintro e w' ⟨rfl, q, hw⟩
    obtain ⟨o1, x1⟩ := hok.rowPut (nq := q) (os := #[]) (w' := w') (lo := lo) (d := Lib.compact d ++ List.replicate (d.length - (Lib.compact d).length) []) hc (by rw [List.length_append, List.length_replicate]; omega) (by rw [hw, grow_empty])
    exact ⟨_, _, _, μ, σ, rfl, h hcl, o1, x1, .hs p lo _ cap 1 (by simpa using hp) (by omega) hm⟩
theorem sort_nil (h : R (.tup []) st) : ACalls Tryz.prog 17 [.nilS] st R := by
  refine ⟨Tryz.call17, fun base J w0 μ σ w vs hok hlen ha => ?_⟩
  obtain ⟨v, rfl⟩ : ∃ v, vs = #[v] := by
    refine ⟨vs[0]'(by rw [← hlen]; simp), ?_⟩
    apply Array.ext
    · exact hlen.symm
    · intro i h1 h2
      have : i = 0 := by simp at h2; omega
      subst this; rfl
  obtain rfl := (ha 0 _ v rfl rfl).of_lit
  refine (Tryz.slices_Sort_string_none _ _ _).mono ?_
  rintro e w' ⟨rfl, rfl⟩
  exact ⟨_, _, _, μ, σ, rfl, h, hok, .refl, .tup [] #[] rfl (fun j a u h => by simp at h)⟩
theorem compact_nil (h : R .nilS st) : ACalls Tryz.prog 18 [.nilS] st R := by
  refine ⟨Tryz.call18, fun base J w0 μ σ w vs hok hlen ha => ?_⟩
  obtain ⟨v, rfl⟩ : ∃ v, vs = #[v] := by
    refine ⟨vs[0]'(by rw [← hlen]; simp), ?_⟩
    apply Array.ext
    · exact hlen.symm
    · intro i h1 h2
      have : i = 0 := by simp at h2; omega
      subst this; rfl
  obtain rfl := (ha 0 _ v rfl rfl).of_lit
  refine (Tryz.slices_Compact_string_empty _ _ _).mono ?_
  rintro e w' ⟨rfl, rfl⟩
  exact ⟨_, _, _, μ, σ, rfl, h, hok, .refl, .lit _⟩
end
def namesW (sd : Int) (l : List Rl) : List ByteArray := l.flatMap fun r => if r.sd = sd then wrR r.ac r.nm r.un else []
def ofWr (sd : Int) (l : List Rl) : List ByteArray := (Lib.compact (((namesW sd l).map fun s => s.data.toList).mergeSort fun x y => decide (x ≤ y))).map fun x => ⟨x.toArray⟩
theorem ofWr_mem (sd : Int) (l : List Rl) (s : ByteArray) : s ∈ ofWr sd l ↔ s ∈ namesW sd l := by
  unfold ofWr
  rw [List.mem_map]
  constructor
  · rintro ⟨x, hx, rfl⟩
    rw [compact_mem, List.mem_mergeSort, List.mem_map] at hx
    obtain ⟨t, ht, rfl⟩ := hx
    simpa using ht
  · intro h
    exact ⟨s.data.toList, by rw [compact_mem, List.mem_mergeSort, List.mem_map]; exact ⟨s, h, rfl⟩, by simp⟩
theorem wrR_ne (ac : Int) (a b : ByteArray) : wrR ac a b ≠ [] := by unfold wrR; split <;> simp
theorem wrR_len (ac : Int) (a b : ByteArray) : (wrR ac a b).length ≤ 2 := by
  unfold wrR
  split
  · exact Nat.le_refl _
  · exact Nat.le_succ 1
theorem strL_flat (l : List ByteArray) : ∀ e ∈ strL l, e.length = 1 ∧ e.all AV.flat = true := fun e he => by
  obtain ⟨x, _, rfl⟩ := List.mem_map.1 he
  exact ⟨rfl, rfl⟩
theorem namesW_at {sd : Int} {l : List Rl} {k : Nat} (h : k < l.length) : namesW sd (l.take (k + 1)) = namesW sd (l.take k) ++ (if l[k].sd = sd then wrR l[k].ac l[k].nm l[k].un else []) := by
  rw [List.take_succ_eq_append_getElem h]
  unfold namesW
  rw [List.flatMap_append, List.flatMap_cons, List.flatMap_nil, List.append_nil]
theorem namesW_len (sd : Int) : ∀ l : List Rl, (namesW sd l).length ≤ 2 * l.length
  | [] => Nat.zero_le _
  | r :: l => by
    have ih := namesW_len sd l
    have h := wrR_len r.ac r.nm r.un
    unfold namesW at ih ⊢
    rw [List.flatMap_cons, List.length_append, List.length_cons]
    split
    · omega
    · show 0 + _ ≤ _; omega
theorem strL_flatten (l : List ByteArray) : (strL l).flatten = bS (l.map fun s => s.data.toList) := by
  unfold strL bS
  induction l with
  | nil => rfl
  | cons x l ih =>
    rw [List.map_cons, List.flatten_cons, ih, List.map_cons, List.map_cons]
    simp
theorem bS_strL (d : List (List UInt8)) : bS d = (strL (d.map fun x => ⟨x.toArray⟩)).flatten := by
  rw [strL_flatten]
  congr 1
  rw [List.map_map]
  conv => lhs; rw [← List.map_id d]
  exact List.map_congr_left fun x _ => by simp
theorem setAll_pre {a b zs : List AV} (h : b.length = a.length) : setAll (a ++ zs) 0 b = b ++ zs := by
  apply List.ext_getElem?
  intro q
  rw [setAll_get _ _ _ _ (by rw [List.length_append]; omega)]
  by_cases hq : q < b.length
  · rw [if_pos (by omega), List.getElem?_append_left hq, Nat.sub_zero]
  · rw [if_neg (by omega), List.getElem?_append_right (by omega), List.getElem?_append_right (by omega), h]
section
attribute [local irreducible] vcApp
theorem of38_p (sd : Int) (l : List Rl) (hl : l.length ≤ 1000) (hr : ∀ r ∈ l, r.Ok) : APure Tryz.prog 10 [.i sd, .sl .no 8 (rlL l)] (.sl .no 1 (strL (ofWr sd l))) [] := by
  have hmx : maxLen = 9223372036854775807 := rfl
  have el := rlL_len l
  refine APure.ofX rfl ?_
  refine ACalls.of_vc T_ok mixed Tryz.func10 rfl Tryz.call10 ?_
  refine vc_loop [10, 5] (fun g vals st' => ∃ (k : Nat) (a' : AV) (r : Option Nat), k + g = l.length ∧ vals = [.i k, a'] ∧ HR st' 1 a' r (strL (namesW sd (l.take k))) ∧ (r = none → a' = .nilS)) l.length rfl ⟨0, .nilS, none, by omega, rfl, .nil, fun _ => rfl⟩ ?_
  rintro g vals st' ⟨k, a', r, hk, rfl, hH, hrn⟩
  have hnl := namesW_len sd (l.take k)
  rw [List.length_take] at hnl
  have hn0 : ∀ k1 : k < l.length, namesW sd (l.take (k + 1)) = namesW sd (l.take k) ++ (if l[k].sd = sd then wrR l[k].ac l[k].nm l[k].un else []) := fun k1 => namesW_at k1
  have hw0 : ∀ k1 : k < l.length, (wrR l[k].ac l[k].nm l[k].un).length ≤ 2 := fun k1 => wrR_len _ _ _
  obtain ⟨zR, hzR⟩ : ∃ zR : List AV, zR = [.i 0, .i 0, .s ⟨#[]⟩, .s ⟨#[]⟩, .i 0, .s ⟨#[]⟩, .s ⟨#[]⟩, .nilS] := ⟨_, rfl⟩
  obtain ⟨es, hes⟩ : ∃ es, strL (namesW sd (l.take k)) = es := ⟨_, rfl⟩
  rw [hes] at hH
  cases hH with
  | nil =>
    have hnil : namesW sd (l.take k) = [] := (nil_len _).1 hes
    refine cnd_split (fun hd => ?_) (fun hd => ?_)
    · have hd := of_decide_eq_true hd
      have k1 : k < l.length := by omega
      have hn := hn0 k1
      have hw := hw0 k1
      have hH : HR st' 1 .nilS none (strL (namesW sd (l.take k))) := by rw [hes]; exact .nil
      subst hzR
      refine ⟨k, _, rfl, rlL_at k1, ?_⟩
      refine ⟨_, last_at _ _, ?_⟩
      refine ⟨_, last_upd _ _ _, ?_⟩
      have hH1 := hH.keep (b := ⟨(st'.heap ++ [zR]).set st'.heap.length l[k].cs, st'.tk⟩) (fun p cs _ h => st_ne (by have := lt_of h; omega) (ap h))
      refine cnd_split (fun hs => ?_) (fun hs => ?_)
      · have hs : l[k].sd = sd := beq_iff_eq.1 hs
        rw [if_pos hs] at hn
        refine ⟨_, last_upd _ _ _, ?_⟩
        refine .p rfl (writes_p l[k] (hr _ (List.getElem_mem k1))) ?_
        refine HR.app (n := 0) (i := ti9) hH1 rfl rfl (fun e => wrR_ne _ _ _ (nil_len _ |>.1 e)) (strL_flat _) ?_ ?_ (Nat.zero_le _) (fun p1 cap1 st2 q0 q1 q2 q3 => ?_)
        · show ((strL _).length + (strL _).length) * 16 ≤ _; rw [strL_len, strL_len]; omega
        · show (strL _).length + (strL _).length ≤ _; rw [strL_len, strL_len]; omega
        intro c hc
        rw [IntWalk.i64_in _ (by omega)] at hc
        obtain rfl : c = ((k + 1 : Nat) : Int) := by omega
        refine ⟨g - 1, by omega, k + 1, _, some p1, by omega, rfl, ?_, fun e => by cases e⟩
        rw [hn, strL_appL]
        have := HR.hs (st := st2) p1 cap1 _ q0
        rw [List.length_append] at this
        exact this
      · have hs : l[k].sd ≠ sd := beq_eq_false_iff_ne.1 hs
        rw [if_neg hs, List.append_nil] at hn
        intro c hc
        rw [IntWalk.i64_in _ (by omega)] at hc
        obtain rfl : c = ((k + 1 : Nat) : Int) := by omega
        refine ⟨g - 1, by omega, k + 1, _, _, by omega, rfl, ?_, hrn⟩
        rw [hn]
        exact hH1
    · have hd := of_decide_eq_false hd
      rw [List.take_of_length_le (by omega)] at hnil
      refine .s (sort_nil ?_)
      refine .s (compact_nil ?_)
      have e : ofWr sd l = [] := by
        unfold ofWr
        rw [hnil, List.map_nil, List.mergeSort_nil]
        rfl
      rw [e]
      exact .inl (.inr (.inl ⟨rfl, 1, rfl⟩))
  | tight =>
    have := hrn rfl
    cases this
  | hs p cap es hw1 =>
    subst hes
    refine cnd_split (fun hd => ?_) (fun hd => ?_)
    · have hd := of_decide_eq_true hd
      have k1 : k < l.length := by omega
      have hn := hn0 k1
      have hw := hw0 k1
      have hH : HR st' 1 (.hs p 0 (strL (namesW sd (l.take k))).length cap 1) (some p) (strL (namesW sd (l.take k))) := .hs p cap _ hw1
      subst hzR
      refine ⟨k, _, rfl, rlL_at k1, ?_⟩
      refine ⟨_, last_at _ _, ?_⟩
      refine ⟨_, last_upd _ _ _, ?_⟩
      have hH1 := hH.keep (b := ⟨(st'.heap ++ [zR]).set st'.heap.length l[k].cs, st'.tk⟩) (fun p cs _ h => st_ne (by have := lt_of h; omega) (ap h))
      refine cnd_split (fun hs => ?_) (fun hs => ?_)
      · have hs : l[k].sd = sd := beq_iff_eq.1 hs
        rw [if_pos hs] at hn
        refine ⟨_, last_upd _ _ _, ?_⟩
        refine .p rfl (writes_p l[k] (hr _ (List.getElem_mem k1))) ?_
        refine HR.app (n := 0) (i := ti9) hH1 rfl rfl (fun e => wrR_ne _ _ _ (nil_len _ |>.1 e)) (strL_flat _) ?_ ?_ (Nat.zero_le _) (fun p1 cap1 st2 q0 q1 q2 q3 => ?_)
        · show ((strL _).length + (strL _).length) * 16 ≤ _; rw [strL_len, strL_len]; omega
        · show (strL _).length + (strL _).length ≤ _; rw [strL_len, strL_len]; omega
        intro c hc
        rw [IntWalk.i64_in _ (by omega)] at hc
        obtain rfl : c = ((k + 1 : Nat) : Int) := by omega
        refine ⟨g - 1, by omega, k + 1, _, some p1, by omega, rfl, ?_, fun e => by cases e⟩
        rw [hn, strL_appL]
        have := HR.hs (st := st2) p1 cap1 _ q0
        rw [List.length_append] at this
        exact this
      · have hs : l[k].sd ≠ sd := beq_eq_false_iff_ne.1 hs
        rw [if_neg hs, List.append_nil] at hn
        intro c hc
        rw [IntWalk.i64_in _ (by omega)] at hc
        obtain rfl : c = ((k + 1 : Nat) : Int) := by omega
        refine ⟨g - 1, by omega, k + 1, _, _, by omega, rfl, ?_, hrn⟩
        rw [hn]
        exact hH1
    · have hd := of_decide_eq_false hd
      obtain ⟨⟨zs, hp, hzl⟩, hel, hcap⟩ := hw1
      have hkl : k = l.length := by omega
      have hnl2 := namesW_len sd l
      have htk : namesW sd (l.take k) = namesW sd l := by rw [hkl, List.take_of_length_le (Nat.le_refl _)]
      rw [htk] at hp hzl hcap ⊢
      obtain ⟨d, hdd⟩ : ∃ d, d = (namesW sd l).map fun s => s.data.toList := ⟨_, rfl⟩
      have hdl : d.length = (namesW sd l).length := by rw [hdd, List.length_map]
      have esl := strL_len (namesW sd l)
      rw [strL_flatten, ← hdd] at hp
      have hbl : ∀ x : List (List UInt8), (bS x).length = x.length := fun x => by simp [bS]
      have hat : ∀ j (hj : j < d.length), (bS d ++ zs)[0 + j]? = some (.s ⟨d[j].toArray⟩) := fun j hj => by
        rw [Nat.zero_add, List.getElem?_append_left (by rw [hbl]; exact hj)]
        simp [bS, hj]
      rw [esl, ← hdl]
      refine .s (sort_a (lo := 0) (cap := cap) d (by omega) hp hat (by rw [List.length_append, hbl]; omega) ?_)
      obtain ⟨m, hm⟩ : ∃ m, m = d.mergeSort fun x y => decide (x ≤ y) := ⟨_, rfl⟩
      rw [← hm]
      have hml : m.length = d.length := by rw [hm, List.length_mergeSort]
      have e1 : setAll (bS d ++ zs) 0 (bS m) = bS m ++ zs := setAll_pre (by rw [hbl, hbl, hml])
      rw [e1]
      have hp1 : (st'.heap.set p (bS m ++ zs))[p]? = some (bS m ++ zs) := st_eq hp
      have hat2 : ∀ j (hj : j < m.length), (bS m ++ zs)[0 + j]? = some (.s ⟨m[j].toArray⟩) := fun j hj => by
        rw [Nat.zero_add, List.getElem?_append_left (by rw [hbl]; exact hj)]
        simp [bS, hj]
      rw [← hml]
      refine .s (compact_a (st := ⟨st'.heap.set p (bS m ++ zs), st'.tk⟩) (lo := 0) (cap := cap) m (by omega) hp1 hat2 (by rw [List.length_append, hbl]; omega) (fun hcl => ?_))
      have e2 : setAll (bS m ++ zs) 0 (bS (Lib.compact m ++ List.replicate (m.length - (Lib.compact m).length) [])) = bS (Lib.compact m) ++ (bS (List.replicate (m.length - (Lib.compact m).length) []) ++ zs) := by
        rw [setAll_pre (by rw [hbl, hbl, List.length_append, List.length_replicate]; omega)]
        simp [bS]
      rw [e2]
      have e3 : ofWr sd l = (Lib.compact m).map fun x => ⟨x.toArray⟩ := by unfold ofWr; rw [hm, hdd]
      rw [e3]
      have h3 : (strL ((Lib.compact m).map fun x => (⟨x.toArray⟩ : ByteArray))).length = (Lib.compact m).length := by rw [strL_len, List.length_map]
      refine .inl (.inr (.inr ⟨p, 0, _, cap, 1, _, _, rfl, st_eq hp1, ?_, rfl⟩))
      have := rows_seen (zs := bS (List.replicate (m.length - (Lib.compact m).length) []) ++ zs) (strL_flat ((Lib.compact m).map fun x => (⟨x.toArray⟩ : ByteArray)))
      rw [← bS_strL, h3] at this
      exact this
def stgL (n : Int) : List ByteArray := if n = 1 then [⟨#[102, 111, 114, 119, 97, 114, 100, 101, 100]⟩, ⟨#[104, 111, 115, 116]⟩, ⟨#[118, 105, 97]⟩, ⟨#[120, 45, 102, 111, 114, 119, 97, 114, 100, 101, 100, 45, 102, 111, 114]⟩] else if n = 2 then [⟨#[99, 111, 110, 116, 101, 110, 116, 45, 108, 111, 99, 97, 116, 105, 111, 110]⟩, ⟨#[108, 111, 99, 97, 116, 105, 111, 110]⟩, ⟨#[115, 101, 116, 45, 99, 111, 111, 107, 105, 101]⟩, ⟨#[118, 105, 97]⟩] else []
theorem stage_p (n : Int) : APure Tryz.prog 27 [.i n] (.sl .no 1 (strL (stgL n))) [] := by
  refine APure.ofX rfl ?_
  refine ACalls.of_vc T_ok mixed Tryz.func27 rfl Tryz.call27 ?_
  refine cnd_split (fun h => ?_) (fun h => ?_)
  · have h : n = 1 := beq_iff_eq.1 h
    subst h
    exact .inl (.inl ⟨rfl, rfl⟩)
  have h : n ≠ 1 := beq_eq_false_iff_ne.1 h
  refine cnd_split (fun h2 => ?_) (fun h2 => ?_)
  · have h2 : n = 2 := beq_iff_eq.1 h2
    subst h2
    exact .inl (.inl ⟨rfl, rfl⟩)
  have h2 : n ≠ 2 := beq_eq_false_iff_ne.1 h2
  show resX _ _ (.sl .no 1 (strL (stgL n)))
  unfold stgL
  rw [if_neg h, if_neg h2]
  exact .inl (.inr (.inl ⟨rfl, 1, rfl⟩))
/-- is a name left alone? -/
def freeW (n : ByteArray) (k : Int) (fs : List Fld) (l : List Rl) : Bool := !memB namesL (foldB n) && !memB (nomW fs ++ stgL k ++ ofWr k l) (foldB n)
theorem stgL_len (n : Int) : (stgL n).length ≤ 4 := by
  unfold stgL
  split
  · exact Nat.le_refl _
  · split
    · exact Nat.le_refl _
    · exact Nat.zero_le _
theorem ofWr_len (sd : Int) (l : List Rl) : (ofWr sd l).length ≤ 2 * l.length := by
  have := namesW_len sd l
  unfold ofWr Lib.compact Lib.compactUpTo
  rw [List.length_map, List.length_map]
  refine Nat.le_trans (List.length_filter_le _ _) ?_
  rw [List.length_range, List.length_mergeSort, List.length_map]
  exact this
theorem free38_p (name : ByteArray) (hn : name.size ≤ maxLen) (k c mi : Int) (m t r : ByteArray) (fs : List Fld) (hF : FldOk fs) (l : List Rl) (hl : l.length ≤ 1000) (hr : ∀ r ∈ l, r.Ok) :
    APure Tryz.prog 15 [.s name, hdA k c mi m t r (.sl .no 2 (fldL fs)), .sl .no 8 (rlL l)] (.b (freeW name k fs l)) [] := by
  have hmx : maxLen = 9223372036854775807 := rfl
  have qo := of38_p k l hl hr
  have hol := ofWr_len k l
  have hsl := stgL_len k
  have hnl := (nomW_bound fs hF).1
  refine APure.of rfl ?_
  show ACalls _ _ [.s name, .agg [.i k, .s m, .s t, .i c, .s r, .i mi, .sl .no 2 (fldL fs)], .sl .no 8 (rlL l)] _ _
  refine ACalls.of_vc T_ok mixed Tryz.func15 rfl Tryz.call15 ?_
  refine .p rfl (foldO_p name hn) ?_
  refine .n (.one 0 (.one 1 (.one 3 (.one 4 (.one 7 (.one 8 (.one 9 (.one 2 (.one 5 (.one 6 (.one 10 (.one 11 (.one 12 .done))))))))))))) (by kernel_rfl) ?_
  refine ⟨_, rfl, ?_⟩
  refine ⟨_, rfl, ?_⟩
  refine ⟨_, rfl, ?_⟩
  refine .s (nomN_a fs hF fun a st' g hA0 => ⟨g.pre, ?_⟩)
  have hA : Acc 0 st'.tk 1 a (strL (nomW fs)) := by
    generalize strL (nomW fs) = es at hA0 ⊢
    cases hA0 with
    | nil => exact .nil
    | own t e es q0 q1 => exact .own _ _ _ (Nat.zero_le _) q1
  clear hA0
  have qx := fixed_p (foldB name) (by rw [foldB_size]; exact hn)
  rw [foldB_foldB] at qx
  have hFW : freeW name k fs l = (!memB namesL (foldB name) && !memB (nomW fs ++ stgL k ++ ofWr k l) (foldB name)) := rfl
  generalize memB namesL (foldB name) = z at qx hFW
  rcases hA.form with rfl | ⟨t0, e0, rfl⟩
  · skip
    refine .p rfl (stage_p k) ?_
    refine Acc.appL (n := 0) (i := ti9) hA (Nat.zero_le _) ?_ ?_ (fun a2 tk2 w1 => ?_)
    · show ((strL _).length + (strL _).length) * 16 ≤ _; rw [strL_len, strL_len]; omega
    · show (strL _).length + (strL _).length ≤ _; rw [strL_len, strL_len]; omega
    rw [← strL_appL] at w1
    rcases w1.form with rfl | ⟨t1, e1, rfl⟩
    · skip
      refine .p rfl qo ?_
      refine Acc.appL (n := 0) (i := ti9) w1 (Nat.zero_le _) ?_ ?_ (fun a3 tk3 w2 => ?_)
      · show ((strL _).length + (strL _).length) * 16 ≤ _; rw [strL_len, strL_len, List.length_append]; omega
      · show (strL _).length + (strL _).length ≤ _; rw [strL_len, strL_len, List.length_append]; omega
      rw [← strL_appL] at w2
      rcases w2.form with rfl | ⟨t2, e2, rfl⟩
      · refine .p rfl qx ?_
        cases z with
        | true => exact retb (by rw [hFW]; rfl)
        | false =>
          refine .w (args' := [.sl .no 1 (strL _), .s (foldB name)]) rfl ⟨w2.argW, .inl (.inl ⟨rfl, rfl⟩), trivial⟩ (contains_p _ (foldB name) (by rw [List.length_append, List.length_append]; omega)) ?_
          exact retb (by rw [hFW]; rfl)
      · refine .p rfl qx ?_
        cases z with
        | true => exact retb (by rw [hFW]; rfl)
        | false =>
          refine .w (args' := [.sl .no 1 (strL _), .s (foldB name)]) rfl ⟨w2.argW, .inl (.inl ⟨rfl, rfl⟩), trivial⟩ (contains_p _ (foldB name) (by rw [List.length_append, List.length_append]; omega)) ?_
          exact retb (by rw [hFW]; rfl)
    · skip
      refine .p rfl qo ?_
      refine Acc.appL (n := 0) (i := ti9) w1 (Nat.zero_le _) ?_ ?_ (fun a3 tk3 w2 => ?_)
      · show ((strL _).length + (strL _).length) * 16 ≤ _; rw [strL_len, strL_len, List.length_append]; omega
      · show (strL _).length + (strL _).length ≤ _; rw [strL_len, strL_len, List.length_append]; omega
      rw [← strL_appL] at w2
      rcases w2.form with rfl | ⟨t2, e2, rfl⟩
      · refine .p rfl qx ?_
        cases z with
        | true => exact retb (by rw [hFW]; rfl)
        | false =>
          refine .w (args' := [.sl .no 1 (strL _), .s (foldB name)]) rfl ⟨w2.argW, .inl (.inl ⟨rfl, rfl⟩), trivial⟩ (contains_p _ (foldB name) (by rw [List.length_append, List.length_append]; omega)) ?_
          exact retb (by rw [hFW]; rfl)
      · refine .p rfl qx ?_
        cases z with
        | true => exact retb (by rw [hFW]; rfl)
        | false =>
          refine .w (args' := [.sl .no 1 (strL _), .s (foldB name)]) rfl ⟨w2.argW, .inl (.inl ⟨rfl, rfl⟩), trivial⟩ (contains_p _ (foldB name) (by rw [List.length_append, List.length_append]; omega)) ?_
          exact retb (by rw [hFW]; rfl)
  · skip
    refine .p rfl (stage_p k) ?_
    refine Acc.appL (n := 0) (i := ti9) hA (Nat.zero_le _) ?_ ?_ (fun a2 tk2 w1 => ?_)
    · show ((strL _).length + (strL _).length) * 16 ≤ _; rw [strL_len, strL_len]; omega
    · show (strL _).length + (strL _).length ≤ _; rw [strL_len, strL_len]; omega
    rw [← strL_appL] at w1
    rcases w1.form with rfl | ⟨t1, e1, rfl⟩
    · skip
      refine .p rfl qo ?_
      refine Acc.appL (n := 0) (i := ti9) w1 (Nat.zero_le _) ?_ ?_ (fun a3 tk3 w2 => ?_)
      · show ((strL _).length + (strL _).length) * 16 ≤ _; rw [strL_len, strL_len, List.length_append]; omega
      · show (strL _).length + (strL _).length ≤ _; rw [strL_len, strL_len, List.length_append]; omega
      rw [← strL_appL] at w2
      rcases w2.form with rfl | ⟨t2, e2, rfl⟩
      · refine .p rfl qx ?_
        cases z with
        | true => exact retb (by rw [hFW]; rfl)
        | false =>
          refine .w (args' := [.sl .no 1 (strL _), .s (foldB name)]) rfl ⟨w2.argW, .inl (.inl ⟨rfl, rfl⟩), trivial⟩ (contains_p _ (foldB name) (by rw [List.length_append, List.length_append]; omega)) ?_
          exact retb (by rw [hFW]; rfl)
      · refine .p rfl qx ?_
        cases z with
        | true => exact retb (by rw [hFW]; rfl)
        | false =>
          refine .w (args' := [.sl .no 1 (strL _), .s (foldB name)]) rfl ⟨w2.argW, .inl (.inl ⟨rfl, rfl⟩), trivial⟩ (contains_p _ (foldB name) (by rw [List.length_append, List.length_append]; omega)) ?_
          exact retb (by rw [hFW]; rfl)
    · skip
      refine .p rfl qo ?_
      refine Acc.appL (n := 0) (i := ti9) w1 (Nat.zero_le _) ?_ ?_ (fun a3 tk3 w2 => ?_)
      · show ((strL _).length + (strL _).length) * 16 ≤ _; rw [strL_len, strL_len, List.length_append]; omega
      · show (strL _).length + (strL _).length ≤ _; rw [strL_len, strL_len, List.length_append]; omega
      rw [← strL_appL] at w2
      rcases w2.form with rfl | ⟨t2, e2, rfl⟩
      · refine .p rfl qx ?_
        cases z with
        | true => exact retb (by rw [hFW]; rfl)
        | false =>
          refine .w (args' := [.sl .no 1 (strL _), .s (foldB name)]) rfl ⟨w2.argW, .inl (.inl ⟨rfl, rfl⟩), trivial⟩ (contains_p _ (foldB name) (by rw [List.length_append, List.length_append]; omega)) ?_
          exact retb (by rw [hFW]; rfl)
      · refine .p rfl qx ?_
        cases z with
        | true => exact retb (by rw [hFW]; rfl)
        | false =>
          refine .w (args' := [.sl .no 1 (strL _), .s (foldB name)]) rfl ⟨w2.argW, .inl (.inl ⟨rfl, rfl⟩), trivial⟩ (contains_p _ (foldB name) (by rw [List.length_append, List.length_append]; omega)) ?_
          exact retb (by rw [hFW]; rfl)
theorem dec_of {t : Bool} {p : Prop} [Decidable p] (h : t = true ↔ p) : decide p = t := by rw [Bool.eq_iff_iff, h, decide_eq_true_eq]
theorem memB4 (a b c d f : ByteArray) : memB [a, b, c, d] f = (decide (f = a) || (decide (f = b) || (decide (f = c) || decide (f = d)))) := by
  unfold memB
  simp only [List.any_cons, List.any_nil, Bool.or_false, eq_comm]
def tchW (sd : Int) (n : ByteArray) (l : List Rl) : Bool := l.any fun r => decide (r.sd = sd) && touchW r n
theorem tchW_at {sd : Int} {n : ByteArray} {l : List Rl} {k : Nat} (h : k < l.length) : tchW sd n (l.drop k) = (decide (l[k].sd = sd) && touchW l[k] n || tchW sd n (l.drop (k + 1))) := by
  rw [List.drop_eq_getElem_cons h]; rfl
theorem tch_of (sd : Int) (n : ByteArray) (l : List Rl) : memB (ofWr sd l) (foldB n) = tchW sd n l := by
  rw [Bool.eq_iff_iff]
  unfold memB tchW
  rw [List.any_eq_true, List.any_eq_true]
  constructor
  · rintro ⟨x, hx, he⟩
    have he := of_decide_eq_true he
    subst he
    rw [ofWr_mem] at hx
    obtain ⟨r, hr, hx⟩ := List.mem_flatMap.1 hx
    by_cases hs : r.sd = sd
    · rw [if_pos hs] at hx
      refine ⟨r, hr, ?_⟩
      rw [decide_eq_true hs, Bool.true_and]
      unfold touchW memB
      exact List.any_eq_true.2 ⟨_, hx, decide_eq_true rfl⟩
    · rw [if_neg hs] at hx; cases hx
  · rintro ⟨r, hr, he⟩
    rw [Bool.and_eq_true, decide_eq_true_eq] at he
    obtain ⟨hs, ht⟩ := he
    unfold touchW memB at ht
    obtain ⟨x, hx, hd⟩ := List.any_eq_true.1 ht
    refine ⟨x, ?_, hd⟩
    rw [ofWr_mem]
    exact List.mem_flatMap.2 ⟨r, hr, by rw [if_pos hs]; exact hx⟩
theorem memB_app (a b : List ByteArray) (x : ByteArray) : memB (a ++ b) x = (memB a x || memB b x) := by unfold memB; rw [List.any_append]
def rl38a : List Rl := [⟨1, 0, ⟨#[]⟩, ⟨#[]⟩, 4, ⟨#[66]⟩, ⟨#[65]⟩, []⟩, ⟨1, 0, ⟨#[]⟩, ⟨#[]⟩, 1, ⟨#[67]⟩, ⟨#[]⟩, []⟩]
theorem of38_ex : ofWr 1 rl38a = [⟨#[97]⟩, ⟨#[98]⟩, ⟨#[99]⟩] := by
  have h1 : (namesW 1 rl38a).map (fun s => s.data.toList) = [[98], [97], [99]] := by decide +kernel
  have h2 : List.mergeSort [[98], [97], [99]] (fun x y : List UInt8 => decide (x ≤ y)) = [[97], [98], [99]] := by
    have a1 : ¬ ([98] : List UInt8) ≤ [97] := by decide
    have a2 : ([97] : List UInt8) ≤ [99] := by decide
    have a3 : ([98] : List UInt8) ≤ [99] := by decide
    simp [List.mergeSort, List.MergeSort.Internal.splitInTwo, List.merge, a1, a2, a3]
  unfold ofWr
  rw [h1, h2]
  rfl
theorem awake38_p : APure Tryz.prog 4 [] (.b true) [] := by
  have q0 := of38_p 1 rl38a (by decide) (fun r hr => by
    simp only [rl38a, List.mem_cons, List.not_mem_nil, or_false] at hr
    rcases hr with rfl | rfl <;> exact ⟨by decide, by decide, by decide, by decide, by decide, by decide⟩)
  rw [of38_ex] at q0
  have q1 := APure.deep (args := [.i 1, .sl .no 8 (rl38a.map fun r : Rl => [.i r.sd, .i r.gk, .s r.ga, .s r.gb, .i r.ac, .s r.nm, .s r.un, .nilS])]) (args' := [.i 1, .sl .no 8 (rlL rl38a)]) ⟨.inl rfl, deepR rl38a, trivial⟩ q0
  refine APure.of rfl (ACalls.of_vc T_ok mixed Tryz.func4 rfl Tryz.call4 ?_)
  refine .p rfl q1 ?_
  refine ⟨0, _, rfl, rfl, ?_⟩
  intro t1 e1
  obtain rfl : t1 = true := e1.2 rfl
  refine ⟨1, _, rfl, rfl, ?_⟩
  intro t2 e2
  obtain rfl : t2 = true := e2.2 rfl
  refine ⟨2, _, rfl, rfl, ?_⟩
  intro t3 e3
  obtain rfl : t3 = true := e3.2 rfl
  rfl
theorem stg_in (n : Int) : ∀ i (hi : i < (stgL n).length), memB (stgL n) (foldB (stgL n)[i]) = true := by
  by_cases h1 : n = 1
  · subst h1; decide +kernel
  by_cases h2 : n = 2
  · subst h2; decide +kernel
  have e : stgL n = [] := by unfold stgL; rw [if_neg h1, if_neg h2]
  intro i hi
  rw [e] at hi
  simp at hi
def LtP (s : List ByteArray) : Prop := ∀ i (hi : i + 1 < s.length), (Op.bytesLess s[i + 1].toList s[i].toList || s[i + 1].toList == s[i].toList) = false
theorem stg_lt (n : Int) : LtP (stgL n) := by
  by_cases h1 : n = 1
  · subst h1
    intro i hi
    have hi' : i + 1 < 4 := hi
    obtain rfl | rfl | rfl : i = 0 ∨ i = 1 ∨ i = 2 := by omega
    · clear hi'; revert hi; decide +kernel
    · clear hi'; revert hi; decide +kernel
    · clear hi'; revert hi; decide +kernel
  by_cases h2 : n = 2
  · subst h2
    intro i hi
    have hi' : i + 1 < 4 := hi
    obtain rfl | rfl | rfl : i = 0 ∨ i = 1 ∨ i = 2 := by omega
    · clear hi'; revert hi; decide +kernel
    · clear hi'; revert hi; decide +kernel
    · clear hi'; revert hi; decide +kernel
  have e : stgL n = [] := by unfold stgL; rw [if_neg h1, if_neg h2]
  intro i hi
  rw [e] at hi
  simp at hi
theorem stg_sz (n : Int) : ∀ i (hi : i < (stgL n).length), ((stgL n)[i]).size ≤ 100 := by
  by_cases h1 : n = 1
  · subst h1; decide +kernel
  by_cases h2 : n = 2
  · subst h2; decide +kernel
  have e : stgL n = [] := by unfold stgL; rw [if_neg h1, if_neg h2]
  intro i hi
  rw [e] at hi
  simp at hi
end
structure Hd where
  k : Int
  c : Int
  mi : Int
  m : ByteArray
  t : ByteArray
  r : ByteArray
  l : List Fld
section
variable {H : Type} {enc : TypeId × Value → H} {W : World} {base b2 : Nat} {spare : Nat → Bool} {held : Bool} {v : Value} {d : DataW H} {p : List MemPlace}
theorem open_headg (_ : Value.okWide Tryz.prog W .any base 25 v) (hx : DataW.Trod enc Tryz.prog W b2 spare held 25 v d p) : ∃ h : Hd, AtR W (.agg [.i h.k, .s h.m, .s h.t, .i h.c, .s h.r, .i h.mi, .sl .no 2 (fldL h.l)]) v ∧ True := by
  obtain ⟨k, c, mi, m, tt, r, u, l, rfl, hl⟩ := open_head hx
  exact ⟨⟨k, c, mi, m, tt, r, l⟩, .head hl, trivial⟩
end
end Go.Proofs.YtgkhnllgmfjhpaaGreatDoor
