/- Rows of texts sorted, and made compact, in place: the library's contracts, over abstract values. No statement of its own. -/
import Derived.Test.YthneihlplijklaaGreatDoorVg
import Derived.Test.YthneihlplijklaaGreatDoorCo
import Derived.Test.YthneihlplijklaaGreatDoorShelf
import Derived.Lib.SlicesCompact
import Derived.Lib.SlicesS
import Derived.Test.YthneihlplijklaaGreatDoorRuF
import Derived.Test.YthneihlplijklaaGreatDoorPc
import Derived.Test.YthneihlplijklaaGreatDoorHpm
import Derived.Test.YthneihlplijklaaGreatDoorCt
import Derived.Test.YthneihlplijklaaGreatDoorRoot2
import Derived.Test.YthneihlplijklaaGreatDoorOp
set_option linter.unusedSimpArgs false
set_option linter.unusedVariables false
set_option maxRecDepth 100000
namespace Go.Proofs.YthneihlplijklaaGreatDoor
open Go.RowKit Go.Sort Go.ChangeShapes Go.WideShapes Go.ChangeAt Go.Deep
theorem compact_mem {α : Type} [Inhabited α] [DecidableEq α] (zs : List α) (x : α) : x ∈ Lib.compact zs ↔ x ∈ zs := by
  unfold Lib.compact Lib.compactUpTo
  rw [List.mem_map]
  constructor
  · rintro ⟨j, hj, rfl⟩
    rw [List.mem_filter, List.mem_range] at hj
    have : zs.toArray[j]! = zs[j]'hj.1 := by simp [hj.1]
    rw [this]
    exact List.getElem_mem _
  · intro hx
    obtain ⟨i, hi, rfl⟩ := List.getElem_of_mem hx
    clear hx
    have e : ∀ j (hj : j < zs.length), zs.toArray[j]! = zs[j] := fun j hj => by simp [hj]
    induction i with
    | zero => exact ⟨0, by rw [List.mem_filter, List.mem_range]; exact ⟨hi, by simp [Lib.keeps]⟩, e 0 hi⟩
    | succ i ih =>
      by_cases h : zs.toArray[i + 1]! = zs.toArray[i]!
      · rw [e _ hi, e i (by omega)] at h
        obtain ⟨j, h1, h2⟩ := ih (by omega)
        exact ⟨j, h1, by rw [h2, h]⟩
      · refine ⟨i + 1, ?_, e _ hi⟩
        rw [List.mem_filter, List.mem_range]
        exact ⟨hi, Lib.keeps_pos h⟩
section
variable {base : Nat} {J : Nat → Nat → Prop} {w0 : World} {st : St} {μ : Nat → Nat} {σ : Nat → Tkt} {w w' : World}
def bS (l : List (List UInt8)) : List AV := l.map fun x => AV.s ⟨x.toArray⟩
/-- cells of texts put into a variable, draws and new blocks beside -/
theorem Ok.rowPut (h : Ok base J w0 st μ σ w) {p lo : Nat} {cs : List AV} {d : List (List UInt8)} (hc : st.heap[p]? = some cs) (hle : lo + d.length ≤ cs.length) {nq : Nat} {os : Array Obj}
    (hw : w' = grow (putRow encStr (Sort.ahead w nq) (μ p) lo d.toArray) os) :
    Ok base J w0 ⟨st.heap.set p (setAll cs lo (bS d)), st.tk⟩ μ σ w' ∧ Ext base J st μ σ w ⟨st.heap.set p (setAll cs lo (bS d)), st.tk⟩ μ σ w' := by
  have hp : p < st.heap.length := (List.getElem?_eq_some_iff.1 hc).1
  obtain ⟨b1, us0, T, hb, hlen, hr0⟩ := h.hp p cs hc
  have hg : μ p < w.heap.size := (h.mu_lt hp).2
  obtain ⟨o1, x1⟩ := h.store (p := p) (off := lo) (cs := cs) (vs := bS d) (us := d.map encStr) hc (by simp [bS]) (by simpa [bS] using hle) (fun j a u ha hu => by
    unfold bS at ha
    simp only [List.getElem?_map, Option.map_eq_some_iff] at ha hu
    obtain ⟨x, hx, rfl⟩ := ha
    obtain ⟨y, hy, rfl⟩ := hu
    rw [hx] at hy
    cases hy
    exact ⟨rfl, rfl, .lit _⟩)
  obtain ⟨s1, s2, s3, s4, s5⟩ := below_setCells w (μ p) lo (d.map encStr)
  obtain ⟨us1, hb1, hsz1⟩ := heap_setCells (d.map encStr) lo w us0 hb
  have hcells : ∀ j, j < (d.map encStr).length → (w.cell? ⟨μ p, lo + j, Option.none⟩).isSome = true := fun j hj => by
    rw [List.length_map] at hj
    rw [cell_block hb, Array.getElem?_eq_getElem (by omega)]; rfl
  have hput : (putRow encStr (Sort.ahead w nq) (μ p) lo d.toArray).heap[μ p]? = some (.cells us1 T (0, 0)) := by
    have e1 : (putRow encStr (Sort.ahead w nq) (μ p) lo d.toArray).heap[μ p]? = some (.cells (putCells encStr lo d.toArray us0) T (0, 0)) := by
      have hb' : (Sort.ahead w nq).heap[μ p]? = some (.cells us0 T (0, 0)) := hb
      unfold putRow mapBlock
      simp [Array.getElem?_modify, hb', onCells]
      exact ⟨_, hb, rfl⟩
    rw [e1]
    congr 2
    apply Array.ext_getElem?
    intro k
    simp only [putCells, Array.getElem?_mapIdx]
    rw [← cell_block hb1]
    by_cases hk : lo ≤ k ∧ k < lo + d.length
    · have hin := World.cell?_setCells_in (μ p) (d.map encStr) lo w hcells (k - lo) (by rw [List.length_map]; omega)
      rw [show lo + (k - lo) = k by omega] at hin
      rw [hin, Array.getElem?_eq_getElem (show k < us0.size by omega)]
      simp only [Option.map_some, List.getElem_map]
      have hk2 : lo ≤ k ∧ k < lo + d.toArray.size := by simpa using hk
      rw [if_pos hk2, getElem!_pos _ _ (by simp; omega)]
      simp
    · rw [World.cell?_setCells_out (μ p) (d.map encStr) lo w ⟨μ p, k, Option.none⟩ (fun _ _ => by simp; omega), cell_block hb]
      have hk2 : ¬ (lo ≤ k ∧ k < lo + d.toArray.size) := by simpa using hk
      cases us0[k]? with
      | none => rfl
      | some x => exact congrArg some (if_neg hk2)
  have hbl : Below (w.setCells (μ p) lo (d.map encStr)).heap.size (w.setCells (μ p) lo (d.map encStr)) w' := by
    subst hw
    have hsz : (putRow encStr (Sort.ahead w nq) (μ p) lo d.toArray).heap.size = w.heap.size := by simp [putRow, mapBlock, Sort.ahead]
    refine ⟨s1.symm, s2.symm, s3.symm, ?_, fun k hk => ?_⟩
    · rw [s4]
      simp [grow, hsz]
    · rw [s4] at hk
      rw [heap_grow_old _ _ (by rw [hsz]; exact hk)]
      by_cases e : k = μ p
      · subst e
        rw [hput, hb1]
      · rw [s5 k e]
        unfold putRow mapBlock
        simp [Array.getElem?_modify, Ne.symm e, Sort.ahead]
  obtain ⟨o2, x2⟩ := o1.step hbl
  exact ⟨o2, x1.trans x2⟩
theorem Ok.rowHolds (h : Ok base J w0 st μ σ w) {p lo : Nat} {cs : List AV} {d : List (List UInt8)} (hc : st.heap[p]? = some cs) (hd : ∀ j (hj : j < d.length), cs[lo + j]? = some (.s ⟨d[j].toArray⟩)) : Holds encStr w (μ p) lo d.toArray := by
  obtain ⟨b1, us0, T, hb, hlen, hr0⟩ := h.hp p cs hc
  intro j hj
  have hj : j < d.length := by simpa using hj
  have h1 := hd j hj
  have hlt := (List.getElem?_eq_some_iff.1 h1).1
  have hu : us0[lo + j]? = some (us0[lo + j]'(by omega)) := Array.getElem?_eq_getElem (by omega)
  have h2 := (hr0 (lo + j) _ _ h1 hu).2.2.of_lit
  refine ⟨?_, by simp [World.frozen?, hb]⟩
  rw [cell_block hb, hu, h2, getElem!_pos _ _ (by simpa using hj)]
  rfl
end
section
variable {st : St} {R : AV → St → Prop} {p lo cap : Nat}
theorem sort_a (d : List (List UInt8)) {cs : List AV} (hl : d.length ≤ 1000000) (hc : st.heap[p]? = some cs) (hd : ∀ j (hj : j < d.length), cs[lo + j]? = some (.s ⟨d[j].toArray⟩)) (hle : lo + d.length ≤ cs.length)
    (h : R (.tup []) ⟨st.heap.set p (setAll cs lo (bS (d.mergeSort fun x y => decide (x ≤ y)))), st.tk⟩) : ACalls Tryz.prog 71 [.hs p lo d.length cap 1] st R := by
  refine ⟨Tryz.call71, fun base J w0 μ σ w vs hok hlen ha => ?_⟩
  obtain ⟨v, rfl⟩ : ∃ v, vs = #[v] := by
    refine ⟨vs[0]'(by rw [← hlen]; simp), ?_⟩
    apply Array.ext
    · exact hlen.symm
    · intro i h1 h2
      have : i = 0 := by simp at h2; omega
      subst this; rfl
  have hv := ha 0 _ v rfl rfl
  cases hv with
  | hs _ _ _ _ _ hp hn hm =>
    refine (Tryz.slices_Sort_string (μ p) lo cap d w (hok.rowHolds hc hd) (hok.mu_lt hp).2 (by omega)).mono ?_
    rintro e w' ⟨rfl, nq, os, hw⟩
    obtain ⟨o1, x1⟩ := hok.rowPut (d := d.mergeSort fun x y => decide (x ≤ y)) hc (by rw [List.length_mergeSort]; exact hle) hw
    exact ⟨_, _, _, μ, σ, rfl, h, o1, x1, .tup [] #[] rfl (fun j a u h => by simp at h)⟩
theorem compact_a (d : List (List UInt8)) {cs : List AV} (hl : d.length ≤ 1000000) (hc : st.heap[p]? = some cs) (hd : ∀ j (hj : j < d.length), cs[lo + j]? = some (.s ⟨d[j].toArray⟩)) (hle : lo + d.length ≤ cs.length)
    (h : (Lib.compact d).length ≤ d.length → R (.hs p lo (Lib.compact d).length cap 1) ⟨st.heap.set p (setAll cs lo (bS (Lib.compact d ++ List.replicate (d.length - (Lib.compact d).length) []))), st.tk⟩) : ACalls Tryz.prog 72 [.hs p lo d.length cap 1] st R := by
  refine ⟨Tryz.call72, fun base J w0 μ σ w vs hok hlen ha => ?_⟩
  obtain ⟨v, rfl⟩ : ∃ v, vs = #[v] := by
    refine ⟨vs[0]'(by rw [← hlen]; simp), ?_⟩
    apply Array.ext
    · exact hlen.symm
    · intro i h1 h2
      have : i = 0 := by simp at h2; omega
      subst this; rfl
  have hcl : (Lib.compact d).length ≤ d.length := by
    unfold Lib.compact Lib.compactUpTo
    rw [List.length_map]
    exact Nat.le_trans (List.length_filter_le _ _) (by simp)
  have hv := ha 0 _ v rfl rfl
  cases hv with
  | hs _ _ _ _ _ hp hn hm =>
    refine (Tryz.slices_Compact_string (μ p) lo cap d w (hok.rowHolds hc hd) (by omega) hn).mono ?_
    rintro e w' ⟨rfl, q, hw⟩
    obtain ⟨o1, x1⟩ := hok.rowPut (nq := q) (os := #[]) (w' := w') (lo := lo) (d := Lib.compact d ++ List.replicate (d.length - (Lib.compact d).length) []) hc (by rw [List.length_append, List.length_replicate]; omega) (by rw [hw, grow_empty])
    exact ⟨_, _, _, μ, σ, rfl, h hcl, o1, x1, .hs p lo _ cap 1 (by simpa using hp) (by omega) hm⟩
theorem sort_nil (h : R (.tup []) st) : ACalls Tryz.prog 71 [.nilS] st R := by
  refine ⟨Tryz.call71, fun base J w0 μ σ w vs hok hlen ha => ?_⟩
  obtain ⟨v, rfl⟩ : ∃ v, vs = #[v] := by
    refine ⟨vs[0]'(by rw [← hlen]; simp), ?_⟩
    apply Array.ext
    · exact hlen.symm
    · intro i h1 h2
      have : i = 0 := by simp at h2; omega
      subst this; rfl
  obtain rfl := (ha 0 _ v rfl rfl).of_lit
  refine (Tryz.slices_Sort_string_none _ _ _).mono ?_
  rintro e w' ⟨rfl, rfl⟩
  exact ⟨_, _, _, μ, σ, rfl, h, hok, .refl, .tup [] #[] rfl (fun j a u h => by simp at h)⟩
theorem compact_nil (h : R .nilS st) : ACalls Tryz.prog 72 [.nilS] st R := by
  refine ⟨Tryz.call72, fun base J w0 μ σ w vs hok hlen ha => ?_⟩
  obtain ⟨v, rfl⟩ : ∃ v, vs = #[v] := by
    refine ⟨vs[0]'(by rw [← hlen]; simp), ?_⟩
    apply Array.ext
    · exact hlen.symm
    · intro i h1 h2
      have : i = 0 := by simp at h2; omega
      subst this; rfl
  obtain rfl := (ha 0 _ v rfl rfl).of_lit
  refine (Tryz.slices_Compact_string_empty _ _ _).mono ?_
  rintro e w' ⟨rfl, rfl⟩
  exact ⟨_, _, _, μ, σ, rfl, h, hok, .refl, .lit _⟩
end
def namesW (sd : Int) (l : List Rl) : List ByteArray := l.flatMap fun r => if r.sd = sd then wrR r.ac r.nm r.un else []
def ofWr (sd : Int) (l : List Rl) : List ByteArray := (Lib.compact (((namesW sd l).map fun s => s.data.toList).mergeSort fun x y => decide (x ≤ y))).map fun x => ⟨x.toArray⟩
theorem ofWr_mem (sd : Int) (l : List Rl) (s : ByteArray) : s ∈ ofWr sd l ↔ s ∈ namesW sd l := by
  unfold ofWr
  rw [List.mem_map]
  constructor
  · rintro ⟨x, hx, rfl⟩
    rw [compact_mem, List.mem_mergeSort, List.mem_map] at hx
    obtain ⟨t, ht, rfl⟩ := hx
    simpa using ht
  · intro h
    exact ⟨s.data.toList, by rw [compact_mem, List.mem_mergeSort, List.mem_map]; exact ⟨s, h, rfl⟩, by simp⟩
theorem wrR_ne (ac : Int) (a b : ByteArray) : wrR ac a b ≠ [] := by unfold wrR; split <;> simp
theorem wrR_len (ac : Int) (a b : ByteArray) : (wrR ac a b).length ≤ 2 := by
  unfold wrR
  split
  · exact Nat.le_refl _
  · exact Nat.le_succ 1
theorem strL_flat (l : List ByteArray) : ∀ e ∈ strL l, e.length = 1 ∧ e.all AV.flat = true := fun e he => by
  obtain ⟨x, _, rfl⟩ := List.mem_map.1 he
  exact ⟨rfl, rfl⟩
theorem namesW_at {sd : Int} {l : List Rl} {k : Nat} (h : k < l.length) : namesW sd (l.take (k + 1)) = namesW sd (l.take k) ++ (if l[k].sd = sd then wrR l[k].ac l[k].nm l[k].un else []) := by
  rw [List.take_succ_eq_append_getElem h]
  unfold namesW
  rw [List.flatMap_append, List.flatMap_cons, List.flatMap_nil, List.append_nil]
theorem namesW_len (sd : Int) : ∀ l : List Rl, (namesW sd l).length ≤ 2 * l.length
  | [] => Nat.zero_le _
  | r :: l => by
    have ih := namesW_len sd l
    have h := wrR_len r.ac r.nm r.un
    unfold namesW at ih ⊢
    rw [List.flatMap_cons, List.length_append, List.length_cons]
    split
    · omega
    · show 0 + _ ≤ _; omega
theorem strL_flatten (l : List ByteArray) : (strL l).flatten = bS (l.map fun s => s.data.toList) := by
  unfold strL bS
  induction l with
  | nil => rfl
  | cons x l ih =>
    rw [List.map_cons, List.flatten_cons, ih, List.map_cons, List.map_cons]
    simp
theorem bS_strL (d : List (List UInt8)) : bS d = (strL (d.map fun x => ⟨x.toArray⟩)).flatten := by
  rw [strL_flatten]
  congr 1
  rw [List.map_map]
  conv => lhs; rw [← List.map_id d]
  exact List.map_congr_left fun x _ => by simp
theorem setAll_pre {a b zs : List AV} (h : b.length = a.length) : setAll (a ++ zs) 0 b = b ++ zs := by
  apply List.ext_getElem?
  intro q
  rw [setAll_get _ _ _ _ (by rw [List.length_append]; omega)]
  by_cases hq : q < b.length
  · rw [if_pos (by omega), List.getElem?_append_left hq, Nat.sub_zero]
  · rw [if_neg (by omega), List.getElem?_append_right (by omega), List.getElem?_append_right (by omega), h]
section
attribute [local irreducible] vcApp
theorem of38_p (sd : Int) (l : List Rl) (hl : l.length ≤ 1000) (hr : ∀ r ∈ l, r.Ok) : APure Tryz.prog 44 [.i sd, .sl .no 8 (rlL l)] (.sl .no 1 (strL (ofWr sd l))) [] := by
  have hmx : maxLen = 9223372036854775807 := rfl
  have el := rlL_len l
  refine APure.ofX rfl ?_
  refine ACalls.of_vc T_ok mixed Tryz.func44 rfl Tryz.call44 ?_
  refine vc_loop [10, 5] (fun g vals st' => ∃ (k : Nat) (a' : AV) (r : Option Nat), k + g = l.length ∧ vals = [.i k, a'] ∧ HR st' 1 a' r (strL (namesW sd (l.take k))) ∧ (r = none → a' = .nilS)) l.length rfl ⟨0, .nilS, none, by omega, rfl, .nil, fun _ => rfl⟩ ?_
  rintro g vals st' ⟨k, a', r, hk, rfl, hH, hrn⟩
  have hnl := namesW_len sd (l.take k)
  rw [List.length_take] at hnl
  have hn0 : ∀ k1 : k < l.length, namesW sd (l.take (k + 1)) = namesW sd (l.take k) ++ (if l[k].sd = sd then wrR l[k].ac l[k].nm l[k].un else []) := fun k1 => namesW_at k1
  have hw0 : ∀ k1 : k < l.length, (wrR l[k].ac l[k].nm l[k].un).length ≤ 2 := fun k1 => wrR_len _ _ _
  obtain ⟨zR, hzR⟩ : ∃ zR : List AV, zR = [.i 0, .i 0, .s ⟨#[]⟩, .s ⟨#[]⟩, .i 0, .s ⟨#[]⟩, .s ⟨#[]⟩, .nilS] := ⟨_, rfl⟩
  obtain ⟨es, hes⟩ : ∃ es, strL (namesW sd (l.take k)) = es := ⟨_, rfl⟩
  rw [hes] at hH
  cases hH with
  | nil =>
    have hnil : namesW sd (l.take k) = [] := (nil_len _).1 hes
    refine cnd_split (fun hd => ?_) (fun hd => ?_)
    · have hd := of_decide_eq_true hd
      have k1 : k < l.length := by omega
      have hn := hn0 k1
      have hw := hw0 k1
      have hH : HR st' 1 .nilS none (strL (namesW sd (l.take k))) := by rw [hes]; exact .nil
      subst hzR
      refine ⟨k, _, rfl, rlL_at k1, ?_⟩
      refine ⟨_, last_at _ _, ?_⟩
      refine ⟨_, last_upd _ _ _, ?_⟩
      have hH1 := hH.keep (b := ⟨(st'.heap ++ [zR]).set st'.heap.length l[k].cs, st'.tk⟩) (fun p cs _ h => st_ne (by have := lt_of h; omega) (ap h))
      refine cnd_split (fun hs => ?_) (fun hs => ?_)
      · have hs : l[k].sd = sd := beq_iff_eq.1 hs
        rw [if_pos hs] at hn
        refine ⟨_, last_upd _ _ _, ?_⟩
        refine .p rfl (writes_p l[k] (hr _ (List.getElem_mem k1))) ?_
        refine HR.app (n := 0) (i := ti9) hH1 rfl rfl (fun e => wrR_ne _ _ _ (nil_len _ |>.1 e)) (strL_flat _) ?_ ?_ (Nat.zero_le _) (fun p1 cap1 st2 q0 q1 q2 q3 => ?_)
        · show ((strL _).length + (strL _).length) * 16 ≤ _; rw [strL_len, strL_len]; omega
        · show (strL _).length + (strL _).length ≤ _; rw [strL_len, strL_len]; omega
        intro c hc
        rw [IntWalk.i64_in _ (by omega)] at hc
        obtain rfl : c = ((k + 1 : Nat) : Int) := by omega
        refine ⟨g - 1, by omega, k + 1, _, some p1, by omega, rfl, ?_, fun e => by cases e⟩
        rw [hn, strL_appL]
        have := HR.hs (st := st2) p1 cap1 _ q0
        rw [List.length_append] at this
        exact this
      · have hs : l[k].sd ≠ sd := beq_eq_false_iff_ne.1 hs
        rw [if_neg hs, List.append_nil] at hn
        intro c hc
        rw [IntWalk.i64_in _ (by omega)] at hc
        obtain rfl : c = ((k + 1 : Nat) : Int) := by omega
        refine ⟨g - 1, by omega, k + 1, _, _, by omega, rfl, ?_, hrn⟩
        rw [hn]
        exact hH1
    · have hd := of_decide_eq_false hd
      rw [List.take_of_length_le (by omega)] at hnil
      refine .s (sort_nil ?_)
      refine .s (compact_nil ?_)
      have e : ofWr sd l = [] := by
        unfold ofWr
        rw [hnil, List.map_nil, List.mergeSort_nil]
        rfl
      rw [e]
      exact .inl (.inr (.inl ⟨rfl, 1, rfl⟩))
  | tight =>
    have := hrn rfl
    cases this
  | hs p cap es hw1 =>
    subst hes
    refine cnd_split (fun hd => ?_) (fun hd => ?_)
    · have hd := of_decide_eq_true hd
      have k1 : k < l.length := by omega
      have hn := hn0 k1
      have hw := hw0 k1
      have hH : HR st' 1 (.hs p 0 (strL (namesW sd (l.take k))).length cap 1) (some p) (strL (namesW sd (l.take k))) := .hs p cap _ hw1
      subst hzR
      refine ⟨k, _, rfl, rlL_at k1, ?_⟩
      refine ⟨_, last_at _ _, ?_⟩
      refine ⟨_, last_upd _ _ _, ?_⟩
      have hH1 := hH.keep (b := ⟨(st'.heap ++ [zR]).set st'.heap.length l[k].cs, st'.tk⟩) (fun p cs _ h => st_ne (by have := lt_of h; omega) (ap h))
      refine cnd_split (fun hs => ?_) (fun hs => ?_)
      · have hs : l[k].sd = sd := beq_iff_eq.1 hs
        rw [if_pos hs] at hn
        refine ⟨_, last_upd _ _ _, ?_⟩
        refine .p rfl (writes_p l[k] (hr _ (List.getElem_mem k1))) ?_
        refine HR.app (n := 0) (i := ti9) hH1 rfl rfl (fun e => wrR_ne _ _ _ (nil_len _ |>.1 e)) (strL_flat _) ?_ ?_ (Nat.zero_le _) (fun p1 cap1 st2 q0 q1 q2 q3 => ?_)
        · show ((strL _).length + (strL _).length) * 16 ≤ _; rw [strL_len, strL_len]; omega
        · show (strL _).length + (strL _).length ≤ _; rw [strL_len, strL_len]; omega
        intro c hc
        rw [IntWalk.i64_in _ (by omega)] at hc
        obtain rfl : c = ((k + 1 : Nat) : Int) := by omega
        refine ⟨g - 1, by omega, k + 1, _, some p1, by omega, rfl, ?_, fun e => by cases e⟩
        rw [hn, strL_appL]
        have := HR.hs (st := st2) p1 cap1 _ q0
        rw [List.length_append] at this
        exact this
      · have hs : l[k].sd ≠ sd := beq_eq_false_iff_ne.1 hs
        rw [if_neg hs, List.append_nil] at hn
        intro c hc
        rw [IntWalk.i64_in _ (by omega)] at hc
        obtain rfl : c = ((k + 1 : Nat) : Int) := by omega
        refine ⟨g - 1, by omega, k + 1, _, _, by omega, rfl, ?_, hrn⟩
        rw [hn]
        exact hH1
    · have hd := of_decide_eq_false hd
      obtain ⟨⟨zs, hp, hzl⟩, hel, hcap⟩ := hw1
      have hkl : k = l.length := by omega
      have hnl2 := namesW_len sd l
      have htk : namesW sd (l.take k) = namesW sd l := by rw [hkl, List.take_of_length_le (Nat.le_refl _)]
      rw [htk] at hp hzl hcap ⊢
      obtain ⟨d, hdd⟩ : ∃ d, d = (namesW sd l).map fun s => s.data.toList := ⟨_, rfl⟩
      have hdl : d.length = (namesW sd l).length := by rw [hdd, List.length_map]
      have esl := strL_len (namesW sd l)
      rw [strL_flatten, ← hdd] at hp
      have hbl : ∀ x : List (List UInt8), (bS x).length = x.length := fun x => by simp [bS]
      have hat : ∀ j (hj : j < d.length), (bS d ++ zs)[0 + j]? = some (.s ⟨d[j].toArray⟩) := fun j hj => by
        rw [Nat.zero_add, List.getElem?_append_left (by rw [hbl]; exact hj)]
        simp [bS, hj]
      rw [esl, ← hdl]
      refine .s (sort_a (lo := 0) (cap := cap) d (by omega) hp hat (by rw [List.length_append, hbl]; omega) ?_)
      obtain ⟨m, hm⟩ : ∃ m, m = d.mergeSort fun x y => decide (x ≤ y) := ⟨_, rfl⟩
      rw [← hm]
      have hml : m.length = d.length := by rw [hm, List.length_mergeSort]
      have e1 : setAll (bS d ++ zs) 0 (bS m) = bS m ++ zs := setAll_pre (by rw [hbl, hbl, hml])
      rw [e1]
      have hp1 : (st'.heap.set p (bS m ++ zs))[p]? = some (bS m ++ zs) := st_eq hp
      have hat2 : ∀ j (hj : j < m.length), (bS m ++ zs)[0 + j]? = some (.s ⟨m[j].toArray⟩) := fun j hj => by
        rw [Nat.zero_add, List.getElem?_append_left (by rw [hbl]; exact hj)]
        simp [bS, hj]
      rw [← hml]
      refine .s (compact_a (st := ⟨st'.heap.set p (bS m ++ zs), st'.tk⟩) (lo := 0) (cap := cap) m (by omega) hp1 hat2 (by rw [List.length_append, hbl]; omega) (fun hcl => ?_))
      have e2 : setAll (bS m ++ zs) 0 (bS (Lib.compact m ++ List.replicate (m.length - (Lib.compact m).length) [])) = bS (Lib.compact m) ++ (bS (List.replicate (m.length - (Lib.compact m).length) []) ++ zs) := by
        rw [setAll_pre (by rw [hbl, hbl, List.length_append, List.length_replicate]; omega)]
        simp [bS]
      rw [e2]
      have e3 : ofWr sd l = (Lib.compact m).map fun x => ⟨x.toArray⟩ := by unfold ofWr; rw [hm, hdd]
      rw [e3]
      have h3 : (strL ((Lib.compact m).map fun x => (⟨x.toArray⟩ : ByteArray))).length = (Lib.compact m).length := by rw [strL_len, List.length_map]
      refine .inl (.inr (.inr ⟨p, 0, _, cap, 1, _, _, rfl, st_eq hp1, ?_, rfl⟩))
      have := rows_seen (zs := bS (List.replicate (m.length - (Lib.compact m).length) []) ++ zs) (strL_flat ((Lib.compact m).map fun x => (⟨x.toArray⟩ : ByteArray)))
      rw [← bS_strL, h3] at this
      exact this
def stgL (n : Int) : List ByteArray := if n = 1 then [⟨#[102, 111, 114, 119, 97, 114, 100, 101, 100]⟩, ⟨#[104, 111, 115, 116]⟩, ⟨#[118, 105, 97]⟩, ⟨#[120, 45, 102, 111, 114, 119, 97, 114, 100, 101, 100, 45, 102, 111, 114]⟩] else if n = 2 then [⟨#[99, 111, 110, 116, 101, 110, 116, 45, 108, 111, 99, 97, 116, 105, 111, 110]⟩, ⟨#[108, 111, 99, 97, 116, 105, 111, 110]⟩, ⟨#[115, 101, 116, 45, 99, 111, 111, 107, 105, 101]⟩, ⟨#[118, 105, 97]⟩] else []
theorem stage_p (n : Int) : APure Tryz.prog 19 [.i n] (.sl .no 1 (strL (stgL n))) [] := by
  refine APure.ofX rfl ?_
  refine ACalls.of_vc T_ok mixed Tryz.func19 rfl Tryz.call19 ?_
  refine cnd_split (fun h => ?_) (fun h => ?_)
  · have h : n = 1 := beq_iff_eq.1 h
    subst h
    exact .inl (.inl ⟨rfl, rfl⟩)
  have h : n ≠ 1 := beq_eq_false_iff_ne.1 h
  refine cnd_split (fun h2 => ?_) (fun h2 => ?_)
  · have h2 : n = 2 := beq_iff_eq.1 h2
    subst h2
    exact .inl (.inl ⟨rfl, rfl⟩)
  have h2 : n ≠ 2 := beq_eq_false_iff_ne.1 h2
  show resX _ _ (.sl .no 1 (strL (stgL n)))
  unfold stgL
  rw [if_neg h, if_neg h2]
  exact .inl (.inr (.inl ⟨rfl, 1, rfl⟩))
/-- is a name left alone? -/
def freeW (n : ByteArray) (k : Int) (fs : List Fld) (l : List Rl) : Bool := !memB namesL (foldB n) && !memB (nomW fs ++ stgL k ++ ofWr k l) (foldB n)
theorem stgL_len (n : Int) : (stgL n).length ≤ 4 := by
  unfold stgL
  split
  · exact Nat.le_refl _
  · split
    · exact Nat.le_refl _
    · exact Nat.zero_le _
theorem ofWr_len (sd : Int) (l : List Rl) : (ofWr sd l).length ≤ 2 * l.length := by
  have := namesW_len sd l
  unfold ofWr Lib.compact Lib.compactUpTo
  rw [List.length_map, List.length_map]
  refine Nat.le_trans (List.length_filter_le _ _) ?_
  rw [List.length_range, List.length_mergeSort, List.length_map]
  exact this
theorem foldRM_p (s : ByteArray) (hs : s.size ≤ maxLen) : APure Tryz.prog 46 [.s s] (.s (foldB s)) [] := by
  have hmx : maxLen = 9223372036854775807 := rfl
  refine APure.of rfl (ACalls.of_vc T_ok mixed Tryz.func46 rfl Tryz.call46 ?_)
  refine vc_loop [3, 4] (fun g vals st' => ∃ (k : Nat) (y : ByteArray), k + g = s.size ∧ vals = [.s y, .i k] ∧ y = ⟨(foldL (s.data.toList.take k)).toArray⟩) s.size rfl ⟨0, ⟨#[]⟩, by omega, rfl, rfl⟩ ?_
  rintro g vals st' ⟨k, y, hk, rfl, hy⟩
  refine cnd_split (fun hd => ?_) (fun hd => ?_)
  · have hd := of_decide_eq_true hd
    have k1 : k < s.size := by omega
    have ysz : y.size = k := by
      rw [hy]
      show (Array.size _) = _
      rw [List.size_toArray]
      unfold foldL
      rw [List.length_map, List.length_take, blen]; omega
    intro c hc
    rw [IntWalk.i64_in _ (by omega)] at hc
    obtain rfl : c = ((k + 1 : Nat) : Int) := by omega
    refine ⟨k + 1, rfl, k, rfl, by omega, by omega, ?_⟩
    refine vc_loop [5, 6] (fun g2 vals st2 => ∃ (j : Nat) (x : ByteArray), j + g2 = 26 ∧ vals = [.s x, .i j] ∧ x = ⟨#[lwJ s[k] j]⟩) 26 rfl ⟨0, s.extract k (k + 1), by omega, rfl, by rw [ext1 s k k1]; unfold lwJ; rw [if_neg (by omega)]⟩ ?_
    rintro g2 vals st2 ⟨j, x, hj, rfl, hx⟩
    refine cnd_split (fun hd2 => ?_) (fun hd2 => ?_)
    · have hd2 := of_decide_eq_true hd2
      have j1 : j < 26 := by omega
      have hu := upS_at j j1
      refine .e (by kernel_rfl) ?_
      refine ⟨j, j1, rfl, ?_⟩
      refine ⟨k, k1, rfl, ?_⟩
      have next : (s[k].toNat = 65 + j → UInt8.ofNat (97 + j) = lwJ s[k] (j + 1)) ∧ (s[k].toNat ≠ 65 + j → lwJ s[k] j = lwJ s[k] (j + 1)) := by
        constructor
        · intro h
          unfold lwJ
          rw [if_pos ⟨by omega, by omega⟩, ← lowU_up j j1, ← h, UInt8.ofNat_toNat]
        · intro h
          unfold lwJ
          by_cases h2 : 65 ≤ s[k].toNat ∧ s[k].toNat < 65 + j
          · rw [if_pos h2, if_pos ⟨h2.1, by omega⟩]
          · rw [if_neg h2, if_neg (by omega)]
      refine cnd_split (fun h3 => ?_) (fun h3 => ?_)
      · have h3 : ((upS[j]'j1).toNat : Int) = (s[k].toNat : Int) := beq_iff_eq.1 h3
        intro c hc
        rw [IntWalk.i64_in _ (by omega)] at hc
        obtain rfl : c = ((j + 1 : Nat) : Int) := by omega
        refine ⟨j + 1, rfl, j, rfl, by omega, by show j + 1 ≤ 26; omega, ?_⟩
        intro c hc
        rw [IntWalk.i64_in _ (by omega)] at hc
        obtain rfl : c = ((j + 1 : Nat) : Int) := by omega
        refine ⟨g2 - 1, by omega, j + 1, _, by omega, rfl, ?_⟩
        rw [← next.1 (by omega)]
        exact loS_at j j1
      · have h3 : ¬ ((upS[j]'j1).toNat : Int) = (s[k].toNat : Int) := beq_eq_false_iff_ne.1 h3
        intro c hc
        rw [IntWalk.i64_in _ (by omega)] at hc
        obtain rfl : c = ((j + 1 : Nat) : Int) := by omega
        exact ⟨g2 - 1, by omega, j + 1, x, by omega, rfl, by rw [hx, next.2 (fun e => h3 (by omega))]⟩
    · have hd2 := of_decide_eq_false hd2
      obtain rfl : j = 26 := by omega
      rw [lwJ_26] at hx
      have xsz : x.size = 1 := by rw [hx]; rfl
      refine ⟨by omega, ?_⟩
      intro c hc
      rw [IntWalk.i64_in _ (by omega)] at hc
      obtain rfl : c = ((k + 1 : Nat) : Int) := by omega
      refine ⟨g - 1, by omega, k + 1, _, by omega, rfl, ?_⟩
      rw [hy, hx, List.take_add_one, at_lt k1]
      apply inL
      rw [app_l]
      simp [foldL]
  · have hd := of_decide_eq_false hd
    refine rets ?_
    rw [hy, List.take_of_length_le (by rw [blen]; omega)]
    rfl
theorem free38_p (name : ByteArray) (hn : name.size ≤ maxLen) (k c mi : Int) (m t r : ByteArray) (fs : List Fld) (hF : FldOk fs) (l : List Rl) (hl : l.length ≤ 1000) (hr : ∀ r ∈ l, r.Ok) :
    APure Tryz.prog 21 [.s name, hdA k c mi m t r (.sl .no 2 (fldL fs)), .sl .no 8 (rlL l)] (.b (freeW name k fs l)) [] := by
  have hmx : maxLen = 9223372036854775807 := rfl
  have qo := of38_p k l hl hr
  have hol := ofWr_len k l
  have hsl := stgL_len k
  have hnl := (nomW_bound fs hF).1
  refine APure.of rfl ?_
  show ACalls _ _ [.s name, .agg [.i k, .s m, .s t, .i c, .s r, .i mi, .sl .no 2 (fldL fs)], .sl .no 8 (rlL l)] _ _
  refine ACalls.of_vc T_ok mixed Tryz.func21 rfl Tryz.call21 ?_
  refine .p rfl (foldO_p name hn) ?_
  refine .n (.one 0 (.one 1 (.one 3 (.one 4 (.one 7 (.one 8 (.one 9 (.one 2 (.one 5 (.one 6 (.one 10 (.one 11 (.one 12 .done))))))))))))) (by kernel_rfl) ?_
  refine ⟨_, rfl, ?_⟩
  refine ⟨_, rfl, ?_⟩
  refine ⟨_, rfl, ?_⟩
  refine .s (nomN_a fs hF fun a st' g hA0 => ⟨g.pre, ?_⟩)
  have hA : Acc 0 st'.tk 1 a (strL (nomW fs)) := by
    generalize strL (nomW fs) = es at hA0 ⊢
    cases hA0 with
    | nil => exact .nil
    | own t e es q0 q1 => exact .own _ _ _ (Nat.zero_le _) q1
  clear hA0
  have qx := fixed_p (foldB name) (by rw [foldB_size]; exact hn)
  rw [foldB_foldB] at qx
  have hFW : freeW name k fs l = (!memB namesL (foldB name) && !memB (nomW fs ++ stgL k ++ ofWr k l) (foldB name)) := rfl
  generalize memB namesL (foldB name) = z at qx hFW
  rcases hA.form with rfl | ⟨t0, e0, rfl⟩
  · skip
    refine .p rfl (stage_p k) ?_
    refine Acc.appL (n := 0) (i := ti9) hA (Nat.zero_le _) ?_ ?_ (fun a2 tk2 w1 => ?_)
    · show ((strL _).length + (strL _).length) * 16 ≤ _; rw [strL_len, strL_len]; omega
    · show (strL _).length + (strL _).length ≤ _; rw [strL_len, strL_len]; omega
    rw [← strL_appL] at w1
    rcases w1.form with rfl | ⟨t1, e1, rfl⟩
    · skip
      refine .p rfl qo ?_
      refine Acc.appL (n := 0) (i := ti9) w1 (Nat.zero_le _) ?_ ?_ (fun a3 tk3 w2 => ?_)
      · show ((strL _).length + (strL _).length) * 16 ≤ _; rw [strL_len, strL_len, List.length_append]; omega
      · show (strL _).length + (strL _).length ≤ _; rw [strL_len, strL_len, List.length_append]; omega
      rw [← strL_appL] at w2
      rcases w2.form with rfl | ⟨t2, e2, rfl⟩
      · refine .p rfl qx ?_
        cases z with
        | true => exact retb (by rw [hFW]; rfl)
        | false =>
          refine .w (args' := [.sl .no 1 (strL _), .s (foldB name)]) rfl ⟨w2.argW, .inl (.inl ⟨rfl, rfl⟩), trivial⟩ (contains_p _ (foldB name) (by rw [List.length_append, List.length_append]; omega)) ?_
          exact retb (by rw [hFW]; rfl)
      · refine .p rfl qx ?_
        cases z with
        | true => exact retb (by rw [hFW]; rfl)
        | false =>
          refine .w (args' := [.sl .no 1 (strL _), .s (foldB name)]) rfl ⟨w2.argW, .inl (.inl ⟨rfl, rfl⟩), trivial⟩ (contains_p _ (foldB name) (by rw [List.length_append, List.length_append]; omega)) ?_
          exact retb (by rw [hFW]; rfl)
    · skip
      refine .p rfl qo ?_
      refine Acc.appL (n := 0) (i := ti9) w1 (Nat.zero_le _) ?_ ?_ (fun a3 tk3 w2 => ?_)
      · show ((strL _).length + (strL _).length) * 16 ≤ _; rw [strL_len, strL_len, List.length_append]; omega
      · show (strL _).length + (strL _).length ≤ _; rw [strL_len, strL_len, List.length_append]; omega
      rw [← strL_appL] at w2
      rcases w2.form with rfl | ⟨t2, e2, rfl⟩
      · refine .p rfl qx ?_
        cases z with
        | true => exact retb (by rw [hFW]; rfl)
        | false =>
          refine .w (args' := [.sl .no 1 (strL _), .s (foldB name)]) rfl ⟨w2.argW, .inl (.inl ⟨rfl, rfl⟩), trivial⟩ (contains_p _ (foldB name) (by rw [List.length_append, List.length_append]; omega)) ?_
          exact retb (by rw [hFW]; rfl)
      · refine .p rfl qx ?_
        cases z with
        | true => exact retb (by rw [hFW]; rfl)
        | false =>
          refine .w (args' := [.sl .no 1 (strL _), .s (foldB name)]) rfl ⟨w2.argW, .inl (.inl ⟨rfl, rfl⟩), trivial⟩ (contains_p _ (foldB name) (by rw [List.length_append, List.length_append]; omega)) ?_
          exact retb (by rw [hFW]; rfl)
  · skip
    refine .p rfl (stage_p k) ?_
    refine Acc.appL (n := 0) (i := ti9) hA (Nat.zero_le _) ?_ ?_ (fun a2 tk2 w1 => ?_)
    · show ((strL _).length + (strL _).length) * 16 ≤ _; rw [strL_len, strL_len]; omega
    · show (strL _).length + (strL _).length ≤ _; rw [strL_len, strL_len]; omega
    rw [← strL_appL] at w1
    rcases w1.form with rfl | ⟨t1, e1, rfl⟩
    · skip
      refine .p rfl qo ?_
      refine Acc.appL (n := 0) (i := ti9) w1 (Nat.zero_le _) ?_ ?_ (fun a3 tk3 w2 => ?_)
      · show ((strL _).length + (strL _).length) * 16 ≤ _; rw [strL_len, strL_len, List.length_append]; omega
      · show (strL _).length + (strL _).length ≤ _; rw [strL_len, strL_len, List.length_append]; omega
      rw [← strL_appL] at w2
      rcases w2.form with rfl | ⟨t2, e2, rfl⟩
      · refine .p rfl qx ?_
        cases z with
        | true => exact retb (by rw [hFW]; rfl)
        | false =>
          refine .w (args' := [.sl .no 1 (strL _), .s (foldB name)]) rfl ⟨w2.argW, .inl (.inl ⟨rfl, rfl⟩), trivial⟩ (contains_p _ (foldB name) (by rw [List.length_append, List.length_append]; omega)) ?_
          exact retb (by rw [hFW]; rfl)
      · refine .p rfl qx ?_
        cases z with
        | true => exact retb (by rw [hFW]; rfl)
        | false =>
          refine .w (args' := [.sl .no 1 (strL _), .s (foldB name)]) rfl ⟨w2.argW, .inl (.inl ⟨rfl, rfl⟩), trivial⟩ (contains_p _ (foldB name) (by rw [List.length_append, List.length_append]; omega)) ?_
          exact retb (by rw [hFW]; rfl)
    · skip
      refine .p rfl qo ?_
      refine Acc.appL (n := 0) (i := ti9) w1 (Nat.zero_le _) ?_ ?_ (fun a3 tk3 w2 => ?_)
      · show ((strL _).length + (strL _).length) * 16 ≤ _; rw [strL_len, strL_len, List.length_append]; omega
      · show (strL _).length + (strL _).length ≤ _; rw [strL_len, strL_len, List.length_append]; omega
      rw [← strL_appL] at w2
      rcases w2.form with rfl | ⟨t2, e2, rfl⟩
      · refine .p rfl qx ?_
        cases z with
        | true => exact retb (by rw [hFW]; rfl)
        | false =>
          refine .w (args' := [.sl .no 1 (strL _), .s (foldB name)]) rfl ⟨w2.argW, .inl (.inl ⟨rfl, rfl⟩), trivial⟩ (contains_p _ (foldB name) (by rw [List.length_append, List.length_append]; omega)) ?_
          exact retb (by rw [hFW]; rfl)
      · refine .p rfl qx ?_
        cases z with
        | true => exact retb (by rw [hFW]; rfl)
        | false =>
          refine .w (args' := [.sl .no 1 (strL _), .s (foldB name)]) rfl ⟨w2.argW, .inl (.inl ⟨rfl, rfl⟩), trivial⟩ (contains_p _ (foldB name) (by rw [List.length_append, List.length_append]; omega)) ?_
          exact retb (by rw [hFW]; rfl)
theorem dec_of {t : Bool} {p : Prop} [Decidable p] (h : t = true ↔ p) : decide p = t := by rw [Bool.eq_iff_iff, h, decide_eq_true_eq]
theorem memB4 (a b c d f : ByteArray) : memB [a, b, c, d] f = (decide (f = a) || (decide (f = b) || (decide (f = c) || decide (f = d)))) := by
  unfold memB
  simp only [List.any_cons, List.any_nil, Bool.or_false, eq_comm]
theorem rstage38_p (name : ByteArray) (hn : name.size ≤ maxLen) (n : Int) : APure Tryz.prog 20 [.s name, .i n] (.b (memB (stgL n) (foldB name))) [] := by
  have hf := foldRM_p name hn
  have hm1 := memB4 ⟨#[102, 111, 114, 119, 97, 114, 100, 101, 100]⟩ ⟨#[104, 111, 115, 116]⟩ ⟨#[118, 105, 97]⟩ ⟨#[120, 45, 102, 111, 114, 119, 97, 114, 100, 101, 100, 45, 102, 111, 114]⟩ (foldB name)
  have hm2 := memB4 ⟨#[99, 111, 110, 116, 101, 110, 116, 45, 108, 111, 99, 97, 116, 105, 111, 110]⟩ ⟨#[108, 111, 99, 97, 116, 105, 111, 110]⟩ ⟨#[115, 101, 116, 45, 99, 111, 111, 107, 105, 101]⟩ ⟨#[118, 105, 97]⟩ (foldB name)
  generalize foldB name = f at *
  refine APure.of rfl (ACalls.of_vc T_ok mixed Tryz.func20 rfl Tryz.call20 ?_)
  refine .p rfl hf ?_
  refine cnd_split (fun h => ?_) (fun h => ?_)
  · have h : n = 1 := beq_iff_eq.1 h
    have hm : memB (stgL n) f = _ := (congrArg (fun x => memB x f) (show stgL n = _ by unfold stgL; rw [if_pos h])).trans hm1
    intro t1 h1
    have e1 := dec_of h1
    cases t1 with
    | true => exact retb (by rw [hm, e1]; rfl)
    | false =>
      intro t2 h2
      have e2 := dec_of h2
      cases t2 with
      | true => exact retb (by rw [hm, e1, e2]; rfl)
      | false =>
        intro t3 h3
        have e3 := dec_of h3
        cases t3 with
        | true => exact retb (by rw [hm, e1, e2, e3]; rfl)
        | false =>
          intro t4 h4
          have e4 := dec_of h4
          exact retb (by rw [hm, e1, e2, e3, e4]; rfl)
  · have h : n ≠ 1 := beq_eq_false_iff_ne.1 h
    refine cnd_split (fun h2 => ?_) (fun h2 => ?_)
    · have h2 : n = 2 := beq_iff_eq.1 h2
      have hm : memB (stgL n) f = _ := (congrArg (fun x => memB x f) (show stgL n = _ by unfold stgL; rw [if_neg h, if_pos h2])).trans hm2
      intro t1 h1
      have e1 := dec_of h1
      cases t1 with
      | true => exact retb (by rw [hm, e1]; rfl)
      | false =>
        intro t2 h2
        have e2 := dec_of h2
        cases t2 with
        | true => exact retb (by rw [hm, e1, e2]; rfl)
        | false =>
          intro t3 h3
          have e3 := dec_of h3
          cases t3 with
          | true => exact retb (by rw [hm, e1, e2, e3]; rfl)
          | false =>
            intro t4 h4
            have e4 := dec_of h4
            exact retb (by rw [hm, e1, e2, e3, e4]; rfl)
    · have h2 : n ≠ 2 := beq_eq_false_iff_ne.1 h2
      exact retb (by unfold stgL; rw [if_neg h, if_neg h2]; rfl)
def tchW (sd : Int) (n : ByteArray) (l : List Rl) : Bool := l.any fun r => decide (r.sd = sd) && touchW r n
theorem tchW_at {sd : Int} {n : ByteArray} {l : List Rl} {k : Nat} (h : k < l.length) : tchW sd n (l.drop k) = (decide (l[k].sd = sd) && touchW l[k] n || tchW sd n (l.drop (k + 1))) := by
  rw [List.drop_eq_getElem_cons h]; rfl
theorem tch_of (sd : Int) (n : ByteArray) (l : List Rl) : memB (ofWr sd l) (foldB n) = tchW sd n l := by
  rw [Bool.eq_iff_iff]
  unfold memB tchW
  rw [List.any_eq_true, List.any_eq_true]
  constructor
  · rintro ⟨x, hx, he⟩
    have he := of_decide_eq_true he
    subst he
    rw [ofWr_mem] at hx
    obtain ⟨r, hr, hx⟩ := List.mem_flatMap.1 hx
    by_cases hs : r.sd = sd
    · rw [if_pos hs] at hx
      refine ⟨r, hr, ?_⟩
      rw [decide_eq_true hs, Bool.true_and]
      unfold touchW memB
      exact List.any_eq_true.2 ⟨_, hx, decide_eq_true rfl⟩
    · rw [if_neg hs] at hx; cases hx
  · rintro ⟨r, hr, he⟩
    rw [Bool.and_eq_true, decide_eq_true_eq] at he
    obtain ⟨hs, ht⟩ := he
    unfold touchW memB at ht
    obtain ⟨x, hx, hd⟩ := List.any_eq_true.1 ht
    refine ⟨x, ?_, hd⟩
    rw [ofWr_mem]
    exact List.mem_flatMap.2 ⟨r, hr, by rw [if_pos hs]; exact hx⟩
theorem touches38_p (name : ByteArray) (hn : name.size ≤ maxLen) (sd : Int) (l : List Rl) (hl : l.length ≤ 1000000) (hr : ∀ r ∈ l, r.Ok) : APure Tryz.prog 52 [.s name, .i sd, .sl .no 8 (rlL l)] (.b (tchW sd name l)) [] := by
  have hmx : maxLen = 9223372036854775807 := rfl
  have el := rlL_len l
  have hf := foldRM_p name hn
  refine APure.of rfl (ACalls.of_vc T_ok mixed Tryz.func52 rfl Tryz.call52 ?_)
  refine .p rfl hf ?_
  refine vc_loop [8] (fun g vals st' => ∃ k : Nat, k + g = l.length ∧ vals = [.i k] ∧ tchW sd name l = tchW sd name (l.drop k)) l.length rfl ⟨0, by omega, rfl, rfl⟩ ?_
  rintro g vals st' ⟨k, hk, rfl, htc⟩
  refine cnd_split (fun hd => ?_) (fun hd => ?_)
  · have hd := of_decide_eq_true hd
    have k1 : k < l.length := by omega
    have hro := hr _ (List.getElem_mem k1)
    have q1 := foldRM_p l[k].nm (by have := hro.nm; omega)
    have q2 := foldRM_p l[k].un (by have := hro.un; omega)
    rw [tchW_at k1, touchW_eq] at htc
    refine ⟨k, _, rfl, rlL_at k1, ?_⟩
    refine cnd_split (fun h1 => ?_) (fun h1 => ?_)
    · have h1 : l[k].sd ≠ sd := bne_iff_ne.1 h1
      rw [decide_eq_false h1, Bool.false_and, Bool.false_or] at htc
      intro c hc
      rw [IntWalk.i64_in _ (by omega)] at hc
      obtain rfl : c = ((k + 1 : Nat) : Int) := by omega
      exact ⟨g - 1, by omega, k + 1, by omega, rfl, htc⟩
    · have h1 : l[k].sd = sd := bne_eq_false_iff_eq.1 h1
      rw [decide_eq_true h1, Bool.true_and] at htc
      refine ⟨k, _, rfl, rlL_at k1, ?_⟩
      refine .p rfl q1 ?_
      intro t1 e1
      rw [dec_of e1] at htc
      cases t1 with
      | true => exact retb (by rw [htc]; rfl)
      | false =>
        refine ⟨k, _, rfl, rlL_at k1, ?_⟩
        refine cnd_split (fun h4 => ?_) (fun h4 => ?_)
        · rw [decide_eq_true (show l[k].ac = 4 from beq_iff_eq.1 h4)] at htc
          refine ⟨k, _, rfl, rlL_at k1, ?_⟩
          refine .p rfl q2 ?_
          intro t2 e2
          rw [dec_of e2] at htc
          cases t2 with
          | true => exact retb (by rw [htc]; rfl)
          | false =>
            intro c hc
            rw [IntWalk.i64_in _ (by omega)] at hc
            obtain rfl : c = ((k + 1 : Nat) : Int) := by omega
            exact ⟨g - 1, by omega, k + 1, by omega, rfl, by rw [htc]; rfl⟩
        · rw [decide_eq_false (show l[k].ac ≠ 4 from beq_eq_false_iff_ne.1 h4)] at htc
          intro c hc
          rw [IntWalk.i64_in _ (by omega)] at hc
          obtain rfl : c = ((k + 1 : Nat) : Int) := by omega
          exact ⟨g - 1, by omega, k + 1, by omega, rfl, by rw [htc]; rfl⟩
  · have hd := of_decide_eq_false hd
    have hkl : k = l.length := by omega
    rw [hkl, List.drop_length] at htc
    exact retb htc.symm
theorem memB_app (a b : List ByteArray) (x : ByteArray) : memB (a ++ b) x = (memB a x || memB b x) := by unfold memB; rw [List.any_append]
theorem rfree38_p (name : ByteArray) (hn : name.size ≤ maxLen) (k c mi : Int) (m t r : ByteArray) (fs : List Fld) (hF : FldOk fs) (l : List Rl) (hl : l.length ≤ 1000) (hr : ∀ r ∈ l, r.Ok) :
    APure Tryz.prog 22 [.s name, hdA k c mi m t r (.sl .no 2 (fldL fs)), .sl .no 8 (rlL l)] (.b (freeW name k fs l)) [] := by
  have hmx : maxLen = 9223372036854775807 := rfl
  have q1 := fixed24_p name (by omega)
  have q2 := rstage38_p name hn k
  have q3 := touches38_p name hn k l (by omega) hr
  have q4 := nom24_p fs hF
  have q5 := foldRM_p name hn
  have hW : freeW name k fs l = (!(memB namesL (foldB name)) && (!(memB (stgL k) (foldB name)) && (!(tchW k name l) && !(memB (nomW fs) (foldB name))))) := by
    unfold freeW
    rw [memB_app, memB_app, tch_of]
    cases memB namesL (foldB name) <;> cases memB (stgL k) (foldB name) <;> cases tchW k name l <;> cases memB (nomW fs) (foldB name) <;> rfl
  have hnl := (nomW_bound fs hF).1
  generalize freeW name k fs l = Z at hW
  generalize nomW fs = n at *
  generalize memB namesL (foldB name) = b1 at *
  generalize memB (stgL k) (foldB name) = b2 at *
  generalize tchW k name l = b3 at *
  have esl := strL_len n
  refine APure.of rfl ?_
  show ACalls _ _ [.s name, .agg [.i k, .s m, .s t, .i c, .s r, .i mi, .sl .no 2 (fldL fs)], .sl .no 8 (rlL l)] _ _
  refine ACalls.of_vc T_ok mixed Tryz.func22 rfl Tryz.call22 ?_
  refine .p rfl q1 ?_
  cases b1 with
  | true => exact retb (by rw [hW]; rfl)
  | false =>
    refine ⟨_, rfl, ?_⟩
    refine .p rfl q2 ?_
    cases b2 with
    | true => exact retb (by rw [hW]; rfl)
    | false =>
      refine ⟨_, rfl, ?_⟩
      refine .p rfl q3 ?_
      cases b3 with
      | true => exact retb (by rw [hW]; rfl)
      | false =>
        have hW : Z = !(memB n (foldB name)) := hW.trans (by simp)
        refine ⟨_, rfl, ?_⟩
        refine .p rfl q4 ?_
        refine vc_loop [8] (fun g vals st' => ∃ j : Nat, j + g = n.length ∧ vals = [.i j] ∧ memB n (foldB name) = memB (n.drop j) (foldB name)) n.length rfl ⟨0, by omega, rfl, rfl⟩ ?_
        rintro g vals st' ⟨j, hj, rfl, hc⟩
        refine cnd_split (fun hd => ?_) (fun hd => ?_)
        · have hd := of_decide_eq_true hd
          have j1 : j < n.length := by omega
          have hc2 : memB n (foldB name) = (decide (n[j] = foldB name) || memB (n.drop (j + 1)) (foldB name)) := by
            rw [hc, List.drop_eq_getElem_cons j1]; rfl
          refine .x (by kernel_rfl) ?_
          refine ⟨j, _, rfl, strL_at j1, ?_⟩
          refine .p rfl q5 ?_
          intro t1 e1
          rw [dec_of e1] at hc2
          cases t1 with
          | true => exact retb (by rw [hW, hc2]; rfl)
          | false =>
            intro c hc
            rw [IntWalk.i64_in _ (by omega)] at hc
            obtain rfl : c = ((j + 1 : Nat) : Int) := by omega
            exact ⟨g - 1, by omega, j + 1, by omega, rfl, by rw [hc2]; rfl⟩
        · have hd := of_decide_eq_false hd
          rw [show j = n.length by omega, List.drop_length] at hc
          exact retb (by rw [hW, hc]; rfl)
def rl38a : List Rl := [⟨1, 0, ⟨#[]⟩, ⟨#[]⟩, 4, ⟨#[66]⟩, ⟨#[65]⟩, []⟩, ⟨1, 0, ⟨#[]⟩, ⟨#[]⟩, 1, ⟨#[67]⟩, ⟨#[]⟩, []⟩]
theorem of38_ex : ofWr 1 rl38a = [⟨#[97]⟩, ⟨#[98]⟩, ⟨#[99]⟩] := by
  have h1 : (namesW 1 rl38a).map (fun s => s.data.toList) = [[98], [97], [99]] := by decide +kernel
  have h2 : List.mergeSort [[98], [97], [99]] (fun x y : List UInt8 => decide (x ≤ y)) = [[97], [98], [99]] := by
    have a1 : ¬ ([98] : List UInt8) ≤ [97] := by decide
    have a2 : ([97] : List UInt8) ≤ [99] := by decide
    have a3 : ([98] : List UInt8) ≤ [99] := by decide
    simp [List.mergeSort, List.MergeSort.Internal.splitInTwo, List.merge, a1, a2, a3]
  unfold ofWr
  rw [h1, h2]
  rfl
theorem awake38_p : APure Tryz.prog 17 [] (.b true) [] := by
  have q0 := of38_p 1 rl38a (by decide) (fun r hr => by
    simp only [rl38a, List.mem_cons, List.not_mem_nil, or_false] at hr
    rcases hr with rfl | rfl <;> exact ⟨by decide, by decide, by decide, by decide, by decide, by decide⟩)
  rw [of38_ex] at q0
  have q1 := APure.deep (args := [.i 1, .sl .no 8 (rl38a.map fun r : Rl => [.i r.sd, .i r.gk, .s r.ga, .s r.gb, .i r.ac, .s r.nm, .s r.un, .nilS])]) (args' := [.i 1, .sl .no 8 (rlL rl38a)]) ⟨.inl rfl, deepR rl38a, trivial⟩ q0
  refine APure.of rfl (ACalls.of_vc T_ok mixed Tryz.func17 rfl Tryz.call17 ?_)
  refine .p rfl q1 ?_
  refine ⟨0, _, rfl, rfl, ?_⟩
  intro t1 e1
  obtain rfl : t1 = true := e1.2 rfl
  refine ⟨1, _, rfl, rfl, ?_⟩
  intro t2 e2
  obtain rfl : t2 = true := e2.2 rfl
  refine ⟨2, _, rfl, rfl, ?_⟩
  intro t3 e3
  obtain rfl : t3 = true := e3.2 rfl
  rfl
theorem stg_in (n : Int) : ∀ i (hi : i < (stgL n).length), memB (stgL n) (foldB (stgL n)[i]) = true := by
  by_cases h1 : n = 1
  · subst h1; decide +kernel
  by_cases h2 : n = 2
  · subst h2; decide +kernel
  have e : stgL n = [] := by unfold stgL; rw [if_neg h1, if_neg h2]
  intro i hi
  rw [e] at hi
  simp at hi
def LtP (s : List ByteArray) : Prop := ∀ i (hi : i + 1 < s.length), (Op.bytesLess s[i + 1].toList s[i].toList || s[i + 1].toList == s[i].toList) = false
theorem stg_lt (n : Int) : LtP (stgL n) := by
  by_cases h1 : n = 1
  · subst h1
    intro i hi
    have hi' : i + 1 < 4 := hi
    obtain rfl | rfl | rfl : i = 0 ∨ i = 1 ∨ i = 2 := by omega
    · clear hi'; revert hi; decide +kernel
    · clear hi'; revert hi; decide +kernel
    · clear hi'; revert hi; decide +kernel
  by_cases h2 : n = 2
  · subst h2
    intro i hi
    have hi' : i + 1 < 4 := hi
    obtain rfl | rfl | rfl : i = 0 ∨ i = 1 ∨ i = 2 := by omega
    · clear hi'; revert hi; decide +kernel
    · clear hi'; revert hi; decide +kernel
    · clear hi'; revert hi; decide +kernel
  have e : stgL n = [] := by unfold stgL; rw [if_neg h1, if_neg h2]
  intro i hi
  rw [e] at hi
  simp at hi
theorem stg_sz (n : Int) : ∀ i (hi : i < (stgL n).length), ((stgL n)[i]).size ≤ 100 := by
  by_cases h1 : n = 1
  · subst h1; decide +kernel
  by_cases h2 : n = 2
  · subst h2; decide +kernel
  have e : stgL n = [] := by unfold stgL; rw [if_neg h1, if_neg h2]
  intro i hi
  rw [e] at hi
  simp at hi
theorem writesFree_p (name : ByteArray) (hn : name.size ≤ maxLen) (k c mi : Int) (m t r : ByteArray) (fs : List Fld) (l : List Rl) :
    APure Tryz.prog 4 [.s name, hdA k c mi m t r (.sl .no 2 (fldL fs)), .sl .no 8 (rlL l)] (.b true) [] := by
  have hmx : maxLen = 9223372036854775807 := rfl
  have h0 := few_h k c mi m t r fs
  have h1 := few35_p l
  have hF := FldOk.few fs
  have hro := fewR_all l
  have hlm : ((l.take 70).map fewR).length ≤ 1000 := by rw [List.length_map, List.length_take]; omega
  generalize (l.take 70).map fewR = q at *
  generalize fewF fs = gs at *
  generalize cut400 m = m2 at *
  generalize cut400 t = t2 at *
  generalize cut400 r = r2 at *
  have p1 := free38_p name hn k c mi m2 t2 r2 gs hF q hlm hro
  have p2 := rfree38_p name hn k c mi m2 t2 r2 gs hF q hlm hro
  generalize freeW name k gs q = z at *
  have hin := stg_in k
  have hlt := stg_lt k
  have hs := stage_p k
  have hsl := stgL_len k
  have hsz := stg_sz k
  have rs := fun i (hi : i < (stgL k).length) => rstage38_p (stgL k)[i] (by have := hsz i hi; omega) k
  have hlen : ((stgL k).length : Int) = if k = 1 ∨ k = 2 then 4 else 0 := by
    unfold stgL
    split
    · rename_i h; rw [if_pos (.inl h)]; rfl
    · split
      · rename_i h; rw [if_pos (.inr h)]; rfl
      · rename_i h1 h2; rw [if_neg (fun h => h.elim h1 h2)]; rfl
  have rs2 : ∀ i (hi : i < (stgL k).length), APure Tryz.prog 20 [.s (stgL k)[i], .i k] (.b true) [] := fun i hi => by
    have := rs i hi
    rw [hin i hi] at this
    exact this
  clear rs hin
  generalize stgL k = s at *
  have esl := strL_len s
  refine APure.of rfl ?_
  show ACalls _ _ [.s name, .agg [.i k, .s m, .s t, .i c, .s r, .i mi, .sl .no 2 (fldL fs)], .sl .no 8 (rlL l)] _ _
  refine ACalls.of_vc T_ok mixed Tryz.func4 rfl Tryz.call4 ?_
  refine .p rfl awake38_p ?_
  refine ⟨_, rfl, ?_⟩
  refine .p rfl h0 ?_
  refine .p rfl h1 ?_
  refine ⟨_, rfl, ?_⟩
  refine ⟨_, rfl, ?_⟩
  refine .p rfl hs ?_
  have fin : ∀ n : Int, n = (s.length : Int) → True := fun _ _ => trivial
  refine vc_loop [8] (fun g vals st' => ∃ j : Nat, j + g = s.length ∧ vals = [.i j] ∧ st'.heap[0]? = some [.i k, .s m2, .s t2, .i c, .s r2, .i mi, .sl .no 2 (fldL gs)]) s.length rfl ⟨0, by omega, rfl, rfl⟩ ?_
  rintro g vals st' ⟨j, hj, rfl, hh⟩
  refine cnd_split (fun hd => ?_) (fun hd => ?_)
  · have hd := of_decide_eq_true hd
    have j1 : j < s.length := by omega
    refine .e (by kernel_rfl) ?_
    refine ⟨j, _, rfl, strL_at j1, ?_⟩
    refine ⟨_, hh, ?_⟩
    refine .p rfl (rs2 j j1) ?_
    refine cnd_split (fun h2 => ?_) (fun h2 => ?_)
    · have h2 := of_decide_eq_true h2
      obtain ⟨i, rfl⟩ : ∃ i, j = i + 1 := ⟨j - 1, by omega⟩
      have h3 := hlt i j1
      refine ⟨i + 1, _, rfl, strL_at j1, ?_⟩
      intro c hc
      rw [IntWalk.i64_in _ (by omega)] at hc
      obtain rfl : c = ((i : Nat) : Int) := by omega
      refine ⟨i, _, rfl, strL_at (by omega), ?_⟩
      intro t3 e3
      rw [h3] at e3
      subst e3
      intro c hc
      rw [IntWalk.i64_in _ (by omega)] at hc
      obtain rfl : c = ((i + 1 + 1 : Nat) : Int) := by omega
      exact ⟨g - 1, by omega, i + 1 + 1, by omega, rfl, hh⟩
    · skip
      intro c hc
      rw [IntWalk.i64_in _ (by omega)] at hc
      obtain rfl : c = ((j + 1 : Nat) : Int) := by omega
      exact ⟨g - 1, by omega, j + 1, by omega, rfl, hh⟩
  · have hd := of_decide_eq_false hd
    refine ⟨_, hh, ?_⟩
    refine cnd_split (fun h2 => ?_) (fun h2 => ?_)
    · have h2 : k = 1 := beq_iff_eq.1 h2
      rw [if_pos (.inl h2)] at hlen
      refine .e (by kernel_rfl) ?_
      refine cnd_split (fun h9 => ?_) (fun h9 => absurd (by omega) (beq_eq_false_iff_ne.1 h9))
      refine ⟨_, hh, ?_⟩
      refine .p rfl p1 ?_
      refine ⟨_, hh, ?_⟩
      refine .p rfl p2 ?_
      exact retb (beq_self_eq_true z)
    · have h2 : k ≠ 1 := beq_eq_false_iff_ne.1 h2
      refine ⟨_, hh, ?_⟩
      refine cnd_split (fun h3 => ?_) (fun h3 => ?_)
      · have h3 : k = 2 := beq_iff_eq.1 h3
        rw [if_pos (.inr h3)] at hlen
        refine .e (by kernel_rfl) ?_
        refine cnd_split (fun h9 => ?_) (fun h9 => absurd (by omega) (beq_eq_false_iff_ne.1 h9))
        refine ⟨_, hh, ?_⟩
        refine .p rfl p1 ?_
        refine ⟨_, hh, ?_⟩
        refine .p rfl p2 ?_
        exact retb (beq_self_eq_true z)
      · have h3 : k ≠ 2 := beq_eq_false_iff_ne.1 h3
        rw [if_neg (fun h => h.elim h2 h3)] at hlen
        refine .e (by kernel_rfl) ?_
        refine cnd_split (fun h9 => ?_) (fun h9 => absurd (by omega) (beq_eq_false_iff_ne.1 h9))
        refine ⟨_, hh, ?_⟩
        refine .p rfl p1 ?_
        refine ⟨_, hh, ?_⟩
        refine .p rfl p2 ?_
        exact retb (beq_self_eq_true z)
end
structure Hd where
  k : Int
  c : Int
  mi : Int
  m : ByteArray
  t : ByteArray
  r : ByteArray
  l : List Fld
section
variable {H : Type} {enc : TypeId × Value → H} {W : World} {base b2 : Nat} {spare : Nat → Bool} {held : Bool} {v : Value} {d : DataW H} {p : List MemPlace}
theorem open_headg (_ : Value.okWide Tryz.prog W .any base 49 v) (hx : DataW.Trod enc Tryz.prog W b2 spare held 49 v d p) : ∃ h : Hd, AtR W (.agg [.i h.k, .s h.m, .s h.t, .i h.c, .s h.r, .i h.mi, .sl .no 2 (fldL h.l)]) v ∧ True := by
  obtain ⟨k, c, mi, m, tt, r, u, l, rfl, hl⟩ := open_head hx
  exact ⟨⟨k, c, mi, m, tt, r, l⟩, .head hl, trivial⟩
end
end Go.Proofs.YthneihlplijklaaGreatDoor
