/- Messages: rows of fields, cut short, bags made of them, the values of a name. No statement of its own. -/
import Derived.Test.YtgaidgblihnldaaGreatDoorSp
set_option linter.unusedSimpArgs false
set_option linter.unusedVariables false
set_option maxRecDepth 100000
namespace Go.Proofs.YtgaidgblihnldaaGreatDoor
open Go.RowKit
def cut400 (s : ByteArray) : ByteArray := s.extract 0 (if 400 < s.size then 400 else s.size)
theorem cut400_size (s : ByteArray) : (cut400 s).size ≤ 400 := by
  unfold cut400
  rw [ByteArray.size_extract]
  split <;> omega
/-- fields in a row -/
def fldL (l : List Fld) : List (List AV) := l.map fun f => [AV.s f.1, AV.s f.2]
theorem fldL_len (l : List Fld) : (fldL l).length = l.length := by simp [fldL]
theorem fldL_at {l : List Fld} {j : Nat} (h : j < l.length) : (fldL l)[j]? = some [.s l[j].1, .s l[j].2] := by simp [fldL, h]
theorem fldL_app (l : List Fld) (a b : ByteArray) : fldL l ++ [[.s a, .s b]] = fldL (l ++ [(a, b)]) := by simp [fldL]
theorem fldL_appL (l m : List Fld) : fldL l ++ fldL m = fldL (l ++ m) := by simp [fldL]

/-- a struct with rows in it, handed back by a function that sees nothing but data -/
theorem ACalls.toPureA {P : Program} {f : FuncId} {args : List AV} {cs0 : List AV} (hd : (AV.agg cs0).dat = true) (h : ACalls P f args ⟨[], []⟩ fun r' _ => ∃ cs, r' = .agg cs ∧ CellsW cs cs0) : APure P f args (.agg cs0) [] := by
  refine ⟨AV.res_of_datR hd, h.1, fun J w vs hw hl ha => ?_⟩
  refine (h.2 w.heap.size J w (fun _ => 0) (fun _ => ⟨0, 0, 0⟩) w vs (Ok.none J _ _ w hw) hl ha).mono ?_
  rintro e w' ⟨v, r', st', μ', σ', rfl, ⟨cs, rfl, hR⟩, hok, hx, hat⟩
  refine ⟨v, fun _ => ⟨0, 0, 0⟩, rfl, ⟨hok.bs, hok.below, fun p cs h => by simp at h, fun p q h => by simp at h, fun t e h => by simp at h⟩, ?_⟩
  have hi : ∀ g x, Im w.heap.size J st' μ' σ' g x → g < w'.heap.size → Im w.heap.size J ⟨[], []⟩ (fun _ => 0) (fun _ => ⟨0, 0, 0⟩) g x := fun g x hi _ => ⟨hi.1, fun p hp => by simp at hp, fun t e ht => by simp at ht⟩
  cases hat with
  | agg cs us e1 hr =>
    refine .agg _ us (by rw [← hR.length]; exact e1) fun j a u h1 h2 => ?_
    obtain ⟨b, hb, hw⟩ := hR.get j a h1
    exact cellW_at (hr j b u hb h2) hi hw

/-- an empty row, as whatever it may be -/
theorem APure.empty {P : Program} {f : FuncId} {sz : Nat} {r : AV} {ns : List Nat} (h : ∀ a cap, cap ≤ maxLen → APure P f [.lit (.slice a 0 cap)] r ns) : APure P f [.sl .no sz []] r ns := by
  refine ⟨(h none 0 (Nat.zero_le _)).1, (h none 0 (Nat.zero_le _)).2.1, fun J w vs hw hl ha => ?_⟩
  have h0 : 0 < vs.size := by rw [← hl]; exact Nat.zero_lt_one
  obtain ⟨a, cap, e, hm⟩ : ∃ a cap, vs[0] = .slice a 0 cap ∧ cap ≤ maxLen := by
    rcases (ha 0 _ vs[0] rfl (Array.getElem?_eq_getElem h0)).sl_inv with ⟨_, _, a, cap, e, hm⟩ | ⟨g, o, cap, us, e, _, _, hm, _⟩
    · exact ⟨a, cap, e, hm⟩
    · exact ⟨_, cap, e, hm⟩
  refine (h a cap hm).2.2 J w vs hw hl fun j b v hb hv => ?_
  cases j with
  | zero =>
    cases hb
    rw [Array.getElem?_eq_getElem h0, e] at hv
    cases hv
    exact .lit _
  | succ j => simp at hb
theorem ACalls.empty {P : Program} {f : FuncId} {sz : Nat} {st : St} {R : AV → St → Prop} (h : ∀ a cap, cap ≤ maxLen → ACalls P f [.lit (.slice a 0 cap)] st R) : ACalls P f [.sl .no sz []] st R := by
  refine ⟨(h none 0 (Nat.zero_le _)).1, fun base J w0 μ σ w vs hok hl ha => ?_⟩
  have h0 : 0 < vs.size := by rw [← hl]; exact Nat.zero_lt_one
  obtain ⟨a, cap, e, hm⟩ : ∃ a cap, vs[0] = .slice a 0 cap ∧ cap ≤ maxLen := by
    rcases (ha 0 _ vs[0] rfl (Array.getElem?_eq_getElem h0)).sl_inv with ⟨_, _, a, cap, e, hm⟩ | ⟨g, o, cap, us, e, _, _, hm, _⟩
    · exact ⟨a, cap, e, hm⟩
    · exact ⟨_, cap, e, hm⟩
  refine (h a cap hm).2 base J w0 μ σ w vs hok hl fun j b v hb hv => ?_
  cases j with
  | zero =>
    cases hb
    rw [Array.getElem?_eq_getElem h0, e] at hv
    cases hv
    exact .lit _
  | succ j => simp at hb
theorem flat_fld (l : List Fld) : ∀ (k : Nat) (e : List AV), (fldL l)[k]? = some e → e.length = 2 ∧ e.all AV.flat = true := fun k e h => by
  simp only [fldL, List.getElem?_map, Option.map_eq_some_iff] at h
  obtain ⟨f, _, rfl⟩ := h
  exact ⟨rfl, rfl⟩
/-- a message's fields, cut short -/
def fewF (l : List Fld) : List Fld := (l.take 120).map fun f => (cut400 f.1, cut400 f.2)
theorem fewF_len (l : List Fld) : (fewF l).length ≤ 120 := by unfold fewF; rw [List.length_map, List.length_take]; omega
theorem fewF_size (l : List Fld) : ∀ f ∈ fewF l, f.1.size ≤ 400 ∧ f.2.size ≤ 400 := fun f hf => by
  unfold fewF at hf
  obtain ⟨x, _, rfl⟩ := List.mem_map.1 hf
  exact ⟨cut400_size _, cut400_size _⟩
section
attribute [local irreducible] vcApp
end
/-- a state that has grown: all that was is as it was -/
structure Gr (st st' : St) : Prop where
  pre : Pre st st'
  tl : st.tk.length ≤ st'.tk.length
  tk : ∀ t, t < st.tk.length → st'.tk[t]? = st.tk[t]?
theorem Gr.refl (st : St) : Gr st st := ⟨.refl _, Nat.le_refl _, fun _ _ => rfl⟩
theorem Gr.trans {a b c : St} (h : Gr a b) (g : Gr b c) : Gr a c := ⟨h.pre.trans g.pre, Nat.le_trans h.tl g.tl, fun t ht => (g.tk t (Nat.lt_of_lt_of_le ht h.tl)).trans (h.tk t ht)⟩
theorem last_at (h : List (List AV)) (x : List AV) : (h ++ [x])[h.length]? = some x := by simp
theorem last_set (h : List (List AV)) (x y : List AV) : (h ++ [x]).set h.length y = h ++ [y] := by simp
theorem last_upd (h : List (List AV)) (x y : List AV) : ((h ++ [x]).set h.length y)[h.length]? = some y := by rw [last_set, last_at]
/-- the values of a name -/
def valsW (name : ByteArray) (l : List Fld) : List ByteArray := (l.filter fun f => decide (foldB f.1 = foldB name)).map (·.2)
theorem valsW_len (name : ByteArray) (l : List Fld) : (valsW name l).length ≤ l.length := by unfold valsW; rw [List.length_map]; exact List.length_filter_le _ _
theorem valsW_mem {name : ByteArray} {l : List Fld} {v : ByteArray} (h : v ∈ valsW name l) : ∃ f ∈ l, v = f.2 := by
  unfold valsW at h
  obtain ⟨f, hf, rfl⟩ := List.mem_map.1 h
  exact ⟨f, (List.mem_filter.1 hf).1, rfl⟩
theorem valsW_snoc (name : ByteArray) (l : List Fld) (k : Nat) (h : k < l.length) : valsW name (l.take (k + 1)) = valsW name (l.take k) ++ (if decide (foldB l[k].1 = foldB name) = true then [l[k].2] else []) := by
  rw [List.take_succ_eq_append_getElem h]
  unfold valsW
  rw [List.filter_append, List.map_append]
  congr 1
  by_cases hd : decide (foldB l[k].1 = foldB name) = true
  · rw [if_pos hd]; simp only [List.filter, hd]; rfl
  · rw [if_neg hd]; rw [Bool.not_eq_true] at hd; simp only [List.filter, hd]; rfl
theorem valsW_congr {a b : ByteArray} (h : foldB a = foldB b) (l : List Fld) : valsW a l = valsW b l := by unfold valsW; rw [h]

section
attribute [local irreducible] vcApp
end
structure FldOk (l : List Fld) : Prop where
  len : l.length ≤ 1000
  size : ∀ f ∈ l, f.1.size ≤ 4000 ∧ f.2.size ≤ 4000
theorem FldOk.big {l : List Fld} (h : FldOk l) : ∀ f ∈ l, f.1.size ≤ 1099511627776 ∧ f.2.size ≤ 1099511627776 := fun f hf => by have := h.size f hf; omega
theorem FldOk.vlen {l : List Fld} (h : FldOk l) (n : ByteArray) : (valsW n l).length ≤ 1000 := Nat.le_trans (valsW_len n l) h.len
theorem FldOk.vsize {l : List Fld} (h : FldOk l) (n : ByteArray) : ∀ x ∈ valsW n l, x.size ≤ 4000 := fun x hx => by
  obtain ⟨f, hf, rfl⟩ := valsW_mem hx
  exact (h.size f hf).2
theorem FldOk.few (l : List Fld) : FldOk (fewF l) := ⟨by have := fewF_len l; omega, fun f hf => by have := fewF_size l f hf; omega⟩
theorem nil_len (l : List ByteArray) : (strL l = [] ↔ l = []) := by unfold strL; exact List.map_eq_nil_iff
/-- a head -/
abbrev hdA (k c mi : Int) (m t r : ByteArray) (row : AV) : AV := .agg [.i k, .s m, .s t, .i c, .s r, .i mi, row]
theorem hdW {k c mi : Int} {m t r : ByteArray} {row : AV} (l : List Fld) (h : cellW row (.sl .no 2 (fldL l))) : argW (hdA k c mi m t r row) (hdA k c mi m t r (.sl .no 2 (fldL l))) :=
  .inl (.inr ⟨_, _, rfl, rfl, .inl ⟨rfl, rfl⟩, .inl ⟨rfl, rfl⟩, .inl ⟨rfl, rfl⟩, .inl ⟨rfl, rfl⟩, .inl ⟨rfl, rfl⟩, .inl ⟨rfl, rfl⟩, h, trivial⟩)
theorem hdW1 {k c mi : Int} {m t r : ByteArray} {row : AV} (l : List Fld) (h : cellW row (.sl .no 2 (fldL l))) : ArgsW [hdA k c mi m t r row] [hdA k c mi m t r (.sl .no 2 (fldL l))] := ⟨hdW l h, trivial⟩
end Go.Proofs.YtgaidgblihnldaaGreatDoor
