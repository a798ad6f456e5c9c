/- Rows of fields, in plain words: what puts, renames and goes behind. No statement of its own. -/
import Derived.Test.YtookaenbpfpegaaDoorHpA
set_option linter.unusedSimpArgs false
set_option linter.unusedVariables false
set_option maxRecDepth 100000
namespace Go.Proofs.YtookaenbpfpegaaDoor
open Go.RowKit
/-- is a field of a name? -/
def ofB (n : ByteArray) (f : Fld) : Bool := decide (foldB f.1 = foldB n)
def withoutW (n : ByteArray) (l : List Fld) : List Fld := l.filter fun f => !ofB n f
theorem withoutW_take {n : ByteArray} {l : List Fld} {k : Nat} (h : k < l.length) : withoutW n (l.take (k + 1)) = withoutW n (l.take k) ++ (if ofB n l[k] = true then [] else [l[k]]) := by
  rw [List.take_succ_eq_append_getElem h]
  unfold withoutW
  rw [List.filter_append]
  congr 1
  cases ho : ofB n l[k] with
  | true => simp [List.filter, ho]
  | false => simp [List.filter, ho]
theorem oneW_one (n : ByteArray) (f : Fld) : oneW f.1 [n] = ofB n f := by
  unfold oneW ofB
  simp only [List.any_cons, List.any_nil, Bool.or_false]
  rw [Bool.eq_iff_iff, decide_eq_true_eq, decide_eq_true_eq]
  exact ⟨Eq.symm, Eq.symm⟩
theorem oneW_two (n m : ByteArray) (f : Fld) : oneW f.1 [n, m] = (ofB n f || ofB m f) := by
  unfold oneW ofB
  simp only [List.any_cons, List.any_nil, Bool.or_false]
  congr 1
  · rw [Bool.eq_iff_iff, decide_eq_true_eq, decide_eq_true_eq]
    exact ⟨Eq.symm, Eq.symm⟩
  · rw [Bool.eq_iff_iff, decide_eq_true_eq, decide_eq_true_eq]
    exact ⟨Eq.symm, Eq.symm⟩
theorem keptW_one (n : ByteArray) (l : List Fld) : keptW [n] l = withoutW n l := by
  unfold keptW withoutW
  exact List.filter_congr fun f _ => by rw [oneW_one]
theorem keptW_two (n m : ByteArray) (l : List Fld) : keptW [n, m] l = withoutW m (withoutW n l) := by
  unfold keptW withoutW
  rw [List.filter_filter]
  exact List.filter_congr fun f _ => by rw [oneW_two, Bool.not_or, Bool.and_comm]
/-- one field of a name -/
def putW (n v : ByteArray) : List Fld → List Fld
  | [] => [(n, v)]
  | f :: r => if ofB n f = true then (n, v) :: withoutW n r else f :: putW n v r
theorem putW_at {n v : ByteArray} : ∀ {l : List Fld} {k : Nat} (hk : k < l.length), (∀ i (hi : i < l.length), i < k → ofB n l[i] = false) → ofB n l[k] = true →
    putW n v l = (withoutW n l).take k ++ (n, v) :: (withoutW n l).drop k ∧ k ≤ (withoutW n l).length ∧ (withoutW n l).length < l.length
  | [], k, hk, _, _ => by simp at hk
  | f :: r, 0, _, _, h => by
    have h : ofB n f = true := h
    have e : withoutW n (f :: r) = withoutW n r := by unfold withoutW; rw [List.filter_cons, h]; rfl
    rw [putW, if_pos h, e]
    refine ⟨by simp, Nat.zero_le _, ?_⟩
    have : (withoutW n r).length ≤ r.length := List.length_filter_le _ _
    simp; omega
  | f :: r, k + 1, hk, ha, h => by
    have h0 : ofB n f = false := ha 0 (by simp) (by omega)
    have e : withoutW n (f :: r) = f :: withoutW n r := by unfold withoutW; rw [List.filter_cons, h0]; rfl
    obtain ⟨i1, i2, i3⟩ := putW_at (n := n) (v := v) (l := r) (k := k) (by simpa using hk) (fun i hi hik => ha (i + 1) (by simp; omega) (by omega)) h
    rw [putW, if_neg (by rw [h0]; decide), e, i1]
    exact ⟨by simp, by simpa using i2, by simpa using i3⟩
theorem putW_no {n v : ByteArray} : ∀ {l : List Fld}, (∀ i (hi : i < l.length), ofB n l[i] = false) → putW n v l = l ++ [(n, v)]
  | [], _ => rfl
  | f :: r, h => by
    have h0 : ofB n f = false := h 0 (by simp)
    rw [putW, if_neg (by rw [h0]; decide), putW_no fun i hi => h (i + 1) (by simp; omega)]
    rfl
/-- a field called otherwise -/
def renF (a b : ByteArray) (f : Fld) : Fld := if ofB a f = true then (b, f.2) else f
def renW (a b : ByteArray) (l : List Fld) : List Fld := l.map (renF a b)
def cntW (a : ByteArray) (l : List Fld) : Nat := (l.filter (ofB a)).length
theorem cntW_take {a : ByteArray} {l : List Fld} {k : Nat} (h : k < l.length) : cntW a (l.take (k + 1)) = cntW a (l.take k) + (if ofB a l[k] = true then 1 else 0) := by
  rw [List.take_succ_eq_append_getElem h]
  unfold cntW
  rw [List.filter_append, List.length_append]
  congr 1
  cases ho : ofB a l[k] with
  | true => simp [ho]
  | false => simp [ho]
theorem cntW_vals (a : ByteArray) (l : List Fld) : cntW a l = (valsW a l).length := by unfold cntW valsW; rw [List.length_map]; rfl
theorem cntW_le (a : ByteArray) (l : List Fld) : cntW a l ≤ l.length := List.length_filter_le _ _
/-- the last field of a name -/
def IsLast (n : ByteArray) (l : List Fld) (i : Nat) : Prop := ∃ h : i < l.length, ofB n l[i] = true ∧ ∀ j (hj : j < l.length), i < j → ofB n l[j] = false
open Classical in
noncomputable def behW (n s : ByteArray) (l : List Fld) : List Fld :=
  if h : ∃ i, IsLast n l i then l.set (Classical.choose h) ((l.getD (Classical.choose h) default).1, appW (l.getD (Classical.choose h) default).2 [s]) else l ++ [(n, s)]
theorem IsLast.uniq {n : ByteArray} {l : List Fld} {i j : Nat} (h : IsLast n l i) (k : IsLast n l j) : i = j := by
  obtain ⟨h1, h2, h3⟩ := h
  obtain ⟨k1, k2, k3⟩ := k
  by_cases e : i = j
  · exact e
  · by_cases hl : i < j
    · rw [h3 j k1 hl] at k2; cases k2
    · rw [k3 i h1 (by omega)] at h2; cases h2
theorem behW_at {n s : ByteArray} {l : List Fld} {i : Nat} (h : IsLast n l i) (hi : i < l.length) : behW n s l = l.set i (l[i].1, appW l[i].2 [s]) := by
  have hx : ∃ i, IsLast n l i := ⟨i, h⟩
  have e := (Classical.choose_spec hx).uniq h
  unfold behW
  rw [dif_pos hx, e, List.getD_eq_getElem?_getD, List.getElem?_eq_getElem hi, Option.getD_some]
theorem behW_no {n s : ByteArray} {l : List Fld} (h : ∀ i (hi : i < l.length), ofB n l[i] = false) : behW n s l = l ++ [(n, s)] := by
  unfold behW
  rw [dif_neg]
  rintro ⟨i, h1, h2, _⟩
  rw [h i h1] at h2; cases h2
/-- the document's walk of Put, behind k fields -/
theorem putW_split {n v : ByteArray} {l : List Fld} {k : Nat} (hk : k ≤ l.length) (h : ∀ i (hi : i < l.length), i < k → ofB n l[i] = false) : putW n v l = l.take k ++ putW n v (l.drop k) := by
  induction k generalizing l with
  | zero => simp
  | succ k ih =>
    cases l with
    | nil => simp at hk
    | cons f r =>
      have h0 : ofB n f = false := h 0 (by simp) (by omega)
      rw [putW, if_neg (by rw [h0]; decide), ih (by simpa using hk) fun i hi hik => h (i + 1) (by simp; omega) (by omega)]
      simp
theorem withoutW_none {n : ByteArray} {l : List Fld} (h : ∀ i (hi : i < l.length), ofB n l[i] = false) : withoutW n l = l := by
  unfold withoutW
  refine List.filter_eq_self.2 fun f hf => ?_
  obtain ⟨i, hi, rfl⟩ := List.getElem_of_mem hf
  rw [h i hi]; rfl
theorem withoutW_len (n : ByteArray) (l : List Fld) : (withoutW n l).length ≤ l.length := List.length_filter_le _ _
end Go.Proofs.YtookaenbpfpegaaDoor
