/- Names among others; rows that are one's own variables. No statement of its own. -/
import Derived.Test.YtookaenbpfpegaaGreatDoorPa1
import Derived.Test.YtookaenbpfpegaaGreatDoorCo
set_option linter.unusedSimpArgs false
set_option linter.unusedVariables false
set_option maxRecDepth 100000
namespace Go.Proofs.YtookaenbpfpegaaGreatDoor
open Go.RowKit
theorem Pre.lenH {a b : St} (h : Pre a b) : a.heap.length ≤ b.heap.length := by
  obtain ⟨l, h⟩ := h
  rw [h, List.length_append]; omega
/-- is it a name of these, in any case? -/
def oneW (name : ByteArray) (names : List ByteArray) : Bool := names.any fun s => decide (foldB s = foldB name)
theorem oneW_true {name : ByteArray} {names : List ByteArray} {k : Nat} (hk : k < names.length) (h : decide (foldB names[k] = foldB name) = true) : oneW name names = true := List.any_eq_true.2 ⟨_, List.getElem_mem hk, h⟩
theorem oneW_false {name : ByteArray} {names : List ByteArray} (h : ∀ i (hi : i < names.length), decide (foldB names[i] = foldB name) = false) : oneW name names = false := List.any_eq_false.2 fun x hx => by
  obtain ⟨i, hi, rfl⟩ := List.getElem_of_mem hx
  rw [h i hi]; decide
structure NmOk (l : List ByteArray) : Prop where
  len : l.length ≤ 1099511627776
  size : ∀ x ∈ l, x.size ≤ 1099511627776
section
variable {st : St} {R : AV → St → Prop} {q : Nat}
theorem one1_a {s name : ByteArray} (hs : s.size ≤ maxLen) (hn : name.size ≤ maxLen) (hq : st.heap[q]? = some [.s name]) (h : R (.b (decide (foldB s = foldB name))) st) : ACalls Tryz.prog 185 [.s s, .ptr q 0] st R := by
  refine ACalls.of_vc T_ok mixed Tryz.func185 rfl Tryz.call185 ?_
  refine ⟨_, hq, ?_⟩
  refine .p rfl (sameO_p s name hs hn) ?_
  exact h
theorem indexS_a {tg : Tk} {name : ByteArray} (names : List ByteArray) (hl : NmOk names) (hn : name.size ≤ maxLen) (hq : st.heap[q]? = some [.s name]) (h : ∀ v : Int, decide (v ≥ 0) = oneW name names → R (.i v) st) :
    ACalls Tryz.prog 204 [.sl tg 1 (strL names), .fn (.func 185) [] [.ptr q 0]] st R := by
  have hmx : maxLen = 9223372036854775807 := rfl
  have el := strL_len names
  have hnl := hl.len
  refine ACalls.of_vc T_ok mixed Tryz.func204 rfl Tryz.call204 ?_
  refine vc_loop [8] (fun g vals st' => ∃ k : Nat, k + g = names.length ∧ vals = [.i k] ∧ st' = st ∧ ∀ i (hi : i < names.length), i < k → decide (foldB names[i] = foldB name) = false) names.length rfl ⟨0, by omega, rfl, rfl, fun i _ h => absurd h (by omega)⟩ ?_
  rintro g vals st' ⟨k, hk, rfl, rfl, hall⟩
  refine cnd_split (fun hd => ?_) (fun hd => ?_)
  · have hd := of_decide_eq_true hd
    have k1 : k < names.length := by omega
    have sz := hl.size names[k] (List.getElem_mem k1)
    refine ⟨k, _, rfl, strL_at k1, ?_⟩
    refine .s (one1_a (by omega) hn hq ?_)
    refine cnd_split (fun h2 => ?_) (fun h2 => ?_)
    · exact h k (by rw [oneW_true k1 h2]; exact decide_eq_true (by omega))
    · intro c hc
      rw [IntWalk.i64_in _ (by omega)] at hc
      obtain rfl : c = ((k + 1 : Nat) : Int) := by omega
      refine ⟨g - 1, by omega, k + 1, by omega, rfl, rfl, fun i hi hik => ?_⟩
      by_cases e : i = k
      · subst e; exact h2
      · exact hall i hi (by omega)
  · have hd := of_decide_eq_false hd
    exact h (-1) (by rw [oneW_false fun i hi => hall i hi (by omega)]; rfl)
end
theorem one_w (name : ByteArray) (names : List ByteArray) (hl : NmOk names) (hn : name.size ≤ maxLen) : APure Tryz.prog 152 [.s name, .sl .no 1 (strL names)] (.b (oneW name names)) [] := by
  refine APure.of rfl (ACalls.of_vc T_ok mixed Tryz.func152 rfl Tryz.call152 ?_)
  refine .s (.of_vc T_ok mixed Tryz.func184 rfl Tryz.call184 ?_)
  refine .s (indexS_a names hl hn rfl fun v hv => ?_)
  exact retb hv
/-- a row's cells -/
abbrev fl (l : List Fld) : List AV := (fldL l).flatten
theorem fl_len (l : List Fld) : (fl l).length = l.length * 2 := by
  rw [flat_len (sz := 2) (fun k e h => (flat_fld l k e h).1), fldL_len]
theorem fl_cons (f : Fld) (l : List Fld) : fl (f :: l) = .s f.1 :: .s f.2 :: fl l := rfl
theorem fl_app (l m : List Fld) : fl (l ++ m) = fl l ++ fl m := by
  unfold fl
  rw [← fldL_appL, List.flatten_append]
theorem fl_at {l : List Fld} {k j : Nat} (hk : k < l.length) (hj : j < 2) : (fl l)[k * 2 + j]? = [AV.s l[k].1, AV.s l[k].2][j]? :=
  flat_get (sz := 2) (fun k e h => (flat_fld l k e h).1) k j _ (fldL_at hk) hj
theorem fl_seen (l : List Fld) (zs : List AV) : Seen (fl l ++ zs) 0 l.length 2 (fldL l) := by
  refine ⟨fldL_len l, flat_fld l, fun k e j a he ha => ?_⟩
  have hk := (List.getElem?_eq_some_iff.1 he).1
  have hl := (flat_fld l k e he).1
  have hj := (List.getElem?_eq_some_iff.1 ha).1
  rw [fldL_len] at hk
  rw [Nat.zero_add, List.getElem?_append_left (by rw [fl_len]; omega), fl_at hk (by omega)]
  rw [fldL_at hk] at he
  cases he
  exact ha
theorem drop2 {l : List Fld} {zs : List AV} {j : Nat} (hj : j < l.length) : ((fl l ++ zs).drop (0 + j * 2)).take 2 = [.s l[j].1, .s l[j].2] := by
  apply List.ext_getElem?
  intro i
  rw [List.getElem?_take]
  split
  · rw [List.getElem?_drop, Nat.zero_add, List.getElem?_append_left (by rw [fl_len]; omega), fl_at hj (by omega)]
  · rw [List.getElem?_eq_none (by simp; omega)]
/-- a field of such a row, loaded -/
theorem ld_fld {l : List Fld} {zs : List AV} {j : Nat} {K : AV → Prop} (hj : j < l.length) (h : K (.agg [.s l[j].1, .s l[j].2])) : ldA ti91 (fl l ++ zs) (0 + j * 2) K := by
  unfold ldA
  have h1 : decide (0 + j * 2 + TI.size ti91 ≤ (fl l ++ zs).length) = true := decide_eq_true (by
    rw [List.length_append, fl_len]
    show 0 + j * 2 + 2 ≤ _
    omega)
  show (match decide (0 + j * 2 + TI.size ti91 ≤ (fl l ++ zs).length) with | true => _ | false => False)
  rw [h1]
  show listK (((fl l ++ zs).drop (0 + j * 2)).take 2) _
  rw [drop2 hj]
  exact listK_iff.2 h
theorem set2 {l : List Fld} {zs : List AV} {i : Nat} (hi : i < l.length) (a b : ByteArray) : setAll (fl l ++ zs) (0 + i * 2) [.s a, .s b] = fl (l.set i (a, b)) ++ zs := by
  apply List.ext_getElem?
  intro q
  rw [setAll_get _ _ _ _ (by rw [List.length_append, fl_len]; simp; omega)]
  by_cases h : 0 + i * 2 ≤ q ∧ q < 0 + i * 2 + [AV.s a, AV.s b].length
  · rw [if_pos h]
    have hq : q < 0 + i * 2 + 2 := h.2
    rw [List.getElem?_append_left (by rw [fl_len, List.length_set]; omega)]
    obtain ⟨j, rfl⟩ : ∃ j, q = i * 2 + j := ⟨q - i * 2, by omega⟩
    rw [fl_at (by rw [List.length_set]; exact hi) (by omega), show i * 2 + j - (0 + i * 2) = j by omega, List.getElem_set_self]
  · rw [if_neg h]
    have hq : ¬ (0 + i * 2 ≤ q ∧ q < 0 + i * 2 + 2) := h
    by_cases hl : q < l.length * 2
    · rw [List.getElem?_append_left (by rw [fl_len]; exact hl), List.getElem?_append_left (by rw [fl_len, List.length_set]; exact hl)]
      have e : q = q / 2 * 2 + q % 2 := by omega
      have hk : q / 2 < l.length := by omega
      have hne : i ≠ q / 2 := by omega
      rw [e, fl_at hk (by omega), fl_at (by rw [List.length_set]; exact hk) (by omega), List.getElem_set_ne hne]
    · rw [List.getElem?_append_right (by rw [fl_len]; omega), List.getElem?_append_right (by rw [fl_len, List.length_set]; omega), fl_len, fl_len, List.length_set]
/-- a field of such a row, written -/
theorem st_fld {l : List Fld} {zs : List AV} {i : Nat} {a b : ByteArray} {L : List AV → Prop} (hi : i < l.length) (h : L (fl (l.set i (a, b)) ++ zs)) :
    (match decide (0 + i * 2 + TI.size ti91 ≤ (fl l ++ zs).length) with | true => listK (setAll (fl l ++ zs) (0 + i * 2) [.s a, .s b]) L | false => False) := by
  have h1 : decide (0 + i * 2 + TI.size ti91 ≤ (fl l ++ zs).length) = true := decide_eq_true (by
    rw [List.length_append, fl_len]
    show 0 + i * 2 + 2 ≤ _
    omega)
  rw [h1]
  show listK _ _
  rw [set2 hi]
  exact listK_iff.2 h

/-- a row of fields that is one's own variable (and not b), or an empty one -/
inductive HRow (st : St) (b : Nat) : AV → List Fld → Prop
  | nil : HRow st b .nilS []
  | tight : HRow st b (.sl .tight 2 []) []
  | hs (p cap : Nat) (l : List Fld) (zs : List AV) (hp : st.heap[p]? = some (fl l ++ zs)) (hc : l.length ≤ cap) (hb : p ≠ b) : HRow st b (.hs p 0 l.length cap 2) l
theorem HRow.pre {st st' : St} {b : Nat} {a : AV} {l : List Fld} (h : HRow st b a l) (g : Pre st st') : HRow st' b a l := by
  cases h with
  | nil => exact .nil
  | tight => exact .tight
  | hs p cap l zs hp hc hb => exact .hs p cap l zs (g.at' hp) hc hb
/-- a bag with these fields -/
def HBag (st : St) (b : Nat) (l : List Fld) : Prop := ∃ a, st.heap[b]? = some [a] ∧ HRow st b a l
def keptW (names : List ByteArray) (l : List Fld) : List Fld := l.filter fun f => !oneW f.1 names
theorem keptW_snoc (names : List ByteArray) (l : List Fld) (k : Nat) (h : k < l.length) : keptW names (l.take (k + 1)) = keptW names (l.take k) ++ (if oneW l[k].1 names = true then [] else [l[k]]) := by
  rw [List.take_succ_eq_append_getElem h]
  unfold keptW
  rw [List.filter_append]
  congr 1
  cases ho : oneW l[k].1 names with
  | true => simp [List.filter, ho]
  | false => simp [List.filter, ho]
theorem keptW_all {names : List ByteArray} {l : List Fld} (h : ∀ i (hi : i < l.length), oneW l[i].1 names = false) : keptW names l = l := by
  unfold keptW
  refine List.filter_eq_self.2 fun f hf => ?_
  obtain ⟨i, hi, rfl⟩ := List.getElem_of_mem hf
  rw [h i hi]; rfl
theorem clear_fl {r : List Fld} {zs : List AV} {i cap lo n : Nat} (hi : i ≤ r.length) (hn : n = r.length - i) (hc : r.length ≤ cap) (hlo : lo = if cap = i then 0 else 0 + i * 2) (z : List Value) (hz : z.length = 2) :
    lo + n * 2 ≤ (fl r ++ zs).length ∧ ∃ zs', setAll (fl r ++ zs) lo (zerosL z n) = fl (r.take i) ++ zs' := by
  have hl := fl_len r
  have hz2 := zerosL_len z n
  rw [hz] at hz2
  have hb : lo + n * 2 ≤ (fl r ++ zs).length := by
    rw [List.length_append, hl]
    split at hlo <;> omega
  refine ⟨hb, (setAll (fl r ++ zs) lo (zerosL z n)).drop (i * 2), ?_⟩
  have hlt := fl_len (r.take i)
  rw [List.length_take, Nat.min_eq_left hi] at hlt
  have : (setAll (fl r ++ zs) lo (zerosL z n)).take (i * 2) = fl (r.take i) := by
    apply List.ext_getElem?
    intro q
    rw [List.getElem?_take]
    split
    · rename_i hq
      rw [setAll_get _ _ _ _ (by rw [hz2]; exact hb), if_neg (by rw [hz2]; split at hlo <;> omega)]
      rw [List.getElem?_append_left (by rw [hl]; omega)]
      conv => lhs; rw [← List.take_append_drop i r, fl_app]
      rw [List.getElem?_append_left (by rw [hlt]; exact hq)]
    · rw [List.getElem?_eq_none (by rw [hlt]; omega)]
  rw [← this, List.take_append_drop]
section
variable {st : St} {R : AV → St → Prop} {p q b cap : Nat}
theorem cloneH_a (l : List Fld) (hl : l.length ≤ 1099511627776) (h : ∀ a st', Gr st st' → HRow st' st'.heap.length a l → R a st') : ACalls Tryz.prog 85 [.sl .no 2 (fldL l)] st R := by
  have hmx : maxLen = 9223372036854775807 := rfl
  have el := fldL_len l
  cases l with
  | nil =>
    refine ACalls.empty fun a cap hm => ?_
    cases a with
    | none =>
      refine ACalls.of_vc T_ok mixed Tryz.func85 rfl Tryz.call85 ?_
      exact h _ _ (.refl _) .nil
    | some a =>
      refine ACalls.of_vc T_ok mixed Tryz.func85 rfl Tryz.call85 ?_
      exact ⟨fun _ => h _ _ (.refl _) .tight, fun h => absurd rfl h⟩
  | cons f r =>
    refine ACalls.of_vc T_ok mixed Tryz.func85 rfl Tryz.call85 ?_
    refine ⟨fun h => by simp [fldL] at h, fun _ => ⟨?_, ?_, .inr fun x hx => ?_⟩⟩
    · show (fldL (f :: r)).length * 32 ≤ _; omega
    · show (fldL (f :: r)).length ≤ _; omega
    · have g : Gr st ⟨st.heap ++ [(fldL (f :: r)).flatten ++ zerosL (TI.zero ti91) x], st.tk⟩ := ⟨⟨_, rfl⟩, Nat.le_refl _, fun _ _ => rfl⟩
      have := HRow.hs (st := ⟨st.heap ++ [(fldL (f :: r)).flatten ++ zerosL (TI.zero ti91) x], st.tk⟩) (b := (st.heap ++ [(fldL (f :: r)).flatten ++ zerosL (TI.zero ti91) x]).length) st.heap.length ((fldL (f :: r)).length + x) (f :: r) (zerosL (TI.zero ti91) x) (last_at _ _) (by omega) (by simp)
      rw [← el] at this
      exact h _ _ g this
/-- a bag of fields whose row is its own variable -/
theorem newH_a (l : List Fld) (hl : l.length ≤ 1099511627776) (h : ∀ b st', Gr st st' → HBag st' b l → R (.ptr b 0) st') : ACalls Tryz.prog 48 [.sl .no 2 (fldL l)] st R := by
  refine ACalls.of_vc T_ok mixed Tryz.func48 rfl Tryz.call48 ?_
  refine .s (cloneH_a l hl fun a st' hG hR => ?_)
  have g : ∀ x, Gr st ⟨st'.heap ++ [[x]], st'.tk⟩ := fun x => hG.trans ⟨⟨_, rfl⟩, Nat.le_refl _, fun _ _ => rfl⟩
  have pr : ∀ x, Pre st' ⟨st'.heap ++ [[x]], st'.tk⟩ := fun x => ⟨_, rfl⟩
  have hR' := fun x => hR.pre (pr x)
  cases hR with
  | nil => exact h _ _ (g _) ⟨_, last_at _ _, hR' _⟩
  | tight => exact h _ _ (g _) ⟨_, last_at _ _, hR' _⟩
  | hs p cap l zs hp hc hb =>
    refine ⟨(List.getElem?_eq_some_iff.1 hp).1, ?_⟩
    exact h _ _ (g _) ⟨_, last_at _ _, hR' _⟩
/-- what a field's name is asked -/
theorem rm1_a {tg : Tk} {a v : ByteArray} (names : List ByteArray) (hl : NmOk names) (ha : a.size ≤ maxLen) (hq : st.heap[q]? = some [.sl tg 1 (strL names)]) (h : R (.b (oneW a names)) ⟨st.heap ++ [[.s a, .s v]], st.tk⟩) :
    ACalls Tryz.prog 151 [.agg [.s a, .s v], .ptr q 0] st R := by
  have hq' : (st.heap ++ [[AV.s a, .s v]])[q]? = some [.sl tg 1 (strL names)] := (List.getElem?_append_left (List.getElem?_eq_some_iff.1 hq).1).trans hq
  have hp := one_w a names hl ha
  cases tg with
  | no =>
    refine ACalls.of_vc T_ok mixed Tryz.func151 rfl Tryz.call151 ?_
    refine ⟨_, last_at _ _, ?_⟩
    refine ⟨_, hq', ?_⟩
    refine .p rfl hp ?_
    exact h
  | tight =>
    refine ACalls.of_vc T_ok mixed Tryz.func151 rfl Tryz.call151 ?_
    refine ⟨_, last_at _ _, ?_⟩
    refine ⟨_, hq', ?_⟩
    refine .p rfl hp ?_
    exact h
  | own t e =>
    refine ACalls.of_vc T_ok mixed Tryz.func151 rfl Tryz.call151 ?_
    refine ⟨_, last_at _ _, ?_⟩
    refine ⟨_, hq', ?_⟩
    refine .p rfl hp ?_
    exact h
theorem indexF_a {tg : Tk} (names : List ByteArray) (hn : NmOk names) (l : List Fld) (zs : List AV) (hl : l.length ≤ 1099511627776) (hz : ∀ f ∈ l, f.1.size ≤ 1099511627776) (hp : st.heap[p]? = some (fl l ++ zs)) (hq : st.heap[q]? = some [.sl tg 1 (strL names)])
    (h : ∀ (v : Int) st', Pre st st' → ((v = -1 ∧ ∀ i (hi : i < l.length), oneW l[i].1 names = false) ∨ ∃ (k : Nat) (hk : k < l.length), v = (k : Int) ∧ oneW l[k].1 names = true ∧ ∀ i (hi : i < l.length), i < k → oneW l[i].1 names = false) → R (.i v) st') :
    ACalls Tryz.prog 154 [.hs p 0 l.length cap 2, .fn (.func 151) [] [.ptr q 0]] st R := by
  have hmx : maxLen = 9223372036854775807 := rfl
  refine ACalls.of_vc T_ok mixed Tryz.func154 rfl Tryz.call154 ?_
  refine vc_loop [8] (fun g vals st' => ∃ k : Nat, k + g = l.length ∧ vals = [.i k] ∧ Pre st st' ∧ ∀ i (hi : i < l.length), i < k → oneW l[i].1 names = false) l.length rfl ⟨0, by omega, rfl, .refl _, fun i _ h => absurd h (by omega)⟩ ?_
  rintro g vals st' ⟨k, hk, rfl, hP, hall⟩
  have hp' := hP.at' hp
  have hq' := hP.at' hq
  refine cnd_split (fun hd => ?_) (fun hd => ?_)
  · have hd := of_decide_eq_true hd
    have k1 : k < l.length := by omega
    have sz := hz l[k] (List.getElem_mem k1)
    refine ⟨k, rfl, k1, ?_⟩
    refine ⟨_, hp', ld_fld k1 ?_⟩
    refine .s (rm1_a names hn (by omega) hq' ?_)
    refine cnd_split (fun h2 => ?_) (fun h2 => ?_)
    · exact h k _ (hP.trans ⟨_, rfl⟩) (.inr ⟨k, k1, rfl, h2, hall⟩)
    · intro c hc
      rw [IntWalk.i64_in _ (by omega)] at hc
      obtain rfl : c = ((k + 1 : Nat) : Int) := by omega
      refine ⟨g - 1, by omega, k + 1, by omega, rfl, hP.trans ⟨_, rfl⟩, fun i hi hik => ?_⟩
      by_cases e : i = k
      · subst e; exact h2
      · exact hall i hi (by omega)
  · have hd := of_decide_eq_false hd
    exact h (-1) _ hP (.inl ⟨rfl, fun i hi => hall i hi (by omega)⟩)
end
theorem upd_app (h : List (List AV)) (x y z : List AV) {q : Nat} {c : List AV} (hq : (h ++ [x])[q]? = some c) (hne : q ≠ h.length) : ((h ++ [y]).set h.length z)[q]? = some c := by
  rw [last_set]
  have hl := (List.getElem?_eq_some_iff.1 hq).1
  simp at hl
  rw [List.getElem?_append_left (by omega)] at hq ⊢
  exact hq
section
variable {st : St} {R : AV → St → Prop} {p q b cap : Nat}
set_option maxHeartbeats 2000000 in
theorem delete_a {tg : Tk} (names : List ByteArray) (hn : NmOk names) (l : List Fld) (zs : List AV) (hl : l.length ≤ 1099511627776) (hz : ∀ f ∈ l, f.1.size ≤ 1099511627776) (hc : l.length ≤ cap) (hp : st.heap[p]? = some (fl l ++ zs)) (hq : st.heap[q]? = some [.sl tg 1 (strL names)]) (hpq : q ≠ p)
    (h : ∀ st' zs', st.heap.length ≤ st'.heap.length → (∀ x, x < st.heap.length → x ≠ p → st'.heap[x]? = st.heap[x]?) → st'.heap[p]? = some (fl (keptW names l) ++ zs') → (fl (keptW names l) ++ zs').length = (fl l ++ zs).length → R (.hs p 0 (keptW names l).length cap 2) st') :
    ACalls Tryz.prog 150 [.hs p 0 l.length cap 2, .fn (.func 151) [] [.ptr q 0]] st R := by
  have hmx : maxLen = 9223372036854775807 := rfl
  refine ACalls.of_vc T_ok mixed Tryz.func150 rfl Tryz.call150 ?_
  refine .s (indexF_a names hn l zs hl hz hp hq fun v st1 hP hv => ?_)
  have keep1 : ∀ x, x < st.heap.length → x ≠ p → st1.heap[x]? = st.heap[x]? := fun x hx _ => by
    rw [List.getElem?_eq_getElem hx]
    exact hP.at' (List.getElem?_eq_getElem hx)
  rcases hv with ⟨rfl, hall⟩ | ⟨k, hk, rfl, hone, hbef⟩
  · have := h st1 zs hP.lenH keep1
    rw [keptW_all hall] at this
    exact this (hP.at' hp) rfl
  · intro c hc1
    rw [IntWalk.i64_in _ (by omega)] at hc1
    obtain rfl : c = ((k + 1 : Nat) : Int) := by omega
    have hqlt := (List.getElem?_eq_some_iff.1 hq).1
    have kb : keptW names (l.take k) = l.take k := keptW_all fun i hi => by
      rw [List.length_take] at hi
      rw [List.getElem_take]
      exact hbef i (by omega) (by omega)
    have k0 := keptW_snoc names l k hk
    rw [if_pos hone, List.append_nil, kb] at k0
    refine vc_loop [5, 6] (fun g vals st' => ∃ (i j : Nat) (r : List Fld), j + g = l.length ∧ vals = [.i i, .i j] ∧ i < j ∧ r.length = l.length ∧ r.take i = keptW names (l.take j) ∧ r.drop j = l.drop j ∧ st'.heap[p]? = some (fl r ++ zs) ∧ st.heap.length ≤ st'.heap.length ∧ ∀ x, x < st.heap.length → x ≠ p → st'.heap[x]? = st.heap[x]?) (l.length - (k + 1)) rfl ⟨k, k + 1, l, by omega, rfl, by omega, rfl, k0.symm, rfl, hP.at' hp, hP.lenH, keep1⟩ ?_
    rintro g vals st2 ⟨i, j, r, hj, rfl, hij, hrl, hrt, hrd, hp2, hlen, hkeep⟩
    refine cnd_split (fun hd => ?_) (fun hd => ?_)
    · have hd := of_decide_eq_true hd
      have j1 : j < l.length := by omega
      have j2 : j < r.length := by omega
      have hrj : r[j] = l[j] := by
        have := congrArg (fun z => z[0]?) hrd
        simpa [j1, j2] using this
      have hq2 : st2.heap[q]? = some [.sl tg 1 (strL names)] := (hkeep q hqlt hpq).trans hq
      have hq2lt := (List.getElem?_eq_some_iff.1 hq2).1
      have hp2lt := (List.getElem?_eq_some_iff.1 hp2).1
      have sz := hz l[j] (List.getElem_mem j1)
      have hs := keptW_snoc names l j j1
      refine ⟨j, rfl, j1, ?_⟩
      refine ⟨_, hp2, ld_fld j2 ?_⟩
      rw [hrj]
      refine ⟨_, last_at _ _, ?_⟩
      refine ⟨_, last_upd _ _ _, ?_⟩
      refine .s (rm1_a names hn (by omega) (upd_app _ [] _ _ ((List.getElem?_append_left hq2lt).trans hq2) (by omega)) ?_)
      refine cnd_split (fun h3 => ?_) (fun h3 => ?_)
      · rw [Bool.not_eq_true'] at h3
        rw [if_neg (by rw [h3]; decide)] at hs
        refine ⟨_, (List.getElem?_append_left (by simp)).trans (last_upd _ _ _), ?_⟩
        refine ⟨i, rfl, by omega, ?_⟩
        refine ⟨_, (List.getElem?_append_left (by simp; omega)).trans (upd_app _ [] _ _ ((List.getElem?_append_left hp2lt).trans hp2) (by omega)), st_fld (by omega) ?_⟩
        intro c hc2
        rw [IntWalk.i64_in _ (by omega)] at hc2
        obtain rfl : c = ((i + 1 : Nat) : Int) := by omega
        intro c hc2
        rw [IntWalk.i64_in _ (by omega)] at hc2
        obtain rfl : c = ((j + 1 : Nat) : Int) := by omega
        refine ⟨g - 1, by omega, i + 1, j + 1, r.set i l[j], by omega, rfl, by omega, by rw [List.length_set]; exact hrl, ?_, ?_, ?_, ?_, fun x hx hxp => ?_⟩
        · rw [hs, ← hrt, List.take_succ_eq_append_getElem (by rw [List.length_set]; omega), List.getElem_set_self, List.take_set_of_le (Nat.le_refl _)]
        · rw [List.drop_set_of_lt (by omega), ← List.drop_drop, ← List.drop_drop, hrd]
        · exact List.getElem?_set_self (by simp; omega)
        · simp; omega
        · show (List.set _ _ _)[x]? = _
          rw [List.getElem?_set_ne (fun e => hxp e.symm), last_set, List.getElem?_append_left (by simp; omega), List.getElem?_append_left (by omega)]
          exact hkeep x hx hxp
      · rw [Bool.not_eq_false'] at h3
        rw [if_pos h3, List.append_nil] at hs
        intro c hc2
        rw [IntWalk.i64_in _ (by omega)] at hc2
        obtain rfl : c = ((j + 1 : Nat) : Int) := by omega
        refine ⟨g - 1, by omega, i, j + 1, r, by omega, rfl, by omega, hrl, by rw [hs, hrt], by rw [← List.drop_drop, ← List.drop_drop, hrd], ?_, ?_, fun x hx hxp => ?_⟩
        · exact (List.getElem?_append_left (by simp; omega)).trans (upd_app _ [] _ _ ((List.getElem?_append_left hp2lt).trans hp2) (by omega))
        · simp; omega
        · show (_ ++ _)[x]? = _
          rw [last_set, List.getElem?_append_left (by simp; omega), List.getElem?_append_left (by omega)]
          exact hkeep x hx hxp
    · have hd := of_decide_eq_false hd
      have hjl : j = l.length := by omega
      subst hjl
      rw [List.take_of_length_le (Nat.le_refl _)] at hrt
      have hi : i = (keptW names l).length := by rw [← hrt, List.length_take]; omega
      refine ⟨i, rfl, by omega, hc, fun lo hlo => ?_⟩
      obtain ⟨c1, zs', c2⟩ := clear_fl (r := r) (zs := zs) (i := i) (cap := cap) (lo := lo) (n := l.length - i) (by omega) (by omega) (by omega) hlo (TI.zero ti91) rfl
      refine ⟨_, hp2, c1, ?_⟩
      refine ⟨i, rfl, Nat.zero_le _, by omega, fun lo2 hlo2 => ?_⟩
      obtain rfl : lo2 = 0 := by
        rw [hlo2]
        split <;> rfl
      have hfin := h ⟨st2.heap.set p (setAll (fl r ++ zs) lo (zerosL (TI.zero ti91) (l.length - i))), st2.tk⟩ zs' (by simpa using hlen) (fun x hx hxp => (List.getElem?_set_ne (fun e => hxp e.symm)).trans (hkeep x hx hxp)) (by
        show (List.set _ _ _)[p]? = _
        rw [List.getElem?_set_self (List.getElem?_eq_some_iff.1 hp2).1, c2, hrt]) (by
        have e2 := congrArg List.length c2
        rw [setAll_length, hrt] at e2
        rw [← e2, List.length_append, List.length_append, fl_len, fl_len, hrl])
      rw [← hi] at hfin
      exact hfin
theorem deleteE_a (a : AV) (ha : a = .nilS ∨ a = .sl .tight 2 []) (f : AV) (hf : ∃ g us vs, f = .fn g us vs) (h : R a st) : ACalls Tryz.prog 150 [a, f] st R := by
  obtain ⟨g, us, vs, rfl⟩ := hf
  have key : ∀ a : AV, (a = .nilS ∨ a = .sl .tight 2 []) → ∀ R : AV → St → Prop, R (.i (-1)) st → ACalls Tryz.prog 154 [a, .fn g us vs] st R := by
    rintro a (rfl | rfl) R h
    · refine ACalls.of_vc T_ok mixed Tryz.func154 rfl Tryz.call154 ?_
      refine vc_loop [8] (fun g vals st' => vals = [.i 0] ∧ st' = st) 0 rfl ⟨rfl, rfl⟩ ?_
      rintro g vals st' ⟨rfl, rfl⟩
      exact h
    · refine ACalls.of_vc T_ok mixed Tryz.func154 rfl Tryz.call154 ?_
      refine vc_loop [8] (fun g vals st' => vals = [.i 0] ∧ st' = st) 0 rfl ⟨rfl, rfl⟩ ?_
      rintro g vals st' ⟨rfl, rfl⟩
      exact h
  rcases ha with rfl | rfl
  · refine ACalls.of_vc T_ok mixed Tryz.func150 rfl Tryz.call150 ?_
    refine .s (key _ (.inl rfl) _ ?_)
    exact h
  · refine ACalls.of_vc T_ok mixed Tryz.func150 rfl Tryz.call150 ?_
    refine .s (key _ (.inr rfl) _ ?_)
    exact h
/-- fields of some names are gone from a bag -/
theorem remove_a {tg : Tk} (names : List ByteArray) (hn : NmOk names) (l : List Fld) (hl : l.length ≤ 1099511627776) (hz : ∀ f ∈ l, f.1.size ≤ 1099511627776) (hb : HBag st b l)
    (h : ∀ st', HBag st' b (keptW names l) → R (.i ((l.length : Int) - (keptW names l).length)) st') :
    ACalls Tryz.prog 121 [.ptr b 0, .sl tg 1 (strL names)] st R := by
  have hmx : maxLen = 9223372036854775807 := rfl
  obtain ⟨a, hba, hR⟩ := hb
  have hblt := (List.getElem?_eq_some_iff.1 hba).1
  have hba1 : ∀ x, (st.heap ++ [x])[b]? = some [a] := fun x => (List.getElem?_append_left hblt).trans hba
  have kl : (keptW names l).length ≤ l.length := List.length_filter_le _ _
  cases hR with
  | nil =>
    refine ACalls.of_vc T_ok mixed Tryz.func121 rfl Tryz.call121 ?_
    refine ⟨_, hba1 _, ?_⟩
    refine ⟨_, hba1 _, ?_⟩
    refine .s (deleteE_a _ (.inl rfl) _ ⟨_, _, _, rfl⟩ ?_)
    refine ⟨_, hba1 _, ?_⟩
    refine ⟨_, List.getElem?_set_self (List.getElem?_eq_some_iff.1 (hba1 _)).1, ?_⟩
    intro c hc1
    rw [IntWalk.i64_in _ (by simp)] at hc1
    obtain rfl : c = 0 := by simpa using hc1
    refine h _ ?_
    exact ⟨_, List.getElem?_set_self (List.getElem?_eq_some_iff.1 (hba1 _)).1, .nil⟩
  | tight =>
    refine ACalls.of_vc T_ok mixed Tryz.func121 rfl Tryz.call121 ?_
    refine ⟨_, hba1 _, ?_⟩
    refine ⟨_, hba1 _, ?_⟩
    refine .s (deleteE_a _ (.inr rfl) _ ⟨_, _, _, rfl⟩ ?_)
    refine ⟨_, hba1 _, ?_⟩
    refine ⟨_, List.getElem?_set_self (List.getElem?_eq_some_iff.1 (hba1 _)).1, ?_⟩
    intro c hc1
    rw [IntWalk.i64_in _ (by simp)] at hc1
    obtain rfl : c = 0 := by simpa using hc1
    refine h _ ?_
    exact ⟨_, List.getElem?_set_self (List.getElem?_eq_some_iff.1 (hba1 _)).1, .tight⟩
  | hs p cap l zs hp hc hpb =>
    have hplt := (List.getElem?_eq_some_iff.1 hp).1
    refine ACalls.of_vc T_ok mixed Tryz.func121 rfl Tryz.call121 ?_
    refine ⟨_, hba1 _, ?_⟩
    refine ⟨_, hba1 _, ?_⟩
    refine .s (delete_a (st := ⟨st.heap ++ _, st.tk⟩) (q := st.heap.length) names hn l zs hl hz hc ((List.getElem?_append_left hplt).trans hp) (last_at _ _) (by omega) fun st' zs' hlen hkeep hp' _ => ?_)
    have hb' : st'.heap[b]? = some [.hs p 0 l.length cap 2] := (hkeep b (by simp; omega) (fun e => hpb e.symm)).trans (hba1 _)
    have hb'lt := (List.getElem?_eq_some_iff.1 hb').1
    refine ⟨_, hb', ?_⟩
    refine ⟨_, List.getElem?_set_self hb'lt, ?_⟩
    intro c hc1
    rw [IntWalk.i64_in _ (by omega)] at hc1
    subst hc1
    exact h _ ⟨_, List.getElem?_set_self hb'lt, .hs p cap (keptW names l) zs' ((List.getElem?_set_ne (fun e => hpb e.symm)).trans hp') (by omega) hpb⟩
/-- a bag's fields, copied -/
theorem listH_a (l : List Fld) (hl : l.length ≤ 1099511627776) (hb : HBag st b l) (h : ∀ a st', Gr st st' → (a = .nilS ∧ l = [] ∨ (∃ tg, a = .sl tg 2 (fldL l))) → R a st') : ACalls Tryz.prog 50 [.ptr b 0] st R := by
  have hmx : maxLen = 9223372036854775807 := rfl
  obtain ⟨a, hba, hR⟩ := hb
  cases hR with
  | nil =>
    refine ACalls.of_vc T_ok mixed Tryz.func50 rfl Tryz.call50 ?_
    refine ⟨_, hba, ?_⟩
    refine .s (.of_vc T_ok mixed Tryz.func85 rfl Tryz.call85 ?_)
    exact h _ _ (.refl _) (.inl ⟨rfl, rfl⟩)
  | tight =>
    refine ACalls.of_vc T_ok mixed Tryz.func50 rfl Tryz.call50 ?_
    refine ⟨_, hba, ?_⟩
    refine .p rfl (clone_p [] hl) ?_
    exact h _ _ (.refl _) (.inr ⟨_, rfl⟩)
  | hs p cap l zs hp hc hpb =>
    refine ACalls.of_vc T_ok mixed Tryz.func50 rfl Tryz.call50 ?_
    refine ⟨_, hba, ?_⟩
    refine .s (.of_vc T_ok mixed Tryz.func85 rfl Tryz.call85 ?_)
    have el := fldL_len l
    refine ⟨_, _, hp, fl_seen l zs, ?_⟩
    refine ⟨fun e => ?_, fun _ => ⟨?_, ?_, .inl ?_⟩⟩
    · have : l = [] := List.eq_nil_of_length_eq_zero (by rw [← el, e]; rfl)
      exact h _ _ (.refl _) (.inr ⟨.tight, by rw [e]; rfl⟩)
    · show (fldL l).length * 32 ≤ _; omega
    · show (fldL l).length ≤ _; omega
    · exact h _ _ ⟨⟨[], by simp⟩, by simp, fun t ht => List.getElem?_append_left ht⟩ (.inr ⟨_, rfl⟩)
end
end Go.Proofs.YtookaenbpfpegaaGreatDoor
