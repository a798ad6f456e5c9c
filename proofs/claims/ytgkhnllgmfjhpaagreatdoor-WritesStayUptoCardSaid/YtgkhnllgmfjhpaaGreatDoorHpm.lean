/- Whether a connection ends: the program and the document. No statement of its own. -/
import Derived.Test.YtgkhnllgmfjhpaaGreatDoorMs
import Derived.Test.YtgkhnllgmfjhpaaGreatDoorCo
set_option linter.unusedSimpArgs false
set_option linter.unusedVariables false
set_option maxRecDepth 100000
namespace Go.Proofs.YtgkhnllgmfjhpaaGreatDoor
open Go.RowKit
def coS : ByteArray := ⟨#[99, 111, 110, 110, 101, 99, 116, 105, 111, 110]⟩
def cloS : ByteArray := ⟨#[99, 108, 111, 115, 101]⟩
def keepS : ByteArray := ⟨#[107, 101, 101, 112, 45, 97, 108, 105, 118, 101]⟩
def closeW (l : List Fld) (mi : Int) : Bool := if mi = 1 then hasW cloS (valsW coS l) else !hasW keepS (valsW coS l)
theorem argsW_sn (s : ByteArray) : ArgsW [.s s, .nilS] [.s s, .sl .no 1 (strL [])] := ⟨.inl (.inl ⟨rfl, rfl⟩), .inr ⟨rfl, 1, rfl⟩, trivial⟩
theorem CO_fold : foldB ⟨#[67, 111, 110, 110, 101, 99, 116, 105, 111, 110]⟩ = foldB coS := rfl
theorem Pre.lenH {a b : St} (h : Pre a b) : a.heap.length ≤ b.heap.length := by
  obtain ⟨l, h⟩ := h
  rw [h, List.length_append]; omega
/-- is it a name of these, in any case? -/
def oneW (name : ByteArray) (names : List ByteArray) : Bool := names.any fun s => decide (foldB s = foldB name)
theorem oneW_true {name : ByteArray} {names : List ByteArray} {k : Nat} (hk : k < names.length) (h : decide (foldB names[k] = foldB name) = true) : oneW name names = true := List.any_eq_true.2 ⟨_, List.getElem_mem hk, h⟩
theorem oneW_false {name : ByteArray} {names : List ByteArray} (h : ∀ i (hi : i < names.length), decide (foldB names[i] = foldB name) = false) : oneW name names = false := List.any_eq_false.2 fun x hx => by
  obtain ⟨i, hi, rfl⟩ := List.getElem_of_mem hx
  rw [h i hi]; decide
structure NmOk (l : List ByteArray) : Prop where
  len : l.length ≤ 1099511627776
  size : ∀ x ∈ l, x.size ≤ 1099511627776
section
variable {st : St} {R : AV → St → Prop} {q : Nat}
theorem one1_a {s name : ByteArray} (hs : s.size ≤ maxLen) (hn : name.size ≤ maxLen) (hq : st.heap[q]? = some [.s name]) (h : R (.b (decide (foldB s = foldB name))) st) : ACalls Tryz.prog 98 [.s s, .ptr q 0] st R := by
  refine ACalls.of_vc T_ok mixed Tryz.func98 rfl Tryz.call98 ?_
  refine ⟨_, hq, ?_⟩
  refine .p rfl (sameO_p s name hs hn) ?_
  exact h
theorem indexS_a {tg : Tk} {name : ByteArray} (names : List ByteArray) (hl : NmOk names) (hn : name.size ≤ maxLen) (hq : st.heap[q]? = some [.s name]) (h : ∀ v : Int, decide (v ≥ 0) = oneW name names → R (.i v) st) :
    ACalls Tryz.prog 125 [.sl tg 1 (strL names), .fn (.func 98) [] [.ptr q 0]] st R := by
  have hmx : maxLen = 9223372036854775807 := rfl
  have el := strL_len names
  have hnl := hl.len
  refine ACalls.of_vc T_ok mixed Tryz.func125 rfl Tryz.call125 ?_
  refine vc_loop [8] (fun g vals st' => ∃ k : Nat, k + g = names.length ∧ vals = [.i k] ∧ st' = st ∧ ∀ i (hi : i < names.length), i < k → decide (foldB names[i] = foldB name) = false) names.length rfl ⟨0, by omega, rfl, rfl, fun i _ h => absurd h (by omega)⟩ ?_
  rintro g vals st' ⟨k, hk, rfl, rfl, hall⟩
  refine cnd_split (fun hd => ?_) (fun hd => ?_)
  · have hd := of_decide_eq_true hd
    have k1 : k < names.length := by omega
    have sz := hl.size names[k] (List.getElem_mem k1)
    refine ⟨k, _, rfl, strL_at k1, ?_⟩
    refine .s (one1_a (by omega) hn hq ?_)
    refine cnd_split (fun h2 => ?_) (fun h2 => ?_)
    · exact h k (by rw [oneW_true k1 h2]; exact decide_eq_true (by omega))
    · intro c hc
      rw [IntWalk.i64_in _ (by omega)] at hc
      obtain rfl : c = ((k + 1 : Nat) : Int) := by omega
      refine ⟨g - 1, by omega, k + 1, by omega, rfl, rfl, fun i hi hik => ?_⟩
      by_cases e : i = k
      · subst e; exact h2
      · exact hall i hi (by omega)
  · have hd := of_decide_eq_false hd
    exact h (-1) (by rw [oneW_false fun i hi => hall i hi (by omega)]; rfl)
end
theorem one_w (name : ByteArray) (names : List ByteArray) (hl : NmOk names) (hn : name.size ≤ maxLen) : APure Tryz.prog 81 [.s name, .sl .no 1 (strL names)] (.b (oneW name names)) [] := by
  refine APure.of rfl (ACalls.of_vc T_ok mixed Tryz.func81 rfl Tryz.call81 ?_)
  refine .s (.of_vc T_ok mixed Tryz.func97 rfl Tryz.call97 ?_)
  refine .s (indexS_a names hl hn rfl fun v hv => ?_)
  exact retb hv
/-- a row's cells -/
abbrev fl (l : List Fld) : List AV := (fldL l).flatten
theorem fl_len (l : List Fld) : (fl l).length = l.length * 2 := by
  rw [flat_len (sz := 2) (fun k e h => (flat_fld l k e h).1), fldL_len]
theorem fl_cons (f : Fld) (l : List Fld) : fl (f :: l) = .s f.1 :: .s f.2 :: fl l := rfl
theorem fl_app (l m : List Fld) : fl (l ++ m) = fl l ++ fl m := by
  unfold fl
  rw [← fldL_appL, List.flatten_append]
theorem fl_at {l : List Fld} {k j : Nat} (hk : k < l.length) (hj : j < 2) : (fl l)[k * 2 + j]? = [AV.s l[k].1, AV.s l[k].2][j]? :=
  flat_get (sz := 2) (fun k e h => (flat_fld l k e h).1) k j _ (fldL_at hk) hj
theorem fl_seen (l : List Fld) (zs : List AV) : Seen (fl l ++ zs) 0 l.length 2 (fldL l) := by
  refine ⟨fldL_len l, flat_fld l, fun k e j a he ha => ?_⟩
  have hk := (List.getElem?_eq_some_iff.1 he).1
  have hl := (flat_fld l k e he).1
  have hj := (List.getElem?_eq_some_iff.1 ha).1
  rw [fldL_len] at hk
  rw [Nat.zero_add, List.getElem?_append_left (by rw [fl_len]; omega), fl_at hk (by omega)]
  rw [fldL_at hk] at he
  cases he
  exact ha
theorem drop2 {l : List Fld} {zs : List AV} {j : Nat} (hj : j < l.length) : ((fl l ++ zs).drop (0 + j * 2)).take 2 = [.s l[j].1, .s l[j].2] := by
  apply List.ext_getElem?
  intro i
  rw [List.getElem?_take]
  split
  · rw [List.getElem?_drop, Nat.zero_add, List.getElem?_append_left (by rw [fl_len]; omega), fl_at hj (by omega)]
  · rw [List.getElem?_eq_none (by simp; omega)]
/-- a field of such a row, loaded -/
theorem ld_fld {l : List Fld} {zs : List AV} {j : Nat} {K : AV → Prop} (hj : j < l.length) (h : K (.agg [.s l[j].1, .s l[j].2])) : ldA ti48 (fl l ++ zs) (0 + j * 2) K := by
  unfold ldA
  have h1 : decide (0 + j * 2 + TI.size ti48 ≤ (fl l ++ zs).length) = true := decide_eq_true (by
    rw [List.length_append, fl_len]
    show 0 + j * 2 + 2 ≤ _
    omega)
  show (match decide (0 + j * 2 + TI.size ti48 ≤ (fl l ++ zs).length) with | true => _ | false => False)
  rw [h1]
  show listK (((fl l ++ zs).drop (0 + j * 2)).take 2) _
  rw [drop2 hj]
  exact listK_iff.2 h
theorem set2 {l : List Fld} {zs : List AV} {i : Nat} (hi : i < l.length) (a b : ByteArray) : setAll (fl l ++ zs) (0 + i * 2) [.s a, .s b] = fl (l.set i (a, b)) ++ zs := by
  apply List.ext_getElem?
  intro q
  rw [setAll_get _ _ _ _ (by rw [List.length_append, fl_len]; simp; omega)]
  by_cases h : 0 + i * 2 ≤ q ∧ q < 0 + i * 2 + [AV.s a, AV.s b].length
  · rw [if_pos h]
    have hq : q < 0 + i * 2 + 2 := h.2
    rw [List.getElem?_append_left (by rw [fl_len, List.length_set]; omega)]
    obtain ⟨j, rfl⟩ : ∃ j, q = i * 2 + j := ⟨q - i * 2, by omega⟩
    rw [fl_at (by rw [List.length_set]; exact hi) (by omega), show i * 2 + j - (0 + i * 2) = j by omega, List.getElem_set_self]
  · rw [if_neg h]
    have hq : ¬ (0 + i * 2 ≤ q ∧ q < 0 + i * 2 + 2) := h
    by_cases hl : q < l.length * 2
    · rw [List.getElem?_append_left (by rw [fl_len]; exact hl), List.getElem?_append_left (by rw [fl_len, List.length_set]; exact hl)]
      have e : q = q / 2 * 2 + q % 2 := by omega
      have hk : q / 2 < l.length := by omega
      have hne : i ≠ q / 2 := by omega
      rw [e, fl_at hk (by omega), fl_at (by rw [List.length_set]; exact hk) (by omega), List.getElem_set_ne hne]
    · rw [List.getElem?_append_right (by rw [fl_len]; omega), List.getElem?_append_right (by rw [fl_len, List.length_set]; omega), fl_len, fl_len, List.length_set]
/-- a field of such a row, written -/
theorem st_fld {l : List Fld} {zs : List AV} {i : Nat} {a b : ByteArray} {L : List AV → Prop} (hi : i < l.length) (h : L (fl (l.set i (a, b)) ++ zs)) :
    (match decide (0 + i * 2 + TI.size ti48 ≤ (fl l ++ zs).length) with | true => listK (setAll (fl l ++ zs) (0 + i * 2) [.s a, .s b]) L | false => False) := by
  have h1 : decide (0 + i * 2 + TI.size ti48 ≤ (fl l ++ zs).length) = true := decide_eq_true (by
    rw [List.length_append, fl_len]
    show 0 + i * 2 + 2 ≤ _
    omega)
  rw [h1]
  show listK _ _
  rw [set2 hi]
  exact listK_iff.2 h

/-- a row of fields that is one's own variable (and not b), or an empty one -/
inductive HRow (st : St) (b : Nat) : AV → List Fld → Prop
  | nil : HRow st b .nilS []
  | tight : HRow st b (.sl .tight 2 []) []
  | hs (p cap : Nat) (l : List Fld) (zs : List AV) (hp : st.heap[p]? = some (fl l ++ zs)) (hc : l.length ≤ cap) (hb : p ≠ b) : HRow st b (.hs p 0 l.length cap 2) l
theorem HRow.pre {st st' : St} {b : Nat} {a : AV} {l : List Fld} (h : HRow st b a l) (g : Pre st st') : HRow st' b a l := by
  cases h with
  | nil => exact .nil
  | tight => exact .tight
  | hs p cap l zs hp hc hb => exact .hs p cap l zs (g.at' hp) hc hb
/-- a bag with these fields -/
def HBag (st : St) (b : Nat) (l : List Fld) : Prop := ∃ a, st.heap[b]? = some [a] ∧ HRow st b a l
def keptW (names : List ByteArray) (l : List Fld) : List Fld := l.filter fun f => !oneW f.1 names
theorem keptW_snoc (names : List ByteArray) (l : List Fld) (k : Nat) (h : k < l.length) : keptW names (l.take (k + 1)) = keptW names (l.take k) ++ (if oneW l[k].1 names = true then [] else [l[k]]) := by
  rw [List.take_succ_eq_append_getElem h]
  unfold keptW
  rw [List.filter_append]
  congr 1
  cases ho : oneW l[k].1 names with
  | true => simp [List.filter, ho]
  | false => simp [List.filter, ho]
theorem keptW_all {names : List ByteArray} {l : List Fld} (h : ∀ i (hi : i < l.length), oneW l[i].1 names = false) : keptW names l = l := by
  unfold keptW
  refine List.filter_eq_self.2 fun f hf => ?_
  obtain ⟨i, hi, rfl⟩ := List.getElem_of_mem hf
  rw [h i hi]; rfl
theorem clear_fl {r : List Fld} {zs : List AV} {i cap lo n : Nat} (hi : i ≤ r.length) (hn : n = r.length - i) (hc : r.length ≤ cap) (hlo : lo = if cap = i then 0 else 0 + i * 2) (z : List Value) (hz : z.length = 2) :
    lo + n * 2 ≤ (fl r ++ zs).length ∧ ∃ zs', setAll (fl r ++ zs) lo (zerosL z n) = fl (r.take i) ++ zs' := by
  have hl := fl_len r
  have hz2 := zerosL_len z n
  rw [hz] at hz2
  have hb : lo + n * 2 ≤ (fl r ++ zs).length := by
    rw [List.length_append, hl]
    split at hlo <;> omega
  refine ⟨hb, (setAll (fl r ++ zs) lo (zerosL z n)).drop (i * 2), ?_⟩
  have hlt := fl_len (r.take i)
  rw [List.length_take, Nat.min_eq_left hi] at hlt
  have : (setAll (fl r ++ zs) lo (zerosL z n)).take (i * 2) = fl (r.take i) := by
    apply List.ext_getElem?
    intro q
    rw [List.getElem?_take]
    split
    · rename_i hq
      rw [setAll_get _ _ _ _ (by rw [hz2]; exact hb), if_neg (by rw [hz2]; split at hlo <;> omega)]
      rw [List.getElem?_append_left (by rw [hl]; omega)]
      conv => lhs; rw [← List.take_append_drop i r, fl_app]
      rw [List.getElem?_append_left (by rw [hlt]; exact hq)]
    · rw [List.getElem?_eq_none (by rw [hlt]; omega)]
  rw [← this, List.take_append_drop]
section
variable {st : St} {R : AV → St → Prop} {p q b cap : Nat}
theorem cloneH_a (l : List Fld) (hl : l.length ≤ 1099511627776) (h : ∀ a st', Gr st st' → HRow st' st'.heap.length a l → R a st') : ACalls Tryz.prog 36 [.sl .no 2 (fldL l)] st R := by
  have hmx : maxLen = 9223372036854775807 := rfl
  have el := fldL_len l
  cases l with
  | nil =>
    refine ACalls.empty fun a cap hm => ?_
    cases a with
    | none =>
      refine ACalls.of_vc T_ok mixed Tryz.func36 rfl Tryz.call36 ?_
      exact h _ _ (.refl _) .nil
    | some a =>
      refine ACalls.of_vc T_ok mixed Tryz.func36 rfl Tryz.call36 ?_
      exact ⟨fun _ => h _ _ (.refl _) .tight, fun h => absurd rfl h⟩
  | cons f r =>
    refine ACalls.of_vc T_ok mixed Tryz.func36 rfl Tryz.call36 ?_
    refine ⟨fun h => by simp [fldL] at h, fun _ => ⟨?_, ?_, .inr fun x hx => ?_⟩⟩
    · show (fldL (f :: r)).length * 32 ≤ _; omega
    · show (fldL (f :: r)).length ≤ _; omega
    · have g : Gr st ⟨st.heap ++ [(fldL (f :: r)).flatten ++ zerosL (TI.zero ti48) x], st.tk⟩ := ⟨⟨_, rfl⟩, Nat.le_refl _, fun _ _ => rfl⟩
      have := HRow.hs (st := ⟨st.heap ++ [(fldL (f :: r)).flatten ++ zerosL (TI.zero ti48) x], st.tk⟩) (b := (st.heap ++ [(fldL (f :: r)).flatten ++ zerosL (TI.zero ti48) x]).length) st.heap.length ((fldL (f :: r)).length + x) (f :: r) (zerosL (TI.zero ti48) x) (last_at _ _) (by omega) (by simp)
      rw [← el] at this
      exact h _ _ g this
/-- a bag of fields whose row is its own variable -/
theorem newH_a (l : List Fld) (hl : l.length ≤ 1099511627776) (h : ∀ b st', Gr st st' → HBag st' b l → R (.ptr b 0) st') : ACalls Tryz.prog 22 [.sl .no 2 (fldL l)] st R := by
  refine ACalls.of_vc T_ok mixed Tryz.func22 rfl Tryz.call22 ?_
  refine .s (cloneH_a l hl fun a st' hG hR => ?_)
  have g : ∀ x, Gr st ⟨st'.heap ++ [[x]], st'.tk⟩ := fun x => hG.trans ⟨⟨_, rfl⟩, Nat.le_refl _, fun _ _ => rfl⟩
  have pr : ∀ x, Pre st' ⟨st'.heap ++ [[x]], st'.tk⟩ := fun x => ⟨_, rfl⟩
  have hR' := fun x => hR.pre (pr x)
  cases hR with
  | nil => exact h _ _ (g _) ⟨_, last_at _ _, hR' _⟩
  | tight => exact h _ _ (g _) ⟨_, last_at _ _, hR' _⟩
  | hs p cap l zs hp hc hb =>
    refine ⟨(List.getElem?_eq_some_iff.1 hp).1, ?_⟩
    exact h _ _ (g _) ⟨_, last_at _ _, hR' _⟩
/-- what a field's name is asked -/
theorem rm1_a {tg : Tk} {a v : ByteArray} (names : List ByteArray) (hl : NmOk names) (ha : a.size ≤ maxLen) (hq : st.heap[q]? = some [.sl tg 1 (strL names)]) (h : R (.b (oneW a names)) ⟨st.heap ++ [[.s a, .s v]], st.tk⟩) :
    ACalls Tryz.prog 80 [.agg [.s a, .s v], .ptr q 0] st R := by
  have hq' : (st.heap ++ [[AV.s a, .s v]])[q]? = some [.sl tg 1 (strL names)] := (List.getElem?_append_left (List.getElem?_eq_some_iff.1 hq).1).trans hq
  have hp := one_w a names hl ha
  cases tg with
  | no =>
    refine ACalls.of_vc T_ok mixed Tryz.func80 rfl Tryz.call80 ?_
    refine ⟨_, last_at _ _, ?_⟩
    refine ⟨_, hq', ?_⟩
    refine .p rfl hp ?_
    exact h
  | tight =>
    refine ACalls.of_vc T_ok mixed Tryz.func80 rfl Tryz.call80 ?_
    refine ⟨_, last_at _ _, ?_⟩
    refine ⟨_, hq', ?_⟩
    refine .p rfl hp ?_
    exact h
  | own t e =>
    refine ACalls.of_vc T_ok mixed Tryz.func80 rfl Tryz.call80 ?_
    refine ⟨_, last_at _ _, ?_⟩
    refine ⟨_, hq', ?_⟩
    refine .p rfl hp ?_
    exact h
theorem indexF_a {tg : Tk} (names : List ByteArray) (hn : NmOk names) (l : List Fld) (zs : List AV) (hl : l.length ≤ 1099511627776) (hz : ∀ f ∈ l, f.1.size ≤ 1099511627776) (hp : st.heap[p]? = some (fl l ++ zs)) (hq : st.heap[q]? = some [.sl tg 1 (strL names)])
    (h : ∀ (v : Int) st', Pre st st' → ((v = -1 ∧ ∀ i (hi : i < l.length), oneW l[i].1 names = false) ∨ ∃ (k : Nat) (hk : k < l.length), v = (k : Int) ∧ oneW l[k].1 names = true ∧ ∀ i (hi : i < l.length), i < k → oneW l[i].1 names = false) → R (.i v) st') :
    ACalls Tryz.prog 83 [.hs p 0 l.length cap 2, .fn (.func 80) [] [.ptr q 0]] st R := by
  have hmx : maxLen = 9223372036854775807 := rfl
  refine ACalls.of_vc T_ok mixed Tryz.func83 rfl Tryz.call83 ?_
  refine vc_loop [8] (fun g vals st' => ∃ k : Nat, k + g = l.length ∧ vals = [.i k] ∧ Pre st st' ∧ ∀ i (hi : i < l.length), i < k → oneW l[i].1 names = false) l.length rfl ⟨0, by omega, rfl, .refl _, fun i _ h => absurd h (by omega)⟩ ?_
  rintro g vals st' ⟨k, hk, rfl, hP, hall⟩
  have hp' := hP.at' hp
  have hq' := hP.at' hq
  refine cnd_split (fun hd => ?_) (fun hd => ?_)
  · have hd := of_decide_eq_true hd
    have k1 : k < l.length := by omega
    have sz := hz l[k] (List.getElem_mem k1)
    refine ⟨k, rfl, k1, ?_⟩
    refine ⟨_, hp', ld_fld k1 ?_⟩
    refine .s (rm1_a names hn (by omega) hq' ?_)
    refine cnd_split (fun h2 => ?_) (fun h2 => ?_)
    · exact h k _ (hP.trans ⟨_, rfl⟩) (.inr ⟨k, k1, rfl, h2, hall⟩)
    · intro c hc
      rw [IntWalk.i64_in _ (by omega)] at hc
      obtain rfl : c = ((k + 1 : Nat) : Int) := by omega
      refine ⟨g - 1, by omega, k + 1, by omega, rfl, hP.trans ⟨_, rfl⟩, fun i hi hik => ?_⟩
      by_cases e : i = k
      · subst e; exact h2
      · exact hall i hi (by omega)
  · have hd := of_decide_eq_false hd
    exact h (-1) _ hP (.inl ⟨rfl, fun i hi => hall i hi (by omega)⟩)
end
theorem upd_app (h : List (List AV)) (x y z : List AV) {q : Nat} {c : List AV} (hq : (h ++ [x])[q]? = some c) (hne : q ≠ h.length) : ((h ++ [y]).set h.length z)[q]? = some c := by
  rw [last_set]
  have hl := (List.getElem?_eq_some_iff.1 hq).1
  simp at hl
  rw [List.getElem?_append_left (by omega)] at hq ⊢
  exact hq
section
variable {st : St} {R : AV → St → Prop} {p q b cap : Nat}
set_option maxHeartbeats 2000000 in
theorem delete_a {tg : Tk} (names : List ByteArray) (hn : NmOk names) (l : List Fld) (zs : List AV) (hl : l.length ≤ 1099511627776) (hz : ∀ f ∈ l, f.1.size ≤ 1099511627776) (hc : l.length ≤ cap) (hp : st.heap[p]? = some (fl l ++ zs)) (hq : st.heap[q]? = some [.sl tg 1 (strL names)]) (hpq : q ≠ p)
    (h : ∀ st' zs', st.heap.length ≤ st'.heap.length → (∀ x, x < st.heap.length → x ≠ p → st'.heap[x]? = st.heap[x]?) → st'.heap[p]? = some (fl (keptW names l) ++ zs') → (fl (keptW names l) ++ zs').length = (fl l ++ zs).length → R (.hs p 0 (keptW names l).length cap 2) st') :
    ACalls Tryz.prog 79 [.hs p 0 l.length cap 2, .fn (.func 80) [] [.ptr q 0]] st R := by
  have hmx : maxLen = 9223372036854775807 := rfl
  refine ACalls.of_vc T_ok mixed Tryz.func79 rfl Tryz.call79 ?_
  refine .s (indexF_a names hn l zs hl hz hp hq fun v st1 hP hv => ?_)
  have keep1 : ∀ x, x < st.heap.length → x ≠ p → st1.heap[x]? = st.heap[x]? := fun x hx _ => by
    rw [List.getElem?_eq_getElem hx]
    exact hP.at' (List.getElem?_eq_getElem hx)
  rcases hv with ⟨rfl, hall⟩ | ⟨k, hk, rfl, hone, hbef⟩
  · have := h st1 zs hP.lenH keep1
    rw [keptW_all hall] at this
    exact this (hP.at' hp) rfl
  · intro c hc1
    rw [IntWalk.i64_in _ (by omega)] at hc1
    obtain rfl : c = ((k + 1 : Nat) : Int) := by omega
    have hqlt := (List.getElem?_eq_some_iff.1 hq).1
    have kb : keptW names (l.take k) = l.take k := keptW_all fun i hi => by
      rw [List.length_take] at hi
      rw [List.getElem_take]
      exact hbef i (by omega) (by omega)
    have k0 := keptW_snoc names l k hk
    rw [if_pos hone, List.append_nil, kb] at k0
    refine vc_loop [5, 6] (fun g vals st' => ∃ (i j : Nat) (r : List Fld), j + g = l.length ∧ vals = [.i i, .i j] ∧ i < j ∧ r.length = l.length ∧ r.take i = keptW names (l.take j) ∧ r.drop j = l.drop j ∧ st'.heap[p]? = some (fl r ++ zs) ∧ st.heap.length ≤ st'.heap.length ∧ ∀ x, x < st.heap.length → x ≠ p → st'.heap[x]? = st.heap[x]?) (l.length - (k + 1)) rfl ⟨k, k + 1, l, by omega, rfl, by omega, rfl, k0.symm, rfl, hP.at' hp, hP.lenH, keep1⟩ ?_
    rintro g vals st2 ⟨i, j, r, hj, rfl, hij, hrl, hrt, hrd, hp2, hlen, hkeep⟩
    refine cnd_split (fun hd => ?_) (fun hd => ?_)
    · have hd := of_decide_eq_true hd
      have j1 : j < l.length := by omega
      have j2 : j < r.length := by omega
      have hrj : r[j] = l[j] := by
        have := congrArg (fun z => z[0]?) hrd
        simpa [j1, j2] using this
      have hq2 : st2.heap[q]? = some [.sl tg 1 (strL names)] := (hkeep q hqlt hpq).trans hq
      have hq2lt := (List.getElem?_eq_some_iff.1 hq2).1
      have hp2lt := (List.getElem?_eq_some_iff.1 hp2).1
      have sz := hz l[j] (List.getElem_mem j1)
      have hs := keptW_snoc names l j j1
      refine ⟨j, rfl, j1, ?_⟩
      refine ⟨_, hp2, ld_fld j2 ?_⟩
      rw [hrj]
      refine ⟨_, last_at _ _, ?_⟩
      refine ⟨_, last_upd _ _ _, ?_⟩
      refine .s (rm1_a names hn (by omega) (upd_app _ [] _ _ ((List.getElem?_append_left hq2lt).trans hq2) (by omega)) ?_)
      refine cnd_split (fun h3 => ?_) (fun h3 => ?_)
      · rw [Bool.not_eq_true'] at h3
        rw [if_neg (by rw [h3]; decide)] at hs
        refine ⟨_, (List.getElem?_append_left (by simp)).trans (last_upd _ _ _), ?_⟩
        refine ⟨i, rfl, by omega, ?_⟩
        refine ⟨_, (List.getElem?_append_left (by simp; omega)).trans (upd_app _ [] _ _ ((List.getElem?_append_left hp2lt).trans hp2) (by omega)), st_fld (by omega) ?_⟩
        intro c hc2
        rw [IntWalk.i64_in _ (by omega)] at hc2
        obtain rfl : c = ((i + 1 : Nat) : Int) := by omega
        intro c hc2
        rw [IntWalk.i64_in _ (by omega)] at hc2
        obtain rfl : c = ((j + 1 : Nat) : Int) := by omega
        refine ⟨g - 1, by omega, i + 1, j + 1, r.set i l[j], by omega, rfl, by omega, by rw [List.length_set]; exact hrl, ?_, ?_, ?_, ?_, fun x hx hxp => ?_⟩
        · rw [hs, ← hrt, List.take_succ_eq_append_getElem (by rw [List.length_set]; omega), List.getElem_set_self, List.take_set_of_le (Nat.le_refl _)]
        · rw [List.drop_set_of_lt (by omega), ← List.drop_drop, ← List.drop_drop, hrd]
        · exact List.getElem?_set_self (by simp; omega)
        · simp; omega
        · show (List.set _ _ _)[x]? = _
          rw [List.getElem?_set_ne (fun e => hxp e.symm), last_set, List.getElem?_append_left (by simp; omega), List.getElem?_append_left (by omega)]
          exact hkeep x hx hxp
      · rw [Bool.not_eq_false'] at h3
        rw [if_pos h3, List.append_nil] at hs
        intro c hc2
        rw [IntWalk.i64_in _ (by omega)] at hc2
        obtain rfl : c = ((j + 1 : Nat) : Int) := by omega
        refine ⟨g - 1, by omega, i, j + 1, r, by omega, rfl, by omega, hrl, by rw [hs, hrt], by rw [← List.drop_drop, ← List.drop_drop, hrd], ?_, ?_, fun x hx hxp => ?_⟩
        · exact (List.getElem?_append_left (by simp; omega)).trans (upd_app _ [] _ _ ((List.getElem?_append_left hp2lt).trans hp2) (by omega))
        · simp; omega
        · show (_ ++ _)[x]? = _
          rw [last_set, List.getElem?_append_left (by simp; omega), List.getElem?_append_left (by omega)]
          exact hkeep x hx hxp
    · have hd := of_decide_eq_false hd
      have hjl : j = l.length := by omega
      subst hjl
      rw [List.take_of_length_le (Nat.le_refl _)] at hrt
      have hi : i = (keptW names l).length := by rw [← hrt, List.length_take]; omega
      refine ⟨i, rfl, by omega, hc, fun lo hlo => ?_⟩
      obtain ⟨c1, zs', c2⟩ := clear_fl (r := r) (zs := zs) (i := i) (cap := cap) (lo := lo) (n := l.length - i) (by omega) (by omega) (by omega) hlo (TI.zero ti48) rfl
      refine ⟨_, hp2, c1, ?_⟩
      refine ⟨i, rfl, Nat.zero_le _, by omega, fun lo2 hlo2 => ?_⟩
      obtain rfl : lo2 = 0 := by
        rw [hlo2]
        split <;> rfl
      have hfin := h ⟨st2.heap.set p (setAll (fl r ++ zs) lo (zerosL (TI.zero ti48) (l.length - i))), st2.tk⟩ zs' (by simpa using hlen) (fun x hx hxp => (List.getElem?_set_ne (fun e => hxp e.symm)).trans (hkeep x hx hxp)) (by
        show (List.set _ _ _)[p]? = _
        rw [List.getElem?_set_self (List.getElem?_eq_some_iff.1 hp2).1, c2, hrt]) (by
        have e2 := congrArg List.length c2
        rw [setAll_length, hrt] at e2
        rw [← e2, List.length_append, List.length_append, fl_len, fl_len, hrl])
      rw [← hi] at hfin
      exact hfin
theorem deleteE_a (a : AV) (ha : a = .nilS ∨ a = .sl .tight 2 []) (f : AV) (hf : ∃ g us vs, f = .fn g us vs) (h : R a st) : ACalls Tryz.prog 79 [a, f] st R := by
  obtain ⟨g, us, vs, rfl⟩ := hf
  have key : ∀ a : AV, (a = .nilS ∨ a = .sl .tight 2 []) → ∀ R : AV → St → Prop, R (.i (-1)) st → ACalls Tryz.prog 83 [a, .fn g us vs] st R := by
    rintro a (rfl | rfl) R h
    · refine ACalls.of_vc T_ok mixed Tryz.func83 rfl Tryz.call83 ?_
      refine vc_loop [8] (fun g vals st' => vals = [.i 0] ∧ st' = st) 0 rfl ⟨rfl, rfl⟩ ?_
      rintro g vals st' ⟨rfl, rfl⟩
      exact h
    · refine ACalls.of_vc T_ok mixed Tryz.func83 rfl Tryz.call83 ?_
      refine vc_loop [8] (fun g vals st' => vals = [.i 0] ∧ st' = st) 0 rfl ⟨rfl, rfl⟩ ?_
      rintro g vals st' ⟨rfl, rfl⟩
      exact h
  rcases ha with rfl | rfl
  · refine ACalls.of_vc T_ok mixed Tryz.func79 rfl Tryz.call79 ?_
    refine .s (key _ (.inl rfl) _ ?_)
    exact h
  · refine ACalls.of_vc T_ok mixed Tryz.func79 rfl Tryz.call79 ?_
    refine .s (key _ (.inr rfl) _ ?_)
    exact h
/-- fields of some names are gone from a bag -/
theorem remove_a {tg : Tk} (names : List ByteArray) (hn : NmOk names) (l : List Fld) (hl : l.length ≤ 1099511627776) (hz : ∀ f ∈ l, f.1.size ≤ 1099511627776) (hb : HBag st b l)
    (h : ∀ st', HBag st' b (keptW names l) → R (.i ((l.length : Int) - (keptW names l).length)) st') :
    ACalls Tryz.prog 61 [.ptr b 0, .sl tg 1 (strL names)] st R := by
  have hmx : maxLen = 9223372036854775807 := rfl
  obtain ⟨a, hba, hR⟩ := hb
  have hblt := (List.getElem?_eq_some_iff.1 hba).1
  have hba1 : ∀ x, (st.heap ++ [x])[b]? = some [a] := fun x => (List.getElem?_append_left hblt).trans hba
  have kl : (keptW names l).length ≤ l.length := List.length_filter_le _ _
  cases hR with
  | nil =>
    refine ACalls.of_vc T_ok mixed Tryz.func61 rfl Tryz.call61 ?_
    refine ⟨_, hba1 _, ?_⟩
    refine ⟨_, hba1 _, ?_⟩
    refine .s (deleteE_a _ (.inl rfl) _ ⟨_, _, _, rfl⟩ ?_)
    refine ⟨_, hba1 _, ?_⟩
    refine ⟨_, List.getElem?_set_self (List.getElem?_eq_some_iff.1 (hba1 _)).1, ?_⟩
    intro c hc1
    rw [IntWalk.i64_in _ (by simp)] at hc1
    obtain rfl : c = 0 := by simpa using hc1
    refine h _ ?_
    exact ⟨_, List.getElem?_set_self (List.getElem?_eq_some_iff.1 (hba1 _)).1, .nil⟩
  | tight =>
    refine ACalls.of_vc T_ok mixed Tryz.func61 rfl Tryz.call61 ?_
    refine ⟨_, hba1 _, ?_⟩
    refine ⟨_, hba1 _, ?_⟩
    refine .s (deleteE_a _ (.inr rfl) _ ⟨_, _, _, rfl⟩ ?_)
    refine ⟨_, hba1 _, ?_⟩
    refine ⟨_, List.getElem?_set_self (List.getElem?_eq_some_iff.1 (hba1 _)).1, ?_⟩
    intro c hc1
    rw [IntWalk.i64_in _ (by simp)] at hc1
    obtain rfl : c = 0 := by simpa using hc1
    refine h _ ?_
    exact ⟨_, List.getElem?_set_self (List.getElem?_eq_some_iff.1 (hba1 _)).1, .tight⟩
  | hs p cap l zs hp hc hpb =>
    have hplt := (List.getElem?_eq_some_iff.1 hp).1
    refine ACalls.of_vc T_ok mixed Tryz.func61 rfl Tryz.call61 ?_
    refine ⟨_, hba1 _, ?_⟩
    refine ⟨_, hba1 _, ?_⟩
    refine .s (delete_a (st := ⟨st.heap ++ _, st.tk⟩) (q := st.heap.length) names hn l zs hl hz hc ((List.getElem?_append_left hplt).trans hp) (last_at _ _) (by omega) fun st' zs' hlen hkeep hp' _ => ?_)
    have hb' : st'.heap[b]? = some [.hs p 0 l.length cap 2] := (hkeep b (by simp; omega) (fun e => hpb e.symm)).trans (hba1 _)
    have hb'lt := (List.getElem?_eq_some_iff.1 hb').1
    refine ⟨_, hb', ?_⟩
    refine ⟨_, List.getElem?_set_self hb'lt, ?_⟩
    intro c hc1
    rw [IntWalk.i64_in _ (by omega)] at hc1
    subst hc1
    exact h _ ⟨_, List.getElem?_set_self hb'lt, .hs p cap (keptW names l) zs' ((List.getElem?_set_ne (fun e => hpb e.symm)).trans hp') (by omega) hpb⟩
/-- a bag's fields, copied -/
theorem listH_a (l : List Fld) (hl : l.length ≤ 1099511627776) (hb : HBag st b l) (h : ∀ a st', Gr st st' → (a = .nilS ∧ l = [] ∨ (∃ tg, a = .sl tg 2 (fldL l))) → R a st') : ACalls Tryz.prog 24 [.ptr b 0] st R := by
  have hmx : maxLen = 9223372036854775807 := rfl
  obtain ⟨a, hba, hR⟩ := hb
  cases hR with
  | nil =>
    refine ACalls.of_vc T_ok mixed Tryz.func24 rfl Tryz.call24 ?_
    refine ⟨_, hba, ?_⟩
    refine .s (.of_vc T_ok mixed Tryz.func36 rfl Tryz.call36 ?_)
    exact h _ _ (.refl _) (.inl ⟨rfl, rfl⟩)
  | tight =>
    refine ACalls.of_vc T_ok mixed Tryz.func24 rfl Tryz.call24 ?_
    refine ⟨_, hba, ?_⟩
    refine .p rfl (clone_p [] hl) ?_
    exact h _ _ (.refl _) (.inr ⟨_, rfl⟩)
  | hs p cap l zs hp hc hpb =>
    refine ACalls.of_vc T_ok mixed Tryz.func24 rfl Tryz.call24 ?_
    refine ⟨_, hba, ?_⟩
    refine .s (.of_vc T_ok mixed Tryz.func36 rfl Tryz.call36 ?_)
    have el := fldL_len l
    refine ⟨_, _, hp, fl_seen l zs, ?_⟩
    refine ⟨fun e => ?_, fun _ => ⟨?_, ?_, .inl ?_⟩⟩
    · have : l = [] := List.eq_nil_of_length_eq_zero (by rw [← el, e]; rfl)
      exact h _ _ (.refl _) (.inr ⟨.tight, by rw [e]; rfl⟩)
    · show (fldL l).length * 32 ≤ _; omega
    · show (fldL l).length ≤ _; omega
    · exact h _ _ ⟨⟨[], by simp⟩, by simp, fun t ht => List.getElem?_append_left ht⟩ (.inr ⟨_, rfl⟩)
end
def hostS : ByteArray := ⟨#[104, 111, 115, 116]⟩
def namesL : List ByteArray := [⟨#[99, 111, 110, 110, 101, 99, 116, 105, 111, 110]⟩, ⟨#[99, 111, 110, 116, 101, 110, 116, 45, 108, 101, 110, 103, 116, 104]⟩, ⟨#[107, 101, 101, 112, 45, 97, 108, 105, 118, 101]⟩, ⟨#[112, 114, 111, 120, 121, 45, 99, 111, 110, 110, 101, 99, 116, 105, 111, 110]⟩, ⟨#[116, 101]⟩, ⟨#[116, 114, 97, 105, 108, 101, 114]⟩, ⟨#[116, 114, 97, 110, 115, 102, 101, 114, 45, 101, 110, 99, 111, 100, 105, 110, 103]⟩, ⟨#[117, 112, 103, 114, 97, 100, 101]⟩]
def addN (out : List ByteArray) (t : ByteArray) : List ByteArray := if (decide (foldB t = hostS) || memB out (foldB t)) = true then out else out ++ [foldB t]
def nomV (out : List ByteArray) (x : ByteArray) : List ByteArray := ((tokW [x]).getD []).foldl addN out
/-- the names that are nominated -/
def nomW (l : List Fld) : List ByteArray := (valsW coS l).foldl nomV []
theorem argsW_ns (s : ByteArray) : ArgsW [.nilS, .s s] [.sl .no 1 [], .s s] := ⟨.inr ⟨rfl, 1, rfl⟩, .inl (.inl ⟨rfl, rfl⟩), trivial⟩
theorem tokW_sz {m : Nat} : ∀ (l o : List ByteArray), (∀ x ∈ l, x.size ≤ m) → tokW l = some o → ∀ y ∈ o, y.size ≤ m
  | [], o, _, h => by cases h; simp
  | x :: r, o, hl, h => by
    unfold tokW at h
    cases hs : splitW x with
    | none => rw [hs] at h; cases h
    | some p =>
      rw [hs] at h
      simp only at h
      split at h
      · cases hr : tokW r with
        | none => rw [hr] at h; cases h
        | some q =>
          rw [hr] at h
          cases h
          intro y hy
          rcases List.mem_append.1 hy with hy | hy
          · rcases (splW_bound _ 0 [] p rfl (Nat.zero_le _) hs).2 y hy with h1 | h1
            · simp at h1
            · exact Nat.le_trans h1 (hl x (.head _))
          · exact tokW_sz r q (fun z hz => hl z (.tail _ hz)) hr y hy
      · cases h
theorem hopN4_p : APure Tryz.prog 42 [] (.sl .no 1 (strL namesL)) [] := by
  refine APure.of rfl (ACalls.of_vc T_ok mixed Tryz.func42 rfl Tryz.call42 ?_)
  rfl
theorem fixed_p (name : ByteArray) (hn : name.size ≤ maxLen) : APure Tryz.prog 28 [.s name] (.b (memB namesL (foldB name))) [] := by
  have hc := contains_p namesL (foldB name) (by decide)
  refine APure.of rfl (ACalls.of_vc T_ok mixed Tryz.func28 rfl Tryz.call28 ?_)
  refine .p rfl hopN4_p ?_
  refine .p rfl (foldO_p name hn) ?_
  refine .p rfl hc ?_
  rfl
section
variable {st : St} {R : AV → St → Prop}
attribute [local irreducible] vcApp
set_option maxHeartbeats 4000000 in
theorem nomN_a (l : List Fld) (hl : FldOk l) (h : ∀ a st', Gr st st' → Acc st.tk.length st'.tk 1 a (strL (nomW l)) → R a st') : ACalls Tryz.prog 26 [.sl .no 2 (fldL l)] st R := by
  have hmx : maxLen = 9223372036854775807 := rfl
  have hll := hl.len
  have sC := valsW_congr CO_fold l
  have vc := hl.vlen coS
  have vcs := hl.vsize coS
  refine ACalls.of_vc T_ok mixed Tryz.func26 rfl Tryz.call26 ?_
  refine .s (newB_a l (by omega) ?_)
  refine .s (values_a l _ (by omega) hl.big (by decide) (last_at _ _) fun av st2 g2 av2 => ?_)
  rw [sC] at av2
  have g1 : Gr st ⟨st.heap ++ [[AV.sl Tk.no 2 (fldL l)]], st.tk⟩ := ⟨⟨_, rfl⟩, Nat.le_refl _, fun _ _ => rfl⟩
  have hG0 : Gr st st2 := g1.trans g2
  generalize hvv : valsW coS l = v at *
  have elv := strL_len v
  generalize hev : strL v = ev at av2
  cases av2 with
  | nil =>
    have hv0 : v = [] := (nil_len v).1 hev
    subst hv0
    refine vc_loop [3, 14] (fun g vals st' => vals = [.nilS, .i 0] ∧ st' = st2) 0 rfl ⟨rfl, rfl⟩ ?_
    rintro g vals st' ⟨rfl, rfl⟩
    refine h _ _ hG0 ?_
    unfold nomW
    rw [hvv]
    exact .nil
  | own t1 e1 ev w0 w1 =>
    subst hev
    refine vc_loop [3, 14] (fun g vals st' => ∃ (k : Nat) (a : AV) (out : List ByteArray), k + g = v.length ∧ vals = [a, .i k] ∧ Gr st st' ∧ Acc st.tk.length st'.tk 1 a (strL out) ∧ out.length ≤ k * 4001 ∧ (∀ x ∈ out, x.size ≤ 4000) ∧ out = (v.take k).foldl nomV []) v.length rfl ⟨0, _, [], by omega, rfl, hG0, .nil, by simp, by simp, rfl⟩ ?_
    rintro g vals st' ⟨k, a, out, hk, rfl, hG, hA, hol, hos, hout⟩
    have elo := strL_len out
    generalize hes : strL out = es at hA elo
    cases hA with
    | nil =>
      refine cnd_split (fun hd => ?_) (fun hd => ?_)
      · have hd := of_decide_eq_true hd
        have k1 : k < v.length := by omega
        have sz := vcs v[k] (List.getElem_mem k1)
        have hto := tokens_p [v[k]] (by simp) (fun x hx => by rw [List.mem_singleton.1 hx]; exact sz)
        unfold tokR at hto
        have hvn : (v.take (k + 1)).foldl nomV [] = ((tokW [v[k]]).getD []).foldl addN out := by rw [List.take_succ_eq_append_getElem k1, List.foldl_append, ← hout]; rfl
        refine ⟨k, _, rfl, strL_at k1, ?_⟩
        cases htw : tokW [v[k]] with
        | none =>
          rw [htw] at hto hvn
          refine .p rfl hto ?_
          refine vc_loop [3, 26] (fun g2 vals st2 => vals = [.nilS, .i 0] ∧ st2 = st') 0 rfl ⟨rfl, rfl⟩ ?_
          rintro g2 vals st2 ⟨rfl, rfl⟩
          intro c hc2
          rw [IntWalk.i64_in _ (by omega)] at hc2
          obtain rfl : c = ((k + 1 : Nat) : Int) := by omega
          exact ⟨g - 1, by omega, k + 1, _, out, by omega, rfl, hG, by rw [hes]; exact .nil, by rw [Nat.add_mul]; omega, hos, by rw [hvn]; rfl⟩
        | some p =>
          rw [htw] at hto hvn
          have hvn : (v.take (k + 1)).foldl nomV [] = p.foldl addN out := hvn
          have elp := strL_len p
          have psz := tokW_sz [v[k]] p (fun x hx => by rw [List.mem_singleton.1 hx]; exact sz) htw
          have pn : p.length ≤ 4001 := by have := (splW_bound _ 0 [] p rfl (Nat.zero_le _) (tokW_one htw)).1; simp at this; omega
          refine .p rfl hto ?_
          refine vc_loop [3, 26] (fun g2 vals st2 => ∃ (j : Nat) (a2 : AV) (o : List ByteArray), j + g2 = p.length ∧ vals = [a2, .i j] ∧ Gr st st2 ∧ Acc st.tk.length st2.tk 1 a2 (strL o) ∧ o.length ≤ k * 4001 + j ∧ (∀ x ∈ o, x.size ≤ 4000) ∧ o = (p.take j).foldl addN out) p.length rfl ⟨0, _, out, by omega, rfl, hG, by rw [hes]; exact .nil, by omega, hos, rfl⟩ ?_
          rintro g2 vals st2 ⟨j, a2, o, hj, rfl, hG2, hA2, hol, hos2, ho⟩
          have elo := strL_len o
          generalize heo : strL o = eo at hA2 elo
          cases hA2 with
          | nil =>
            refine cnd_split (fun hd2 => ?_) (fun hd2 => ?_)
            · have hd2 := of_decide_eq_true hd2
              have j1 : j < p.length := by omega
              have szj := psz p[j] (List.getElem_mem j1)
              have hc := contains_p o (foldB p[j]) (by omega)
              rw [heo] at hc
              have hst : (p.take (j + 1)).foldl addN out = addN o p[j] := by rw [List.take_succ_eq_append_getElem j1, List.foldl_append, ← ho]; rfl
              have hfs : (foldB p[j]).size ≤ 4000 := by rw [foldB_size]; exact szj
              unfold addN at hst
              generalize hm : memB o (foldB p[j]) = z at hc hst
              refine ⟨j, _, rfl, strL_at j1, ?_⟩
              refine .p rfl (foldO_p p[j] (by omega)) ?_
              intro b hb
              cases b with
              | false =>
                have e : foldB p[j] = hostS := hb.1 rfl
                rw [if_pos (by rw [decide_eq_true e]; rfl)] at hst
                intro c hc2
                rw [IntWalk.i64_in _ (by omega)] at hc2
                obtain rfl : c = ((j + 1 : Nat) : Int) := by omega
                exact ⟨g2 - 1, by omega, j + 1, _, o, by omega, rfl, hG2, by rw [heo]; exact .nil, by omega, hos2, hst.symm⟩
              | true =>
                have e : ¬ foldB p[j] = hostS := fun e => by have := hb.2 e; cases this
                rw [decide_eq_false e, Bool.false_or] at hst
                refine .w rfl (argsW_ns _) hc ?_
                cases z with
                | true =>
                  rw [if_pos rfl] at hst
                  intro c hc2
                  rw [IntWalk.i64_in _ (by omega)] at hc2
                  obtain rfl : c = ((j + 1 : Nat) : Int) := by omega
                  exact ⟨g2 - 1, by omega, j + 1, _, o, by omega, rfl, hG2, by rw [heo]; exact .nil, by omega, hos2, hst.symm⟩
                | false =>
                  rw [if_neg (by decide)] at hst
                  refine Acc.app (n := st.tk.length) (i := ti9) (es := []) .nil hG2.tl (List.cons_ne_nil _ _) ?_ ?_ (fun t9 e9 tk9 z0 z1 z2 z3 => ?_)
                  · show (([] : List (List AV)).length + 1) * 16 ≤ _; omega
                  · show ([] : List (List AV)).length + 1 ≤ _; omega
                  intro c hc2
                  rw [IntWalk.i64_in _ (by omega)] at hc2
                  obtain rfl : c = ((j + 1 : Nat) : Int) := by omega
                  refine ⟨g2 - 1, by omega, j + 1, _, o ++ [foldB p[j]], by omega, rfl, ⟨hG2.pre, z2, fun t ht => (z3 t ht).trans (hG2.tk t ht)⟩, ?_, by rw [List.length_append, List.length_singleton]; omega, fun x hx => ?_, hst.symm⟩
                  · rw [← strL_app, heo]
                    exact .own _ _ _ z0 z1
                  · rcases List.mem_append.1 hx with hx | hx
                    · exact hos2 x hx
                    · rw [List.mem_singleton.1 hx]; exact hfs
            · have hd2 := of_decide_eq_false hd2
              rw [List.take_of_length_le (by omega)] at ho
              intro c hc2
              rw [IntWalk.i64_in _ (by omega)] at hc2
              obtain rfl : c = ((k + 1 : Nat) : Int) := by omega
              exact ⟨g - 1, by omega, k + 1, _, o, by omega, rfl, hG2, by rw [heo]; exact .nil, by rw [Nat.add_mul]; omega, hos2, by rw [hvn, ho]⟩
          | own t5 e5 eo v0 v1 =>
            refine cnd_split (fun hd2 => ?_) (fun hd2 => ?_)
            · have hd2 := of_decide_eq_true hd2
              have j1 : j < p.length := by omega
              have szj := psz p[j] (List.getElem_mem j1)
              have hc := contains_p o (foldB p[j]) (by omega)
              rw [heo] at hc
              have hst : (p.take (j + 1)).foldl addN out = addN o p[j] := by rw [List.take_succ_eq_append_getElem j1, List.foldl_append, ← ho]; rfl
              have hfs : (foldB p[j]).size ≤ 4000 := by rw [foldB_size]; exact szj
              unfold addN at hst
              generalize hm : memB o (foldB p[j]) = z at hc hst
              refine ⟨j, _, rfl, strL_at j1, ?_⟩
              refine .p rfl (foldO_p p[j] (by omega)) ?_
              intro b hb
              cases b with
              | false =>
                have e : foldB p[j] = hostS := hb.1 rfl
                rw [if_pos (by rw [decide_eq_true e]; rfl)] at hst
                intro c hc2
                rw [IntWalk.i64_in _ (by omega)] at hc2
                obtain rfl : c = ((j + 1 : Nat) : Int) := by omega
                exact ⟨g2 - 1, by omega, j + 1, _, o, by omega, rfl, hG2, by rw [heo]; exact (.own _ _ _ v0 v1), by omega, hos2, hst.symm⟩
              | true =>
                have e : ¬ foldB p[j] = hostS := fun e => by have := hb.2 e; cases this
                rw [decide_eq_false e, Bool.false_or] at hst
                refine .p rfl hc ?_
                cases z with
                | true =>
                  rw [if_pos rfl] at hst
                  intro c hc2
                  rw [IntWalk.i64_in _ (by omega)] at hc2
                  obtain rfl : c = ((j + 1 : Nat) : Int) := by omega
                  exact ⟨g2 - 1, by omega, j + 1, _, o, by omega, rfl, hG2, by rw [heo]; exact (.own _ _ _ v0 v1), by omega, hos2, hst.symm⟩
                | false =>
                  rw [if_neg (by decide)] at hst
                  refine Acc.app (n := st.tk.length) (i := ti9) (es := eo) (.own _ _ _ v0 v1) hG2.tl (List.cons_ne_nil _ _) ?_ ?_ (fun t9 e9 tk9 z0 z1 z2 z3 => ?_)
                  · show ((eo : List (List AV)).length + 1) * 16 ≤ _; omega
                  · show (eo : List (List AV)).length + 1 ≤ _; omega
                  intro c hc2
                  rw [IntWalk.i64_in _ (by omega)] at hc2
                  obtain rfl : c = ((j + 1 : Nat) : Int) := by omega
                  refine ⟨g2 - 1, by omega, j + 1, _, o ++ [foldB p[j]], by omega, rfl, ⟨hG2.pre, z2, fun t ht => (z3 t ht).trans (hG2.tk t ht)⟩, ?_, by rw [List.length_append, List.length_singleton]; omega, fun x hx => ?_, hst.symm⟩
                  · rw [← strL_app, heo]
                    exact .own _ _ _ z0 z1
                  · rcases List.mem_append.1 hx with hx | hx
                    · exact hos2 x hx
                    · rw [List.mem_singleton.1 hx]; exact hfs
            · have hd2 := of_decide_eq_false hd2
              rw [List.take_of_length_le (by omega)] at ho
              intro c hc2
              rw [IntWalk.i64_in _ (by omega)] at hc2
              obtain rfl : c = ((k + 1 : Nat) : Int) := by omega
              exact ⟨g - 1, by omega, k + 1, _, o, by omega, rfl, hG2, by rw [heo]; exact (.own _ _ _ v0 v1), by rw [Nat.add_mul]; omega, hos2, by rw [hvn, ho]⟩
      · have hd := of_decide_eq_false hd
        rw [List.take_of_length_le (by omega)] at hout
        refine h _ _ hG ?_
        unfold nomW
        rw [hvv, ← hout, hes]
        exact .nil
    | own t0 e0 es q0 q1 =>
      refine cnd_split (fun hd => ?_) (fun hd => ?_)
      · have hd := of_decide_eq_true hd
        have k1 : k < v.length := by omega
        have sz := vcs v[k] (List.getElem_mem k1)
        have hto := tokens_p [v[k]] (by simp) (fun x hx => by rw [List.mem_singleton.1 hx]; exact sz)
        unfold tokR at hto
        have hvn : (v.take (k + 1)).foldl nomV [] = ((tokW [v[k]]).getD []).foldl addN out := by rw [List.take_succ_eq_append_getElem k1, List.foldl_append, ← hout]; rfl
        refine ⟨k, _, rfl, strL_at k1, ?_⟩
        cases htw : tokW [v[k]] with
        | none =>
          rw [htw] at hto hvn
          refine .p rfl hto ?_
          refine vc_loop [3, 26] (fun g2 vals st2 => vals = [(.sl (.own t0 e0) 1 es), .i 0] ∧ st2 = st') 0 rfl ⟨rfl, rfl⟩ ?_
          rintro g2 vals st2 ⟨rfl, rfl⟩
          intro c hc2
          rw [IntWalk.i64_in _ (by omega)] at hc2
          obtain rfl : c = ((k + 1 : Nat) : Int) := by omega
          exact ⟨g - 1, by omega, k + 1, _, out, by omega, rfl, hG, by rw [hes]; exact (.own _ _ _ q0 q1), by rw [Nat.add_mul]; omega, hos, by rw [hvn]; rfl⟩
        | some p =>
          rw [htw] at hto hvn
          have hvn : (v.take (k + 1)).foldl nomV [] = p.foldl addN out := hvn
          have elp := strL_len p
          have psz := tokW_sz [v[k]] p (fun x hx => by rw [List.mem_singleton.1 hx]; exact sz) htw
          have pn : p.length ≤ 4001 := by have := (splW_bound _ 0 [] p rfl (Nat.zero_le _) (tokW_one htw)).1; simp at this; omega
          refine .p rfl hto ?_
          refine vc_loop [3, 26] (fun g2 vals st2 => ∃ (j : Nat) (a2 : AV) (o : List ByteArray), j + g2 = p.length ∧ vals = [a2, .i j] ∧ Gr st st2 ∧ Acc st.tk.length st2.tk 1 a2 (strL o) ∧ o.length ≤ k * 4001 + j ∧ (∀ x ∈ o, x.size ≤ 4000) ∧ o = (p.take j).foldl addN out) p.length rfl ⟨0, _, out, by omega, rfl, hG, by rw [hes]; exact (.own _ _ _ q0 q1), by omega, hos, rfl⟩ ?_
          rintro g2 vals st2 ⟨j, a2, o, hj, rfl, hG2, hA2, hol, hos2, ho⟩
          have elo := strL_len o
          generalize heo : strL o = eo at hA2 elo
          cases hA2 with
          | nil =>
            refine cnd_split (fun hd2 => ?_) (fun hd2 => ?_)
            · have hd2 := of_decide_eq_true hd2
              have j1 : j < p.length := by omega
              have szj := psz p[j] (List.getElem_mem j1)
              have hc := contains_p o (foldB p[j]) (by omega)
              rw [heo] at hc
              have hst : (p.take (j + 1)).foldl addN out = addN o p[j] := by rw [List.take_succ_eq_append_getElem j1, List.foldl_append, ← ho]; rfl
              have hfs : (foldB p[j]).size ≤ 4000 := by rw [foldB_size]; exact szj
              unfold addN at hst
              generalize hm : memB o (foldB p[j]) = z at hc hst
              refine ⟨j, _, rfl, strL_at j1, ?_⟩
              refine .p rfl (foldO_p p[j] (by omega)) ?_
              intro b hb
              cases b with
              | false =>
                have e : foldB p[j] = hostS := hb.1 rfl
                rw [if_pos (by rw [decide_eq_true e]; rfl)] at hst
                intro c hc2
                rw [IntWalk.i64_in _ (by omega)] at hc2
                obtain rfl : c = ((j + 1 : Nat) : Int) := by omega
                exact ⟨g2 - 1, by omega, j + 1, _, o, by omega, rfl, hG2, by rw [heo]; exact .nil, by omega, hos2, hst.symm⟩
              | true =>
                have e : ¬ foldB p[j] = hostS := fun e => by have := hb.2 e; cases this
                rw [decide_eq_false e, Bool.false_or] at hst
                refine .w rfl (argsW_ns _) hc ?_
                cases z with
                | true =>
                  rw [if_pos rfl] at hst
                  intro c hc2
                  rw [IntWalk.i64_in _ (by omega)] at hc2
                  obtain rfl : c = ((j + 1 : Nat) : Int) := by omega
                  exact ⟨g2 - 1, by omega, j + 1, _, o, by omega, rfl, hG2, by rw [heo]; exact .nil, by omega, hos2, hst.symm⟩
                | false =>
                  rw [if_neg (by decide)] at hst
                  refine Acc.app (n := st.tk.length) (i := ti9) (es := []) .nil hG2.tl (List.cons_ne_nil _ _) ?_ ?_ (fun t9 e9 tk9 z0 z1 z2 z3 => ?_)
                  · show (([] : List (List AV)).length + 1) * 16 ≤ _; omega
                  · show ([] : List (List AV)).length + 1 ≤ _; omega
                  intro c hc2
                  rw [IntWalk.i64_in _ (by omega)] at hc2
                  obtain rfl : c = ((j + 1 : Nat) : Int) := by omega
                  refine ⟨g2 - 1, by omega, j + 1, _, o ++ [foldB p[j]], by omega, rfl, ⟨hG2.pre, z2, fun t ht => (z3 t ht).trans (hG2.tk t ht)⟩, ?_, by rw [List.length_append, List.length_singleton]; omega, fun x hx => ?_, hst.symm⟩
                  · rw [← strL_app, heo]
                    exact .own _ _ _ z0 z1
                  · rcases List.mem_append.1 hx with hx | hx
                    · exact hos2 x hx
                    · rw [List.mem_singleton.1 hx]; exact hfs
            · have hd2 := of_decide_eq_false hd2
              rw [List.take_of_length_le (by omega)] at ho
              intro c hc2
              rw [IntWalk.i64_in _ (by omega)] at hc2
              obtain rfl : c = ((k + 1 : Nat) : Int) := by omega
              exact ⟨g - 1, by omega, k + 1, _, o, by omega, rfl, hG2, by rw [heo]; exact .nil, by rw [Nat.add_mul]; omega, hos2, by rw [hvn, ho]⟩
          | own t5 e5 eo v0 v1 =>
            refine cnd_split (fun hd2 => ?_) (fun hd2 => ?_)
            · have hd2 := of_decide_eq_true hd2
              have j1 : j < p.length := by omega
              have szj := psz p[j] (List.getElem_mem j1)
              have hc := contains_p o (foldB p[j]) (by omega)
              rw [heo] at hc
              have hst : (p.take (j + 1)).foldl addN out = addN o p[j] := by rw [List.take_succ_eq_append_getElem j1, List.foldl_append, ← ho]; rfl
              have hfs : (foldB p[j]).size ≤ 4000 := by rw [foldB_size]; exact szj
              unfold addN at hst
              generalize hm : memB o (foldB p[j]) = z at hc hst
              refine ⟨j, _, rfl, strL_at j1, ?_⟩
              refine .p rfl (foldO_p p[j] (by omega)) ?_
              intro b hb
              cases b with
              | false =>
                have e : foldB p[j] = hostS := hb.1 rfl
                rw [if_pos (by rw [decide_eq_true e]; rfl)] at hst
                intro c hc2
                rw [IntWalk.i64_in _ (by omega)] at hc2
                obtain rfl : c = ((j + 1 : Nat) : Int) := by omega
                exact ⟨g2 - 1, by omega, j + 1, _, o, by omega, rfl, hG2, by rw [heo]; exact (.own _ _ _ v0 v1), by omega, hos2, hst.symm⟩
              | true =>
                have e : ¬ foldB p[j] = hostS := fun e => by have := hb.2 e; cases this
                rw [decide_eq_false e, Bool.false_or] at hst
                refine .p rfl hc ?_
                cases z with
                | true =>
                  rw [if_pos rfl] at hst
                  intro c hc2
                  rw [IntWalk.i64_in _ (by omega)] at hc2
                  obtain rfl : c = ((j + 1 : Nat) : Int) := by omega
                  exact ⟨g2 - 1, by omega, j + 1, _, o, by omega, rfl, hG2, by rw [heo]; exact (.own _ _ _ v0 v1), by omega, hos2, hst.symm⟩
                | false =>
                  rw [if_neg (by decide)] at hst
                  refine Acc.app (n := st.tk.length) (i := ti9) (es := eo) (.own _ _ _ v0 v1) hG2.tl (List.cons_ne_nil _ _) ?_ ?_ (fun t9 e9 tk9 z0 z1 z2 z3 => ?_)
                  · show ((eo : List (List AV)).length + 1) * 16 ≤ _; omega
                  · show (eo : List (List AV)).length + 1 ≤ _; omega
                  intro c hc2
                  rw [IntWalk.i64_in _ (by omega)] at hc2
                  obtain rfl : c = ((j + 1 : Nat) : Int) := by omega
                  refine ⟨g2 - 1, by omega, j + 1, _, o ++ [foldB p[j]], by omega, rfl, ⟨hG2.pre, z2, fun t ht => (z3 t ht).trans (hG2.tk t ht)⟩, ?_, by rw [List.length_append, List.length_singleton]; omega, fun x hx => ?_, hst.symm⟩
                  · rw [← strL_app, heo]
                    exact .own _ _ _ z0 z1
                  · rcases List.mem_append.1 hx with hx | hx
                    · exact hos2 x hx
                    · rw [List.mem_singleton.1 hx]; exact hfs
            · have hd2 := of_decide_eq_false hd2
              rw [List.take_of_length_le (by omega)] at ho
              intro c hc2
              rw [IntWalk.i64_in _ (by omega)] at hc2
              obtain rfl : c = ((k + 1 : Nat) : Int) := by omega
              exact ⟨g - 1, by omega, k + 1, _, o, by omega, rfl, hG2, by rw [heo]; exact (.own _ _ _ v0 v1), by rw [Nat.add_mul]; omega, hos2, by rw [hvn, ho]⟩
      · have hd := of_decide_eq_false hd
        rw [List.take_of_length_le (by omega)] at hout
        refine h _ _ hG ?_
        unfold nomW
        rw [hvv, ← hout, hes]
        exact (.own _ _ _ q0 q1)
end
theorem nomW_bound (l : List Fld) (hl : FldOk l) : (nomW l).length ≤ 4001000 ∧ ∀ x ∈ nomW l, x.size ≤ 4000 ∧ foldB x = x := by
  have add : ∀ (p out : List ByteArray), (∀ x ∈ p, x.size ≤ 4000) → (∀ x ∈ out, x.size ≤ 4000 ∧ foldB x = x) → (p.foldl addN out).length ≤ out.length + p.length ∧ ∀ x ∈ p.foldl addN out, x.size ≤ 4000 ∧ foldB x = x := by
    intro p
    induction p with
    | nil => intro out _ h; exact ⟨by simp, h⟩
    | cons t r ih =>
      intro out hp ho
      rw [List.foldl_cons]
      have : (addN out t).length ≤ out.length + 1 ∧ ∀ x ∈ addN out t, x.size ≤ 4000 ∧ foldB x = x := by
        unfold addN
        split
        · exact ⟨by omega, ho⟩
        · refine ⟨by simp, fun x hx => ?_⟩
          rcases List.mem_append.1 hx with hx | hx
          · exact ho x hx
          · rw [List.mem_singleton.1 hx, foldB_size, foldB_foldB]
            exact ⟨hp t (.head _), rfl⟩
      obtain ⟨i1, i2⟩ := ih (addN out t) (fun x hx => hp x (.tail _ hx)) this.2
      exact ⟨by rw [List.length_cons]; omega, i2⟩
  have all : ∀ (v out : List ByteArray), (∀ x ∈ v, x.size ≤ 4000) → (∀ x ∈ out, x.size ≤ 4000 ∧ foldB x = x) → (v.foldl nomV out).length ≤ out.length + v.length * 4001 ∧ ∀ x ∈ v.foldl nomV out, x.size ≤ 4000 ∧ foldB x = x := by
    intro v
    induction v with
    | nil => intro out _ h; exact ⟨by simp, h⟩
    | cons x r ih =>
      intro out hv ho
      rw [List.foldl_cons]
      have : (nomV out x).length ≤ out.length + 4001 ∧ ∀ y ∈ nomV out x, y.size ≤ 4000 ∧ foldB y = y := by
        unfold nomV
        cases htw : tokW [x] with
        | none => exact ⟨by simp, ho⟩
        | some p =>
          have psz := tokW_sz [x] p (fun y hy => by rw [List.mem_singleton.1 hy]; exact hv x (.head _)) htw
          have pn : p.length ≤ 4001 := by
            have h1 := (splW_bound _ 0 [] p rfl (Nat.zero_le _) (tokW_one htw)).1
            have h2 := hv x (.head _)
            simp at h1
            omega
          obtain ⟨i1, i2⟩ := add p out psz ho
          exact ⟨by show (p.foldl addN out).length ≤ _; omega, i2⟩
      obtain ⟨i1, i2⟩ := ih (nomV out x) (fun y hy => hv y (.tail _ hy)) this.2
      refine ⟨?_, i2⟩
      rw [List.length_cons, Nat.add_mul]
      omega
  obtain ⟨h1, h2⟩ := all (valsW coS l) [] (hl.vsize coS) (by simp)
  have h3 := hl.vlen coS
  have h4 : (valsW coS l).length * 4001 ≤ 1000 * 4001 := Nat.mul_le_mul_right _ h3
  exact ⟨by unfold nomW; simp at h1; omega, h2⟩
theorem nom_p (l : List Fld) (hl : FldOk l) : APure Tryz.prog 26 [.sl .no 2 (fldL l)] (.sl .no 1 (strL (nomW l))) [] := by
  refine APure.ofW rfl (nomN_a l hl fun a st' _ hA => ?_)
  generalize strL (nomW l) = es at hA
  cases hA with
  | nil => exact .inr (.inl ⟨1, rfl, rfl⟩)
  | own t e es _ _ => exact .inl rfl
/-- what goes on -/
def stripW (l : List Fld) : List Fld := keptW (nomW l ++ namesL) l
section
attribute [local irreducible] vcApp
end
theorem fldL_at' {l : List Fld} {j : Nat} (h : j < l.length) : (fldL l)[j]? = some [.s l[j].1, .s l[j].2] := fldL_at h
theorem same12_p (l m : List Fld) (h1 : l.length ≤ 1099511627776) (h2 : m.length ≤ 1099511627776) : APure Tryz.prog 8 [.sl .no 2 (fldL l), .sl .no 2 (fldL m)] (.b (decide (l = m))) [] := by
  have el := fldL_len l
  have em := fldL_len m
  refine APure.of rfl (ACalls.of_vc T_ok mixed Tryz.func8 rfl Tryz.call8 ?_)
  refine cnd_split (fun hd => ?_) (fun hd => ?_)
  · have hd : ¬ ((fldL l).length : Int) = (fldL m).length := by simpa using hd
    exact retb (decide_eq_false (fun e => by subst e; omega)).symm
  · have hd : ((fldL l).length : Int) = (fldL m).length := by simpa using hd
    refine vc_loop [5] (fun g vals st' => ∃ k : Nat, k + g = l.length ∧ vals = [.i k] ∧ ∀ j, j < k → l[j]? = m[j]?) l.length rfl ⟨0, by omega, rfl, fun j h => absurd h (by omega)⟩ ?_
    rintro g vals st' ⟨k, hk, rfl, ha⟩
    refine cnd_split (fun hd2 => ?_) (fun hd2 => ?_)
    · have hd2 := of_decide_eq_true hd2
      have k1 : k < l.length := by omega
      have k2 : k < m.length := by omega
      refine .e (by kernel_rfl) ?_
      refine ⟨k, _, rfl, fldL_at k1, ?_⟩
      refine ⟨k, _, rfl, fldL_at k2, ?_⟩
      refine ⟨by kernel_rfl, fun q hq => ?_⟩
      have hq : q = true ↔ l[k].1 = m[k].1 ∧ l[k].2 = m[k].2 ∧ True := hq
      cases q with
      | false =>
        refine retb (decide_eq_false (fun e => ?_)).symm
        subst e
        have := hq.2 ⟨rfl, rfl, trivial⟩
        cases this
      | true =>
        obtain ⟨e1, e2, _⟩ := hq.1 rfl
        intro c hc
        rw [IntWalk.i64_in _ (by omega)] at hc
        obtain rfl : c = ((k + 1 : Nat) : Int) := by omega
        refine ⟨g - 1, by omega, k + 1, by omega, rfl, fun j hj => ?_⟩
        by_cases hjk : j = k
        · subst hjk; rw [List.getElem?_eq_getElem k1, List.getElem?_eq_getElem k2]; exact congrArg some (Prod.ext e1 e2)
        · exact ha j (by omega)
    · have hd2 := of_decide_eq_false hd2
      refine retb (decide_eq_true (List.ext_getElem? fun j => ?_)).symm
      by_cases hj : j < k
      · exact ha j hj
      · rw [List.getElem?_eq_none (by omega), List.getElem?_eq_none (by omega)]
def exH : List Fld := [(⟨#[67, 111, 110, 110, 101, 99, 116, 105, 111, 110]⟩, ⟨#[99, 108, 111, 115, 101, 44, 32, 88, 45, 65]⟩), (⟨#[88, 45, 97]⟩, ⟨#[49]⟩), (⟨#[66]⟩, ⟨#[50]⟩)]
theorem exH_ok : FldOk exH := ⟨by decide, by decide⟩
theorem exH_strip : stripW exH = exH.drop 2 := by decide +kernel
theorem exH_close : closeW exH 1 = true := by decide +kernel
theorem one_row {v : List ByteArray} {k : Nat} (h : k < v.length) : ((strL v).drop k).take (k + 1 - k) = strL [v[k]] := by
  rw [show k + 1 - k = 1 by omega, List.drop_eq_getElem_cons (by rw [strL_len]; exact h)]
  simp [strL]
theorem memB_snocH (o : List ByteArray) (t : ByteArray) (i : Nat) (h : i < o.length) : memB (o.take (i + 1)) t = (memB (o.take i) t || decide (o[i] = t)) := by
  rw [List.take_succ_eq_append_getElem h]
  unfold memB
  rw [List.any_append]
  simp
section
attribute [local irreducible] vcApp
def keptS (n : List ByteArray) (l : List Fld) : List Fld := l.filter fun f => !memB namesL (foldB f.1) && !memB n (foldB f.1)
theorem keptS_snoc (n : List ByteArray) (l : List Fld) (k : Nat) (h : k < l.length) : keptS n (l.take (k + 1)) = keptS n (l.take k) ++ (if (!memB namesL (foldB l[k].1) && !memB n (foldB l[k].1)) = true then [l[k]] else []) := by
  rw [List.take_succ_eq_append_getElem h]
  unfold keptS
  rw [List.filter_append]
  congr 1
  cases ho : (!memB namesL (foldB l[k].1) && !memB n (foldB l[k].1)) with
  | true => simp [List.filter, ho]
  | false => simp [List.filter, ho]
theorem oneW_mem {ns : List ByteArray} (h : ∀ x ∈ ns, foldB x = x) (name : ByteArray) : oneW name ns = memB ns (foldB name) := by
  unfold oneW memB
  induction ns with
  | nil => rfl
  | cons x r ih =>
    rw [List.any_cons, List.any_cons, h x (.head _), ih (fun y hy => h y (.tail _ hy))]
theorem namesL_fold : ∀ x ∈ namesL, foldB x = x := by decide +kernel
theorem stripW_S (l : List Fld) (hl : FldOk l) : stripW l = keptS (nomW l) l := by
  obtain ⟨_, h2⟩ := nomW_bound l hl
  unfold stripW keptW keptS
  congr 1
  funext f
  rw [oneW_mem (fun x hx => by
    rcases List.mem_append.1 hx with hx | hx
    · exact (h2 x hx).2
    · exact namesL_fold x hx)]
  unfold memB
  rw [List.any_append, Bool.not_or, Bool.and_comm]
end
end Go.Proofs.YtgkhnllgmfjhpaaGreatDoor
