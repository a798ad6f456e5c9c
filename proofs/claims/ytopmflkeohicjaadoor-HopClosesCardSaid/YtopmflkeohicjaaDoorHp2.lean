/- Rows of fields that are one's own variables: fields of some names are taken out of them in place. No statement of its own. -/
import Derived.Test.YtopmflkeohicjaaDoorHp1
set_option maxRecDepth 100000
namespace Go.Proofs.YtopmflkeohicjaaDoor
open Go.RowKit
/-- a row's cells -/
abbrev fl (l : List Fld) : List AV := (fldL l).flatten
theorem fl_len (l : List Fld) : (fl l).length = l.length * 2 := by
  rw [flat_len (sz := 2) (fun k e h => (flat_fld l k e h).1), fldL_len]
theorem fl_cons (f : Fld) (l : List Fld) : fl (f :: l) = .s f.1 :: .s f.2 :: fl l := rfl
theorem fl_app (l m : List Fld) : fl (l ++ m) = fl l ++ fl m := by
  unfold fl
  rw [← fldL_appL, List.flatten_append]
theorem fl_at {l : List Fld} {k j : Nat} (hk : k < l.length) (hj : j < 2) : (fl l)[k * 2 + j]? = [AV.s l[k].1, AV.s l[k].2][j]? :=
  flat_get (sz := 2) (fun k e h => (flat_fld l k e h).1) k j _ (fldL_at hk) hj
theorem fl_seen (l : List Fld) (zs : List AV) : Seen (fl l ++ zs) 0 l.length 2 (fldL l) := by
  refine ⟨fldL_len l, flat_fld l, fun k e j a he ha => ?_⟩
  have hk := (List.getElem?_eq_some_iff.1 he).1
  have hl := (flat_fld l k e he).1
  have hj := (List.getElem?_eq_some_iff.1 ha).1
  rw [fldL_len] at hk
  rw [Nat.zero_add, List.getElem?_append_left (by rw [fl_len]; omega), fl_at hk (by omega)]
  rw [fldL_at hk] at he
  cases he
  exact ha
theorem drop2 {l : List Fld} {zs : List AV} {j : Nat} (hj : j < l.length) : ((fl l ++ zs).drop (0 + j * 2)).take 2 = [.s l[j].1, .s l[j].2] := by
  apply List.ext_getElem?
  intro i
  rw [List.getElem?_take]
  split
  · rw [List.getElem?_drop, Nat.zero_add, List.getElem?_append_left (by rw [fl_len]; omega), fl_at hj (by omega)]
  · rw [List.getElem?_eq_none (by simp; omega)]
/-- a field of such a row, loaded -/
theorem ld_fld {l : List Fld} {zs : List AV} {j : Nat} {K : AV → Prop} (hj : j < l.length) (h : K (.agg [.s l[j].1, .s l[j].2])) : ldA ti75 (fl l ++ zs) (0 + j * 2) K := by
  unfold ldA
  have h1 : decide (0 + j * 2 + TI.size ti75 ≤ (fl l ++ zs).length) = true := decide_eq_true (by
    rw [List.length_append, fl_len]
    show 0 + j * 2 + 2 ≤ _
    omega)
  show (match decide (0 + j * 2 + TI.size ti75 ≤ (fl l ++ zs).length) with | true => _ | false => False)
  rw [h1]
  show listK (((fl l ++ zs).drop (0 + j * 2)).take 2) _
  rw [drop2 hj]
  exact listK_iff.2 h
theorem set2 {l : List Fld} {zs : List AV} {i : Nat} (hi : i < l.length) (a b : ByteArray) : setAll (fl l ++ zs) (0 + i * 2) [.s a, .s b] = fl (l.set i (a, b)) ++ zs := by
  apply List.ext_getElem?
  intro q
  rw [setAll_get _ _ _ _ (by rw [List.length_append, fl_len]; simp; omega)]
  by_cases h : 0 + i * 2 ≤ q ∧ q < 0 + i * 2 + [AV.s a, AV.s b].length
  · rw [if_pos h]
    have hq : q < 0 + i * 2 + 2 := h.2
    rw [List.getElem?_append_left (by rw [fl_len, List.length_set]; omega)]
    obtain ⟨j, rfl⟩ : ∃ j, q = i * 2 + j := ⟨q - i * 2, by omega⟩
    rw [fl_at (by rw [List.length_set]; exact hi) (by omega), show i * 2 + j - (0 + i * 2) = j by omega, List.getElem_set_self]
  · rw [if_neg h]
    have hq : ¬ (0 + i * 2 ≤ q ∧ q < 0 + i * 2 + 2) := h
    by_cases hl : q < l.length * 2
    · rw [List.getElem?_append_left (by rw [fl_len]; exact hl), List.getElem?_append_left (by rw [fl_len, List.length_set]; exact hl)]
      have e : q = q / 2 * 2 + q % 2 := by omega
      have hk : q / 2 < l.length := by omega
      have hne : i ≠ q / 2 := by omega
      rw [e, fl_at hk (by omega), fl_at (by rw [List.length_set]; exact hk) (by omega), List.getElem_set_ne hne]
    · rw [List.getElem?_append_right (by rw [fl_len]; omega), List.getElem?_append_right (by rw [fl_len, List.length_set]; omega), fl_len, fl_len, List.length_set]
/-- a field of such a row, written -/
theorem st_fld {l : List Fld} {zs : List AV} {i : Nat} {a b : ByteArray} {L : List AV → Prop} (hi : i < l.length) (h : L (fl (l.set i (a, b)) ++ zs)) :
    (match decide (0 + i * 2 + TI.size ti75 ≤ (fl l ++ zs).length) with | true => listK (setAll (fl l ++ zs) (0 + i * 2) [.s a, .s b]) L | false => False) := by
  have h1 : decide (0 + i * 2 + TI.size ti75 ≤ (fl l ++ zs).length) = true := decide_eq_true (by
    rw [List.length_append, fl_len]
    show 0 + i * 2 + 2 ≤ _
    omega)
  rw [h1]
  show listK _ _
  rw [set2 hi]
  exact listK_iff.2 h

/-- a row of fields that is one's own variable (and not b), or an empty one -/
inductive HRow (st : St) (b : Nat) : AV → List Fld → Prop
  | nil : HRow st b .nilS []
  | tight : HRow st b (.sl .tight 2 []) []
  | hs (p cap : Nat) (l : List Fld) (zs : List AV) (hp : st.heap[p]? = some (fl l ++ zs)) (hc : l.length ≤ cap) (hb : p ≠ b) : HRow st b (.hs p 0 l.length cap 2) l
theorem HRow.pre {st st' : St} {b : Nat} {a : AV} {l : List Fld} (h : HRow st b a l) (g : Pre st st') : HRow st' b a l := by
  cases h with
  | nil => exact .nil
  | tight => exact .tight
  | hs p cap l zs hp hc hb => exact .hs p cap l zs (g.at' hp) hc hb
/-- a bag with these fields -/
def HBag (st : St) (b : Nat) (l : List Fld) : Prop := ∃ a, st.heap[b]? = some [a] ∧ HRow st b a l
def keptW (names : List ByteArray) (l : List Fld) : List Fld := l.filter fun f => !oneW f.1 names
theorem keptW_snoc (names : List ByteArray) (l : List Fld) (k : Nat) (h : k < l.length) : keptW names (l.take (k + 1)) = keptW names (l.take k) ++ (if oneW l[k].1 names = true then [] else [l[k]]) := by
  rw [List.take_succ_eq_append_getElem h]
  unfold keptW
  rw [List.filter_append]
  congr 1
  cases ho : oneW l[k].1 names with
  | true => simp [List.filter, ho]
  | false => simp [List.filter, ho]
theorem keptW_all {names : List ByteArray} {l : List Fld} (h : ∀ i (hi : i < l.length), oneW l[i].1 names = false) : keptW names l = l := by
  unfold keptW
  refine List.filter_eq_self.2 fun f hf => ?_
  obtain ⟨i, hi, rfl⟩ := List.getElem_of_mem hf
  rw [h i hi]; rfl
theorem clear_fl {r : List Fld} {zs : List AV} {i cap lo n : Nat} (hi : i ≤ r.length) (hn : n = r.length - i) (hc : r.length ≤ cap) (hlo : lo = if cap = i then 0 else 0 + i * 2) (z : List Value) (hz : z.length = 2) :
    lo + n * 2 ≤ (fl r ++ zs).length ∧ ∃ zs', setAll (fl r ++ zs) lo (zerosL z n) = fl (r.take i) ++ zs' := by
  have hl := fl_len r
  have hz2 := zerosL_len z n
  rw [hz] at hz2
  have hb : lo + n * 2 ≤ (fl r ++ zs).length := by
    rw [List.length_append, hl]
    split at hlo <;> omega
  refine ⟨hb, (setAll (fl r ++ zs) lo (zerosL z n)).drop (i * 2), ?_⟩
  have hlt := fl_len (r.take i)
  rw [List.length_take, Nat.min_eq_left hi] at hlt
  have : (setAll (fl r ++ zs) lo (zerosL z n)).take (i * 2) = fl (r.take i) := by
    apply List.ext_getElem?
    intro q
    rw [List.getElem?_take]
    split
    · rename_i hq
      rw [setAll_get _ _ _ _ (by rw [hz2]; exact hb), if_neg (by rw [hz2]; split at hlo <;> omega)]
      rw [List.getElem?_append_left (by rw [hl]; omega)]
      conv => lhs; rw [← List.take_append_drop i r, fl_app]
      rw [List.getElem?_append_left (by rw [hlt]; exact hq)]
    · rw [List.getElem?_eq_none (by rw [hlt]; omega)]
  rw [← this, List.take_append_drop]
section
variable {st : St} {R : AV → St → Prop} {p q b cap : Nat}
theorem cloneH_a (l : List Fld) (hl : l.length ≤ 1099511627776) (h : ∀ a st', Gr st st' → HRow st' st'.heap.length a l → R a st') : ACalls Tryd.prog 102 [.sl .no 2 (fldL l)] st R := by
  have hmx : maxLen = 9223372036854775807 := rfl
  have el := fldL_len l
  cases l with
  | nil =>
    refine ACalls.empty fun a cap hm => ?_
    cases a with
    | none =>
      refine ACalls.of_vc T_ok mixed Tryd.func102 rfl Tryd.call102 ?_
      exact h _ _ (.refl _) .nil
    | some a =>
      refine ACalls.of_vc T_ok mixed Tryd.func102 rfl Tryd.call102 ?_
      exact ⟨fun _ => h _ _ (.refl _) .tight, fun h => absurd rfl h⟩
  | cons f r =>
    refine ACalls.of_vc T_ok mixed Tryd.func102 rfl Tryd.call102 ?_
    refine ⟨fun h => by simp [fldL] at h, fun _ => ⟨?_, ?_, .inr fun x hx => ?_⟩⟩
    · show (fldL (f :: r)).length * 32 ≤ _; omega
    · show (fldL (f :: r)).length ≤ _; omega
    · have g : Gr st ⟨st.heap ++ [(fldL (f :: r)).flatten ++ zerosL (TI.zero ti75) x], st.tk⟩ := ⟨⟨_, rfl⟩, Nat.le_refl _, fun _ _ => rfl⟩
      have := HRow.hs (st := ⟨st.heap ++ [(fldL (f :: r)).flatten ++ zerosL (TI.zero ti75) x], st.tk⟩) (b := (st.heap ++ [(fldL (f :: r)).flatten ++ zerosL (TI.zero ti75) x]).length) st.heap.length ((fldL (f :: r)).length + x) (f :: r) (zerosL (TI.zero ti75) x) (last_at _ _) (by omega) (by simp)
      rw [← el] at this
      exact h _ _ g this
/-- a bag of fields whose row is its own variable -/
theorem newH_a (l : List Fld) (hl : l.length ≤ 1099511627776) (h : ∀ b st', Gr st st' → HBag st' b l → R (.ptr b 0) st') : ACalls Tryd.prog 54 [.sl .no 2 (fldL l)] st R := by
  refine ACalls.of_vc T_ok mixed Tryd.func54 rfl Tryd.call54 ?_
  refine .s (cloneH_a l hl fun a st' hG hR => ?_)
  have g : ∀ x, Gr st ⟨st'.heap ++ [[x]], st'.tk⟩ := fun x => hG.trans ⟨⟨_, rfl⟩, Nat.le_refl _, fun _ _ => rfl⟩
  have pr : ∀ x, Pre st' ⟨st'.heap ++ [[x]], st'.tk⟩ := fun x => ⟨_, rfl⟩
  have hR' := fun x => hR.pre (pr x)
  cases hR with
  | nil => exact h _ _ (g _) ⟨_, last_at _ _, hR' _⟩
  | tight => exact h _ _ (g _) ⟨_, last_at _ _, hR' _⟩
  | hs p cap l zs hp hc hb =>
    refine ⟨(List.getElem?_eq_some_iff.1 hp).1, ?_⟩
    exact h _ _ (g _) ⟨_, last_at _ _, hR' _⟩
/-- what a field's name is asked -/
theorem rm1_a {tg : Tk} {a v : ByteArray} (names : List ByteArray) (hl : NmOk names) (ha : a.size ≤ maxLen) (hq : st.heap[q]? = some [.sl tg 1 (strL names)]) (h : R (.b (oneW a names)) ⟨st.heap ++ [[.s a, .s v]], st.tk⟩) :
    ACalls Tryd.prog 113 [.agg [.s a, .s v], .ptr q 0] st R := by
  have hq' : (st.heap ++ [[AV.s a, .s v]])[q]? = some [.sl tg 1 (strL names)] := (List.getElem?_append_left (List.getElem?_eq_some_iff.1 hq).1).trans hq
  have hp := one_w a names hl ha
  cases tg with
  | no =>
    refine ACalls.of_vc T_ok mixed Tryd.func113 rfl Tryd.call113 ?_
    refine ⟨_, last_at _ _, ?_⟩
    refine ⟨_, hq', ?_⟩
    refine .p rfl hp ?_
    exact h
  | tight =>
    refine ACalls.of_vc T_ok mixed Tryd.func113 rfl Tryd.call113 ?_
    refine ⟨_, last_at _ _, ?_⟩
    refine ⟨_, hq', ?_⟩
    refine .p rfl hp ?_
    exact h
  | own t e =>
    refine ACalls.of_vc T_ok mixed Tryd.func113 rfl Tryd.call113 ?_
    refine ⟨_, last_at _ _, ?_⟩
    refine ⟨_, hq', ?_⟩
    refine .p rfl hp ?_
    exact h
theorem indexF_a {tg : Tk} (names : List ByteArray) (hn : NmOk names) (l : List Fld) (zs : List AV) (hl : l.length ≤ 1099511627776) (hz : ∀ f ∈ l, f.1.size ≤ 1099511627776) (hp : st.heap[p]? = some (fl l ++ zs)) (hq : st.heap[q]? = some [.sl tg 1 (strL names)])
    (h : ∀ (v : Int) st', Pre st st' → ((v = -1 ∧ ∀ i (hi : i < l.length), oneW l[i].1 names = false) ∨ ∃ (k : Nat) (hk : k < l.length), v = (k : Int) ∧ oneW l[k].1 names = true ∧ ∀ i (hi : i < l.length), i < k → oneW l[i].1 names = false) → R (.i v) st') :
    ACalls Tryd.prog 108 [.hs p 0 l.length cap 2, .fn (.func 113) [] [.ptr q 0]] st R := by
  have hmx : maxLen = 9223372036854775807 := rfl
  refine ACalls.of_vc T_ok mixed Tryd.func108 rfl Tryd.call108 ?_
  refine vc_loop [8] (fun g vals st' => ∃ k : Nat, k + g = l.length ∧ vals = [.i k] ∧ Pre st st' ∧ ∀ i (hi : i < l.length), i < k → oneW l[i].1 names = false) l.length rfl ⟨0, by omega, rfl, .refl _, fun i _ h => absurd h (by omega)⟩ ?_
  rintro g vals st' ⟨k, hk, rfl, hP, hall⟩
  have hp' := hP.at' hp
  have hq' := hP.at' hq
  refine cnd_split (fun hd => ?_) (fun hd => ?_)
  · have hd := of_decide_eq_true hd
    have k1 : k < l.length := by omega
    have sz := hz l[k] (List.getElem_mem k1)
    refine ⟨k, rfl, k1, ?_⟩
    refine ⟨_, hp', ld_fld k1 ?_⟩
    refine .s (rm1_a names hn (by omega) hq' ?_)
    refine cnd_split (fun h2 => ?_) (fun h2 => ?_)
    · exact h k _ (hP.trans ⟨_, rfl⟩) (.inr ⟨k, k1, rfl, h2, hall⟩)
    · intro c hc
      rw [IntWalk.i64_in _ (by omega)] at hc
      obtain rfl : c = ((k + 1 : Nat) : Int) := by omega
      refine ⟨g - 1, by omega, k + 1, by omega, rfl, hP.trans ⟨_, rfl⟩, fun i hi hik => ?_⟩
      by_cases e : i = k
      · subst e; exact h2
      · exact hall i hi (by omega)
  · have hd := of_decide_eq_false hd
    exact h (-1) _ hP (.inl ⟨rfl, fun i hi => hall i hi (by omega)⟩)
end
end Go.Proofs.YtopmflkeohicjaaDoor
