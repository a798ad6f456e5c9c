/- Rows of fields, in plain words: what puts, renames and goes behind. No statement of its own. -/
import Derived.Test.YtgkhnllgmfjhpaaGreatDoorHpm
import Derived.Test.YtgkhnllgmfjhpaaGreatDoorVg
import Derived.Test.YtgkhnllgmfjhpaaGreatDoorSm
import Derived.Test.YtgkhnllgmfjhpaaGreatDoorWk
set_option linter.unusedSimpArgs false
set_option linter.unusedVariables false
set_option maxRecDepth 100000
namespace Go.Proofs.YtgkhnllgmfjhpaaGreatDoor
open Go.RowKit
/-- is a field of a name? -/
def ofB (n : ByteArray) (f : Fld) : Bool := decide (foldB f.1 = foldB n)
def withoutW (n : ByteArray) (l : List Fld) : List Fld := l.filter fun f => !ofB n f
theorem withoutW_take {n : ByteArray} {l : List Fld} {k : Nat} (h : k < l.length) : withoutW n (l.take (k + 1)) = withoutW n (l.take k) ++ (if ofB n l[k] = true then [] else [l[k]]) := by
  rw [List.take_succ_eq_append_getElem h]
  unfold withoutW
  rw [List.filter_append]
  congr 1
  cases ho : ofB n l[k] with
  | true => simp [List.filter, ho]
  | false => simp [List.filter, ho]
theorem oneW_one (n : ByteArray) (f : Fld) : oneW f.1 [n] = ofB n f := by
  unfold oneW ofB
  simp only [List.any_cons, List.any_nil, Bool.or_false]
  rw [Bool.eq_iff_iff, decide_eq_true_eq, decide_eq_true_eq]
  exact ⟨Eq.symm, Eq.symm⟩
theorem oneW_two (n m : ByteArray) (f : Fld) : oneW f.1 [n, m] = (ofB n f || ofB m f) := by
  unfold oneW ofB
  simp only [List.any_cons, List.any_nil, Bool.or_false]
  congr 1
  · rw [Bool.eq_iff_iff, decide_eq_true_eq, decide_eq_true_eq]
    exact ⟨Eq.symm, Eq.symm⟩
  · rw [Bool.eq_iff_iff, decide_eq_true_eq, decide_eq_true_eq]
    exact ⟨Eq.symm, Eq.symm⟩
theorem keptW_one (n : ByteArray) (l : List Fld) : keptW [n] l = withoutW n l := by
  unfold keptW withoutW
  exact List.filter_congr fun f _ => by rw [oneW_one]
theorem keptW_two (n m : ByteArray) (l : List Fld) : keptW [n, m] l = withoutW m (withoutW n l) := by
  unfold keptW withoutW
  rw [List.filter_filter]
  exact List.filter_congr fun f _ => by rw [oneW_two, Bool.not_or, Bool.and_comm]
/-- one field of a name -/
def putW (n v : ByteArray) : List Fld → List Fld
  | [] => [(n, v)]
  | f :: r => if ofB n f = true then (n, v) :: withoutW n r else f :: putW n v r
theorem putW_at {n v : ByteArray} : ∀ {l : List Fld} {k : Nat} (hk : k < l.length), (∀ i (hi : i < l.length), i < k → ofB n l[i] = false) → ofB n l[k] = true →
    putW n v l = (withoutW n l).take k ++ (n, v) :: (withoutW n l).drop k ∧ k ≤ (withoutW n l).length ∧ (withoutW n l).length < l.length
  | [], k, hk, _, _ => by simp at hk
  | f :: r, 0, _, _, h => by
    have h : ofB n f = true := h
    have e : withoutW n (f :: r) = withoutW n r := by unfold withoutW; rw [List.filter_cons, h]; rfl
    rw [putW, if_pos h, e]
    refine ⟨by simp, Nat.zero_le _, ?_⟩
    have : (withoutW n r).length ≤ r.length := List.length_filter_le _ _
    simp; omega
  | f :: r, k + 1, hk, ha, h => by
    have h0 : ofB n f = false := ha 0 (by simp) (by omega)
    have e : withoutW n (f :: r) = f :: withoutW n r := by unfold withoutW; rw [List.filter_cons, h0]; rfl
    obtain ⟨i1, i2, i3⟩ := putW_at (n := n) (v := v) (l := r) (k := k) (by simpa using hk) (fun i hi hik => ha (i + 1) (by simp; omega) (by omega)) h
    rw [putW, if_neg (by rw [h0]; decide), e, i1]
    exact ⟨by simp, by simpa using i2, by simpa using i3⟩
theorem putW_no {n v : ByteArray} : ∀ {l : List Fld}, (∀ i (hi : i < l.length), ofB n l[i] = false) → putW n v l = l ++ [(n, v)]
  | [], _ => rfl
  | f :: r, h => by
    have h0 : ofB n f = false := h 0 (by simp)
    rw [putW, if_neg (by rw [h0]; decide), putW_no fun i hi => h (i + 1) (by simp; omega)]
    rfl
/-- a field called otherwise -/
def renF (a b : ByteArray) (f : Fld) : Fld := if ofB a f = true then (b, f.2) else f
def renW (a b : ByteArray) (l : List Fld) : List Fld := l.map (renF a b)
def cntW (a : ByteArray) (l : List Fld) : Nat := (l.filter (ofB a)).length
theorem cntW_take {a : ByteArray} {l : List Fld} {k : Nat} (h : k < l.length) : cntW a (l.take (k + 1)) = cntW a (l.take k) + (if ofB a l[k] = true then 1 else 0) := by
  rw [List.take_succ_eq_append_getElem h]
  unfold cntW
  rw [List.filter_append, List.length_append]
  congr 1
  cases ho : ofB a l[k] with
  | true => simp [ho]
  | false => simp [ho]
theorem cntW_vals (a : ByteArray) (l : List Fld) : cntW a l = (valsW a l).length := by unfold cntW valsW; rw [List.length_map]; rfl
theorem cntW_le (a : ByteArray) (l : List Fld) : cntW a l ≤ l.length := List.length_filter_le _ _
/-- the last field of a name -/
def IsLast (n : ByteArray) (l : List Fld) (i : Nat) : Prop := ∃ h : i < l.length, ofB n l[i] = true ∧ ∀ j (hj : j < l.length), i < j → ofB n l[j] = false
open Classical in
noncomputable def behW (n s : ByteArray) (l : List Fld) : List Fld :=
  if h : ∃ i, IsLast n l i then l.set (Classical.choose h) ((l.getD (Classical.choose h) default).1, appW (l.getD (Classical.choose h) default).2 [s]) else l ++ [(n, s)]
theorem IsLast.uniq {n : ByteArray} {l : List Fld} {i j : Nat} (h : IsLast n l i) (k : IsLast n l j) : i = j := by
  obtain ⟨h1, h2, h3⟩ := h
  obtain ⟨k1, k2, k3⟩ := k
  by_cases e : i = j
  · exact e
  · by_cases hl : i < j
    · rw [h3 j k1 hl] at k2; cases k2
    · rw [k3 i h1 (by omega)] at h2; cases h2
theorem behW_at {n s : ByteArray} {l : List Fld} {i : Nat} (h : IsLast n l i) (hi : i < l.length) : behW n s l = l.set i (l[i].1, appW l[i].2 [s]) := by
  have hx : ∃ i, IsLast n l i := ⟨i, h⟩
  have e := (Classical.choose_spec hx).uniq h
  unfold behW
  rw [dif_pos hx, e, List.getD_eq_getElem?_getD, List.getElem?_eq_getElem hi, Option.getD_some]
theorem behW_no {n s : ByteArray} {l : List Fld} (h : ∀ i (hi : i < l.length), ofB n l[i] = false) : behW n s l = l ++ [(n, s)] := by
  unfold behW
  rw [dif_neg]
  rintro ⟨i, h1, h2, _⟩
  rw [h i h1] at h2; cases h2
/-- the document's walk of Put, behind k fields -/
theorem putW_split {n v : ByteArray} {l : List Fld} {k : Nat} (hk : k ≤ l.length) (h : ∀ i (hi : i < l.length), i < k → ofB n l[i] = false) : putW n v l = l.take k ++ putW n v (l.drop k) := by
  induction k generalizing l with
  | zero => simp
  | succ k ih =>
    cases l with
    | nil => simp at hk
    | cons f r =>
      have h0 : ofB n f = false := h 0 (by simp) (by omega)
      rw [putW, if_neg (by rw [h0]; decide), ih (by simpa using hk) fun i hi hik => h (i + 1) (by simp; omega) (by omega)]
      simp
theorem withoutW_none {n : ByteArray} {l : List Fld} (h : ∀ i (hi : i < l.length), ofB n l[i] = false) : withoutW n l = l := by
  unfold withoutW
  refine List.filter_eq_self.2 fun f hf => ?_
  obtain ⟨i, hi, rfl⟩ := List.getElem_of_mem hf
  rw [h i hi]; rfl
theorem withoutW_len (n : ByteArray) (l : List Fld) : (withoutW n l).length ≤ l.length := List.length_filter_le _ _
theorem fldL_el (l : List Fld) : ∀ e ∈ fldL l, e.length = 2 ∧ e.all AV.flat = true := fun e he => by
  obtain ⟨k, hk, rfl⟩ := List.getElem_of_mem he
  exact flat_fld l k _ (List.getElem?_eq_getElem hk)
theorem HR.form {st : St} {sz : Nat} {a : AV} {r : Option Nat} {es : List (List AV)} (h : HR st sz a r es) : (a = .nilS ∧ r = none) ∨ (a = .sl .tight sz [] ∧ r = none) ∨ ∃ p cap n, a = .hs p 0 n cap sz ∧ r = some p := by
  cases h with
  | nil => exact .inl ⟨rfl, rfl⟩
  | tight => exact .inr (.inl ⟨rfl, rfl⟩)
  | hs p cap es h => exact .inr (.inr ⟨p, cap, _, rfl, rfl⟩)
def HB (st : St) (b : Nat) (r : Option Nat) (l : List Fld) : Prop := ∃ a, st.heap[b]? = some [a] ∧ HR st 2 a r (fldL l) ∧ r ≠ some b
/-- what a bag's call turns: the bag, and its row -/
structure BgS (st : St) (b : Nat) (r : Option Nat) (st' : St) (r' : Option Nat) : Prop where
  mv : Mv 0 (fun q => q = b ∨ some q = r) st st'
  nw : r' = r ∨ ∃ p, r' = some p ∧ st.heap.length ≤ p
theorem BgS.refl (st : St) (b : Nat) (r : Option Nat) : BgS st b r st r := ⟨.refl (Nat.zero_le _), .inl rfl⟩
theorem BgS.trans {st st1 st2 : St} {b : Nat} {r r1 r2 : Option Nat} (h : BgS st b r st1 r1) (k : BgS st1 b r1 st2 r2) : BgS st b r st2 r2 := by
  refine ⟨h.mv.trans k.mv fun q hq hd => ?_, ?_⟩
  · rcases hd with hd | hd
    · exact .inl hd
    · rcases h.nw with e | ⟨p, e, hp⟩
      · exact .inr (by rw [← e]; exact hd)
      · rw [e] at hd
        have := Option.some.inj hd
        omega
  · rcases k.nw with e | ⟨p, e, hp⟩
    · rw [e]; exact h.nw
    · exact .inr ⟨p, e, Nat.le_trans h.mv.len hp⟩
theorem HB.mv {n : Nat} {C : Nat → Prop} {a b : St} {p : Nat} {r : Option Nat} {l : List Fld} (h : HB a p r l) (m : Mv n C a b) (h1 : ¬ C p) (h2 : ∀ q, r = some q → ¬ C q) : HB b p r l := by
  obtain ⟨x, e1, e2, e3⟩ := h
  exact ⟨x, m.at' e1 h1, e2.mv m h2, e3⟩
theorem HB.lt {st : St} {b : Nat} {r : Option Nat} {l : List Fld} (h : HB st b r l) : b < st.heap.length := lt_of h.choose_spec.1
theorem HB.rlt {st : St} {b p : Nat} {l : List Fld} (h : HB st b (some p) l) : p < st.heap.length := h.choose_spec.2.1.lt
section
variable {st : St} {R : AV → St → Prop} {b : Nat} {r : Option Nat}
theorem cloneX_a (l : List Fld) (hl : l.length ≤ 1099511627776) (h : ∀ a r st', Mv 0 (fun _ => False) st st' → HR st' 2 a r (fldL l) → (∀ p, r = some p → st.heap.length ≤ p) → R a st') : ACalls Tryz.prog 36 [.sl .no 2 (fldL l)] st R := by
  have hmx : maxLen = 9223372036854775807 := rfl
  have el := fldL_len l
  cases l with
  | nil =>
    refine ACalls.empty fun a cap hm => ?_
    cases a with
    | none =>
      refine ACalls.of_vc T_ok mixed Tryz.func36 rfl Tryz.call36 ?_
      exact h _ none _ (.refl (Nat.zero_le _)) .nil (fun p e => by cases e)
    | some a =>
      refine ACalls.of_vc T_ok mixed Tryz.func36 rfl Tryz.call36 ?_
      exact ⟨fun _ => h _ none _ (.refl (Nat.zero_le _)) .tight (fun p e => by cases e), fun h => absurd rfl h⟩
  | cons f q =>
    refine ACalls.of_vc T_ok mixed Tryz.func36 rfl Tryz.call36 ?_
    refine ⟨fun h => by simp [fldL] at h, fun _ => ⟨?_, ?_, .inr fun x hx => ?_⟩⟩
    · show (fldL (f :: q)).length * 32 ≤ _; omega
    · show (fldL (f :: q)).length ≤ _; omega
    · refine h _ (some st.heap.length) _ ((Mv.refl (Nat.zero_le _)).alloc _) (.hs _ _ _ ⟨⟨_, last_at _ _, ?_⟩, fldL_el _, Nat.le_add_right _ _⟩) (fun p e => by have := Option.some.inj e; omega)
      rw [zerosL_len, show (TI.zero ti48).length = 2 from rfl, ← Nat.add_mul]
theorem newX_a (l : List Fld) (hl : l.length ≤ 1099511627776) (h : ∀ b r st', Mv 0 (fun _ => False) st st' → HB st' b r l → st.heap.length ≤ b → (∀ p, r = some p → st.heap.length ≤ p) → R (.ptr b 0) st') : ACalls Tryz.prog 22 [.sl .no 2 (fldL l)] st R := by
  refine ACalls.of_vc T_ok mixed Tryz.func22 rfl Tryz.call22 ?_
  refine .s (cloneX_a l hl fun a r st' m hR hr => ?_)
  have m2 := fun x => m.alloc x
  have hR' := fun x => hR.keep (b := ⟨st'.heap ++ [x], st'.tk⟩) (fun p cs _ h => ap h)
  have hl := m.len
  have hne : r ≠ some st'.heap.length := fun e => by
    subst e
    have := hR.lt
    omega
  rcases hR.form with ⟨rfl, rfl⟩ | ⟨rfl, rfl⟩ | ⟨p, cap, n, rfl, rfl⟩
  · exact h _ none _ (m2 _) ⟨_, last_at _ _, hR' _, hne⟩ hl hr
  · exact h _ none _ (m2 _) ⟨_, last_at _ _, hR' _, hne⟩ hl hr
  · refine ⟨hR.lt, ?_⟩
    exact h _ (some p) _ (m2 _) ⟨_, last_at _ _, hR' _, hne⟩ hl hr
theorem listX_a (l : List Fld) (hl : l.length ≤ 1099511627776) (hb : HB st b r l) (h : ∀ a st', Mv 0 (fun _ => False) st st' → (a = .nilS ∧ l = [] ∨ (∃ tg, a = .sl tg 2 (fldL l))) → R a st') : ACalls Tryz.prog 24 [.ptr b 0] st R := by
  have hmx : maxLen = 9223372036854775807 := rfl
  obtain ⟨a, hba, hR, hrb⟩ := hb
  have el := fldL_len l
  obtain ⟨es, hes⟩ : ∃ es, fldL l = es := ⟨_, rfl⟩
  rw [hes] at hR
  cases hR with
  | nil =>
    have hl0 : l = [] := by unfold fldL at hes; exact List.map_eq_nil_iff.1 hes
    refine ACalls.of_vc T_ok mixed Tryz.func24 rfl Tryz.call24 ?_
    refine ⟨_, hba, ?_⟩
    refine .s (.of_vc T_ok mixed Tryz.func36 rfl Tryz.call36 ?_)
    exact h _ _ (.refl (Nat.zero_le _)) (.inl ⟨rfl, hl0⟩)
  | tight =>
    have hl0 : l = [] := by unfold fldL at hes; exact List.map_eq_nil_iff.1 hes
    subst hl0
    refine ACalls.of_vc T_ok mixed Tryz.func24 rfl Tryz.call24 ?_
    refine ⟨_, hba, ?_⟩
    refine .p rfl (clone_p [] hl) ?_
    exact h _ _ (.refl (Nat.zero_le _)) (.inr ⟨_, rfl⟩)
  | hs p cap _ hw =>
    obtain ⟨⟨zs, hp, hz⟩, he, hc⟩ := hw
    refine ACalls.of_vc T_ok mixed Tryz.func24 rfl Tryz.call24 ?_
    refine ⟨_, hba, ?_⟩
    refine .s (.of_vc T_ok mixed Tryz.func36 rfl Tryz.call36 ?_)
    refine ⟨_, _, hp, rows_seen he, ?_⟩
    rw [hes] at el
    refine ⟨fun e => ?_, fun _ => ⟨?_, ?_, .inl ?_⟩⟩
    · have : l = [] := List.eq_nil_of_length_eq_zero (by rw [← el, e]; rfl)
      exact h _ _ (.refl (Nat.zero_le _)) (.inr ⟨.tight, by rw [hes, e]; rfl⟩)
    · show es.length * 32 ≤ _; omega
    · show es.length ≤ _; omega
    · exact h _ _ ((Mv.refl (Nat.zero_le _)).tks (b := st) (by simp) (fun t ht => by omega)) (.inr ⟨_, by rw [hes]; rfl⟩)
attribute [local irreducible] vcApp
/-- more fields behind -/
theorem addX_a {tg : Tk} (l ys : List Fld) (hl : l.length + ys.length ≤ 1099511627776) (hy : ys ≠ []) (hb : HB st b r l) (h : ∀ r' st', HB st' b r' (l ++ ys) → BgS st b r st' r' → R (.tup []) st') : ACalls Tryz.prog 62 [.ptr b 0, .sl tg 2 (fldL ys)] st R := by
  have hmx : maxLen = 9223372036854775807 := rfl
  obtain ⟨a, hba, hR, hrb⟩ := hb
  have el := fldL_len l
  have ey := fldL_len ys
  have hbl := lt_of hba
  rcases hR.form with ⟨rfl, rfl⟩ | ⟨rfl, rfl⟩ | ⟨p0, c0, n0, rfl, rfl⟩
  · skip
    refine ACalls.of_vc T_ok mixed Tryz.func62 rfl Tryz.call62 ?_
    refine ⟨_, hba, ?_⟩
    refine HR.app (n := 0) (i := ti48) hR rfl rfl (fun e => hy (by unfold fldL at e; exact List.map_eq_nil_iff.1 e)) (fldL_el ys) ?_ ?_ (Nat.zero_le _) (fun p cap st' q0 q1 q2 q3 => ?_)
    · show ((fldL l).length + (fldL ys).length) * 32 ≤ _; omega
    · show (fldL l).length + (fldL ys).length ≤ _; omega
    have hb' := q1.at' hba (fun e => hrb e.symm)
    have hpb : p ≠ b := fun e => (q2.elim (fun e' => hrb (by rw [← e', e])) (fun e' => by omega))
    refine ⟨_, hb', ?_⟩
    refine h (some p) _ ⟨_, st_eq hb', ?_, fun e => hpb (Option.some.inj e)⟩ ⟨(q1.wide fun q _ e => .inr e).set (p := b) (fun _ => .inl rfl) _, ?_⟩
    · have := HR.hs (st := ⟨st'.heap.set b [.hs p 0 ((fldL l).length + (fldL ys).length) cap 2], st'.tk⟩) p cap _ (q0.keep fun cs h => st_ne (fun e => hpb e.symm) h)
      rw [List.length_append, fldL_appL] at this
      exact this
    · rcases q2 with e | e
      · exact .inl e
      · exact .inr ⟨p, rfl, e⟩
  · skip
    refine ACalls.of_vc T_ok mixed Tryz.func62 rfl Tryz.call62 ?_
    refine ⟨_, hba, ?_⟩
    refine HR.app (n := 0) (i := ti48) hR rfl rfl (fun e => hy (by unfold fldL at e; exact List.map_eq_nil_iff.1 e)) (fldL_el ys) ?_ ?_ (Nat.zero_le _) (fun p cap st' q0 q1 q2 q3 => ?_)
    · show ((fldL l).length + (fldL ys).length) * 32 ≤ _; omega
    · show (fldL l).length + (fldL ys).length ≤ _; omega
    have hb' := q1.at' hba (fun e => hrb e.symm)
    have hpb : p ≠ b := fun e => (q2.elim (fun e' => hrb (by rw [← e', e])) (fun e' => by omega))
    refine ⟨_, hb', ?_⟩
    refine h (some p) _ ⟨_, st_eq hb', ?_, fun e => hpb (Option.some.inj e)⟩ ⟨(q1.wide fun q _ e => .inr e).set (p := b) (fun _ => .inl rfl) _, ?_⟩
    · have := HR.hs (st := ⟨st'.heap.set b [.hs p 0 ((fldL l).length + (fldL ys).length) cap 2], st'.tk⟩) p cap _ (q0.keep fun cs h => st_ne (fun e => hpb e.symm) h)
      rw [List.length_append, fldL_appL] at this
      exact this
    · rcases q2 with e | e
      · exact .inl e
      · exact .inr ⟨p, rfl, e⟩
  · skip
    refine ACalls.of_vc T_ok mixed Tryz.func62 rfl Tryz.call62 ?_
    refine ⟨_, hba, ?_⟩
    refine HR.app (n := 0) (i := ti48) hR rfl rfl (fun e => hy (by unfold fldL at e; exact List.map_eq_nil_iff.1 e)) (fldL_el ys) ?_ ?_ (Nat.zero_le _) (fun p cap st' q0 q1 q2 q3 => ?_)
    · show ((fldL l).length + (fldL ys).length) * 32 ≤ _; omega
    · show (fldL l).length + (fldL ys).length ≤ _; omega
    have hb' := q1.at' hba (fun e => hrb e.symm)
    have hpb : p ≠ b := fun e => (q2.elim (fun e' => hrb (by rw [← e', e])) (fun e' => by omega))
    refine ⟨_, hb', ?_⟩
    refine h (some p) _ ⟨_, st_eq hb', ?_, fun e => hpb (Option.some.inj e)⟩ ⟨(q1.wide fun q _ e => .inr e).set (p := b) (fun _ => .inl rfl) _, ?_⟩
    · have := HR.hs (st := ⟨st'.heap.set b [.hs p 0 ((fldL l).length + (fldL ys).length) cap 2], st'.tk⟩) p cap _ (q0.keep fun cs h => st_ne (fun e => hpb e.symm) h)
      rw [List.length_append, fldL_appL] at this
      exact this
    · rcases q2 with e | e
      · exact .inl e
      · exact .inr ⟨p, rfl, e⟩
end
section
variable {st : St} {R : AV → St → Prop} {b p cap : Nat} {r : Option Nat}
theorem removeH_a {tg : Tk} (names : List ByteArray) (hn : NmOk names) (l : List Fld) (zs : List AV) (hl : l.length ≤ 1099511627776) (hz : ∀ f ∈ l, f.1.size ≤ 1099511627776) (hba : st.heap[b]? = some [.hs p 0 l.length cap 2]) (hp : st.heap[p]? = some (fl l ++ zs)) (hc : l.length ≤ cap) (hpb : p ≠ b)
    (h : ∀ st' zs', Mv 0 (fun q => q = b ∨ q = p) st st' → st'.heap[b]? = some [.hs p 0 (keptW names l).length cap 2] → st'.heap[p]? = some (fl (keptW names l) ++ zs') → (fl (keptW names l) ++ zs').length = (fl l ++ zs).length → R (.i ((l.length : Int) - (keptW names l).length)) st') :
    ACalls Tryz.prog 61 [.ptr b 0, .sl tg 1 (strL names)] st R := by
  have hmx : maxLen = 9223372036854775807 := rfl
  have hblt := lt_of hba
  have hplt := lt_of hp
  have hba1 : ∀ x, (st.heap ++ [x])[b]? = some [.hs p 0 l.length cap 2] := fun x => ap hba
  have kl : (keptW names l).length ≤ l.length := List.length_filter_le _ _
  refine ACalls.of_vc T_ok mixed Tryz.func61 rfl Tryz.call61 ?_
  refine ⟨_, hba1 _, ?_⟩
  refine ⟨_, hba1 _, ?_⟩
  refine .s (delete_a (st := ⟨st.heap ++ _, st.tk⟩) (q := st.heap.length) names hn l zs hl hz hc (ap hp) (last_at _ _) (by omega) fun st' zs' hlen hkeep hp' hle => ?_)
  have hlen : st.heap.length + 1 ≤ st'.heap.length := by simpa using hlen
  have hb' : st'.heap[b]? = some [.hs p 0 l.length cap 2] := (hkeep b (by simp; omega) (fun e => hpb e.symm)).trans (hba1 _)
  refine ⟨_, hb', ?_⟩
  refine ⟨_, st_eq hb', ?_⟩
  intro c hc1
  rw [IntWalk.i64_in _ (by omega)] at hc1
  subst hc1
  refine h _ zs' ⟨by simp; omega, fun q hq hC => ?_, Nat.zero_le _, fun t ht => by omega⟩ (st_eq hb') (st_ne (fun e => hpb e.symm) hp') hle
  have hC : ¬ q = b ∧ ¬ q = p := ⟨fun e => hC (.inl e), fun e => hC (.inr e)⟩
  exact (List.getElem?_set_ne (fun e => hC.1 e.symm)).trans ((hkeep q (by simp; omega) hC.2).trans (List.getElem?_append_left hq))
theorem removeE_a {tg : Tk} (names : List ByteArray) (a : AV) (ha : a = .nilS ∨ a = .sl .tight 2 []) (hba : st.heap[b]? = some [a]) (h : ∀ st', Mv 0 (fun q => q = b) st st' → st'.heap[b]? = some [a] → R (.i 0) st') :
    ACalls Tryz.prog 61 [.ptr b 0, .sl tg 1 (strL names)] st R := by
  have hba1 : ∀ x, (st.heap ++ [x])[b]? = some [a] := fun x => ap hba
  have m : ∀ x y, Mv 0 (fun q => q = b) st ⟨(st.heap ++ [x]).set b y, st.tk⟩ := fun x y => ((Mv.refl (C := fun q => q = b) (Nat.zero_le _)).alloc x).set (fun _ => rfl) y
  rcases ha with rfl | rfl
  · refine ACalls.of_vc T_ok mixed Tryz.func61 rfl Tryz.call61 ?_
    refine ⟨_, hba1 _, ?_⟩
    refine ⟨_, hba1 _, ?_⟩
    refine .s (deleteE_a _ (.inl rfl) _ ⟨_, _, _, rfl⟩ ?_)
    refine ⟨_, hba1 _, ?_⟩
    refine ⟨_, st_eq (hba1 _), ?_⟩
    intro c hc1
    rw [IntWalk.i64_in _ (by simp)] at hc1
    obtain rfl : c = 0 := by simpa using hc1
    exact h _ (m _ _) (st_eq (hba1 _))
  · refine ACalls.of_vc T_ok mixed Tryz.func61 rfl Tryz.call61 ?_
    refine ⟨_, hba1 _, ?_⟩
    refine ⟨_, hba1 _, ?_⟩
    refine .s (deleteE_a _ (.inr rfl) _ ⟨_, _, _, rfl⟩ ?_)
    refine ⟨_, hba1 _, ?_⟩
    refine ⟨_, st_eq (hba1 _), ?_⟩
    intro c hc1
    rw [IntWalk.i64_in _ (by simp)] at hc1
    obtain rfl : c = 0 := by simpa using hc1
    exact h _ (m _ _) (st_eq (hba1 _))
theorem fldL_nil {l : List Fld} (h : fldL l = []) : l = [] := by unfold fldL at h; exact List.map_eq_nil_iff.1 h
theorem removeX_a {tg : Tk} (names : List ByteArray) (hn : NmOk names) (l : List Fld) (hl : l.length ≤ 1099511627776) (hz : ∀ f ∈ l, f.1.size ≤ 1099511627776) (hb : HB st b r l)
    (h : ∀ st', HB st' b r (keptW names l) → BgS st b r st' r → R (.i ((l.length : Int) - (keptW names l).length)) st') :
    ACalls Tryz.prog 61 [.ptr b 0, .sl tg 1 (strL names)] st R := by
  obtain ⟨a, hba, hR, hrb⟩ := hb
  have el := fldL_len l
  obtain ⟨es, hes⟩ : ∃ es, fldL l = es := ⟨_, rfl⟩
  rw [hes] at hR
  cases hR with
  | nil =>
    obtain rfl := fldL_nil hes
    exact removeE_a names _ (.inl rfl) hba fun st' m hb' => h st' ⟨_, hb', .nil, hrb⟩ ⟨m.wide fun q _ e => .inl e, .inl rfl⟩
  | tight =>
    obtain rfl := fldL_nil hes
    exact removeE_a names _ (.inr rfl) hba fun st' m hb' => h st' ⟨_, hb', .tight, hrb⟩ ⟨m.wide fun q _ e => .inl e, .inl rfl⟩
  | hs p cap _ hw =>
    obtain ⟨⟨zs, hp, hzl⟩, he, hc⟩ := hw
    subst hes
    rw [el] at hba hc hzl
    have hpb : p ≠ b := fun e => hrb (by rw [e])
    have kl : (keptW names l).length ≤ l.length := List.length_filter_le _ _
    refine removeH_a names hn l zs hl hz hba hp hc hpb fun st' zs' m hb' hp' hle => ?_
    refine h st' ⟨_, hb', ?_, hrb⟩ ⟨m.wide fun q _ e => e.imp id (fun e => by rw [e]), .inl rfl⟩
    have ek := fldL_len (keptW names l)
    have := HR.hs (st := st') p cap (fldL (keptW names l)) ⟨⟨zs', hp', ?_⟩, fldL_el _, by omega⟩
    · rw [ek] at this
      exact this
    · rw [List.length_append, List.length_append, fl_len, fl_len, hzl] at hle
      rw [ek]; exact hle
theorem fl_set1 {l : List Fld} {zs : List AV} {k : Nat} (hk : k < l.length) (x : ByteArray) : (fl l ++ zs).set (0 + k * 2 + 0) (.s x) = fl (l.set k (x, l[k].2)) ++ zs := by
  have := rows_set1 (zs := zs) (fun e he => (fldL_el l e he).1) (k := k) (j := 0) (by rw [fldL_len]; exact hk) (by omega) (.s x)
  rw [this]
  congr 2
  unfold fldL
  rw [List.map_set]
  simp
theorem fl_set2 {l : List Fld} {zs : List AV} {k : Nat} (hk : k < l.length) (x : ByteArray) : (fl l ++ zs).set (0 + k * 2 + 1) (.s x) = fl (l.set k (l[k].1, x)) ++ zs := by
  have := rows_set1 (zs := zs) (fun e he => (fldL_el l e he).1) (k := k) (j := 1) (by rw [fldL_len]; exact hk) (by omega) (.s x)
  rw [this]
  congr 2
  unfold fldL
  rw [List.map_set]
  simp
theorem fl_get {l : List Fld} {zs : List AV} {k j : Nat} (hk : k < l.length) (hj : j < 2) : (fl l ++ zs)[0 + k * 2 + j]? = [AV.s l[k].1, AV.s l[k].2][j]? := by
  rw [Nat.zero_add, List.getElem?_append_left (by rw [fl_len]; omega), fl_at hk hj]
theorem renW_step {a c : ByteArray} {l : List Fld} {k : Nat} (hk : k < l.length) : ((l.take k).map (renF a c) ++ l.drop k).set k (renF a c l[k]) = (l.take (k + 1)).map (renF a c) ++ l.drop (k + 1) := by
  have e1 : ((l.take k).map (renF a c)).length = k := by rw [List.length_map, List.length_take]; omega
  rw [List.set_append_right _ _ (by omega), e1, Nat.sub_self, List.drop_eq_getElem_cons hk, List.set_cons_zero, List.take_succ_eq_append_getElem hk, List.map_append, List.append_assoc]
  rfl
set_option maxHeartbeats 1000000 in
theorem renameX_a (x y : ByteArray) (hx : x.size ≤ 1099511627776) (l : List Fld) (hl : l.length ≤ 1099511627776) (hz : ∀ f ∈ l, f.1.size ≤ 1099511627776) (hb : HB st b r l)
    (h : ∀ st', HB st' b r (renW x y l) → BgS st b r st' r → R (.i (cntW x l)) st') :
    ACalls Tryz.prog 65 [.ptr b 0, .s x, .s y] st R := by
  have hmx : maxLen = 9223372036854775807 := rfl
  have hb0 := hb
  obtain ⟨a, hba, hR, hrb⟩ := hb
  have el := fldL_len l
  obtain ⟨es, hes⟩ : ∃ es, fldL l = es := ⟨_, rfl⟩
  rw [hes] at hR
  cases hR with
  | nil =>
    obtain rfl := fldL_nil hes
    refine ACalls.of_vc T_ok mixed Tryz.func65 rfl Tryz.call65 ?_
    refine ⟨_, hba, ?_⟩
    refine vc_loop [16, 7] (fun g vals st' => vals = [.i 0, .i 0] ∧ st' = st) 0 rfl ⟨rfl, rfl⟩ ?_
    rintro g vals st' ⟨rfl, rfl⟩
    exact h _ hb0 (.refl _ _ _)
  | tight =>
    obtain rfl := fldL_nil hes
    refine ACalls.of_vc T_ok mixed Tryz.func65 rfl Tryz.call65 ?_
    refine ⟨_, hba, ?_⟩
    refine vc_loop [16, 7] (fun g vals st' => vals = [.i 0, .i 0] ∧ st' = st) 0 rfl ⟨rfl, rfl⟩ ?_
    rintro g vals st' ⟨rfl, rfl⟩
    exact h _ hb0 (.refl _ _ _)
  | hs p cap _ hw =>
    obtain ⟨⟨zs, hp, hzl⟩, he, hc⟩ := hw
    subst hes
    rw [el] at hba hc hzl
    have hpb : p ≠ b := fun e => hrb (by rw [e])
    refine ACalls.of_vc T_ok mixed Tryz.func65 rfl Tryz.call65 ?_
    refine ⟨_, hba, ?_⟩
    refine vc_loop [16, 7] (fun g vals st' => ∃ k : Nat, k + g = l.length ∧ vals = [.i k, .i (cntW x (l.take k))] ∧ Mv 0 (fun q => q = p) st st' ∧ st'.heap[p]? = some (fl ((l.take k).map (renF x y) ++ l.drop k) ++ zs)) l.length rfl ⟨0, by omega, rfl, .refl (Nat.zero_le _), hp⟩ ?_
    rintro g vals st' ⟨k, hk, rfl, m, hp'⟩
    have hb' := m.at' hba (fun e => hpb e.symm)
    have hcn := cntW_le x (l.take k)
    rw [List.length_take] at hcn
    refine cnd_split (fun hd => ?_) (fun hd => ?_)
    · have hd := of_decide_eq_true hd
      have k1 : k < l.length := by omega
      have hstep := renW_step (a := x) (c := y) k1
      have hct := cntW_take (a := x) k1
      have hrl : ((l.take k).map (renF x y) ++ l.drop k).length = l.length := by simp; omega
      have hrk : ∀ hh : k < ((l.take k).map (renF x y) ++ l.drop k).length, ((l.take k).map (renF x y) ++ l.drop k)[k] = l[k] := fun hh => by
        rw [List.getElem_append_right (by simp; omega)]
        simp [show min k l.length = k by omega]
      generalize (l.take k).map (renF x y) ++ l.drop k = rr at *
      have k2 : k < rr.length := by omega
      have hrk := hrk k2
      have sz := hz l[k] (List.getElem_mem k1)
      have q1 := sameO_p l[k].1 x (by omega) (by omega)
      have hof : decide (foldB l[k].1 = foldB x) = ofB x l[k] := rfl
      rw [hof] at q1
      refine ⟨_, hb', ?_⟩
      refine ⟨k, rfl, k1, ?_⟩
      refine ⟨_, hp', ld1 (c := .s l[k].1) rfl ((fl_get (j := 0) k2 (by omega)).trans (by rw [hrk]; rfl)) ?_⟩
      refine .p rfl q1 ?_
      refine cnd_split (fun ho => ?_) (fun ho => ?_)
      · rw [if_pos ho] at hct
        refine ⟨_, hb', ?_⟩
        refine ⟨k, rfl, k1, ?_⟩
        refine ⟨_, hp', st1' (o := 0 + k * 2 + 0) rfl (by rw [List.length_append, fl_len]; omega) (fl_set1 k2 y) ?_⟩
        intro c hc
        rw [IntWalk.i64_in _ (by omega)] at hc
        obtain rfl : c = ((cntW x (l.take k) + 1 : Nat) : Int) := by omega
        intro c hc
        rw [IntWalk.i64_in _ (by omega)] at hc
        obtain rfl : c = ((k + 1 : Nat) : Int) := by omega
        refine ⟨g - 1, by omega, k + 1, by omega, by rw [hct]; rfl, m.set (fun _ => rfl) _, ?_⟩
        rw [← hstep]
        have : renF x y l[k] = (y, rr[k].2) := by unfold renF; rw [if_pos ho, hrk]
        rw [this]
        exact st_eq hp'
      · rw [if_neg (by rw [ho]; decide), Nat.add_zero] at hct
        intro c hc
        rw [IntWalk.i64_in _ (by omega)] at hc
        obtain rfl : c = ((k + 1 : Nat) : Int) := by omega
        refine ⟨g - 1, by omega, k + 1, by omega, by rw [hct]; rfl, m, ?_⟩
        rw [← hstep]
        have : renF x y l[k] = rr[k] := by unfold renF; rw [if_neg (by rw [ho]; decide), hrk]
        rw [this, List.set_getElem_self]
        exact hp'
    · have hd := of_decide_eq_false hd
      rw [List.take_of_length_le (by omega), List.drop_of_length_le (by omega), List.append_nil] at hp'
      rw [List.take_of_length_le (by omega)]
      refine h _ ⟨_, hb', ?_, hrb⟩ ⟨m.wide fun q _ e => .inr (by rw [e]), .inl rfl⟩
      have ek : (fldL (renW x y l)).length = l.length := by rw [fldL_len]; simp [renW]
      have := HR.hs (st := st') p cap (fldL (renW x y l)) ⟨⟨zs, hp', by rw [ek]; exact hzl⟩, fldL_el _, by omega⟩
      rw [ek] at this
      exact this
end
theorem ovF : OvF Tryz.prog 102 := by
  refine ⟨23, 4, 48, 2, by kernel_rfl, fun w => T_ok.size (t := 48) (i := ti48) rfl w, fun zs w w' v hv => ?_⟩
  rw [run_callFunc_extern (P := Tryz.prog) Tryz.func102 (by kernel_rfl) (by kernel_rfl) (by kernel_rfl) (e := Extern.SlicesOverlaps.overlaps #[23, 23] #[4]) (by kernel_rfl), hv]
  rfl
theorem setAll_mid (A B C ys : List AV) (h : ys.length = B.length) : setAll (A ++ B ++ C) A.length ys = A ++ ys ++ C := by
  apply List.ext_getElem?
  intro q
  rw [setAll_get _ _ _ _ (by simp; omega)]
  by_cases h1 : q < A.length
  · rw [if_neg (by omega), List.append_assoc, List.append_assoc, List.getElem?_append_left h1, List.getElem?_append_left h1]
  · by_cases h2 : q < A.length + ys.length
    · rw [if_pos (by omega), List.append_assoc, List.getElem?_append_right (by omega), List.getElem?_append_left (by omega)]
    · rw [if_neg (by omega), List.getElem?_append_right (by simp; omega), List.getElem?_append_right (by simp; omega), List.length_append, List.length_append, h]
theorem ins_copy {L : List Fld} {zs : List AV} {i : Nat} (hi : i < L.length) (hz : 2 ≤ zs.length) : setAll (fl L ++ zs) (0 + (i + 1) * 2) (fldL (L.drop i)).flatten = fl (L.take (i + 1) ++ L.drop i) ++ zs.drop 2 := by
  have e1 : (fl (L.take (i + 1))).length = 0 + (i + 1) * 2 := by rw [fl_len, List.length_take]; omega
  have e2 : fl L ++ zs = fl (L.take (i + 1)) ++ (fl (L.drop (i + 1)) ++ zs.take 2) ++ zs.drop 2 := by
    rw [← List.append_assoc, List.append_assoc _ (zs.take 2), List.take_append_drop, ← fl_app, List.take_append_drop]
  rw [e2, ← e1, setAll_mid]
  · rw [fl_app]
  · show (fl (L.drop i)).length = _
    rw [fl_len, List.length_append, fl_len, List.length_take, List.length_drop, List.length_drop]
    omega
theorem ins_set {L : List Fld} {i : Nat} (hi : i < L.length) (f : Fld) : (L.take (i + 1) ++ L.drop i).set i f = L.take i ++ f :: L.drop i := by
  rw [List.take_succ_eq_append_getElem hi, List.append_assoc, List.set_append_right _ _ (by rw [List.length_take]; omega), List.length_take, Nat.min_eq_left (by omega), Nat.sub_self]
  rfl
theorem fl_seenD (L : List Fld) (zs : List AV) {i : Nat} (hi : i ≤ L.length) : Seen (fl L ++ zs) (0 + i * 2) (L.length - i) 2 (fldL (L.drop i)) := by
  refine ⟨by rw [fldL_len, List.length_drop], flat_fld _, fun k e j a he ha => ?_⟩
  have hk := (List.getElem?_eq_some_iff.1 he).1
  have hj := (List.getElem?_eq_some_iff.1 ha).1
  have hl := (flat_fld _ k e he).1
  rw [fldL_len, List.length_drop] at hk
  rw [fldL_at (by rw [List.length_drop]; exact hk)] at he
  have e1 : 0 + i * 2 + k * 2 + j = 0 + (i + k) * 2 + j := by omega
  rw [e1, fl_get (by omega) (by omega)]
  cases he
  rw [List.getElem_drop] at ha
  exact ha
section
variable {st : St} {R : AV → St → Prop} {b p cap : Nat} {r : Option Nat}
/-- the place of a name's first field -/
theorem put1_a {f : Fld} {q : Nat} {name : ByteArray} (hs : f.1.size ≤ maxLen) (hn : name.size ≤ maxLen) (hq : st.heap[q]? = some [.s name]) (h : R (.b (ofB name f)) ⟨st.heap ++ [[.s f.1, .s f.2]], st.tk⟩) : ACalls Tryz.prog 84 [.agg [.s f.1, .s f.2], .ptr q 0] st R := by
  have hof : decide (foldB f.1 = foldB name) = ofB name f := rfl
  have q1 := sameO_p f.1 name hs hn
  rw [hof] at q1
  refine ACalls.of_vc T_ok mixed Tryz.func84 rfl Tryz.call84 ?_
  refine ⟨_, last_at _ _, ?_⟩
  refine ⟨_, ap hq, ?_⟩
  refine .p rfl q1 ?_
  exact h
theorem indexP_a {q : Nat} {name : ByteArray} (hn : name.size ≤ maxLen) (l : List Fld) (zs : List AV) (hl : l.length ≤ 1099511627776) (hz : ∀ f ∈ l, f.1.size ≤ 1099511627776) (hp : st.heap[p]? = some (fl l ++ zs)) (hq : st.heap[q]? = some [.s name])
    (h : ∀ (v : Int) st', Mv 0 (fun _ => False) st st' → ((v = -1 ∧ ∀ i (hi : i < l.length), ofB name l[i] = false) ∨ ∃ (k : Nat) (hk : k < l.length), v = (k : Int) ∧ ofB name l[k] = true ∧ ∀ i (hi : i < l.length), i < k → ofB name l[i] = false) → R (.i v) st') :
    ACalls Tryz.prog 83 [.hs p 0 l.length cap 2, .fn (.func 84) [] [.ptr q 0]] st R := by
  have hmx : maxLen = 9223372036854775807 := rfl
  refine ACalls.of_vc T_ok mixed Tryz.func83 rfl Tryz.call83 ?_
  refine vc_loop [8] (fun g vals st' => ∃ k : Nat, k + g = l.length ∧ vals = [.i k] ∧ Mv 0 (fun _ => False) st st' ∧ ∀ i (hi : i < l.length), i < k → ofB name l[i] = false) l.length rfl ⟨0, by omega, rfl, .refl (Nat.zero_le _), fun i _ h => absurd h (by omega)⟩ ?_
  rintro g vals st' ⟨k, hk, rfl, m, hall⟩
  have hp' := m.at' hp (fun e => e)
  have hq' := m.at' hq (fun e => e)
  refine cnd_split (fun hd => ?_) (fun hd => ?_)
  · have hd := of_decide_eq_true hd
    have k1 : k < l.length := by omega
    have sz := hz l[k] (List.getElem_mem k1)
    refine ⟨k, rfl, k1, ?_⟩
    refine ⟨_, hp', ld_fld k1 ?_⟩
    refine .s (put1_a (by omega) hn hq' ?_)
    refine cnd_split (fun h2 => ?_) (fun h2 => ?_)
    · exact h k _ (m.alloc _) (.inr ⟨k, k1, rfl, h2, hall⟩)
    · skip
      intro c hc
      rw [IntWalk.i64_in _ (by omega)] at hc
      obtain rfl : c = ((k + 1 : Nat) : Int) := by omega
      refine ⟨g - 1, by omega, k + 1, by omega, rfl, m.alloc _, fun i hi hik => ?_⟩
      by_cases e : i = k
      · subst e; exact h2
      · exact hall i hi (by omega)
  · have hd := of_decide_eq_false hd
    exact h (-1) _ m (.inl ⟨rfl, fun i hi => hall i hi (by omega)⟩)
theorem indexPE_a (a : AV) (ha : a = .nilS ∨ a = .sl .tight 2 []) (g : Fn) (us vs : List AV) (h : R (.i (-1)) st) : ACalls Tryz.prog 83 [a, .fn g us vs] st R := by
  rcases ha with rfl | rfl
  · refine ACalls.of_vc T_ok mixed Tryz.func83 rfl Tryz.call83 ?_
    refine vc_loop [8] (fun g vals st' => vals = [.i 0] ∧ st' = st) 0 rfl ⟨rfl, rfl⟩ ?_
    rintro g vals st' ⟨rfl, rfl⟩
    exact h
  · refine ACalls.of_vc T_ok mixed Tryz.func83 rfl Tryz.call83 ?_
    refine vc_loop [8] (fun g vals st' => vals = [.i 0] ∧ st' = st) 0 rfl ⟨rfl, rfl⟩ ?_
    rintro g vals st' ⟨rfl, rfl⟩
    exact h
set_option maxHeartbeats 2000000 in
/-- one field put among others, where there is room -/
theorem insert_a (L : List Fld) (zs : List AV) (i : Nat) (a v : ByteArray) (hl : L.length ≤ 1099511627776) (hi : i ≤ L.length) (hcap : L.length + 1 ≤ cap) (hp : st.heap[p]? = some (fl L ++ zs)) (hz : L.length * 2 + zs.length = cap * 2)
    (h : ∀ st' zs', Mv 0 (fun q => q = p) st st' → st'.heap[p]? = some (fl (L.take i ++ (a, v) :: L.drop i) ++ zs') → (fl (L.take i ++ (a, v) :: L.drop i) ++ zs').length = cap * 2 → R (.hs p 0 (L.length + 1) cap 2) st') :
    ACalls Tryz.prog 85 [.hs p 0 L.length cap 2, .i i, .sl .tight 2 [[.s a, .s v]]] st R := by
  have hmx : maxLen = 9223372036854775807 := rfl
  have hfl := fl_len L
  refine ACalls.of_vc T_ok mixed Tryz.func85 rfl Tryz.call85 ?_
  refine ⟨i, rfl, hi, by omega, fun lo1 hlo1 => ?_⟩
  refine cnd_split (fun h1 => ?_) (fun h1 => ?_)
  · have h1 : (i : Int) = (L.length : Int) := beq_iff_eq.1 h1
    obtain rfl : i = L.length := by omega
    have el := fldL_len L
    have hra := rows_app (zs := zs) (ys := [[AV.s a, AV.s v]]) (fun e he => (fldL_el L e he).1) (fun e he => by
      have : e = [AV.s a, AV.s v] := by simpa using he
      rw [this]; rfl) (by show 1 * 2 ≤ _; omega)
    rw [el] at hra
    have hst : st.heap[p]? = some ((fldL L).flatten ++ zs) := hp
    refine ⟨fun e => (by cases e), fun _ => ⟨?_, ?_, _, _, hst, rows_seen (fldL_el L) |> (fun s => by rw [el] at s; exact s), fun hroom => ⟨?_, ?_⟩, fun hno => absurd hno (by show ¬ cap < L.length + 1; omega)⟩⟩
    · show (L.length + 1) * 32 ≤ _; omega
    · show L.length + 1 ≤ _; omega
    · show 0 + (L.length + 1) * 2 ≤ _
      rw [List.length_append]
      have : (fldL L).flatten.length = L.length * 2 := fl_len L
      omega
    · have e9 : L.take L.length ++ (a, v) :: L.drop L.length = L ++ [(a, v)] := by simp
      have e8 : (fldL L ++ [[AV.s a, AV.s v]]).flatten ++ zs.drop (1 * 2) = fl (L.take L.length ++ (a, v) :: L.drop L.length) ++ zs.drop 2 := by
        rw [e9]
        show (fldL L ++ fldL [(a, v)]).flatten ++ _ = _
        rw [fldL_appL]
      have e7 := hra.trans e8
      have hh := h ⟨st.heap.set p (setAll ((fldL L).flatten ++ zs) (0 + L.length * 2) [[AV.s a, AV.s v]].flatten), st.tk⟩ (zs.drop 2) ((Mv.refl (C := fun q => q = p) (Nat.zero_le _)).set (fun _ => rfl) _) (by rw [e7]; exact st_eq hst) (by
        rw [List.length_append, fl_len, e9, List.length_append, List.length_drop]
        show (L.length + 1) * 2 + _ = _
        omega)
      exact hh
  have h1 : (i : Int) ≠ (L.length : Int) := beq_eq_false_iff_ne.1 h1
  have hg1 : ([[AV.s a, AV.s v]] : List (List AV)).length = 1 := rfl
  have hi1 : i < L.length := by omega
  intro c hc
  rw [IntWalk.i64_in _ (by omega)] at hc
  obtain rfl : c = ((L.length + 1 : Nat) : Int) := by omega
  refine cnd_split (fun h2 => absurd (of_decide_eq_true h2) (by omega)) (fun _ => ?_)
  intro c hc
  rw [IntWalk.i64_in _ (by omega)] at hc
  obtain rfl : c = ((L.length + 1 : Nat) : Int) := by omega
  refine ⟨L.length + 1, rfl, Nat.zero_le _, hcap, fun lo2 hlo2 => ?_⟩
  obtain rfl : lo2 = 0 := by
    rw [hlo2]
    split <;> rfl
  intro c hc
  rw [IntWalk.i64_in _ (by omega)] at hc
  obtain rfl : c = ((i + 1 : Nat) : Int) := by omega
  refine ⟨i + 1, rfl, by omega, by omega, fun lo3 hlo3 => ?_⟩
  obtain rfl : lo3 = 0 + (i + 1) * 2 := by
    rw [hlo3, if_neg (by omega)]
  have hfl0 : (fl L ++ zs).length = cap * 2 := by rw [List.length_append, fl_len]; omega
  obtain ⟨c0, cs0, hcs0⟩ : ∃ c0 cs0, fl L ++ zs = c0 :: cs0 := by
    cases hq : fl L ++ zs with
    | nil => rw [hq] at hfl0; simp at hfl0; omega
    | cons c0 cs0 => exact ⟨c0, cs0, rfl⟩
  refine .o (n := L.length + 1 - (i + 1) - 1) ovF (by rw [show L.length + 1 - (i + 1) - 1 + 1 = L.length + 1 - (i + 1) by omega]; rfl) (hp.trans (congrArg some hcs0)) ?_
  have lo_i : ∀ c x : Nat, x = (if c = i then 0 else 0 + i * 2) → c ≠ i → x = 0 + i * 2 := fun c x e h => by rw [e, if_neg h]
  have lo_j : ∀ c x : Nat, x = (if c = i + 1 then 0 else 0 + (i + 1) * 2) → c ≠ i + 1 → x = 0 + (i + 1) * 2 := fun c x e h => by rw [e, if_neg h]
  refine .x (by kernel_rfl) ?_
  intro c hc
  rw [IntWalk.i64_in _ (by omega)] at hc
  obtain rfl : c = ((i + 1 : Nat) : Int) := by omega
  refine ⟨i + 1, rfl, by omega, by omega, fun lo4 hlo4 => ?_⟩
  obtain rfl := lo_j _ _ hlo4 (by omega)
  refine ⟨i, rfl, by omega, by omega, fun lo5 hlo5 => ?_⟩
  obtain rfl := lo_i _ _ hlo5 (by omega)
  have hs5 := fl_seenD L zs hi
  rw [show L.length - i = min (L.length + 1 - 0 - (i + 1)) (L.length + 1 - 0 - i) by omega] at hs5
  refine ⟨_, _, hp, hs5, ?_⟩
  refine ⟨_, hp, ?_, ?_⟩
  · show 0 + (i + 1) * 2 + (fldL (L.drop i)).length * 2 ≤ _
    rw [hfl0, fldL_len, List.length_drop]
    omega
  rw [ins_copy hi1 (by
    rw [List.length_append, fl_len] at hfl0
    omega)]
  have hp2 : (st.heap.set p (fl (L.take (i + 1) ++ L.drop i) ++ zs.drop 2))[p]? = some (fl (L.take (i + 1) ++ L.drop i) ++ zs.drop 2) := st_eq hp
  have hl2 : (L.take (i + 1) ++ L.drop i).length = L.length + 1 := by rw [List.length_append, List.length_take, List.length_drop]; omega
  have hset := rows_setE (zs := zs.drop 2) (fun e he => (fldL_el (L.take (i + 1) ++ L.drop i) e he).1) (k := i) (by rw [fldL_len, hl2]; omega) (e' := [AV.s a, AV.s v]) rfl
  have hset2 : ((fldL (L.take (i + 1) ++ L.drop i)).set i [AV.s a, AV.s v]).flatten ++ zs.drop 2 = fl (L.take i ++ (a, v) :: L.drop i) ++ zs.drop 2 := by
    congr 2
    rw [← ins_set hi1]
    unfold fldL
    rw [List.map_set]
  have hset := hset.trans hset2
  refine ⟨i, rfl, by omega, by omega, fun lo6 hlo6 => ?_⟩
  obtain rfl := lo_i _ _ hlo6 (by omega)
  have htk : ([[AV.s a, AV.s v]] : List (List AV)).take (L.length + 1 - 0 - i) = [[AV.s a, AV.s v]] := List.take_of_length_le (by rw [hg1]; omega)
  refine ⟨_, hp2, ?_, ?_⟩
  · show 0 + i * 2 + (([[AV.s a, AV.s v]] : List (List AV)).take (L.length + 1 - 0 - i)).length * 2 ≤ _
    rw [htk, List.length_append, fl_len, hl2, hg1]
    omega
  show R (.hs p 0 (L.length + 1) cap 2) ⟨(st.heap.set p (fl (L.take (i + 1) ++ L.drop i) ++ zs.drop 2)).set p (setAll (fl (L.take (i + 1) ++ L.drop i) ++ zs.drop 2) (0 + i * 2) (([[AV.s a, AV.s v]] : List (List AV)).take (L.length + 1 - 0 - i)).flatten), st.tk⟩
  rw [htk]
  show R (.hs p 0 (L.length + 1) cap 2) ⟨(st.heap.set p (fl (L.take (i + 1) ++ L.drop i) ++ zs.drop 2)).set p (setAll (fl (L.take (i + 1) ++ L.drop i) ++ zs.drop 2) (0 + i * 2) [AV.s a, AV.s v]), st.tk⟩
  have hl3 : (L.take i ++ (a, v) :: L.drop i).length = L.length + 1 := by rw [List.length_append, List.length_take, List.length_cons, List.length_drop]; omega
  refine h _ (zs.drop 2) (((Mv.refl (C := fun q => q = p) (Nat.zero_le _)).set (fun _ => rfl) _).set (fun _ => rfl) _) ?_ ?_
  · rw [← hset]
    exact st_eq hp2
  · rw [List.length_append, fl_len, hl3, List.length_drop]
    rw [List.length_append, fl_len] at hfl0
    omega
end
theorem NmOk.one {n : ByteArray} (h : n.size ≤ 1099511627776) : NmOk [n] := by
  refine ⟨by show 1 ≤ 1099511627776; decide, fun x hx => ?_⟩
  rw [List.mem_singleton.1 hx]; exact h
section
variable {st : St} {R : AV → St → Prop} {b p cap : Nat} {r : Option Nat}
attribute [local irreducible] vcApp
set_option maxHeartbeats 2000000 in
theorem putX_a (n v : ByteArray) (hn : n.size ≤ 1099511627776) (l : List Fld) (hl : l.length ≤ 1000000) (hz : ∀ f ∈ l, f.1.size ≤ 1099511627776) (hb : HB st b r l)
    (h : ∀ r' st', HB st' b r' (putW n v l) → BgS st b r st' r' → R (.tup []) st') : ACalls Tryz.prog 64 [.ptr b 0, .s n, .s v] st R := by
  have hmx : maxLen = 9223372036854775807 := rfl
  have hb0 := hb
  obtain ⟨a, hba, hR, hrb⟩ := hb
  have el := fldL_len l
  have hbl := lt_of hba
  obtain ⟨S1, hS1⟩ : ∃ S1 : St, S1 = ⟨((st.heap ++ [[AV.s n]]) ++ [[AV.s ⟨#[]⟩, AV.s ⟨#[]⟩]]).set (st.heap ++ [[AV.s n]]).length [AV.s n, AV.s v], st.tk⟩ := ⟨_, rfl⟩
  have hlen1 : (st.heap ++ [[AV.s n]]).length = st.heap.length + 1 := by simp
  have m1 : Mv 0 (fun _ => False) st S1 := by
    rw [hS1, last_set]
    exact ((Mv.refl (Nat.zero_le _)).alloc _).alloc _
  have hq1 : S1.heap[st.heap.length]? = some [.s n] := by rw [hS1]; exact st_ne (by omega) (ap (last_at _ _))
  have hf1 : S1.heap[(st.heap ++ [[AV.s n]]).length]? = some [.s n, .s v] := by rw [hS1]; exact last_upd _ _ _
  have hl1 : st.heap.length + 2 ≤ S1.heap.length := by rw [hS1]; simp
  have fin : ∀ (K : AV → St → Prop) S2, Mv 0 (fun _ => False) S1 S2 → (∀ i (hi : i < l.length), ofB n l[i] = false) → HB S2 b r l → (∀ st', R (.tup []) st' → K (.tup []) st') → ACalls Tryz.prog 62 [.ptr b 0, .sl .tight 2 [[.s n, .s v]]] S2 K := fun K S2 m2 hno hb2 hK => by
    refine addX_a l [(n, v)] (by simp; omega) (List.cons_ne_nil _ _) hb2 (fun r' st' h1 h2 => hK _ (h r' st' ?_ ?_))
    · rw [putW_no hno]; exact h1
    · exact (⟨(m1.trans m2 (fun _ _ h => h)).wide (fun _ _ h => h.elim), .inl rfl⟩ : BgS st b r S2 r).trans h2
  subst hS1
  obtain ⟨es, hes⟩ : ∃ es, fldL l = es := ⟨_, rfl⟩
  rw [hes] at hR
  cases hR with
  | nil =>
    obtain rfl := fldL_nil hes
    refine ACalls.of_vc T_ok mixed Tryz.func64 rfl Tryz.call64 ?_
    refine ⟨_, last_at _ _, ?_⟩
    refine ⟨_, last_at _ _, ?_⟩
    refine ⟨_, m1.at' hba (fun e => e), ?_⟩
    refine .s (indexPE_a _ (.inl rfl) _ _ _ ?_)
    refine ⟨_, hf1, ?_⟩
    exact .s (fin _ _ (.refl (Nat.zero_le _)) (fun i hi => by simp at hi) (hb0.mv m1 (fun e => e) (fun _ _ e => e)) (fun _ h => h))
  | tight =>
    obtain rfl := fldL_nil hes
    refine ACalls.of_vc T_ok mixed Tryz.func64 rfl Tryz.call64 ?_
    refine ⟨_, last_at _ _, ?_⟩
    refine ⟨_, last_at _ _, ?_⟩
    refine ⟨_, m1.at' hba (fun e => e), ?_⟩
    refine .s (indexPE_a _ (.inr rfl) _ _ _ ?_)
    refine ⟨_, hf1, ?_⟩
    exact .s (fin _ _ (.refl (Nat.zero_le _)) (fun i hi => by simp at hi) (hb0.mv m1 (fun e => e) (fun _ _ e => e)) (fun _ h => h))
  | hs p cap _ hw =>
    have hw0 := hw
    obtain ⟨⟨zs, hp, hzl⟩, he, hc⟩ := hw
    subst hes
    rw [el] at hba hc hzl
    have hpb : p ≠ b := fun e => hrb (by rw [e])
    have hpl := lt_of hp
    have hba1 := m1.at' hba (fun e => e)
    have hp1 := m1.at' hp (fun e => e)
    refine ACalls.of_vc T_ok mixed Tryz.func64 rfl Tryz.call64 ?_
    refine ⟨_, last_at _ _, ?_⟩
    refine ⟨_, last_at _ _, ?_⟩
    refine ⟨_, hba1, ?_⟩
    refine .s (indexP_a (q := st.heap.length) (by omega) l zs (by omega) hz hp1 hq1 (fun w S2 m2 hw9 => ?_))
    rcases hw9 with ⟨rfl, hno⟩ | ⟨k, hk, rfl, hk1, hk2⟩
    · refine ⟨_, m2.at' hf1 (fun e => e), ?_⟩
      exact .s (fin _ S2 m2 hno ((hb0.mv m1 (fun e => e) (fun _ _ e => e)).mv m2 (fun e => e) (fun _ _ e => e)) (fun _ h => h))
    · refine ⟨_, m2.at' hq1 (fun e => e), ?_⟩
      obtain ⟨w1, w2, w3⟩ := putW_at (n := n) (v := v) hk hk2 hk1
      have hkw := keptW_one n l
      refine .s (removeH_a [n] (.one hn) l zs (by omega) hz (m2.at' hba1 (fun e => e)) (m2.at' hp1 (fun e => e)) hc hpb (fun S3 zs' m3 hb3 hp3 hle => ?_))
      rw [hkw] at hb3 hp3 hle
      have hf3 := m3.at' (m2.at' hf1 (fun e => e)) (fun e => by omega)
      have hcl : (fl (withoutW n l) ++ zs').length = cap * 2 := by rw [hle, List.length_append, fl_len]; exact hzl
      refine .n (.one 0 (.one 1 (.one 2 (.one 3 (.one 4 (.one 5 (.one 6 (.one 7 (.only 8 (.one 9 (.one 10 (.one 11 .done)))))))))))) (by kernel_rfl) ?_
      refine ⟨_, hb3, ?_⟩
      refine ⟨_, hf3, ?_⟩
      refine .s (insert_a (withoutW n l) zs' k n v (by omega) w2 (by omega) hp3 (by rw [← hcl, List.length_append, fl_len]) (fun S4 zs4 m4 hp4 hl4 => ?_))
      have hb4 := m4.at' hb3 (fun e => hpb e.symm)
      refine ⟨_, hb4, ?_⟩
      refine h (some p) _ ⟨_, st_eq hb4, ?_, fun e => hpb (Option.some.inj e)⟩ ⟨?_, .inl rfl⟩
      · have hlp : (putW n v l).length = (withoutW n l).length + 1 := by rw [w1, List.length_append, List.length_take, List.length_cons, List.length_drop]; omega
        have := HR.hs (st := ⟨S4.heap.set b [.hs p 0 ((withoutW n l).length + 1) cap 2], S4.tk⟩) p cap (fldL (putW n v l)) ⟨⟨zs4, ?_, ?_⟩, fldL_el _, by rw [fldL_len]; omega⟩
        · rw [fldL_len, hlp] at this
          exact this
        · refine st_ne (fun e => hpb e.symm) ?_
          rw [hp4, ← w1]
        · rw [← hl4, ← w1, List.length_append, fl_len, fldL_len]
      · have m12 := (m1.trans m2 (fun _ _ h => h)).wide (D := fun q => q = b ∨ some q = some p) (fun _ _ h => h.elim)
        have m3' := m3.wide (D := fun q => q = b ∨ some q = some p) (fun q _ e => e.imp id (fun e => by rw [e]))
        have m4' := m4.wide (D := fun q => q = b ∨ some q = some p) (fun q _ e => .inr (by rw [e]))
        exact ((m12.trans m3' (fun _ _ h => h)).trans m4' (fun _ _ h => h)).set (fun _ => .inl rfl) _
end
section
attribute [local irreducible] vcApp
/-- the last field of a name so far -/
def LastW (n : ByteArray) (l : List Fld) (k : Nat) (v : Int) : Prop := (v = -1 ∧ ∀ j (hj : j < l.length), j < k → ofB n l[j] = false) ∨ ∃ (i : Nat) (hi : i < l.length), v = (i : Int) ∧ i < k ∧ ofB n l[i] = true ∧ ∀ j (hj : j < l.length), i < j → j < k → ofB n l[j] = false
def setW (e : ByteArray) (v : Int) (k : Nat) (f : Fld) : Fld := if (k : Int) = v then (f.1, appW f.2 [e]) else f
end
theorem appS_size (s : ByteArray) (l : List ByteArray) : (appW s l).size ≤ s.size + 2 + (joinC comS l).size := by
  unfold appW
  by_cases h0 : l = []
  · rw [if_pos h0]; omega
  · rw [if_neg h0]
    by_cases h1 : allI bcI s = true
    · rw [if_pos h1]; omega
    · rw [if_neg h1, joinC_cons h0, app_size, app_size]
      have := trimRC_size s spcS
      have h5 : comS.size = 2 := rfl
      omega
theorem same13_p (l m : List Fld) (h1 : l.length ≤ 1099511627776) (h2 : m.length ≤ 1099511627776) : APure Tryz.prog 8 [.sl .no 2 (fldL l), .sl .no 2 (fldL m)] (.b (decide (l = m))) [] := by
  have el := fldL_len l
  have em := fldL_len m
  refine APure.of rfl (ACalls.of_vc T_ok mixed Tryz.func8 rfl Tryz.call8 ?_)
  refine cnd_split (fun hd => ?_) (fun hd => ?_)
  · have hd : ¬ ((fldL l).length : Int) = (fldL m).length := by simpa using hd
    exact retb (decide_eq_false (fun e => by subst e; omega)).symm
  · have hd : ((fldL l).length : Int) = (fldL m).length := by simpa using hd
    refine vc_loop [5] (fun g vals st' => ∃ k : Nat, k + g = l.length ∧ vals = [.i k] ∧ ∀ j, j < k → l[j]? = m[j]?) l.length rfl ⟨0, by omega, rfl, fun j h => absurd h (by omega)⟩ ?_
    rintro g vals st' ⟨k, hk, rfl, ha⟩
    refine cnd_split (fun hd2 => ?_) (fun hd2 => ?_)
    · have hd2 := of_decide_eq_true hd2
      have k1 : k < l.length := by omega
      have k2 : k < m.length := by omega
      refine .e (by kernel_rfl) ?_
      refine ⟨k, _, rfl, fldL_at k1, ?_⟩
      refine ⟨k, _, rfl, fldL_at k2, ?_⟩
      refine ⟨by kernel_rfl, fun q hq => ?_⟩
      have hq : q = true ↔ l[k].1 = m[k].1 ∧ l[k].2 = m[k].2 ∧ True := hq
      cases q with
      | false =>
        refine retb (decide_eq_false (fun e => ?_)).symm
        subst e
        have := hq.2 ⟨rfl, rfl, trivial⟩
        cases this
      | true =>
        obtain ⟨e1, e2, _⟩ := hq.1 rfl
        intro c hc
        rw [IntWalk.i64_in _ (by omega)] at hc
        obtain rfl : c = ((k + 1 : Nat) : Int) := by omega
        refine ⟨g - 1, by omega, k + 1, by omega, rfl, fun j hj => ?_⟩
        by_cases hjk : j = k
        · subst hjk; rw [List.getElem?_eq_getElem k1, List.getElem?_eq_getElem k2]; exact congrArg some (Prod.ext e1 e2)
        · exact ha j (by omega)
    · have hd2 := of_decide_eq_false hd2
      refine retb (decide_eq_true (List.ext_getElem? fun j => ?_)).symm
      by_cases hj : j < k
      · exact ha j hj
      · rw [List.getElem?_eq_none (by omega), List.getElem?_eq_none (by omega)]
/-- no text of these is longer -/
def Sz (B : Nat) (l : List Fld) : Prop := ∀ f ∈ l, f.1.size ≤ B ∧ f.2.size ≤ B
noncomputable def deedW (kd : Nat) (n v : ByteArray) (l : List Fld) : List Fld :=
  if kd % 5 = 0 then l ++ [(n, v)] else if kd % 5 = 1 then putW n v l else if kd % 5 = 2 then withoutW v (withoutW n l) else if kd % 5 = 3 then renW n v l else behW n v l
theorem putW_mem {n v : ByteArray} : ∀ {l : List Fld} {f : Fld}, f ∈ putW n v l → f ∈ l ∨ f = (n, v)
  | [], f, h => .inr (List.mem_singleton.1 h)
  | g :: r, f, h => by
    rw [putW] at h
    split at h
    · rcases List.mem_cons.1 h with h | h
      · exact .inr h
      · exact .inl (List.mem_cons_of_mem _ (List.mem_filter.1 h).1)
    · rcases List.mem_cons.1 h with h | h
      · exact .inl (by rw [h]; exact List.mem_cons_self)
      · exact (putW_mem h).imp (List.mem_cons_of_mem _) id
theorem putW_len {n v : ByteArray} : ∀ (l : List Fld), (putW n v l).length ≤ l.length + 1
  | [] => Nat.le_refl _
  | g :: r => by
    rw [putW]
    split
    · have := withoutW_len n r
      simp; omega
    · have := putW_len (n := n) (v := v) r
      simp; omega
theorem behW_or (n v : ByteArray) (l : List Fld) : behW n v l = l ++ [(n, v)] ∨ ∃ i, ∃ hi : i < l.length, behW n v l = l.set i (l[i].1, appW l[i].2 [v]) := by
  by_cases h : ∃ i, IsLast n l i
  · obtain ⟨i, hi⟩ := h
    exact .inr ⟨i, hi.choose, behW_at hi hi.choose⟩
  · left
    unfold behW
    rw [dif_neg h]
theorem deedW_sz {B M kd : Nat} {n v : ByteArray} {l : List Fld} (h : Sz B l) (hn : n.size ≤ M) (hv : v.size ≤ M) (hB : M ≤ B) : Sz (B + M + 2) (deedW kd n v l) := by
  have hnv : ∀ f : Fld, f = (n, v) → f.1.size ≤ B + M + 2 ∧ f.2.size ≤ B + M + 2 := fun f e => by subst e; exact ⟨by show n.size ≤ _; omega, by show v.size ≤ _; omega⟩
  have hl : ∀ f : Fld, f ∈ l → f.1.size ≤ B + M + 2 ∧ f.2.size ≤ B + M + 2 := fun f e => by have := h f e; omega
  intro f hf
  unfold deedW at hf
  split at hf
  · rcases List.mem_append.1 hf with hf | hf
    · exact hl f hf
    · exact hnv f (List.mem_singleton.1 hf)
  split at hf
  · exact (putW_mem hf).elim (hl f) (hnv f)
  split at hf
  · exact hl f (List.mem_filter.1 (List.mem_filter.1 hf).1).1
  split at hf
  · obtain ⟨g, hg, rfl⟩ := List.mem_map.1 hf
    have := hl g hg
    unfold renF
    split
    · exact ⟨by show v.size ≤ _; omega, this.2⟩
    · exact this
  · rcases behW_or n v l with e | ⟨i, hi, e⟩
    · rw [e] at hf
      rcases List.mem_append.1 hf with hf | hf
      · exact hl f hf
      · exact hnv f (List.mem_singleton.1 hf)
    · rw [e] at hf
      rcases List.mem_or_eq_of_mem_set hf with hf | rfl
      · exact hl f hf
      · have h1 := h l[i] (List.getElem_mem hi)
        have h2 := appS_size l[i].2 [v]
        rw [joinC_one] at h2
        exact ⟨by show l[i].1.size ≤ _; omega, by show (appW l[i].2 [v]).size ≤ _; omega⟩
theorem deedW_len (kd : Nat) (n v : ByteArray) (l : List Fld) : (deedW kd n v l).length ≤ l.length + 1 := by
  unfold deedW
  split
  · simp
  split
  · exact putW_len l
  split
  · have h1 := withoutW_len n l
    have h2 := withoutW_len v (withoutW n l)
    omega
  split
  · unfold renW; rw [List.length_map]; omega
  · rcases behW_or n v l with e | ⟨i, hi, e⟩
    · rw [e]; simp
    · rw [e, List.length_set]; omega
theorem tapp {i : TI} {tg : Tk} {ys : List (List AV)} {st : St} {K : AV → St → Prop} (hz : i.zero.all Value.oneCell' = true) (hb : ys.length * i.bytes ≤ 140737488355328) (hm : ys.length ≤ maxLen) (h0 : ys = [] → K (.sl .tight i.size []) st) (h1 : ys ≠ [] → ∀ t e tk', tk'[t]? = some e → K (.sl (.own t e) i.size ys) ⟨st.heap, tk'⟩) : vcApp i (.sl .tight i.size []) (.sl tg i.size ys) st K := by
  unfold vcApp srcA
  simp only [decide_true, hz, Bool.and_self]
  refine ⟨fun e => h0 e, fun hne => ⟨by simpa using hb, by simpa using hm, .inl ?_⟩⟩
  have := h1 hne st.tk.length ([] ++ ys).length (st.tk ++ [([] ++ ys).length]) (by simp)
  simpa using this
theorem NmOk.two {n v : ByteArray} (h : n.size ≤ 1099511627776) (h2 : v.size ≤ 1099511627776) : NmOk [n, v] := by
  refine ⟨by show 2 ≤ 1099511627776; decide, fun x hx => ?_⟩
  rcases List.mem_cons.1 hx with rfl | hx
  · exact h
  · rw [List.mem_singleton.1 hx]; exact h2
theorem HB.tks {st : St} {b : Nat} {r : Option Nat} {l : List Fld} (h : HB st b r l) (tk : List Nat) : HB ⟨st.heap, tk⟩ b r l :=
  h.mv ((Mv.refl (C := fun _ => False) (Nat.zero_le _)).tks (Nat.zero_le _) (fun t h => by omega)) (fun e => e) (fun _ _ e => e)
/-- a row of fields, of whatever make -/
def Rw (a : AV) (l : List Fld) : Prop := a = .sl .no 2 (fldL l) ∨ a = .sl .tight 2 (fldL l) ∨ ∃ t e, a = .sl (.own t e) 2 (fldL l)
section
attribute [local irreducible] vcApp
variable {st : St} {R : AV → St → Prop} {b p cap : Nat} {r : Option Nat}
end
theorem Rp.stripR {w : World} {I : Nat → Nat → Prop} {hl : Nat} {μ : Nat → Nat} {tk : List Nat} {σ : Nat → Tkt} {a : AV} {v : Value} (h : Rp w I hl μ tk σ a v) : Rp w I hl μ tk σ a.stripR v := by
  cases a with
  | tup vs =>
    cases h with
    | tup cs zs e1 hr =>
      refine .tup _ zs (by rw [List.length_map]; exact e1) fun j a u hja hju => ?_
      rw [List.getElem?_map, Option.map_eq_some_iff] at hja
      obtain ⟨b, hb, rfl⟩ := hja
      exact (hr j b u hb hju).strip
  | _ => exact h.strip
theorem ACalls.bare {P : Program} {f : FuncId} {args : List AV} {st : St} {R : AV → St → Prop} (h : ACalls P f args st fun r st' => R r.stripR st') : ACalls P f args st R := by
  refine ⟨h.1, fun base J w0 μ σ w vs hok hl ha => (h.2 base J w0 μ σ w vs hok hl ha).mono ?_⟩
  rintro e w' ⟨v, r, st', μ', σ', rfl, hR, hok', hx, hat⟩
  exact ⟨v, _, st', μ', σ', rfl, hR, hok', hx, hat.stripR⟩
theorem ACalls.bareN {P : Program} {f : FuncId} {args : List AV} {st : St} {R : AV → St → Prop} (h : ACalls P f args st fun r st' => R r.stripR st' ∨ (r = .nilS ∧ ∃ sz, R (.sl .no sz []) st')) : ACalls P f args st R := by
  refine ⟨h.1, fun base J w0 μ σ w vs hok hl ha => (h.2 base J w0 μ σ w vs hok hl ha).mono ?_⟩
  rintro e w' ⟨v, r, st', μ', σ', rfl, hR, hok', hx, hat⟩
  rcases hR with hR | ⟨rfl, sz, hR⟩
  · exact ⟨v, _, st', μ', σ', rfl, hR, hok', hx, hat.stripR⟩
  · refine ⟨v, _, st', μ', σ', rfl, hR, hok', hx, ?_⟩
    rw [hat.of_lit]
    exact .sl0 sz none 0 (Nat.zero_le _)
theorem Rw.argV {a : AV} {l : List Fld} (h : Rw a l) : argV a (.sl .no 2 (fldL l)) := by
  rcases h with rfl | rfl | ⟨t, e, rfl⟩
  · exact .inl rfl
  · exact .inr (.inl rfl)
  · exact .inr (.inl rfl)
/-- values, of whatever make -/
def Vw (a : AV) (l : List ByteArray) : Prop := (a = .nilS ∧ l = []) ∨ ∃ t e, a = .sl (.own t e) 1 (strL l)
section
variable {st : St} {R : AV → St → Prop} {b p cap : Nat} {r : Option Nat}
theorem newV_a {a : AV} {l : List Fld} (ha : Rw a l) (hl : l.length ≤ 1099511627776) (h : ∀ b r st', Mv 0 (fun _ => False) st st' → HB st' b r l → st.heap.length ≤ b → (∀ p, r = some p → st.heap.length ≤ p) → R (.ptr b 0) st') : ACalls Tryz.prog 22 [a] st R :=
  ACalls.weak (args' := [.sl .no 2 (fldL l)]) ⟨ha.argV, trivial⟩ (newX_a l hl h)
theorem listV_a (l : List Fld) (hl : l.length ≤ 1099511627776) (hb : HB st b r l) (h : ∀ st', Mv 0 (fun _ => False) st st' → R (.sl .no 2 (fldL l)) st') : ACalls Tryz.prog 24 [.ptr b 0] st R := by
  refine ACalls.bareN (listX_a l hl hb fun a st' m ha => ?_)
  have := h st' m
  rcases ha with ⟨rfl, rfl⟩ | ⟨tg, rfl⟩
  · exact .inr ⟨rfl, 2, this⟩
  · exact .inl this
attribute [local irreducible] vcApp
set_option maxHeartbeats 1000000 in
theorem valuesX_a (l : List Fld) (name : ByteArray) (hl : l.length ≤ 1000000) (hz : ∀ f ∈ l, f.1.size ≤ 1099511627776) (hn : name.size ≤ 1099511627776) (hb : HB st b r l)
    (h : ∀ a st', Mv 0 (fun _ => False) st st' → Vw a (valsW name l) → R a st') : ACalls Tryz.prog 40 [.ptr b 0, .s name] st R := by
  have hmx : maxLen = 9223372036854775807 := rfl
  have el := fldL_len l
  have main : ∀ (tg : Tk) st1, Mv 0 (fun _ => False) st st1 → True := fun _ _ _ => trivial
  refine ACalls.of_vc T_ok mixed Tryz.func40 rfl Tryz.call40 ?_
  refine .s (listX_a l (by omega) hb (fun a st1 m ha => ?_))
  rcases ha with ⟨rfl, rfl⟩ | ⟨tg, rfl⟩
  · refine vc_loop [5, 11] (fun g vals st' => vals = [.nilS, .i 0] ∧ Mv 0 (fun _ => False) st st') 0 rfl ⟨rfl, m⟩ ?_
    rintro g vals st' ⟨rfl, m'⟩
    exact h _ _ m' (.inl ⟨rfl, rfl⟩)
  · refine vc_loop [5, 11] (fun g vals st' => ∃ (k : Nat) (a : AV), k + g = l.length ∧ vals = [a, .i k] ∧ Mv 0 (fun _ => False) st st' ∧ Acc 0 st'.tk 1 a (strL (valsW name (l.take k)))) l.length rfl ⟨0, _, by omega, rfl, m, .nil⟩ ?_
    rintro g vals st' ⟨k, a, hk, rfl, m', hA⟩
    have hml := m'.len
    have hvl := valsW_len name (l.take k)
    rw [List.length_take] at hvl
    have hsl := strL_len (valsW name (l.take k))
    have hA0 := hA
    have hnil : strL (valsW name (l.take k)) = [] → valsW name (l.take k) = [] := fun e => List.eq_nil_of_length_eq_zero (by rw [← hsl, e]; rfl)
    generalize hes : strL (valsW name (l.take k)) = es at hA hsl hA0 hnil
    cases hA
    all_goals
      refine cnd_split (fun hd => ?_) (fun hd => ?_)
      · have hd := of_decide_eq_true hd
        have k1 : k < l.length := by omega
        have sz := hz l[k] (List.getElem_mem k1)
        have hs := valsW_snoc name l k k1
        refine ⟨k, _, rfl, fldL_at k1, ?_⟩
        refine ⟨_, last_at _ _, ?_⟩
        refine ⟨_, last_upd _ _ _, ?_⟩
        refine .p rfl (sameO_p l[k].1 name (by omega) (by omega)) ?_
        refine cnd_split (fun h3 => ?_) (fun h3 => ?_)
        · rw [if_pos h3] at hs
          refine ⟨_, last_upd _ _ _, ?_⟩
          refine Acc.app (n := 0) (i := ti9) hA0 (Nat.zero_le _) (List.cons_ne_nil _ _) ?_ ?_ (fun t9 e9 tk9 z0 z1 z2 z3 => ?_)
          · show (List.length _ + 1) * 16 ≤ _; omega
          · show List.length _ + 1 ≤ _; omega
          intro c hc
          rw [IntWalk.i64_in _ (by omega)] at hc
          obtain rfl : c = ((k + 1 : Nat) : Int) := by omega
          refine ⟨g - 1, by omega, k + 1, _, by omega, rfl, ((m'.alloc _).set (fun e => by omega) _).tks (Nat.zero_le _) (fun t h => by omega), ?_⟩
          rw [hs, ← strL_app, hes]
          exact .own _ _ _ (Nat.zero_le _) z1
        · rw [if_neg (by rw [h3]; decide), List.append_nil] at hs
          intro c hc
          rw [IntWalk.i64_in _ (by omega)] at hc
          obtain rfl : c = ((k + 1 : Nat) : Int) := by omega
          refine ⟨g - 1, by omega, k + 1, _, by omega, rfl, ((m'.alloc _).set (fun e => by omega) _), ?_⟩
          rw [hs, hes]
          exact hA0
      · have hd := of_decide_eq_false hd
        have ht : l.take k = l := List.take_of_length_le (by omega)
        rw [ht] at hes hnil
        refine h _ _ m' ?_
        first
          | exact .inl ⟨rfl, hnil rfl⟩
          | exact .inr ⟨_, _, by rw [hes]⟩
theorem valuesV_a (l : List Fld) (name : ByteArray) (hl : l.length ≤ 1000000) (hz : ∀ f ∈ l, f.1.size ≤ 1099511627776) (hn : name.size ≤ 1099511627776) (hb : HB st b r l)
    (h : ∀ st', Mv 0 (fun _ => False) st st' → R (.sl .no 1 (strL (valsW name l))) st') : ACalls Tryz.prog 40 [.ptr b 0, .s name] st R := by
  refine ACalls.bareN (valuesX_a l name hl hz hn hb fun a st' m ha => ?_)
  have := h st' m
  rcases ha with ⟨rfl, e⟩ | ⟨t, e, rfl⟩
  · rw [e] at this
    exact .inr ⟨rfl, 1, this⟩
  · exact .inl this
theorem getX_a (l : List Fld) (name : ByteArray) (hl : l.length ≤ 1000000) (hz : ∀ f ∈ l, f.1.size ≤ 1099511627776) (hn : name.size ≤ 1099511627776) (hb : HB st b r l)
    (h : ∀ st' x ok, Mv 0 (fun _ => False) st st' → ((ok = false ∧ x = ⟨#[]⟩ ∧ valsW name l = []) ∨ (ok = true ∧ ∃ q, valsW name l = x :: q)) → R (.tup [.s x, .b ok]) st') : ACalls Tryz.prog 60 [.ptr b 0, .s name] st R := by
  refine ACalls.of_vc T_ok mixed Tryz.func60 rfl Tryz.call60 ?_
  refine .s (valuesX_a l name hl hz hn hb (fun a st1 m ha => ?_))
  rcases ha with ⟨rfl, e⟩ | ⟨t, e, rfl⟩
  · exact h _ _ _ m (.inl ⟨rfl, rfl, e⟩)
  · obtain ⟨V, hV⟩ : ∃ V, V = valsW name l := ⟨_, rfl⟩
    rw [← hV] at h ⊢
    have eV := strL_len V
    refine cnd_split (fun h9 => ?_) (fun h9 => ?_)
    · have h9 := beq_iff_eq.1 h9
      exact h _ _ _ m (.inl ⟨rfl, rfl, List.eq_nil_of_length_eq_zero (by omega)⟩)
    · have h9 := beq_eq_false_iff_ne.1 h9
      have v0 : 0 < V.length := by omega
      refine ⟨0, _, rfl, strL_at v0, ?_⟩
      exact h _ _ _ m (.inr ⟨rfl, V.drop 1, by rw [← List.drop_eq_getElem_cons v0]; rfl⟩)
end
theorem aw13 : putW ⟨#[65]⟩ ⟨#[57]⟩ [(⟨#[97]⟩, ⟨#[49]⟩), (⟨#[66]⟩, ⟨#[50]⟩), (⟨#[65]⟩, ⟨#[51]⟩)] = [(⟨#[65]⟩, ⟨#[57]⟩), (⟨#[66]⟩, ⟨#[50]⟩)] := by decide +kernel
abbrev Deed := Nat × ByteArray × ByteArray
def deedL (l : List Deed) : List (List AV) := l.map fun d => [AV.int .u8 (d.1 : Int), AV.s d.2.1, AV.s d.2.2]
theorem deedL_len (l : List Deed) : (deedL l).length = l.length := by simp [deedL]
theorem deedL_at {l : List Deed} {j : Nat} (h : j < l.length) : (deedL l)[j]? = some [AV.int .u8 (l[j].1 : Int), AV.s l[j].2.1, AV.s l[j].2.2] := by simp [deedL, h]
end Go.Proofs.YtgkhnllgmfjhpaaGreatDoor
