/- Messages: rows of fields, cut short, bags made of them, the values of a name. No statement of its own. -/
import Derived.Test.YtgkhnllgmfjhpaaGreatDoorSp
set_option linter.unusedSimpArgs false
set_option linter.unusedVariables false
set_option maxRecDepth 100000
namespace Go.Proofs.YtgkhnllgmfjhpaaGreatDoor
open Go.RowKit
def cut400 (s : ByteArray) : ByteArray := s.extract 0 (if 400 < s.size then 400 else s.size)
theorem cut400_size (s : ByteArray) : (cut400 s).size ≤ 400 := by
  unfold cut400
  rw [ByteArray.size_extract]
  split <;> omega
theorem few15_p (s : ByteArray) : APure Tryz.prog 11 [.s s] (.s (cut400 s)) [] := by
  refine APure.of rfl (ACalls.of_vc T_ok mixed Tryz.func11 rfl Tryz.call11 ?_)
  refine ⟨_, minI_at s.size 400, Nat.zero_le _, by split <;> omega, ?_⟩
  exact rets rfl
/-- fields in a row -/
def fldL (l : List Fld) : List (List AV) := l.map fun f => [AV.s f.1, AV.s f.2]
theorem fldL_len (l : List Fld) : (fldL l).length = l.length := by simp [fldL]
theorem fldL_at {l : List Fld} {j : Nat} (h : j < l.length) : (fldL l)[j]? = some [.s l[j].1, .s l[j].2] := by simp [fldL, h]
theorem fldL_app (l : List Fld) (a b : ByteArray) : fldL l ++ [[.s a, .s b]] = fldL (l ++ [(a, b)]) := by simp [fldL]
theorem fldL_appL (l m : List Fld) : fldL l ++ fldL m = fldL (l ++ m) := by simp [fldL]

/-- a struct with rows in it, handed back by a function that sees nothing but data -/
theorem ACalls.toPureA {P : Program} {f : FuncId} {args : List AV} {cs0 : List AV} (hd : (AV.agg cs0).dat = true) (h : ACalls P f args ⟨[], []⟩ fun r' _ => ∃ cs, r' = .agg cs ∧ CellsW cs cs0) : APure P f args (.agg cs0) [] := by
  refine ⟨AV.res_of_datR hd, h.1, fun J w vs hw hl ha => ?_⟩
  refine (h.2 w.heap.size J w (fun _ => 0) (fun _ => ⟨0, 0, 0⟩) w vs (Ok.none J _ _ w hw) hl ha).mono ?_
  rintro e w' ⟨v, r', st', μ', σ', rfl, ⟨cs, rfl, hR⟩, hok, hx, hat⟩
  refine ⟨v, fun _ => ⟨0, 0, 0⟩, rfl, ⟨hok.bs, hok.below, fun p cs h => by simp at h, fun p q h => by simp at h, fun t e h => by simp at h⟩, ?_⟩
  have hi : ∀ g x, Im w.heap.size J st' μ' σ' g x → g < w'.heap.size → Im w.heap.size J ⟨[], []⟩ (fun _ => 0) (fun _ => ⟨0, 0, 0⟩) g x := fun g x hi _ => ⟨hi.1, fun p hp => by simp at hp, fun t e ht => by simp at ht⟩
  cases hat with
  | agg cs us e1 hr =>
    refine .agg _ us (by rw [← hR.length]; exact e1) fun j a u h1 h2 => ?_
    obtain ⟨b, hb, hw⟩ := hR.get j a h1
    exact cellW_at (hr j b u hb h2) hi hw

/-- an empty row, as whatever it may be -/
theorem APure.empty {P : Program} {f : FuncId} {sz : Nat} {r : AV} {ns : List Nat} (h : ∀ a cap, cap ≤ maxLen → APure P f [.lit (.slice a 0 cap)] r ns) : APure P f [.sl .no sz []] r ns := by
  refine ⟨(h none 0 (Nat.zero_le _)).1, (h none 0 (Nat.zero_le _)).2.1, fun J w vs hw hl ha => ?_⟩
  have h0 : 0 < vs.size := by rw [← hl]; exact Nat.zero_lt_one
  obtain ⟨a, cap, e, hm⟩ : ∃ a cap, vs[0] = .slice a 0 cap ∧ cap ≤ maxLen := by
    rcases (ha 0 _ vs[0] rfl (Array.getElem?_eq_getElem h0)).sl_inv with ⟨_, _, a, cap, e, hm⟩ | ⟨g, o, cap, us, e, _, _, hm, _⟩
    · exact ⟨a, cap, e, hm⟩
    · exact ⟨_, cap, e, hm⟩
  refine (h a cap hm).2.2 J w vs hw hl fun j b v hb hv => ?_
  cases j with
  | zero =>
    cases hb
    rw [Array.getElem?_eq_getElem h0, e] at hv
    cases hv
    exact .lit _
  | succ j => simp at hb
theorem ACalls.empty {P : Program} {f : FuncId} {sz : Nat} {st : St} {R : AV → St → Prop} (h : ∀ a cap, cap ≤ maxLen → ACalls P f [.lit (.slice a 0 cap)] st R) : ACalls P f [.sl .no sz []] st R := by
  refine ⟨(h none 0 (Nat.zero_le _)).1, fun base J w0 μ σ w vs hok hl ha => ?_⟩
  have h0 : 0 < vs.size := by rw [← hl]; exact Nat.zero_lt_one
  obtain ⟨a, cap, e, hm⟩ : ∃ a cap, vs[0] = .slice a 0 cap ∧ cap ≤ maxLen := by
    rcases (ha 0 _ vs[0] rfl (Array.getElem?_eq_getElem h0)).sl_inv with ⟨_, _, a, cap, e, hm⟩ | ⟨g, o, cap, us, e, _, _, hm, _⟩
    · exact ⟨a, cap, e, hm⟩
    · exact ⟨_, cap, e, hm⟩
  refine (h a cap hm).2 base J w0 μ σ w vs hok hl fun j b v hb hv => ?_
  cases j with
  | zero =>
    cases hb
    rw [Array.getElem?_eq_getElem h0, e] at hv
    cases hv
    exact .lit _
  | succ j => simp at hb
theorem flat_fld (l : List Fld) : ∀ (k : Nat) (e : List AV), (fldL l)[k]? = some e → e.length = 2 ∧ e.all AV.flat = true := fun k e h => by
  simp only [fldL, List.getElem?_map, Option.map_eq_some_iff] at h
  obtain ⟨f, _, rfl⟩ := h
  exact ⟨rfl, rfl⟩
/-- a row, once more -/
theorem clone_p (l : List Fld) (hl : l.length ≤ 1099511627776) : APure Tryz.prog 36 [.sl .no 2 (fldL l)] (.sl .no 2 (fldL l)) [] := by
  have hmx : maxLen = 9223372036854775807 := rfl
  have el := fldL_len l
  cases l with
  | nil =>
    refine APure.empty fun a cap hm => ?_
    refine APure.ofW rfl ?_
    cases a with
    | none =>
      refine ACalls.of_vc T_ok mixed Tryz.func36 rfl Tryz.call36 ?_
      exact .inr (.inl ⟨2, rfl, rfl⟩)
    | some a =>
      refine ACalls.of_vc T_ok mixed Tryz.func36 rfl Tryz.call36 ?_
      exact ⟨fun _ => .inl rfl, fun h => absurd rfl h⟩
  | cons f r =>
    refine APure.of rfl (ACalls.of_vc T_ok mixed Tryz.func36 rfl Tryz.call36 ?_)
    refine ⟨fun h => by simp [fldL] at h, fun _ => ⟨?_, ?_, .inl ?_⟩⟩
    · show (fldL (f :: r)).length * 32 ≤ _; omega
    · show (fldL (f :: r)).length ≤ _; omega
    · rfl

/-- a message's fields, cut short -/
def fewF (l : List Fld) : List Fld := (l.take 120).map fun f => (cut400 f.1, cut400 f.2)
theorem fewF_len (l : List Fld) : (fewF l).length ≤ 120 := by unfold fewF; rw [List.length_map, List.length_take]; omega
theorem fewF_size (l : List Fld) : ∀ f ∈ fewF l, f.1.size ≤ 400 ∧ f.2.size ≤ 400 := fun f hf => by
  unfold fewF at hf
  obtain ⟨x, _, rfl⟩ := List.mem_map.1 hf
  exact ⟨cut400_size _, cut400_size _⟩
section
attribute [local irreducible] vcApp
set_option maxHeartbeats 1000000 in
theorem few_h (k c mi : Int) (m t r : ByteArray) (l : List Fld) : APure Tryz.prog 5 [.agg [.i k, .s m, .s t, .i c, .s r, .i mi, .sl .no 2 (fldL l)]] (.agg [.i k, .s (cut400 m), .s (cut400 t), .i c, .s (cut400 r), .i mi, .sl .no 2 (fldL (fewF l))]) [] := by
  have hmx : maxLen = 9223372036854775807 := rfl
  have el := fldL_len l
  refine ACalls.toPureA rfl ?_
  refine ACalls.of_vc T_ok mixed Tryz.func5 rfl Tryz.call5 ?_
  refine ⟨_, rfl, ?_⟩
  refine .p rfl (few15_p m) ?_
  refine ⟨_, rfl, ?_⟩
  refine ⟨_, rfl, ?_⟩
  refine .p rfl (few15_p t) ?_
  refine ⟨_, rfl, ?_⟩
  refine ⟨_, rfl, ?_⟩
  refine .p rfl (few15_p r) ?_
  refine ⟨_, rfl, ?_⟩
  refine vc_loop [3, 4] (fun g vals st' => ∃ (j : Nat) (a : AV) (tk' : List Nat), j + g = 120 ∧ vals = [a, .i j] ∧ j ≤ l.length ∧ st' = ⟨[[.i k, .s (cut400 m), .s (cut400 t), .i c, .s (cut400 r), .i mi, .sl .no 2 (fldL l)], [.i 0, .s .empty, .s .empty, .i 0, .s .empty, .i 0, .nilS]], tk'⟩ ∧ Acc 0 tk' 2 a (fldL (fewF (l.take j)))) 120 rfl ⟨0, _, _, by omega, rfl, Nat.zero_le _, rfl, .nil⟩ ?_
  rintro g vals st' ⟨j, a, tk', hj, rfl, hjl, rfl, hA⟩
  have fin : j = l.length ∨ 120 ≤ j → fewF (l.take j) = fewF l := fun h => by
    unfold fewF
    rw [List.take_take]
    rcases h with h | h
    · subst h
      rw [List.take_of_length_le (l := l) (i := l.length) (Nat.le_refl _)] at *
      by_cases h2 : l.length ≤ 120
      · rw [Nat.min_eq_right h2, List.take_of_length_le (Nat.le_refl _), List.take_of_length_le h2]
      · rw [Nat.min_eq_left (by omega)]
    · rw [Nat.min_eq_left h]
  have al := fldL_len (fewF (l.take j))
  have al2 : (fewF (l.take j)).length ≤ 120 := fewF_len _
  generalize hes : fldL (fewF (l.take j)) = es at hA al
  cases hA with
  | nil =>
    refine ⟨_, rfl, ?_⟩
    refine cnd_split (fun hd => ?_) (fun hd => ?_)
    · have hd := of_decide_eq_true hd
      have j1 : j < l.length := by omega
      refine cnd_split (fun hd2 => ?_) (fun hd2 => ?_)
      · have hd2 := of_decide_eq_true hd2
        refine .x (by kernel_rfl) ?_
        refine ⟨_, rfl, ?_⟩
        refine ⟨j, _, rfl, fldL_at j1, ?_⟩
        refine .p rfl (few15_p _) ?_
        refine ⟨_, rfl, ?_⟩
        refine ⟨j, _, rfl, fldL_at j1, ?_⟩
        refine .p rfl (few15_p _) ?_
        refine Acc.app (n := 0) (i := ti48) (es := []) .nil (Nat.zero_le _) (List.cons_ne_nil _ _) ?_ ?_ (fun t9 e9 tk9 z0 z1 z2 z3 => ?_)
        · show (([] : List (List AV)).length + 1) * 32 ≤ _; omega
        · show ([] : List (List AV)).length + 1 ≤ _; omega
        intro c hc
        rw [IntWalk.i64_in _ (by omega)] at hc
        obtain rfl : c = ((j + 1 : Nat) : Int) := by omega
        refine ⟨g - 1, by omega, j + 1, _, _, by omega, rfl, j1, rfl, ?_⟩
        have e : fldL (fewF (l.take (j + 1))) = fldL (fewF (l.take j)) ++ [[.s (cut400 l[j].1), .s (cut400 l[j].2)]] := by
          rw [fldL_app]
          congr 1
          unfold fewF
          rw [List.take_take, List.take_take, Nat.min_eq_right (by omega), Nat.min_eq_right (by omega), List.take_succ_eq_append_getElem j1, List.map_append]
          rfl
        rw [e, hes]
        exact .own _ _ _ z0 z1
      · have hd2 := of_decide_eq_false hd2
        refine ⟨_, rfl, ?_⟩
        refine ⟨_, rfl, ?_⟩
        refine ⟨_, rfl, ?_⟩
        refine ⟨_, rfl, ?_⟩
        refine ⟨_, rfl, .inl ⟨rfl, rfl⟩, .inl ⟨rfl, rfl⟩, .inl ⟨rfl, rfl⟩, .inl ⟨rfl, rfl⟩, .inl ⟨rfl, rfl⟩, .inl ⟨rfl, rfl⟩, ?_, trivial⟩
        rw [← fin (.inr (by omega)), hes]
        first | exact .inl ⟨rfl, rfl⟩ | exact .inr ⟨rfl, 2, rfl⟩
    · have hd := of_decide_eq_false hd
      refine ⟨_, rfl, ?_⟩
      refine ⟨_, rfl, ?_⟩
      refine ⟨_, rfl, ?_⟩
      refine ⟨_, rfl, ?_⟩
      refine ⟨_, rfl, .inl ⟨rfl, rfl⟩, .inl ⟨rfl, rfl⟩, .inl ⟨rfl, rfl⟩, .inl ⟨rfl, rfl⟩, .inl ⟨rfl, rfl⟩, .inl ⟨rfl, rfl⟩, ?_, trivial⟩
      rw [← fin (.inl (by omega)), hes]
      first | exact .inl ⟨rfl, rfl⟩ | exact .inr ⟨rfl, 2, rfl⟩
  | own t0 e0 es q0 q1 =>
    refine ⟨_, rfl, ?_⟩
    refine cnd_split (fun hd => ?_) (fun hd => ?_)
    · have hd := of_decide_eq_true hd
      have j1 : j < l.length := by omega
      refine cnd_split (fun hd2 => ?_) (fun hd2 => ?_)
      · have hd2 := of_decide_eq_true hd2
        refine .x (by kernel_rfl) ?_
        refine ⟨_, rfl, ?_⟩
        refine ⟨j, _, rfl, fldL_at j1, ?_⟩
        refine .p rfl (few15_p _) ?_
        refine ⟨_, rfl, ?_⟩
        refine ⟨j, _, rfl, fldL_at j1, ?_⟩
        refine .p rfl (few15_p _) ?_
        refine Acc.app (n := 0) (i := ti48) (es := es) (.own _ _ _ q0 q1) (Nat.zero_le _) (List.cons_ne_nil _ _) ?_ ?_ (fun t9 e9 tk9 z0 z1 z2 z3 => ?_)
        · show ((es : List (List AV)).length + 1) * 32 ≤ _; omega
        · show (es : List (List AV)).length + 1 ≤ _; omega
        intro c hc
        rw [IntWalk.i64_in _ (by omega)] at hc
        obtain rfl : c = ((j + 1 : Nat) : Int) := by omega
        refine ⟨g - 1, by omega, j + 1, _, _, by omega, rfl, j1, rfl, ?_⟩
        have e : fldL (fewF (l.take (j + 1))) = fldL (fewF (l.take j)) ++ [[.s (cut400 l[j].1), .s (cut400 l[j].2)]] := by
          rw [fldL_app]
          congr 1
          unfold fewF
          rw [List.take_take, List.take_take, Nat.min_eq_right (by omega), Nat.min_eq_right (by omega), List.take_succ_eq_append_getElem j1, List.map_append]
          rfl
        rw [e, hes]
        exact .own _ _ _ z0 z1
      · have hd2 := of_decide_eq_false hd2
        refine ⟨_, rfl, ?_⟩
        refine ⟨_, rfl, ?_⟩
        refine ⟨_, rfl, ?_⟩
        refine ⟨_, rfl, ?_⟩
        refine ⟨_, rfl, .inl ⟨rfl, rfl⟩, .inl ⟨rfl, rfl⟩, .inl ⟨rfl, rfl⟩, .inl ⟨rfl, rfl⟩, .inl ⟨rfl, rfl⟩, .inl ⟨rfl, rfl⟩, ?_, trivial⟩
        rw [← fin (.inr (by omega)), hes]
        first | exact .inl ⟨rfl, rfl⟩ | exact .inr ⟨rfl, 2, rfl⟩
    · have hd := of_decide_eq_false hd
      refine ⟨_, rfl, ?_⟩
      refine ⟨_, rfl, ?_⟩
      refine ⟨_, rfl, ?_⟩
      refine ⟨_, rfl, ?_⟩
      refine ⟨_, rfl, .inl ⟨rfl, rfl⟩, .inl ⟨rfl, rfl⟩, .inl ⟨rfl, rfl⟩, .inl ⟨rfl, rfl⟩, .inl ⟨rfl, rfl⟩, .inl ⟨rfl, rfl⟩, ?_, trivial⟩
      rw [← fin (.inl (by omega)), hes]
      first | exact .inl ⟨rfl, rfl⟩ | exact .inr ⟨rfl, 2, rfl⟩
end
/-- a bag of fields, made; its fields; the values of a name -/
theorem newB_a {st : St} {R : AV → St → Prop} (l : List Fld) (hl : l.length ≤ 1099511627776) (h : R (.ptr st.heap.length 0) ⟨st.heap ++ [[.sl .no 2 (fldL l)]], st.tk⟩) : ACalls Tryz.prog 22 [.sl .no 2 (fldL l)] st R := by
  refine ACalls.of_vc T_ok mixed Tryz.func22 rfl Tryz.call22 ?_
  refine .p rfl (clone_p l hl) ?_
  exact h
theorem listB_a {st : St} {R : AV → St → Prop} {p : Nat} (l : List Fld) (hl : l.length ≤ 1099511627776) (hp : st.heap[p]? = some [.sl .no 2 (fldL l)]) (h : R (.sl .no 2 (fldL l)) st) : ACalls Tryz.prog 24 [.ptr p 0] st R := by
  refine ACalls.of_vc T_ok mixed Tryz.func24 rfl Tryz.call24 ?_
  refine ⟨_, hp, ?_⟩
  refine .p rfl (clone_p l hl) ?_
  exact h
/-- a state that has grown: all that was is as it was -/
structure Gr (st st' : St) : Prop where
  pre : Pre st st'
  tl : st.tk.length ≤ st'.tk.length
  tk : ∀ t, t < st.tk.length → st'.tk[t]? = st.tk[t]?
theorem Gr.refl (st : St) : Gr st st := ⟨.refl _, Nat.le_refl _, fun _ _ => rfl⟩
theorem Gr.trans {a b c : St} (h : Gr a b) (g : Gr b c) : Gr a c := ⟨h.pre.trans g.pre, Nat.le_trans h.tl g.tl, fun t ht => (g.tk t (Nat.lt_of_lt_of_le ht h.tl)).trans (h.tk t ht)⟩
theorem last_at (h : List (List AV)) (x : List AV) : (h ++ [x])[h.length]? = some x := by simp
theorem last_set (h : List (List AV)) (x y : List AV) : (h ++ [x]).set h.length y = h ++ [y] := by simp
theorem last_upd (h : List (List AV)) (x y : List AV) : ((h ++ [x]).set h.length y)[h.length]? = some y := by rw [last_set, last_at]
/-- the values of a name -/
def valsW (name : ByteArray) (l : List Fld) : List ByteArray := (l.filter fun f => decide (foldB f.1 = foldB name)).map (·.2)
theorem valsW_len (name : ByteArray) (l : List Fld) : (valsW name l).length ≤ l.length := by unfold valsW; rw [List.length_map]; exact List.length_filter_le _ _
theorem valsW_mem {name : ByteArray} {l : List Fld} {v : ByteArray} (h : v ∈ valsW name l) : ∃ f ∈ l, v = f.2 := by
  unfold valsW at h
  obtain ⟨f, hf, rfl⟩ := List.mem_map.1 h
  exact ⟨f, (List.mem_filter.1 hf).1, rfl⟩
theorem valsW_snoc (name : ByteArray) (l : List Fld) (k : Nat) (h : k < l.length) : valsW name (l.take (k + 1)) = valsW name (l.take k) ++ (if decide (foldB l[k].1 = foldB name) = true then [l[k].2] else []) := by
  rw [List.take_succ_eq_append_getElem h]
  unfold valsW
  rw [List.filter_append, List.map_append]
  congr 1
  by_cases hd : decide (foldB l[k].1 = foldB name) = true
  · rw [if_pos hd]; simp only [List.filter, hd]; rfl
  · rw [if_neg hd]; rw [Bool.not_eq_true] at hd; simp only [List.filter, hd]; rfl
theorem valsW_congr {a b : ByteArray} (h : foldB a = foldB b) (l : List Fld) : valsW a l = valsW b l := by unfold valsW; rw [h]

section
attribute [local irreducible] vcApp
set_option maxHeartbeats 1000000 in
theorem values_a {st : St} {R : AV → St → Prop} {p : Nat} (l : List Fld) (name : ByteArray) (hl : l.length ≤ 1099511627776) (hz : ∀ f ∈ l, f.1.size ≤ 1099511627776 ∧ f.2.size ≤ 1099511627776) (hn : name.size ≤ 1099511627776) (hp : st.heap[p]? = some [.sl .no 2 (fldL l)])
    (h : ∀ a st', Gr st st' → Acc st.tk.length st'.tk 1 a (strL (valsW name l)) → R a st') : ACalls Tryz.prog 40 [.ptr p 0, .s name] st R := by
  have hmx : maxLen = 9223372036854775807 := rfl
  have el := fldL_len l
  refine ACalls.of_vc T_ok mixed Tryz.func40 rfl Tryz.call40 ?_
  refine .s (listB_a l hl hp ?_)
  refine vc_loop [5, 11] (fun g vals st' => ∃ (j : Nat) (a : AV), j + g = l.length ∧ vals = [a, .i j] ∧ j ≤ l.length ∧ Gr st st' ∧ Acc st.tk.length st'.tk 1 a (strL (valsW name (l.take j)))) l.length rfl ⟨0, _, by omega, rfl, Nat.zero_le _, .refl _, .nil⟩ ?_
  rintro g vals st' ⟨j, a, hj, rfl, hjl, hG, hA⟩
  have al := strL_len (valsW name (l.take j))
  have al2 := valsW_len name (l.take j)
  rw [List.length_take] at al2
  generalize hes : strL (valsW name (l.take j)) = es at hA al
  cases hA with
  | nil =>
    refine cnd_split (fun hd => ?_) (fun hd => ?_)
    · have hd := of_decide_eq_true hd
      have j1 : j < l.length := by omega
      have sz := hz l[j] (List.getElem_mem j1)
      have hs := valsW_snoc name l j j1
      refine ⟨j, _, rfl, fldL_at j1, ?_⟩
      refine ⟨_, last_at _ _, ?_⟩
      refine ⟨_, last_upd _ _ _, ?_⟩
      refine .p rfl (sameO_p _ _ (by omega) (by omega)) ?_
      have gr : ∀ tk', st'.tk.length ≤ tk'.length → (∀ t, t < st.tk.length → tk'[t]? = st'.tk[t]?) → Gr st ⟨(st'.heap ++ [[AV.s .empty, AV.s .empty]]).set st'.heap.length [AV.s l[j].1, AV.s l[j].2], tk'⟩ := fun tk' h1 h2 => ⟨hG.pre.trans ⟨[[AV.s l[j].1, AV.s l[j].2]], last_set _ _ _⟩, Nat.le_trans hG.tl h1, fun t ht => (h2 t ht).trans (hG.tk t ht)⟩
      refine cnd_split (fun h3 => ?_) (fun h3 => ?_)
      · rw [if_pos h3] at hs
        refine ⟨_, last_upd _ _ _, ?_⟩
        refine Acc.app (n := st.tk.length) (i := ti9) (es := []) .nil hG.tl (List.cons_ne_nil _ _) ?_ ?_ (fun t9 e9 tk9 z0 z1 z2 z3 => ?_)
        · show (([] : List (List AV)).length + 1) * 16 ≤ _; omega
        · show ([] : List (List AV)).length + 1 ≤ _; omega
        intro c hc
        rw [IntWalk.i64_in _ (by omega)] at hc
        obtain rfl : c = ((j + 1 : Nat) : Int) := by omega
        refine ⟨g - 1, by omega, j + 1, _, by omega, rfl, j1, ⟨hG.pre.trans ⟨[[AV.s l[j].1, AV.s l[j].2]], last_set _ _ _⟩, z2, fun t ht => (z3 t ht).trans (hG.tk t ht)⟩, ?_⟩
        rw [hs, ← strL_app, hes]
        exact .own _ _ _ z0 z1
      · rw [if_neg (by rw [h3]; decide), List.append_nil] at hs
        intro c hc
        rw [IntWalk.i64_in _ (by omega)] at hc
        obtain rfl : c = ((j + 1 : Nat) : Int) := by omega
        refine ⟨g - 1, by omega, j + 1, _, by omega, rfl, j1, gr _ (Nat.le_refl _) (fun _ _ => rfl), ?_⟩
        rw [hs, hes]
        exact .nil
    · have hd := of_decide_eq_false hd
      refine h _ _ hG ?_
      rw [List.take_of_length_le (by omega)] at hes
      rw [hes]
      exact .nil
  | own t0 e0 es q0 q1 =>
    refine cnd_split (fun hd => ?_) (fun hd => ?_)
    · have hd := of_decide_eq_true hd
      have j1 : j < l.length := by omega
      have sz := hz l[j] (List.getElem_mem j1)
      have hs := valsW_snoc name l j j1
      refine ⟨j, _, rfl, fldL_at j1, ?_⟩
      refine ⟨_, last_at _ _, ?_⟩
      refine ⟨_, last_upd _ _ _, ?_⟩
      refine .p rfl (sameO_p _ _ (by omega) (by omega)) ?_
      have gr : ∀ tk', st'.tk.length ≤ tk'.length → (∀ t, t < st.tk.length → tk'[t]? = st'.tk[t]?) → Gr st ⟨(st'.heap ++ [[AV.s .empty, AV.s .empty]]).set st'.heap.length [AV.s l[j].1, AV.s l[j].2], tk'⟩ := fun tk' h1 h2 => ⟨hG.pre.trans ⟨[[AV.s l[j].1, AV.s l[j].2]], last_set _ _ _⟩, Nat.le_trans hG.tl h1, fun t ht => (h2 t ht).trans (hG.tk t ht)⟩
      refine cnd_split (fun h3 => ?_) (fun h3 => ?_)
      · rw [if_pos h3] at hs
        refine ⟨_, last_upd _ _ _, ?_⟩
        refine Acc.app (n := st.tk.length) (i := ti9) (es := es) (.own _ _ _ q0 q1) hG.tl (List.cons_ne_nil _ _) ?_ ?_ (fun t9 e9 tk9 z0 z1 z2 z3 => ?_)
        · show ((es : List (List AV)).length + 1) * 16 ≤ _; omega
        · show (es : List (List AV)).length + 1 ≤ _; omega
        intro c hc
        rw [IntWalk.i64_in _ (by omega)] at hc
        obtain rfl : c = ((j + 1 : Nat) : Int) := by omega
        refine ⟨g - 1, by omega, j + 1, _, by omega, rfl, j1, ⟨hG.pre.trans ⟨[[AV.s l[j].1, AV.s l[j].2]], last_set _ _ _⟩, z2, fun t ht => (z3 t ht).trans (hG.tk t ht)⟩, ?_⟩
        rw [hs, ← strL_app, hes]
        exact .own _ _ _ z0 z1
      · rw [if_neg (by rw [h3]; decide), List.append_nil] at hs
        intro c hc
        rw [IntWalk.i64_in _ (by omega)] at hc
        obtain rfl : c = ((j + 1 : Nat) : Int) := by omega
        refine ⟨g - 1, by omega, j + 1, _, by omega, rfl, j1, gr _ (Nat.le_refl _) (fun _ _ => rfl), ?_⟩
        rw [hs, hes]
        exact (.own _ _ _ q0 q1)
    · have hd := of_decide_eq_false hd
      refine h _ _ hG ?_
      rw [List.take_of_length_le (by omega)] at hes
      rw [hes]
      exact (.own _ _ _ q0 q1)
end
structure FldOk (l : List Fld) : Prop where
  len : l.length ≤ 1000
  size : ∀ f ∈ l, f.1.size ≤ 4000 ∧ f.2.size ≤ 4000
theorem FldOk.big {l : List Fld} (h : FldOk l) : ∀ f ∈ l, f.1.size ≤ 1099511627776 ∧ f.2.size ≤ 1099511627776 := fun f hf => by have := h.size f hf; omega
theorem FldOk.vlen {l : List Fld} (h : FldOk l) (n : ByteArray) : (valsW n l).length ≤ 1000 := Nat.le_trans (valsW_len n l) h.len
theorem FldOk.vsize {l : List Fld} (h : FldOk l) (n : ByteArray) : ∀ x ∈ valsW n l, x.size ≤ 4000 := fun x hx => by
  obtain ⟨f, hf, rfl⟩ := valsW_mem hx
  exact (h.size f hf).2
theorem FldOk.few (l : List Fld) : FldOk (fewF l) := ⟨by have := fewF_len l; omega, fun f hf => by have := fewF_size l f hf; omega⟩
theorem nil_len (l : List ByteArray) : (strL l = [] ↔ l = []) := by unfold strL; exact List.map_eq_nil_iff
/-- a head -/
abbrev hdA (k c mi : Int) (m t r : ByteArray) (row : AV) : AV := .agg [.i k, .s m, .s t, .i c, .s r, .i mi, row]
theorem hdW {k c mi : Int} {m t r : ByteArray} {row : AV} (l : List Fld) (h : cellW row (.sl .no 2 (fldL l))) : argW (hdA k c mi m t r row) (hdA k c mi m t r (.sl .no 2 (fldL l))) :=
  .inl (.inr ⟨_, _, rfl, rfl, .inl ⟨rfl, rfl⟩, .inl ⟨rfl, rfl⟩, .inl ⟨rfl, rfl⟩, .inl ⟨rfl, rfl⟩, .inl ⟨rfl, rfl⟩, .inl ⟨rfl, rfl⟩, h, trivial⟩)
theorem hdW1 {k c mi : Int} {m t r : ByteArray} {row : AV} (l : List Fld) (h : cellW row (.sl .no 2 (fldL l))) : ArgsW [hdA k c mi m t r row] [hdA k c mi m t r (.sl .no 2 (fldL l))] := ⟨hdW l h, trivial⟩
end Go.Proofs.YtgkhnllgmfjhpaaGreatDoor
