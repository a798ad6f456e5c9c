/- Lines of rules, read by the program: its reader's parts, of which each may give the line up. No statement of its own. -/
import Derived.Test.YtgaidgblihnldaaGreatDoorRa
import Derived.Test.YtgaidgblihnldaaGreatDoorFp
import Derived.Test.YtgaidgblihnldaaGreatDoorTmA
set_option linter.unusedSimpArgs false
set_option linter.unusedVariables false
set_option maxRecDepth 100000
namespace Go.Proofs.YtgaidgblihnldaaGreatDoor
open Go.RowKit
/-- what a line is given up with -/
def flt (e : Int) : List PanicEntry := [{ v := .iface 88 (.agg #[.int .i64 e]), recovered := false }]
section
variable {st : St} {sc rd k n : Nat} {s : ByteArray} {l : AV} {R : AV → St → Prop} {X : List PanicEntry → St → Prop}
theorem fail_x (e : Int) (hX : X (flt e) st) : ACallsX Tryz.prog 85 [.ptr rd 0, .i e] st R X := by
  refine ACallsX.of_vcY (bv := false) (esc := fun _ => false) T_ok mixed Tryz.func85 rfl Tryz.call85 ?_
  exact hX
theorem must_x (b : Bool) (hR : b = true → R (.tup []) st) (hX : b = false → X (flt 2) st) : ACallsX Tryz.prog 83 [.ptr rd 0, .b b] st R X := by
  refine ACallsX.of_vcY (bv := false) (esc := fun _ => false) T_ok mixed Tryz.func83 rfl Tryz.call83 ?_
  refine cnd_split (fun h => ?_) (fun h => ?_)
  · rw [Bool.not_eq_true'] at h
    refine .x (fail_x 2 (hX h))
  · rw [Bool.not_eq_false'] at h
    exact hR h
theorem blanks_a (h : Sc st sc s k) (hR : R (.s (s.extract k (k + tw blkI s k))) (st.sc sc s (k + tw blkI s k))) : ACalls Tryz.prog 109 [.ptr sc 0] st R := by
  refine ACalls.of_vc T_ok mixed Tryz.func109 rfl Tryz.call109 ?_
  refine .s (while_a blk_f h ?_)
  exact hR
/-- the reader's variable -/
theorem gap_x (h : Sc st sc s k) (hr : st.heap[rd]? = some [.ptr sc 0, l]) (hne : rd ≠ sc) (hn : n ≤ st.tk.length) (hR : ∀ j, gapS s k = some j → ∀ st', Mv n (· = sc) st st' → Sc st' sc s j → R (.tup []) st') (hX : gapS s k = none → ∀ st', Mv n (· = sc) st st' → X (flt 2) st') :
    ACallsX Tryz.prog 78 [.ptr rd 0] st R X := by
  have hl := tw_le blkI s k h.le
  have he := ext_len s k (k + tw blkI s k) hl
  have hG : gapS s k = if tw blkI s k = 0 ∧ k ≠ 0 ∧ k < s.size then none else some (k + tw blkI s k) := rfl
  refine ACallsX.of_vcY (bv := false) (esc := fun _ => false) T_ok mixed Tryz.func78 rfl Tryz.call78 ?_
  refine ⟨_, hr, ?_⟩
  refine .s (at_a h ?_)
  refine ⟨_, hr, ?_⟩
  refine .s (blanks_a h ?_)
  have hs2 := h.sc (j := k + tw blkI s k) hl
  have hr2 : (st.sc sc s (k + tw blkI s k)).heap[rd]? = some [.ptr sc 0, l] := (St.sc_ne hne.symm).trans hr
  have m2 : Mv n (· = sc) st (st.sc sc s (k + tw blkI s k)) := (Mv.refl (C := (· = sc)) hn).sc (fun _ => rfl) s _
  intro t ht
  cases t with
  | true =>
    have h1 : ¬ s.extract k (k + tw blkI s k) = .empty := fun e => by have := ht.2 e; cases this
    refine .x (must_x true (fun _ => hR _ (by rw [hG, if_neg (fun hh => h1 ((emp_iff _).2 (by rw [he]; omega)))]) _ m2 hs2) (fun e => by cases e))
  | false =>
    have h1 := (emp_iff _).1 (ht.1 rfl)
    rw [he] at h1
    refine cnd_split (fun h2 => ?_) (fun h2 => ?_)
    · have h2 := beq_iff_eq.1 h2
      refine .x (must_x true (fun _ => hR _ (by rw [hG, if_neg (fun hh => hh.2.1 (by omega))]) _ m2 hs2) (fun e => by cases e))
    · have h2 := beq_eq_false_iff_ne.1 h2
      refine ⟨_, hr2, ?_⟩
      refine .s (end_a hs2 ?_)
      by_cases h3 : s.size ≤ k + tw blkI s k
      · rw [decide_eq_true h3]
        refine .x (must_x true (fun _ => hR _ (by rw [hG, if_neg (fun hh => by omega)]) _ m2 hs2) (fun e => by cases e))
      · rw [decide_eq_false h3]
        refine .x (must_x false (fun e => by cases e) (fun _ => hX (by rw [hG, if_pos ⟨by omega, by omega, by omega⟩]) _ m2))
theorem name_x (h : Sc st sc s k) (hr : st.heap[rd]? = some [.ptr sc 0, l]) (hne : rd ≠ sc) (hn : n ≤ st.tk.length) (hR : ∀ t j, nameS s k = some (t, j) → ∀ st', Mv n (· = sc) st st' → Sc st' sc s j → R (.s t) st') (hX : nameS s k = none → ∀ st', Mv n (· = sc) st st' → X (flt 2) st') :
    ACallsX Tryz.prog 80 [.ptr rd 0] st R X := by
  have hl := tw_le tokI s k h.le
  have hG : nameS s k = if tw tokI s k = 0 then none else match gapS s (k + tw tokI s k) with
    | none => none
    | some j => some (s.extract k (k + tw tokI s k), j) := rfl
  have hs2 := h.sc (j := k + tw tokI s k) hl
  have hr2 : (st.sc sc s (k + tw tokI s k)).heap[rd]? = some [.ptr sc 0, l] := (St.sc_ne hne.symm).trans hr
  have m2 : Mv n (· = sc) st (st.sc sc s (k + tw tokI s k)) := (Mv.refl (C := (· = sc)) hn).sc (fun _ => rfl) s _
  refine ACallsX.of_vcY (bv := false) (esc := fun _ => false) T_ok mixed Tryz.func80 rfl Tryz.call80 ?_
  refine ⟨_, hr, ?_⟩
  refine .s (token_a h ?_)
  refine .x (must_x _ (fun hb => ?_) (fun hb => ?_))
  · rw [Bool.not_eq_true'] at hb
    rw [if_neg (of_decide_eq_false hb)] at hG
    refine .x (gap_x hs2 hr2 hne m2.tl (fun j hj st' m hs => ?_) (fun hj st' m => ?_))
    · rw [hj] at hG
      exact hR _ _ hG _ (m2.trans m (fun q _ e => e)) hs
    · rw [hj] at hG
      exact hX hG _ (m2.trans m (fun q _ e => e))
  · rw [Bool.not_eq_false'] at hb
    rw [if_pos (of_decide_eq_true hb)] at hG
    exact hX hG _ m2
theorem value_x (h : Sc st sc s k) (hm : s.size < 140737488355328) (hr : st.heap[rd]? = some [.ptr sc 0, l]) (hne : rd ≠ sc) (hn : n ≤ st.tk.length) (hR : ∀ t j, valueS s k = some (t, j) → ∀ st', Mv n (· = sc) st st' → Sc st' sc s j → R (.s t) st') (hX : valueS s k = none → ∀ st', Mv n (· = sc) st st' → X (flt 2) st') :
    ACallsX Tryz.prog 111 [.ptr rd 0] st R X := by
  have hG : valueS s k = match frontS s k with
    | none => none
    | some (v, i) => match gapS s i with
      | none => none
      | some j => some (⟨v.toArray⟩, j) := rfl
  refine ACallsX.of_vcY (bv := false) (esc := fun _ => false) T_ok mixed Tryz.func111 rfl Tryz.call111 ?_
  refine ⟨_, hr, ?_⟩
  refine .s (read_a h hn hm (fun hf st' m hs => ?_) (fun v j hf st' m hs => ?_))
  · rw [hf] at hG
    exact .x (must_x _ (fun hb => by cases hb) (fun _ => hX hG _ m))
  · rw [hf] at hG
    refine .x (must_x _ (fun _ => ?_) (fun hb => by cases hb))
    have hr2 : st'.heap[rd]? = some [.ptr sc 0, l] := m.at' hr hne
    refine .x (gap_x hs hr2 hne m.tl (fun j' hj st2 m2 hs2 => ?_) (fun hj st2 m2 => ?_))
    · simp only [hj] at hG
      exact hR _ _ hG _ (m.trans m2 (fun q _ e => e)) hs2
    · simp only [hj] at hG
      exact hX hG _ (m.trans m2 (fun q _ e => e))
theorem parts_x (h : Sc st sc s k) (hm : s.size < 1000000) (hr : st.heap[rd]? = some [.ptr sc 0, .b false]) (hne : rd ≠ sc) (hn : n ≤ st.tk.length)
    (hR : ∀ p b j, partsS s k = some (p, b, j) → ∀ st', Mv n (fun q => q = sc ∨ q = rd) st st' → Sc st' sc s j → st'.heap[rd]? = some [.ptr sc 0, .b b] → R (.sl .no 2 (prtL p)) st') (hX : partsS s k = none → ∀ st', Mv n (fun q => q = sc ∨ q = rd) st st' → X (flt 2) st') :
    ACallsX Tryz.prog 135 [.ptr rd 0] st R X := by
  have hG : partsS s k = match valueS s k with
    | none => none
    | some (v, j) => if (parseT v).2 = 0 ∨ (parseT v).2 = 3 then some ((parseT v).1, decide ((parseT v).2 = 3), j) else none := rfl
  refine ACallsX.of_vcY (bv := false) (esc := fun _ => false) T_ok mixed Tryz.func135 rfl Tryz.call135 ?_
  refine .x (value_x h (by omega) hr hne hn (fun v j hv st' m hs => ?_) (fun hv st' m => ?_))
  · have hvl := valueS_le h.le hv
    have hr2 : st'.heap[rd]? = some [.ptr sc 0, .b false] := m.at' hr hne
    simp only [hv] at hG
    have hp := tparse_p v (by omega)
    generalize parseT v = Z at hG hp
    obtain ⟨p, e⟩ := Z
    refine .p rfl hp ?_
    refine ⟨_, hr2, ?_⟩
    have hG : partsS s k = if e = 0 ∨ e = 3 then some (p, decide (e = 3), j) else none := hG
    have m3 : Mv n (fun q => q = sc ∨ q = rd) st ⟨st'.heap.set rd [.ptr sc 0, .b (e == 3)], st'.tk⟩ := (m.wide fun q _ e => .inl e).set (fun _ => .inr rfl) _
    have hs3 : Sc ⟨st'.heap.set rd [.ptr sc 0, .b (e == 3)], st'.tk⟩ sc s j := ⟨(List.getElem?_set_ne hne).trans hs.at', hs.le, hs.max⟩
    have hr3 : (st'.heap.set rd [.ptr sc 0, .b (e == 3)])[rd]? = some [.ptr sc 0, .b (e == 3)] := st_eq hr2
    refine cnd_split (fun h0 => ?_) (fun h0 => ?_)
    · have h0 := beq_iff_eq.1 h0
      rw [if_pos (.inl h0)] at hG
      refine .x (must_x true (fun _ => hR _ _ _ hG _ m3 hs3 (hr3.trans (by rw [Bool.beq_eq_decide_eq]))) (fun e => by cases e))
    · have h0 := beq_eq_false_iff_ne.1 h0
      refine ⟨_, hr3, ?_⟩
      refine .x (must_x (e == 3) (fun h1 => ?_) (fun h1 => ?_))
      · rw [if_pos (.inr (beq_iff_eq.1 h1))] at hG
        exact hR _ _ _ hG _ m3 hs3 (hr3.trans (by rw [Bool.beq_eq_decide_eq]))
      · rw [if_neg (fun hc => hc.elim h0 (beq_eq_false_iff_ne.1 h1))] at hG
        exact hX hG _ m3
  · rw [hv] at hG
    exact hX hG _ (m.wide fun q _ e => .inl e)
theorem guard_x (h : Sc st sc s k) (hm : s.size < 1000000) (hr : st.heap[rd]? = some [.ptr sc 0, l]) (hne : rd ≠ sc) (hn : n ≤ st.tk.length)
    (hR : ∀ g j, guardS s k = some (g, j) → ∀ st', Mv n (· = sc) st st' → Sc st' sc s j → R (.agg [.i g.1, .s g.2.1, .s g.2.2]) st') (hX : guardS s k = none → ∀ st', Mv n (· = sc) st st' → X (flt 2) st') :
    ACallsX Tryz.prog 81 [.ptr rd 0] st R X := by
  have hG : guardS s k = match nameS s k with
    | none => none
    | some (w, i) => match nameS s i with
      | none => none
      | some (n, j) => if w = kHas then some ((1, n, ⟨#[]⟩), j) else if w = kLacks then some ((2, n, ⟨#[]⟩), j) else if w = kIs then
          (match valueS s j with
          | none => none
          | some (v, j) => some ((3, n, v), j)) else none := rfl
  have hlt := h.lt
  have hrl := lt_of hr
  refine ACallsX.of_vcY (bv := false) (esc := fun _ => false) T_ok mixed Tryz.func81 rfl Tryz.call81 ?_
  have m0 : Mv n (fun _ => False) st ⟨st.heap ++ [[.i 0, .s ⟨#[]⟩, .s ⟨#[]⟩]], st.tk⟩ := (Mv.refl hn).alloc _
  have m1 : Mv n (· = sc) st ⟨st.heap ++ [[.i 0, .s ⟨#[]⟩, .s ⟨#[]⟩]], st.tk⟩ := (Mv.refl hn).alloc _
  refine .x (name_x (h.mv m0 (fun e => e)) (m0.at' hr (fun e => e)) hne m1.tl (fun w i hw st2 m2 hs2 => ?_) (fun hw st2 m2 => ?_))
  rotate_left
  · rw [hw] at hG
    exact hX hG _ (m1.trans m2 (fun q _ e => e))
  simp only [hw] at hG
  have M2 := m1.trans m2 (fun q _ e => e)
  have g2 : st2.heap[st.heap.length]? = some [.i 0, .s ⟨#[]⟩, .s ⟨#[]⟩] := m2.at' (last_at _ _) (by omega)
  refine .x (name_x hs2 (M2.at' hr hne) hne M2.tl (fun nm j hnm st3 m3 hs3 => ?_) (fun hnm st3 m3 => ?_))
  rotate_left
  · rw [hnm] at hG
    exact hX hG _ (M2.trans m3 (fun q _ e => e))
  simp only [hnm] at hG
  have M3 := M2.trans m3 (fun q _ e => e)
  have g3 : st3.heap[st.heap.length]? = some [.i 0, .s ⟨#[]⟩, .s ⟨#[]⟩] := m3.at' g2 (by omega)
  have hl3 := M3.len
  have hp3 := lt_of g3
  refine ⟨_, last_at _ _, ?_⟩
  have z1 := last_upd st3.heap [AV.i 0, AV.s ⟨#[]⟩, AV.s ⟨#[]⟩] [AV.i 0, AV.s nm, AV.s ⟨#[]⟩]
  have z0 := st_ne (x := [AV.i 0, AV.s nm, AV.s ⟨#[]⟩]) (m := st3.heap.length) (by omega) (ap (x := [AV.i 0, AV.s ⟨#[]⟩, AV.s ⟨#[]⟩]) g3)
  have M9 : Mv n (· = sc) st ⟨(st3.heap ++ [[AV.i 0, AV.s ⟨#[]⟩, AV.s ⟨#[]⟩]]).set st3.heap.length [AV.i 0, AV.s nm, AV.s ⟨#[]⟩], st3.tk⟩ := (M3.alloc _).set (fun h => by omega) _
  have hs9 : Sc ⟨(st3.heap ++ [[AV.i 0, AV.s ⟨#[]⟩, AV.s ⟨#[]⟩]]).set st3.heap.length [AV.i 0, AV.s nm, AV.s ⟨#[]⟩], st3.tk⟩ sc s j := ⟨(List.getElem?_set_ne (by omega)).trans (ap hs3.at'), hs3.le, hs3.max⟩
  intro t1 h1
  cases t1 with
  | true =>
    have e1 : w = kHas := h1.1 rfl
    rw [if_pos e1] at hG
    refine ⟨_, z1, ?_⟩
    have w0 := st_ne (x := [AV.i 1, AV.s nm, AV.s ⟨#[]⟩]) (m := st3.heap.length) (by omega) z0
    have w1 := st_eq (x := [AV.i 1, AV.s nm, AV.s ⟨#[]⟩]) z1
    refine ⟨_, w1, ?_⟩
    refine ⟨_, w0, ?_⟩
    have w2 := st_eq (x := [AV.i 1, AV.s nm, AV.s ⟨#[]⟩]) w0
    refine ⟨_, w2, ?_⟩
    refine hR (1, nm, ⟨#[]⟩) _ (by exact hG) _ (Mv.set (Mv.set M9 (fun h => by omega) _) (fun h => by omega) _) ⟨(List.getElem?_set_ne (by omega)).trans ((List.getElem?_set_ne (by omega)).trans hs9.at'), hs9.le, hs9.max⟩
  | false =>
    have e1 : ¬ w = kHas := fun e => by have := h1.2 e; cases this
    rw [if_neg e1] at hG
    intro t2 h2
    cases t2 with
    | true =>
      have e2 : w = kLacks := h2.1 rfl
      rw [if_pos e2] at hG
      refine ⟨_, z1, ?_⟩
      have w0 := st_ne (x := [AV.i 2, AV.s nm, AV.s ⟨#[]⟩]) (m := st3.heap.length) (by omega) z0
      have w1 := st_eq (x := [AV.i 2, AV.s nm, AV.s ⟨#[]⟩]) z1
      refine ⟨_, w1, ?_⟩
      refine ⟨_, w0, ?_⟩
      have w2 := st_eq (x := [AV.i 2, AV.s nm, AV.s ⟨#[]⟩]) w0
      refine ⟨_, w2, ?_⟩
      refine hR (2, nm, ⟨#[]⟩) _ (by exact hG) _ (Mv.set (Mv.set M9 (fun h => by omega) _) (fun h => by omega) _) ⟨(List.getElem?_set_ne (by omega)).trans ((List.getElem?_set_ne (by omega)).trans hs9.at'), hs9.le, hs9.max⟩
    | false =>
      have e2 : ¬ w = kLacks := fun e => by have := h2.2 e; cases this
      rw [if_neg e2] at hG
      intro t3 h3
      cases t3 with
      | true =>
        have e3 : w = kIs := h3.1 rfl
        rw [if_pos e3] at hG
        generalize hS : (⟨(st3.heap ++ [[AV.i 0, AV.s ⟨#[]⟩, AV.s ⟨#[]⟩]]).set st3.heap.length [AV.i 0, AV.s nm, AV.s ⟨#[]⟩], st3.tk⟩ : St) = S9 at *
        have q0 : S9.heap[st.heap.length]? = some [.i 0, .s ⟨#[]⟩, .s ⟨#[]⟩] := by rw [← hS]; exact z0
        have q1 : S9.heap[st3.heap.length]? = some [.i 0, .s nm, .s ⟨#[]⟩] := by rw [← hS]; exact z1
        clear hS z0 z1
        refine .x (value_x hs9 (by omega) (M9.at' hr hne) hne M9.tl (fun v j9 hv st4 m4 hs4 => ?_) (fun hv st4 m4 => ?_))
        rotate_left
        · rw [hv] at hG
          exact hX hG _ (M9.trans m4 (fun q _ e => e))
        simp only [hv] at hG
        have M9 := M9.trans m4 (fun q _ e => e)
        have z0 := m4.at' q0 (by omega)
        have z1 := m4.at' q1 (by omega)
        have hs9 := hs4
        refine ⟨_, z1, ?_⟩
        have y0 := st_ne (x := [AV.i 3, AV.s nm, AV.s ⟨#[]⟩]) (m := st3.heap.length) (by omega) z0
        have y1 := st_eq (x := [AV.i 3, AV.s nm, AV.s ⟨#[]⟩]) z1
        refine ⟨_, y1, ?_⟩
        have w0 := st_ne (x := [AV.i 3, AV.s nm, AV.s v]) (m := st3.heap.length) (by omega) y0
        have w1 := st_eq (x := [AV.i 3, AV.s nm, AV.s v]) y1
        refine ⟨_, w1, ?_⟩
        refine ⟨_, w0, ?_⟩
        have w2 := st_eq (x := [AV.i 3, AV.s nm, AV.s v]) w0
        refine ⟨_, w2, ?_⟩
        refine hR (3, nm, v) _ hG _ (Mv.set (Mv.set (Mv.set M9 (fun h => by omega) _) (fun h => by omega) _) (fun h => by omega) _) ⟨(List.getElem?_set_ne (by omega)).trans ((List.getElem?_set_ne (by omega)).trans ((List.getElem?_set_ne (by omega)).trans hs9.at')), hs9.le, hs9.max⟩
      | false =>
        have e3 : ¬ w = kIs := fun e => by have := h3.2 e; cases this
        rw [if_neg e3] at hG
        refine .x (fail_x 2 (hX hG _ M9))
/-- a template's cell -/
def pcI (pc : AV) (ps : List Prt) : Prop := pc = .sl .no 2 (prtL ps) ∨ (pc = .nilS ∧ ps = [])
/-- what a deed does to the rule's variable -/
def ActR (n sc rd rx : Nat) (s : ByteArray) (c : List AV) (nm : ByteArray) (st : St) (R : AV → St → Prop) (o : Option (Ac × Nat)) : Prop :=
  ∀ a j, o = some (a, j) → ∀ st' pc, Mv n (fun q => q = sc ∨ q = rd ∨ q = rx) st st' → Sc st' sc s j → st'.heap[rd]? = some [.ptr sc 0, .b a.2.2.2] → st'.heap[rx]? = some (c ++ [.i a.1, .s nm, .s a.2.1, pc]) → pcI pc a.2.2.1 → R (.tup []) st'
theorem set_x {rx : Nat} {sd gk : Int} {ga gb nm : ByteArray} (h : Sc st sc s k) (hm : s.size < 1000000) (hr : st.heap[rd]? = some [.ptr sc 0, .b false]) (hx : st.heap[rx]? = some [AV.i sd, AV.i gk, AV.s ga, AV.s gb, .i 0, .s nm, .s ⟨#[]⟩, .nilS]) (hne : rd ≠ sc) (hn1 : rx ≠ sc) (hn2 : rx ≠ rd) (hn : n ≤ st.tk.length)
    (hR : ActR n sc rd rx s [AV.i sd, AV.i gk, AV.s ga, AV.s gb] nm st R (setS 1 s k)) (hX : setS 1 s k = none → ∀ st', Mv n (fun q => q = sc ∨ q = rd ∨ q = rx) st st' → X (flt 2) st') :
    ACallsX Tryz.prog 112 [.ptr rd 0, .ptr rx 0] st R X := by
  have hG : setS 1 s k = match partsS s k with
    | none => none
    | some (l, b, j) => some ((1, ⟨#[]⟩, l, b), j) := rfl
  refine ACallsX.of_vcY (bv := false) (esc := fun _ => false) T_ok mixed Tryz.func112 rfl Tryz.call112 ?_
  refine .x (parts_x h hm hr hne hn (fun p b j hp st' m hs hr' => ?_) (fun hp st' m => ?_))
  · simp only [hp] at hG
    have hx' := m.at' hx (fun e => e.elim hn1 hn2)
    refine ⟨_, hx', ?_⟩
    have x1 := st_eq (x := [AV.i sd, AV.i gk, AV.s ga, AV.s gb, AV.i 1, AV.s nm, AV.s ⟨#[]⟩, AV.nilS]) hx'
    refine ⟨_, x1, ?_⟩
    have x2 := st_eq (x := [AV.i sd, AV.i gk, AV.s ga, AV.s gb, AV.i 1, AV.s nm, AV.s ⟨#[]⟩, AV.sl .no 2 (prtL p)]) x1
    refine hR _ _ hG _ _ (Mv.set (Mv.set (m.wide fun q _ e => e.elim .inl (fun e => .inr (.inl e))) (fun _ => .inr (.inr rfl)) _) (fun _ => .inr (.inr rfl)) _) ⟨(List.getElem?_set_ne hn1).trans ((List.getElem?_set_ne hn1).trans hs.at'), hs.le, hs.max⟩ ((List.getElem?_set_ne hn2).trans ((List.getElem?_set_ne hn2).trans hr')) x2 (.inl rfl)
  · rw [hp] at hG
    exact hX hG _ (m.wide fun q _ e => e.elim .inl (fun e => .inr (.inl e)))
theorem add_x {rx : Nat} {sd gk : Int} {ga gb nm : ByteArray} (h : Sc st sc s k) (hm : s.size < 1000000) (hr : st.heap[rd]? = some [.ptr sc 0, .b false]) (hx : st.heap[rx]? = some [AV.i sd, AV.i gk, AV.s ga, AV.s gb, .i 0, .s nm, .s ⟨#[]⟩, .nilS]) (hne : rd ≠ sc) (hn1 : rx ≠ sc) (hn2 : rx ≠ rd) (hn : n ≤ st.tk.length)
    (hR : ActR n sc rd rx s [AV.i sd, AV.i gk, AV.s ga, AV.s gb] nm st R (setS 2 s k)) (hX : setS 2 s k = none → ∀ st', Mv n (fun q => q = sc ∨ q = rd ∨ q = rx) st st' → X (flt 2) st') :
    ACallsX Tryz.prog 113 [.ptr rd 0, .ptr rx 0] st R X := by
  have hG : setS 2 s k = match partsS s k with
    | none => none
    | some (l, b, j) => some ((2, ⟨#[]⟩, l, b), j) := rfl
  refine ACallsX.of_vcY (bv := false) (esc := fun _ => false) T_ok mixed Tryz.func113 rfl Tryz.call113 ?_
  refine .x (parts_x h hm hr hne hn (fun p b j hp st' m hs hr' => ?_) (fun hp st' m => ?_))
  · simp only [hp] at hG
    have hx' := m.at' hx (fun e => e.elim hn1 hn2)
    refine ⟨_, hx', ?_⟩
    have x1 := st_eq (x := [AV.i sd, AV.i gk, AV.s ga, AV.s gb, AV.i 2, AV.s nm, AV.s ⟨#[]⟩, AV.nilS]) hx'
    refine ⟨_, x1, ?_⟩
    have x2 := st_eq (x := [AV.i sd, AV.i gk, AV.s ga, AV.s gb, AV.i 2, AV.s nm, AV.s ⟨#[]⟩, AV.sl .no 2 (prtL p)]) x1
    refine hR _ _ hG _ _ (Mv.set (Mv.set (m.wide fun q _ e => e.elim .inl (fun e => .inr (.inl e))) (fun _ => .inr (.inr rfl)) _) (fun _ => .inr (.inr rfl)) _) ⟨(List.getElem?_set_ne hn1).trans ((List.getElem?_set_ne hn1).trans hs.at'), hs.le, hs.max⟩ ((List.getElem?_set_ne hn2).trans ((List.getElem?_set_ne hn2).trans hr')) x2 (.inl rfl)
  · rw [hp] at hG
    exact hX hG _ (m.wide fun q _ e => e.elim .inl (fun e => .inr (.inl e)))
theorem remove_x {rx : Nat} {sd gk : Int} {ga gb nm : ByteArray} (h : Sc st sc s k) (hr : st.heap[rd]? = some [.ptr sc 0, .b false]) (hx : st.heap[rx]? = some [AV.i sd, AV.i gk, AV.s ga, AV.s gb, .i 0, .s nm, .s ⟨#[]⟩, .nilS]) (hn1 : rx ≠ sc) (hn2 : rx ≠ rd) (hn : n ≤ st.tk.length)
    (hR : ActR n sc rd rx s [AV.i sd, AV.i gk, AV.s ga, AV.s gb] nm st R (some ((3, ⟨#[]⟩, [], false), k))) :
    ACallsX Tryz.prog 114 [.ptr rd 0, .ptr rx 0] st R X := by
  refine ACallsX.of_vcY (bv := false) (esc := fun _ => false) T_ok mixed Tryz.func114 rfl Tryz.call114 ?_
  refine ⟨_, hx, ?_⟩
  have x1 := st_eq (x := [AV.i sd, AV.i gk, AV.s ga, AV.s gb, AV.i 3, AV.s nm, AV.s ⟨#[]⟩, AV.nilS]) hx
  refine hR _ _ rfl _ _ (Mv.set (Mv.refl hn) (fun _ => .inr (.inr rfl)) _) ⟨(List.getElem?_set_ne hn1).trans h.at', h.le, h.max⟩ ((List.getElem?_set_ne hn2).trans hr) x1 (.inr ⟨rfl, rfl⟩)
theorem rename_x {rx : Nat} {sd gk : Int} {ga gb nm : ByteArray} (h : Sc st sc s k) (hr : st.heap[rd]? = some [.ptr sc 0, .b false]) (hx : st.heap[rx]? = some [AV.i sd, AV.i gk, AV.s ga, AV.s gb, .i 0, .s nm, .s ⟨#[]⟩, .nilS]) (hne : rd ≠ sc) (hn1 : rx ≠ sc) (hn2 : rx ≠ rd) (hn : n ≤ st.tk.length)
    (hR : ActR n sc rd rx s [AV.i sd, AV.i gk, AV.s ga, AV.s gb] nm st R (renS s k)) (hX : renS s k = none → ∀ st', Mv n (fun q => q = sc ∨ q = rd ∨ q = rx) st st' → X (flt 2) st') :
    ACallsX Tryz.prog 115 [.ptr rd 0, .ptr rx 0] st R X := by
  have hG : renS s k = match nameS s k with
    | none => none
    | some (t, j) => some ((4, t, [], false), j) := rfl
  refine ACallsX.of_vcY (bv := false) (esc := fun _ => false) T_ok mixed Tryz.func115 rfl Tryz.call115 ?_
  refine .x (name_x h hr hne hn (fun t j hp st' m hs => ?_) (fun hp st' m => ?_))
  · simp only [hp] at hG
    have hx' := m.at' hx hn1
    refine ⟨_, hx', ?_⟩
    have x1 := st_eq (x := [AV.i sd, AV.i gk, AV.s ga, AV.s gb, AV.i 4, AV.s nm, AV.s ⟨#[]⟩, AV.nilS]) hx'
    refine ⟨_, x1, ?_⟩
    have x2 := st_eq (x := [AV.i sd, AV.i gk, AV.s ga, AV.s gb, AV.i 4, AV.s nm, AV.s t, AV.nilS]) x1
    refine hR _ _ hG _ _ (Mv.set (Mv.set (m.wide fun q _ e => .inl e) (fun _ => .inr (.inr rfl)) _) (fun _ => .inr (.inr rfl)) _) ⟨(List.getElem?_set_ne hn1).trans ((List.getElem?_set_ne hn1).trans hs.at'), hs.le, hs.max⟩ ((List.getElem?_set_ne hn2).trans ((List.getElem?_set_ne hn2).trans (m.at' hr hne))) x2 (.inr ⟨rfl, rfl⟩)
  · rw [hp] at hG
    exact hX hG _ (m.wide fun q _ e => .inl e)
theorem side_x (h : Sc st sc s k) (hr : st.heap[rd]? = some [.ptr sc 0, l]) (hne : rd ≠ sc) (hn : n ≤ st.tk.length) (hR : ∀ t j, sideS s k = some (t, j) → ∀ st', Mv n (· = sc) st st' → Sc st' sc s j → R (.i t) st') (hX : sideS s k = none → ∀ st', Mv n (· = sc) st st' → X (flt 2) st') :
    ACallsX Tryz.prog 79 [.ptr rd 0] st R X := by
  have hG : sideS s k = match nameS s k with
    | none => none
    | some (w, j) => if w = kReq then some (1, j) else if w = kRes then some (2, j) else none := rfl
  refine ACallsX.of_vcY (bv := false) (esc := fun _ => false) T_ok mixed Tryz.func79 rfl Tryz.call79 ?_
  refine .x (name_x h hr hne hn (fun w j hp st' m hs => ?_) (fun hp st' m => ?_))
  rotate_left
  · rw [hp] at hG
    exact hX hG _ m
  simp only [hp] at hG
  intro t1 h1
  cases t1 with
  | true =>
    have e1 : w = kReq := h1.1 rfl
    rw [if_pos e1] at hG
    exact hR _ _ hG _ m hs
  | false =>
    have e1 : ¬ w = kReq := fun e => by have := h1.2 e; cases this
    rw [if_neg e1] at hG
    intro t2 h2
    cases t2 with
    | true =>
      have e2 : w = kRes := h2.1 rfl
      rw [if_pos e2] at hG
      exact hR _ _ hG _ m hs
    | false =>
      have e2 : ¬ w = kRes := fun e => by have := h2.2 e; cases this
      rw [if_neg e2] at hG
      refine .x (fail_x 2 (hX hG _ m))
end
end Go.Proofs.YtgaidgblihnldaaGreatDoor
