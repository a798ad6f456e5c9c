/- Lines of chunks: the program's reading. No statement of its own. -/
import Derived.Test.YtfhodppaelfcfaaDoorHx
import Derived.Test.YtfhodppaelfcfaaDoorMs
set_option maxRecDepth 100000
namespace Go.Proofs.YtfhodppaelfcfaaDoor
open Go.RowKit
theorem isHex_p (n : Int) (h0 : 0 ≤ n) (h1 : n ≤ 255) : APure Tryd.prog 65 [.int .u8 n] (.b (hexI n)) [] := by
  refine APure.of rfl (ACalls.of_vc T_ok mixed Tryd.func65 rfl Tryd.call65 ?_)
  unfold hexI
  refine .p rfl (isDigit_p n) ?_
  refine cnd_split (fun h => ?_) (fun h => ?_)
  · exact retb (by rw [h]; rfl)
  · rw [h]
    refine .p rfl (lower_p n h0 h1) ?_
    refine cnd_split (fun h => ?_) (fun h => ?_)
    · refine .p rfl (lower_p n h0 h1) ?_
      exact retb (by rw [show decide (97 ≤ lowI n) = true from h]; rfl)
    · exact retb (by rw [show decide (97 ≤ lowI n) = false from h]; rfl)
theorem isHex_f : ByteF 65 hexI := isHex_p
theorem readQ_H (s : ByteArray) : readQ hexI 16 s mostB = readH s mostB := rfl
theorem hex_p (s : ByteArray) (hs : s.size < maxLen) : APure Tryd.prog 66 [.s s, .i mostB] (.tup [.i (readH s mostB).1, .i (readH s mostB).2]) [] := by
  have h := nread_p isHex_f (fun _ h => h) 16 (by omega) (by omega) s hs mostB (by decide)
  rw [readQ_H] at h
  refine APure.of rfl (ACalls.of_vc T_ok mixed Tryd.func66 rfl Tryd.call66 ?_)
  refine .p rfl h ?_
  rfl
def atrC (a : Atr) : List AV := [.s a.1, .s a.2.1, .b a.2.2]
def atrL (l : List Atr) : List (List AV) := l.map atrC
theorem atrL_len (l : List Atr) : (atrL l).length = l.length := by simp [atrL]
theorem atrL_app (l : List Atr) (a : Atr) : atrL l ++ [atrC a] = atrL (l ++ [a]) := by simp [atrL]
theorem atrL_at {l : List Atr} {j : Nat} (h : j < l.length) : (atrL l)[j]? = some (atrC l[j]) := by simp [atrL, h]
/-- a result whose second part may be nil, where an empty row is said -/
def resW2 (r' r : AV) : Prop := r'.stripR = r ∨ ∃ u vs sz, r' = .tup (u :: .nilS :: vs) ∧ r = .tup (u.strip :: .sl .no sz [] :: vs.map AV.strip)
theorem APure.ofW2 {P : Program} {f : FuncId} {args : List AV} {r0 : AV} (hd : r0.datR = true) (h : ACalls P f args ⟨[], []⟩ fun r' _ => resW2 r' r0) : APure P f args r0 [] := by
  refine ⟨AV.res_of_datR hd, h.1, fun J w vs hw hl ha => ?_⟩
  refine (h.2 w.heap.size J w (fun _ => 0) (fun _ => ⟨0, 0, 0⟩) w vs (Ok.none J _ _ w hw) hl ha).mono ?_
  rintro e w' ⟨v, r', st', μ', σ', rfl, hR, hok, hx, hat⟩
  refine ⟨v, fun _ => ⟨0, 0, 0⟩, rfl, ⟨hok.bs, hok.below, fun p cs h => by simp at h, fun p q h => by simp at h, fun t e h => by simp at h⟩, ?_⟩
  have hi : ∀ g x, Im w.heap.size J st' μ' σ' g x → g < w'.heap.size → Im w.heap.size J ⟨[], []⟩ (fun _ => 0) (fun _ => ⟨0, 0, 0⟩) g x := fun g x hi _ => ⟨hi.1, fun p hp => by simp at hp, fun t e ht => by simp at ht⟩
  have std : r'.stripR = r0 → At w.heap.size J ⟨[], []⟩ (fun _ => 0) (fun _ => ⟨0, 0, 0⟩) w' r0 v := by
    rintro rfl
    cases r' with
    | tup cs =>
      cases hat with
      | tup cs us e1 hr =>
        refine .tup _ us (by simpa using e1) fun j a u h1 h2 => ?_
        have hda := List.all_eq_true.1 hd a (List.mem_of_getElem? h1)
        simp only [List.getElem?_map, Option.map_eq_some_iff] at h1
        obtain ⟨b, hb, rfl⟩ := h1
        exact (hr j b u hb h2).strip.dat hi hda
    | sl t sz es => exact hat.strip.dat hi hd
    | _ => exact hat.strip.dat hi hd
  rcases hR with hR | ⟨u0, vs, sz, rfl, rfl⟩
  · exact std hR
  · cases hat with
    | tup cs us e1 hr =>
      refine .tup _ us (by simpa using e1) fun j x u hx hu => ?_
      match j, hx, hu with
      | 0, hx, hu =>
        have hda := List.all_eq_true.1 hd x (List.mem_of_getElem? hx)
        simp at hx
        subst hx
        exact (hr 0 _ u rfl hu).strip.dat hi hda
      | 1, hx, hu =>
        simp at hx
        subst hx
        rw [(hr 1 _ u rfl hu).of_lit]
        exact .sl0 sz none 0 (Nat.zero_le _)
      | j + 2, hx, hu =>
        have hda := List.all_eq_true.1 hd x (List.mem_of_getElem? hx)
        simp only [List.getElem?_cons_succ, List.getElem?_map, Option.map_eq_some_iff] at hx
        obtain ⟨b, hb, rfl⟩ := hx
        exact (hr (j + 2) b u (by simpa using hb) hu).strip.dat hi hda
theorem ap {h : List (List AV)} {n : Nat} {v x : List AV} (hv : h[n]? = some v) : (h ++ [x])[n]? = some v := (List.getElem?_append_left (List.getElem?_eq_some_iff.1 hv).1).trans hv
theorem st_ne {h : List (List AV)} {n m : Nat} {v x : List AV} (hne : m ≠ n) (hv : h[n]? = some v) : (h.set m x)[n]? = some v := (List.getElem?_set_ne hne).trans hv
theorem st_eq {h : List (List AV)} {n : Nat} {v x : List AV} (hv : h[n]? = some v) : (h.set n x)[n]? = some x := List.getElem?_set_self (List.getElem?_eq_some_iff.1 hv).1
section
variable {st : St} {p k n : Nat} {s : ByteArray} {R : AV → St → Prop}
theorem ext_emp (s : ByteArray) (k n : Nat) (hk : k + n ≤ s.size) : decide (s.extract k (k + n) = .empty) = decide (n = 0) := by
  have h := ext_len s k (k + n) hk
  by_cases e : n = 0
  · rw [decide_eq_true e]
    exact decide_eq_true ((emp_iff _).2 (by omega))
  · rw [decide_eq_false e]
    exact decide_eq_false fun h' => by rw [h'] at h; have : (ByteArray.empty).size = 0 := rfl; omega
theorem token_a (h : Sc st p s k) (hR : R (.tup [.s (s.extract k (k + tw tokI s k)), .b (!decide (tw tokI s k = 0))]) (st.sc p s (k + tw tokI s k))) : ACalls Tryd.prog 116 [.ptr p 0] st R := by
  have hl := tw_le tokI s k h.le
  have he := ext_len s k (k + tw tokI s k) hl
  refine ACalls.of_vc T_ok mixed Tryd.func116 rfl Tryd.call116 ?_
  refine .s (while_a isToken_f h ?_)
  intro t ht
  have : t = !decide (tw tokI s k = 0) := by
    by_cases e : tw tokI s k = 0
    · have := ht.2 ((emp_iff _).2 (by omega))
      rw [this, decide_eq_true e]; rfl
    · cases t with
      | true => rw [decide_eq_false e]; rfl
      | false => exact absurd ((emp_iff _).1 (ht.1 rfl)) (by omega)
  subst this
  exact hR
theorem token_m (h : Sc st p s k) (hn : n ≤ st.tk.length) (h1 : tw tokI s k = 0 → ∀ st', Mv n (· = p) st st' → Sc st' p s k → R (.tup [.s ⟨#[]⟩, .b false]) st')
    (h2 : tw tokI s k ≠ 0 → ∀ st', Mv n (· = p) st st' → Sc st' p s (k + tw tokI s k) → R (.tup [.s (s.extract k (k + tw tokI s k)), .b true]) st') : ACalls Tryd.prog 116 [.ptr p 0] st R := by
  have m := (Mv.refl (C := (· = p)) hn).sc (p := p) (fun _ => rfl) s (k + tw tokI s k)
  have hl := tw_le tokI s k h.le
  have hs := h.sc hl
  refine token_a h ?_
  generalize st.sc p s (k + tw tokI s k) = S at *
  by_cases e : tw tokI s k = 0
  · have x : s.extract k (k + tw tokI s k) = ⟨#[]⟩ := (emp_iff _).2 (by rw [ext_len _ _ _ hl]; omega)
    rw [x, decide_eq_true e]
    exact h1 e _ m (by rw [e] at hs; exact hs)
  · rw [decide_eq_false e]
    exact h2 e _ m hs
theorem atB_le {s : ByteArray} {k : Nat} {b : Int} (hk : k ≤ s.size) : (if atB s k b = true then k + 1 else k) ≤ s.size := by
  split
  · rename_i e
    have : k < s.size := Decidable.byContradiction fun hc => by rw [atB_ge (by omega)] at e; cases e
    omega
  · exact hk
theorem byte_m (h : Sc st p s k) (hn : n ≤ st.tk.length) (b : Int) (h1 : atB s k b = false → ∀ st', Mv n (· = p) st st' → Sc st' p s k → R (.b false) st')
    (h2 : atB s k b = true → k < s.size → ∀ st', Mv n (· = p) st st' → Sc st' p s (k + 1) → R (.b true) st') : ACalls Tryd.prog 67 [.ptr p 0, .int .u8 b] st R := by
  have m := (Mv.refl (C := (· = p)) hn).sc (p := p) (fun _ => rfl) s (if atB s k b = true then k + 1 else k)
  have hs := h.sc (atB_le (b := b) h.le)
  refine byte_a h b ?_
  generalize st.sc p s (if atB s k b = true then k + 1 else k) = S at *
  cases e : atB s k b with
  | false => rw [e] at hs; exact h1 e _ m hs
  | true =>
    rw [e] at hs
    exact h2 e (Decidable.byContradiction fun hc => by rw [atB_ge (by omega)] at e; cases e) _ m hs
theorem word_a (h : Sc st p s k) (hn : n ≤ st.tk.length) (hm : s.size < 140737488355328)
    (h1 : wordS s k = none → ∀ st', Mv n (· = p) st st' → Sc st' p s k → R (.tup [.s ⟨#[]⟩, .b false]) st')
    (h2 : ∀ v j, wordS s k = some (v, j) → ∀ st', Mv n (· = p) st st' → Sc st' p s j → R (.tup [.s v, .b true]) st') :
    ACalls Tryd.prog 117 [.ptr p 0] st R := by
  have hl := tw_le tokI s k h.le
  have hW : wordS s k = if 0 < tw tokI s k then some (s.extract k (k + tw tokI s k), k + tw tokI s k) else (frontS s k).map fun x => (⟨x.1.toArray⟩, x.2) := rfl
  refine ACalls.of_vc T_ok mixed Tryd.func117 rfl Tryd.call117 ?_
  refine .s (token_m h hn (fun he S1 m1 hs1 => ?_) (fun he S1 m1 hs1 => ?_))
  · rw [if_neg (by omega)] at hW
    refine .s (read_a hs1 m1.tl hm (fun hf st' m hs => ?_) (fun v j hf st' m hs => ?_))
    · rw [hf] at hW
      exact h1 hW _ (m1.trans m (fun q _ e => e)) hs
    · rw [hf] at hW
      exact h2 _ _ hW _ (m1.trans m (fun q _ e => e)) hs
  · rw [if_pos (by omega)] at hW
    exact h2 _ _ hW _ m1 hs1
/-- one extension -/
theorem one18_a (h : Sc st p s k) (hn : n ≤ st.tk.length) (hm : s.size < 140737488355328)
    (h1 : oneS s k = none → ∀ a st', Mv n (· = p) st st' → (∃ j, Sc st' p s j) → R (.tup [.agg (atrC a), .b false]) st')
    (h2 : ∀ a j, oneS s k = some (a, j) → ∀ st', Mv n (· = p) st st' → Sc st' p s j → R (.tup [.agg (atrC a), .b true]) st') :
    ACalls Tryd.prog 68 [.agg [.ptr p 0]] st R := by
  have hlt := h.lt
  have hl := tw_le tokI s k h.le
  have hO : oneS s k = if tw tokI s k = 0 then none else if atB s (k + tw tokI s k) 61 = true then (wordS s (k + tw tokI s k + 1)).map fun x => ((s.extract k (k + tw tokI s k), x.1, true), x.2) else some ((s.extract k (k + tw tokI s k), ⟨#[]⟩, false), k + tw tokI s k) := rfl
  refine ACalls.of_vc T_ok mixed Tryd.func68 rfl Tryd.call68 ?_
  refine ⟨hlt, ?_⟩
  have mF : Mv n (fun _ => False) st ⟨(st.heap ++ [[.ptr p 0]]) ++ [[.s ⟨#[]⟩, .s ⟨#[]⟩, .b false]], st.tk⟩ := ((Mv.refl hn).alloc _).alloc _
  have m0 : Mv n (· = p) st ⟨(st.heap ++ [[.ptr p 0]]) ++ [[.s ⟨#[]⟩, .s ⟨#[]⟩, .b false]], st.tk⟩ := ((Mv.refl hn).alloc _).alloc _
  have h0 := h.mv mF (fun h => h)
  have r1 : ((st.heap ++ [[AV.ptr p 0]]) ++ [[.s ⟨#[]⟩, .s ⟨#[]⟩, .b false]])[st.heap.length]? = some [.ptr p 0] := by simp
  refine ⟨_, r1, ?_⟩
  have r2 : ((st.heap ++ [[AV.ptr p 0]]) ++ [[.s ⟨#[]⟩, .s ⟨#[]⟩, .b false]])[(st.heap ++ [[AV.ptr p 0]]).length]? = some [.s ⟨#[]⟩, .s ⟨#[]⟩, .b false] := last_at _ _
  have n1 : st.heap.length ≠ p := by omega
  have n2 : (st.heap ++ [[AV.ptr p 0]]).length ≠ p := by simp; omega
  have fin : ∀ {S : St} (c : List AV), Mv n (· = p) st S → Mv n (· = p) st ⟨S.heap.set (st.heap ++ [[AV.ptr p 0]]).length c, S.tk⟩ := fun c m => m.set (fun hh => absurd hh (by simp)) c
  have fsc : ∀ {S : St} {j : Nat} (c : List AV), Sc S p s j → Sc ⟨S.heap.set (st.heap ++ [[AV.ptr p 0]]).length c, S.tk⟩ p s j := fun c h => ⟨(List.getElem?_set_ne n2).trans h.at', h.le, h.max⟩
  refine .s (token_m h0 hn (fun he S1 m1 hs1 => ?_) (fun he S1 m1 hs1 => ?_))
  · have q2 := m1.at' r2 n2
    rw [if_pos he] at hO
    refine ⟨_, q2, ?_⟩
    refine ⟨_, st_eq q2, ?_⟩
    exact h1 hO (⟨#[]⟩, ⟨#[]⟩, false) _ (fin _ (m0.trans m1 (fun q _ e => e))) ⟨_, fsc _ hs1⟩
  · have q1 := m1.at' r1 n1
    have q2 := m1.at' r2 n2
    have mm := m0.trans m1 (fun q _ e => e)
    rw [if_neg he] at hO
    refine ⟨_, q1, ?_⟩
    refine .s (byte_m hs1 m1.tl 61 (fun hb S2 m2 hs2 => ?_) (fun hb hlt2 S2 m2 hs2 => ?_))
    · have q2 := m2.at' q2 n2
      have mm := mm.trans m2 (fun q _ e => e)
      rw [hb, if_neg (by decide)] at hO
      refine ⟨_, q2, ?_⟩
      refine ⟨_, st_eq q2, ?_⟩
      exact h2 _ _ hO _ (fin _ mm) (fsc _ hs2)
    · have q1 := m2.at' q1 n1
      have q2 := m2.at' q2 n2
      have mm := mm.trans m2 (fun q _ e => e)
      rw [hb, if_pos rfl] at hO
      refine ⟨_, q1, ?_⟩
      refine .s (word_a hs2 m2.tl hm (fun hw S3 m3 hs3 => ?_) (fun v j hw S3 m3 hs3 => ?_))
      · have q2 := m3.at' q2 n2
        have mm := mm.trans m3 (fun q _ e => e)
        rw [hw] at hO
        refine ⟨_, q2, ?_⟩
        refine ⟨_, st_eq q2, ?_⟩
        exact h1 hO (_, ⟨#[]⟩, true) _ (fin _ mm) ⟨_, fsc _ hs3⟩
      · have q2 := m3.at' q2 n2
        have mm := mm.trans m3 (fun q _ e => e)
        rw [hw] at hO
        refine ⟨_, q2, ?_⟩
        refine ⟨_, st_eq q2, ?_⟩
        exact h2 _ _ hO _ (fin _ mm) (fsc _ hs3)
end
end Go.Proofs.YtfhodppaelfcfaaDoor
