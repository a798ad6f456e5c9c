/- A scanner moved, what is kept of a state. No statement of its own. -/
import Derived.Test.YtgaidgblihnldaaGreatDoorMs
set_option linter.unusedSimpArgs false
set_option linter.unusedVariables false
set_option maxRecDepth 100000
namespace Go.Proofs.YtgaidgblihnldaaGreatDoor
open Go.RowKit
/-- a result whose second part may be nil, where an empty row is said -/
def resW2 (r' r : AV) : Prop := r'.stripR = r ∨ ∃ u vs sz, r' = .tup (u :: .nilS :: vs) ∧ r = .tup (u.strip :: .sl .no sz [] :: vs.map AV.strip)
theorem APure.ofW2 {P : Program} {f : FuncId} {args : List AV} {r0 : AV} (hd : r0.datR = true) (h : ACalls P f args ⟨[], []⟩ fun r' _ => resW2 r' r0) : APure P f args r0 [] := by
  refine ⟨AV.res_of_datR hd, h.1, fun J w vs hw hl ha => ?_⟩
  refine (h.2 w.heap.size J w (fun _ => 0) (fun _ => ⟨0, 0, 0⟩) w vs (Ok.none J _ _ w hw) hl ha).mono ?_
  rintro e w' ⟨v, r', st', μ', σ', rfl, hR, hok, hx, hat⟩
  refine ⟨v, fun _ => ⟨0, 0, 0⟩, rfl, ⟨hok.bs, hok.below, fun p cs h => by simp at h, fun p q h => by simp at h, fun t e h => by simp at h⟩, ?_⟩
  have hi : ∀ g x, Im w.heap.size J st' μ' σ' g x → g < w'.heap.size → Im w.heap.size J ⟨[], []⟩ (fun _ => 0) (fun _ => ⟨0, 0, 0⟩) g x := fun g x hi _ => ⟨hi.1, fun p hp => by simp at hp, fun t e ht => by simp at ht⟩
  have std : r'.stripR = r0 → At w.heap.size J ⟨[], []⟩ (fun _ => 0) (fun _ => ⟨0, 0, 0⟩) w' r0 v := by
    rintro rfl
    cases r' with
    | tup cs =>
      cases hat with
      | tup cs us e1 hr =>
        refine .tup _ us (by simpa using e1) fun j a u h1 h2 => ?_
        have hda := List.all_eq_true.1 hd a (List.mem_of_getElem? h1)
        simp only [List.getElem?_map, Option.map_eq_some_iff] at h1
        obtain ⟨b, hb, rfl⟩ := h1
        exact (hr j b u hb h2).strip.dat hi hda
    | sl t sz es => exact hat.strip.dat hi hd
    | _ => exact hat.strip.dat hi hd
  rcases hR with hR | ⟨u0, vs, sz, rfl, rfl⟩
  · exact std hR
  · cases hat with
    | tup cs us e1 hr =>
      refine .tup _ us (by simpa using e1) fun j x u hx hu => ?_
      match j, hx, hu with
      | 0, hx, hu =>
        have hda := List.all_eq_true.1 hd x (List.mem_of_getElem? hx)
        simp at hx
        subst hx
        exact (hr 0 _ u rfl hu).strip.dat hi hda
      | 1, hx, hu =>
        simp at hx
        subst hx
        rw [(hr 1 _ u rfl hu).of_lit]
        exact .sl0 sz none 0 (Nat.zero_le _)
      | j + 2, hx, hu =>
        have hda := List.all_eq_true.1 hd x (List.mem_of_getElem? hx)
        simp only [List.getElem?_cons_succ, List.getElem?_map, Option.map_eq_some_iff] at hx
        obtain ⟨b, hb, rfl⟩ := hx
        exact (hr (j + 2) b u (by simpa using hb) hu).strip.dat hi hda
theorem ap {h : List (List AV)} {n : Nat} {v x : List AV} (hv : h[n]? = some v) : (h ++ [x])[n]? = some v := (List.getElem?_append_left (List.getElem?_eq_some_iff.1 hv).1).trans hv
theorem st_ne {h : List (List AV)} {n m : Nat} {v x : List AV} (hne : m ≠ n) (hv : h[n]? = some v) : (h.set m x)[n]? = some v := (List.getElem?_set_ne hne).trans hv
theorem st_eq {h : List (List AV)} {n : Nat} {v x : List AV} (hv : h[n]? = some v) : (h.set n x)[n]? = some x := List.getElem?_set_self (List.getElem?_eq_some_iff.1 hv).1
theorem lt_of {h : List (List AV)} {n : Nat} {v : List AV} (hv : h[n]? = some v) : n < h.length := (List.getElem?_eq_some_iff.1 hv).1
theorem ext_emp (s : ByteArray) (k n : Nat) (hk : k + n ≤ s.size) : decide (s.extract k (k + n) = .empty) = decide (n = 0) := by
  have h := ext_len s k (k + n) hk
  by_cases e : n = 0
  · rw [decide_eq_true e]
    exact decide_eq_true ((emp_iff _).2 (by omega))
  · rw [decide_eq_false e]
    exact decide_eq_false fun h' => by rw [h'] at h; have : (ByteArray.empty).size = 0 := rfl; omega
section
variable {st : St} {p k n : Nat} {s : ByteArray} {R : AV → St → Prop}
theorem token_a (h : Sc st p s k) (hR : R (.tup [.s (s.extract k (k + tw tokI s k)), .b (!decide (tw tokI s k = 0))]) (st.sc p s (k + tw tokI s k))) : ACalls Tryz.prog 110 [.ptr p 0] st R := by
  have hl := tw_le tokI s k h.le
  have he := ext_len s k (k + tw tokI s k) hl
  refine ACalls.of_vc T_ok mixed Tryz.func110 rfl Tryz.call110 ?_
  refine .s (while_a isToken_f h ?_)
  intro t ht
  have : t = !decide (tw tokI s k = 0) := by
    by_cases e : tw tokI s k = 0
    · have := ht.2 ((emp_iff _).2 (by omega))
      rw [this, decide_eq_true e]; rfl
    · cases t with
      | true => rw [decide_eq_false e]; rfl
      | false => exact absurd ((emp_iff _).1 (ht.1 rfl)) (by omega)
  subst this
  exact hR
theorem token_m (h : Sc st p s k) (hn : n ≤ st.tk.length) (h1 : tw tokI s k = 0 → ∀ st', Mv n (· = p) st st' → Sc st' p s k → R (.tup [.s ⟨#[]⟩, .b false]) st')
    (h2 : tw tokI s k ≠ 0 → ∀ st', Mv n (· = p) st st' → Sc st' p s (k + tw tokI s k) → R (.tup [.s (s.extract k (k + tw tokI s k)), .b true]) st') : ACalls Tryz.prog 110 [.ptr p 0] st R := by
  have m := (Mv.refl (C := (· = p)) hn).sc (p := p) (fun _ => rfl) s (k + tw tokI s k)
  have hl := tw_le tokI s k h.le
  have hs := h.sc hl
  refine token_a h ?_
  generalize st.sc p s (k + tw tokI s k) = S at *
  by_cases e : tw tokI s k = 0
  · have x : s.extract k (k + tw tokI s k) = ⟨#[]⟩ := (emp_iff _).2 (by rw [ext_len _ _ _ hl]; omega)
    rw [x, decide_eq_true e]
    exact h1 e _ m (by rw [e] at hs; exact hs)
  · rw [decide_eq_false e]
    exact h2 e _ m hs
theorem atB_le {s : ByteArray} {k : Nat} {b : Int} (hk : k ≤ s.size) : (if atB s k b = true then k + 1 else k) ≤ s.size := by
  split
  · rename_i e
    have : k < s.size := Decidable.byContradiction fun hc => by rw [atB_ge (by omega)] at e; cases e
    omega
  · exact hk
theorem byte_m (h : Sc st p s k) (hn : n ≤ st.tk.length) (b : Int) (h1 : atB s k b = false → ∀ st', Mv n (· = p) st st' → Sc st' p s k → R (.b false) st')
    (h2 : atB s k b = true → k < s.size → ∀ st', Mv n (· = p) st st' → Sc st' p s (k + 1) → R (.b true) st') : ACalls Tryz.prog 160 [.ptr p 0, .int .u8 b] st R := by
  have m := (Mv.refl (C := (· = p)) hn).sc (p := p) (fun _ => rfl) s (if atB s k b = true then k + 1 else k)
  have hs := h.sc (atB_le (b := b) h.le)
  refine byte_a h b ?_
  generalize st.sc p s (if atB s k b = true then k + 1 else k) = S at *
  cases e : atB s k b with
  | false => rw [e] at hs; exact h1 e _ m hs
  | true =>
    rw [e] at hs
    exact h2 e (Decidable.byContradiction fun hc => by rw [atB_ge (by omega)] at e; cases e) _ m hs
end
theorem while_m {st : St} {p k n m : Nat} {s : ByteArray} {R : AV → St → Prop} {f : FuncId} {q : Int → Bool} (hq : ByteF f q) (h : Sc st p s k) (hn : n ≤ st.tk.length) (hm : k + tw q s k = m) (hR : ∀ st', Mv n (· = p) st st' → Sc st' p s m → R (.s (s.extract k m)) st') : ACalls Tryz.prog 133 [.ptr p 0, .lit (.func (.func f) #[] #[])] st R := by
  subst hm
  exact while_a hq h (hR _ ((Mv.refl (C := (· = p)) hn).sc (p := p) (fun _ => rfl) s _) (h.sc (tw_le q s k h.le)))
end Go.Proofs.YtgaidgblihnldaaGreatDoor
