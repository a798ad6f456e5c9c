/- Bags whose row is one's own: what is put, gone, renamed, put behind. No statement of its own. -/
import Derived.Test.YtookaenbpfpegaaDoorVg
import Derived.Test.YtookaenbpfpegaaDoorPb
import Derived.Test.YtookaenbpfpegaaDoorSm
set_option linter.unusedSimpArgs false
set_option linter.unusedVariables false
set_option maxRecDepth 100000
namespace Go.Proofs.YtookaenbpfpegaaDoor
open Go.RowKit
theorem fldL_el (l : List Fld) : ∀ e ∈ fldL l, e.length = 2 ∧ e.all AV.flat = true := fun e he => by
  obtain ⟨k, hk, rfl⟩ := List.getElem_of_mem he
  exact flat_fld l k _ (List.getElem?_eq_getElem hk)
theorem HR.form {st : St} {sz : Nat} {a : AV} {r : Option Nat} {es : List (List AV)} (h : HR st sz a r es) : (a = .nilS ∧ r = none) ∨ (a = .sl .tight sz [] ∧ r = none) ∨ ∃ p cap n, a = .hs p 0 n cap sz ∧ r = some p := by
  cases h with
  | nil => exact .inl ⟨rfl, rfl⟩
  | tight => exact .inr (.inl ⟨rfl, rfl⟩)
  | hs p cap es h => exact .inr (.inr ⟨p, cap, _, rfl, rfl⟩)
def HB (st : St) (b : Nat) (r : Option Nat) (l : List Fld) : Prop := ∃ a, st.heap[b]? = some [a] ∧ HR st 2 a r (fldL l) ∧ r ≠ some b
/-- what a bag's call turns: the bag, and its row -/
structure BgS (st : St) (b : Nat) (r : Option Nat) (st' : St) (r' : Option Nat) : Prop where
  mv : Mv 0 (fun q => q = b ∨ some q = r) st st'
  nw : r' = r ∨ ∃ p, r' = some p ∧ st.heap.length ≤ p
theorem BgS.refl (st : St) (b : Nat) (r : Option Nat) : BgS st b r st r := ⟨.refl (Nat.zero_le _), .inl rfl⟩
theorem BgS.trans {st st1 st2 : St} {b : Nat} {r r1 r2 : Option Nat} (h : BgS st b r st1 r1) (k : BgS st1 b r1 st2 r2) : BgS st b r st2 r2 := by
  refine ⟨h.mv.trans k.mv fun q hq hd => ?_, ?_⟩
  · rcases hd with hd | hd
    · exact .inl hd
    · rcases h.nw with e | ⟨p, e, hp⟩
      · exact .inr (by rw [← e]; exact hd)
      · rw [e] at hd
        have := Option.some.inj hd
        omega
  · rcases k.nw with e | ⟨p, e, hp⟩
    · rw [e]; exact h.nw
    · exact .inr ⟨p, e, Nat.le_trans h.mv.len hp⟩
theorem HB.mv {n : Nat} {C : Nat → Prop} {a b : St} {p : Nat} {r : Option Nat} {l : List Fld} (h : HB a p r l) (m : Mv n C a b) (h1 : ¬ C p) (h2 : ∀ q, r = some q → ¬ C q) : HB b p r l := by
  obtain ⟨x, e1, e2, e3⟩ := h
  exact ⟨x, m.at' e1 h1, e2.mv m h2, e3⟩
theorem HB.lt {st : St} {b : Nat} {r : Option Nat} {l : List Fld} (h : HB st b r l) : b < st.heap.length := lt_of h.choose_spec.1
theorem HB.rlt {st : St} {b p : Nat} {l : List Fld} (h : HB st b (some p) l) : p < st.heap.length := h.choose_spec.2.1.lt
section
variable {st : St} {R : AV → St → Prop} {b : Nat} {r : Option Nat}
theorem cloneX_a (l : List Fld) (hl : l.length ≤ 1099511627776) (h : ∀ a r st', Mv 0 (fun _ => False) st st' → HR st' 2 a r (fldL l) → (∀ p, r = some p → st.heap.length ≤ p) → R a st') : ACalls Tryd.prog 39 [.sl .no 2 (fldL l)] st R := by
  have hmx : maxLen = 9223372036854775807 := rfl
  have el := fldL_len l
  cases l with
  | nil =>
    refine ACalls.empty fun a cap hm => ?_
    cases a with
    | none =>
      refine ACalls.of_vc T_ok mixed Tryd.func39 rfl Tryd.call39 ?_
      exact h _ none _ (.refl (Nat.zero_le _)) .nil (fun p e => by cases e)
    | some a =>
      refine ACalls.of_vc T_ok mixed Tryd.func39 rfl Tryd.call39 ?_
      exact ⟨fun _ => h _ none _ (.refl (Nat.zero_le _)) .tight (fun p e => by cases e), fun h => absurd rfl h⟩
  | cons f q =>
    refine ACalls.of_vc T_ok mixed Tryd.func39 rfl Tryd.call39 ?_
    refine ⟨fun h => by simp [fldL] at h, fun _ => ⟨?_, ?_, .inr fun x hx => ?_⟩⟩
    · show (fldL (f :: q)).length * 32 ≤ _; omega
    · show (fldL (f :: q)).length ≤ _; omega
    · refine h _ (some st.heap.length) _ ((Mv.refl (Nat.zero_le _)).alloc _) (.hs _ _ _ ⟨⟨_, last_at _ _, ?_⟩, fldL_el _, Nat.le_add_right _ _⟩) (fun p e => by have := Option.some.inj e; omega)
      rw [zerosL_len, show (TI.zero ti55).length = 2 from rfl, ← Nat.add_mul]
theorem newX_a (l : List Fld) (hl : l.length ≤ 1099511627776) (h : ∀ b r st', Mv 0 (fun _ => False) st st' → HB st' b r l → st.heap.length ≤ b → (∀ p, r = some p → st.heap.length ≤ p) → R (.ptr b 0) st') : ACalls Tryd.prog 20 [.sl .no 2 (fldL l)] st R := by
  refine ACalls.of_vc T_ok mixed Tryd.func20 rfl Tryd.call20 ?_
  refine .s (cloneX_a l hl fun a r st' m hR hr => ?_)
  have m2 := fun x => m.alloc x
  have hR' := fun x => hR.keep (b := ⟨st'.heap ++ [x], st'.tk⟩) (fun p cs _ h => ap h)
  have hl := m.len
  have hne : r ≠ some st'.heap.length := fun e => by
    subst e
    have := hR.lt
    omega
  rcases hR.form with ⟨rfl, rfl⟩ | ⟨rfl, rfl⟩ | ⟨p, cap, n, rfl, rfl⟩
  · exact h _ none _ (m2 _) ⟨_, last_at _ _, hR' _, hne⟩ hl hr
  · exact h _ none _ (m2 _) ⟨_, last_at _ _, hR' _, hne⟩ hl hr
  · refine ⟨hR.lt, ?_⟩
    exact h _ (some p) _ (m2 _) ⟨_, last_at _ _, hR' _, hne⟩ hl hr
theorem listX_a (l : List Fld) (hl : l.length ≤ 1099511627776) (hb : HB st b r l) (h : ∀ a st', Mv 0 (fun _ => False) st st' → (a = .nilS ∧ l = [] ∨ (∃ tg, a = .sl tg 2 (fldL l))) → R a st') : ACalls Tryd.prog 23 [.ptr b 0] st R := by
  have hmx : maxLen = 9223372036854775807 := rfl
  obtain ⟨a, hba, hR, hrb⟩ := hb
  have el := fldL_len l
  obtain ⟨es, hes⟩ : ∃ es, fldL l = es := ⟨_, rfl⟩
  rw [hes] at hR
  cases hR with
  | nil =>
    have hl0 : l = [] := by unfold fldL at hes; exact List.map_eq_nil_iff.1 hes
    refine ACalls.of_vc T_ok mixed Tryd.func23 rfl Tryd.call23 ?_
    refine ⟨_, hba, ?_⟩
    refine .s (.of_vc T_ok mixed Tryd.func39 rfl Tryd.call39 ?_)
    exact h _ _ (.refl (Nat.zero_le _)) (.inl ⟨rfl, hl0⟩)
  | tight =>
    have hl0 : l = [] := by unfold fldL at hes; exact List.map_eq_nil_iff.1 hes
    subst hl0
    refine ACalls.of_vc T_ok mixed Tryd.func23 rfl Tryd.call23 ?_
    refine ⟨_, hba, ?_⟩
    refine .p rfl (clone_p [] hl) ?_
    exact h _ _ (.refl (Nat.zero_le _)) (.inr ⟨_, rfl⟩)
  | hs p cap _ hw =>
    obtain ⟨⟨zs, hp, hz⟩, he, hc⟩ := hw
    refine ACalls.of_vc T_ok mixed Tryd.func23 rfl Tryd.call23 ?_
    refine ⟨_, hba, ?_⟩
    refine .s (.of_vc T_ok mixed Tryd.func39 rfl Tryd.call39 ?_)
    refine ⟨_, _, hp, rows_seen he, ?_⟩
    rw [hes] at el
    refine ⟨fun e => ?_, fun _ => ⟨?_, ?_, .inl ?_⟩⟩
    · have : l = [] := List.eq_nil_of_length_eq_zero (by rw [← el, e]; rfl)
      exact h _ _ (.refl (Nat.zero_le _)) (.inr ⟨.tight, by rw [hes, e]; rfl⟩)
    · show es.length * 32 ≤ _; omega
    · show es.length ≤ _; omega
    · exact h _ _ ((Mv.refl (Nat.zero_le _)).tks (b := st) (by simp) (fun t ht => by omega)) (.inr ⟨_, by rw [hes]; rfl⟩)
theorem lenX_a (l : List Fld) (hl : l.length ≤ 1099511627776) (hb : HB st b r l) (h : ∀ st', Mv 0 (fun _ => False) st st' → R (.i l.length) st') : ACalls Tryd.prog 24 [.ptr b 0] st R := by
  have el := fldL_len l
  refine ACalls.of_vc T_ok mixed Tryd.func24 rfl Tryd.call24 ?_
  refine .s (listX_a l hl hb fun a st' m ha => ?_)
  rcases ha with ⟨rfl, rfl⟩ | ⟨tg, rfl⟩
  · exact h _ m
  · show R (.i (fldL l).length) _
    rw [el]
    exact h _ m
attribute [local irreducible] vcApp
/-- more fields behind -/
theorem addX_a {tg : Tk} (l ys : List Fld) (hl : l.length + ys.length ≤ 1099511627776) (hy : ys ≠ []) (hb : HB st b r l) (h : ∀ r' st', HB st' b r' (l ++ ys) → BgS st b r st' r' → R (.tup []) st') : ACalls Tryd.prog 29 [.ptr b 0, .sl tg 2 (fldL ys)] st R := by
  have hmx : maxLen = 9223372036854775807 := rfl
  obtain ⟨a, hba, hR, hrb⟩ := hb
  have el := fldL_len l
  have ey := fldL_len ys
  have hbl := lt_of hba
  rcases hR.form with ⟨rfl, rfl⟩ | ⟨rfl, rfl⟩ | ⟨p0, c0, n0, rfl, rfl⟩
  · skip
    refine ACalls.of_vc T_ok mixed Tryd.func29 rfl Tryd.call29 ?_
    refine ⟨_, hba, ?_⟩
    refine HR.app (n := 0) (i := ti55) hR rfl rfl (fun e => hy (by unfold fldL at e; exact List.map_eq_nil_iff.1 e)) (fldL_el ys) ?_ ?_ (Nat.zero_le _) (fun p cap st' q0 q1 q2 q3 => ?_)
    · show ((fldL l).length + (fldL ys).length) * 32 ≤ _; omega
    · show (fldL l).length + (fldL ys).length ≤ _; omega
    have hb' := q1.at' hba (fun e => hrb e.symm)
    have hpb : p ≠ b := fun e => (q2.elim (fun e' => hrb (by rw [← e', e])) (fun e' => by omega))
    refine ⟨_, hb', ?_⟩
    refine h (some p) _ ⟨_, st_eq hb', ?_, fun e => hpb (Option.some.inj e)⟩ ⟨(q1.wide fun q _ e => .inr e).set (p := b) (fun _ => .inl rfl) _, ?_⟩
    · have := HR.hs (st := ⟨st'.heap.set b [.hs p 0 ((fldL l).length + (fldL ys).length) cap 2], st'.tk⟩) p cap _ (q0.keep fun cs h => st_ne (fun e => hpb e.symm) h)
      rw [List.length_append, fldL_appL] at this
      exact this
    · rcases q2 with e | e
      · exact .inl e
      · exact .inr ⟨p, rfl, e⟩
  · skip
    refine ACalls.of_vc T_ok mixed Tryd.func29 rfl Tryd.call29 ?_
    refine ⟨_, hba, ?_⟩
    refine HR.app (n := 0) (i := ti55) hR rfl rfl (fun e => hy (by unfold fldL at e; exact List.map_eq_nil_iff.1 e)) (fldL_el ys) ?_ ?_ (Nat.zero_le _) (fun p cap st' q0 q1 q2 q3 => ?_)
    · show ((fldL l).length + (fldL ys).length) * 32 ≤ _; omega
    · show (fldL l).length + (fldL ys).length ≤ _; omega
    have hb' := q1.at' hba (fun e => hrb e.symm)
    have hpb : p ≠ b := fun e => (q2.elim (fun e' => hrb (by rw [← e', e])) (fun e' => by omega))
    refine ⟨_, hb', ?_⟩
    refine h (some p) _ ⟨_, st_eq hb', ?_, fun e => hpb (Option.some.inj e)⟩ ⟨(q1.wide fun q _ e => .inr e).set (p := b) (fun _ => .inl rfl) _, ?_⟩
    · have := HR.hs (st := ⟨st'.heap.set b [.hs p 0 ((fldL l).length + (fldL ys).length) cap 2], st'.tk⟩) p cap _ (q0.keep fun cs h => st_ne (fun e => hpb e.symm) h)
      rw [List.length_append, fldL_appL] at this
      exact this
    · rcases q2 with e | e
      · exact .inl e
      · exact .inr ⟨p, rfl, e⟩
  · skip
    refine ACalls.of_vc T_ok mixed Tryd.func29 rfl Tryd.call29 ?_
    refine ⟨_, hba, ?_⟩
    refine HR.app (n := 0) (i := ti55) hR rfl rfl (fun e => hy (by unfold fldL at e; exact List.map_eq_nil_iff.1 e)) (fldL_el ys) ?_ ?_ (Nat.zero_le _) (fun p cap st' q0 q1 q2 q3 => ?_)
    · show ((fldL l).length + (fldL ys).length) * 32 ≤ _; omega
    · show (fldL l).length + (fldL ys).length ≤ _; omega
    have hb' := q1.at' hba (fun e => hrb e.symm)
    have hpb : p ≠ b := fun e => (q2.elim (fun e' => hrb (by rw [← e', e])) (fun e' => by omega))
    refine ⟨_, hb', ?_⟩
    refine h (some p) _ ⟨_, st_eq hb', ?_, fun e => hpb (Option.some.inj e)⟩ ⟨(q1.wide fun q _ e => .inr e).set (p := b) (fun _ => .inl rfl) _, ?_⟩
    · have := HR.hs (st := ⟨st'.heap.set b [.hs p 0 ((fldL l).length + (fldL ys).length) cap 2], st'.tk⟩) p cap _ (q0.keep fun cs h => st_ne (fun e => hpb e.symm) h)
      rw [List.length_append, fldL_appL] at this
      exact this
    · rcases q2 with e | e
      · exact .inl e
      · exact .inr ⟨p, rfl, e⟩
end
end Go.Proofs.YtookaenbpfpegaaDoor
