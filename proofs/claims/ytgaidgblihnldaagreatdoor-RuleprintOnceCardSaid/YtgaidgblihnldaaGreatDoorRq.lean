/- Lines of rules, written by the program. No statement of its own. -/
import Derived.Test.YtgaidgblihnldaaGreatDoorVw
import Derived.Test.YtgaidgblihnldaaGreatDoorQt
import Derived.Test.YtgaidgblihnldaaGreatDoorRm
set_option linter.unusedSimpArgs false
set_option linter.unusedVariables false
set_option maxRecDepth 100000
namespace Go.Proofs.YtgaidgblihnldaaGreatDoor
open Go.RowKit
theorem strL_el (l : List ByteArray) : ∀ e ∈ strL l, e.length = 1 ∧ e.all AV.flat = true := fun e he => by
  unfold strL at he
  obtain ⟨x, _, rfl⟩ := List.mem_map.1 he
  exact ⟨rfl, rfl⟩
theorem HR.formW {st : St} {sz : Nat} {a : AV} {r : Option Nat} {es : List (List AV)} (h : HR st sz a r es) : (a = .nilS ∧ r = none) ∨ (a = .sl .tight sz [] ∧ r = none) ∨ ∃ p cap n, a = .hs p 0 n cap sz ∧ r = some p := by
  cases h with
  | nil => exact .inl ⟨rfl, rfl⟩
  | tight => exact .inr (.inl ⟨rfl, rfl⟩)
  | hs p cap es h => exact .inr (.inr ⟨p, cap, _, rfl, rfl⟩)
/-- a writer's words -/
def WB (st : St) (b : Nat) (r : Option Nat) (l : List ByteArray) : Prop := ∃ a, st.heap[b]? = some [a] ∧ HR st 1 a r (strL l) ∧ r ≠ some b
/-- what a writer's call turns: the writer, and its row -/
structure WgS (st : St) (b : Nat) (r : Option Nat) (st' : St) (r' : Option Nat) : Prop where
  mv : Mv 0 (fun q => q = b ∨ some q = r) st st'
  nw : r' = r ∨ ∃ p, r' = some p ∧ st.heap.length ≤ p
theorem WgS.refl (st : St) (b : Nat) (r : Option Nat) : WgS st b r st r := ⟨.refl (Nat.zero_le _), .inl rfl⟩
theorem WgS.trans {st st1 st2 : St} {b : Nat} {r r1 r2 : Option Nat} (h : WgS st b r st1 r1) (k : WgS st1 b r1 st2 r2) : WgS st b r st2 r2 := by
  refine ⟨h.mv.trans k.mv fun q hq hd => ?_, ?_⟩
  · rcases hd with hd | hd
    · exact .inl hd
    · rcases h.nw with e | ⟨p, e, hp⟩
      · exact .inr (by rw [← e]; exact hd)
      · rw [e] at hd
        have := Option.some.inj hd
        omega
  · rcases k.nw with e | ⟨p, e, hp⟩
    · rw [e]; exact h.nw
    · exact .inr ⟨p, e, Nat.le_trans h.mv.len hp⟩
theorem WB.mv {n : Nat} {C : Nat → Prop} {a b : St} {p : Nat} {r : Option Nat} {l : List ByteArray} (h : WB a p r l) (m : Mv n C a b) (h1 : ¬ C p) (h2 : ∀ q, r = some q → ¬ C q) : WB b p r l := by
  obtain ⟨x, e1, e2, e3⟩ := h
  exact ⟨x, m.at' e1 h1, e2.mv m h2, e3⟩
theorem WB.lt {st : St} {b : Nat} {r : Option Nat} {l : List ByteArray} (h : WB st b r l) : b < st.heap.length := lt_of h.choose_spec.1
theorem WB.rlt {st : St} {b p : Nat} {l : List ByteArray} (h : WB st b (some p) l) : p < st.heap.length := h.choose_spec.2.1.lt
section
variable {st : St} {R : AV → St → Prop} {b : Nat} {r : Option Nat}
attribute [local irreducible] vcApp
theorem put_a {tg : Tk} (l ys : List ByteArray) (hl : l.length + ys.length ≤ 1000000) (hy : ys ≠ []) (hb : WB st b r l) (h : ∀ r' st', WB st' b r' (l ++ ys) → WgS st b r st' r' → R (.tup []) st') : ACalls Tryz.prog 71 [.ptr b 0, .sl tg 1 (strL ys)] st R := by
  have hmx : maxLen = 9223372036854775807 := rfl
  obtain ⟨a, hba, hR, hrb⟩ := hb
  have el := strL_len l
  have ey := strL_len ys
  have hbl := lt_of hba
  rcases hR.formW with ⟨rfl, rfl⟩ | ⟨rfl, rfl⟩ | ⟨p0, c0, n0, rfl, rfl⟩
  · skip
    refine ACalls.of_vc T_ok mixed Tryz.func71 rfl Tryz.call71 ?_
    refine ⟨_, hba, ?_⟩
    refine HR.app (n := 0) (i := ti9) hR rfl rfl (fun e => hy (by unfold strL at e; exact List.map_eq_nil_iff.1 e)) (strL_el ys) ?_ ?_ (Nat.zero_le _) (fun p cap st' q0 q1 q2 q3 => ?_)
    · show ((strL l).length + (strL ys).length) * 16 ≤ _; omega
    · show (strL l).length + (strL ys).length ≤ _; omega
    have hb' := q1.at' hba (fun e => hrb e.symm)
    have hpb : p ≠ b := fun e => (q2.elim (fun e' => hrb (by rw [← e', e])) (fun e' => by omega))
    refine ⟨_, hb', ?_⟩
    refine h (some p) _ ⟨_, st_eq hb', ?_, fun e => hpb (Option.some.inj e)⟩ ⟨(q1.wide fun q _ e => .inr e).set (p := b) (fun _ => .inl rfl) _, ?_⟩
    · have := HR.hs (st := ⟨st'.heap.set b [.hs p 0 ((strL l).length + (strL ys).length) cap 1], st'.tk⟩) p cap _ (q0.keep fun cs h => st_ne (fun e => hpb e.symm) h)
      rw [List.length_append, ← strL_appL] at this
      exact this
    · rcases q2 with e | e
      · exact .inl e
      · exact .inr ⟨p, rfl, e⟩
  · skip
    refine ACalls.of_vc T_ok mixed Tryz.func71 rfl Tryz.call71 ?_
    refine ⟨_, hba, ?_⟩
    refine HR.app (n := 0) (i := ti9) hR rfl rfl (fun e => hy (by unfold strL at e; exact List.map_eq_nil_iff.1 e)) (strL_el ys) ?_ ?_ (Nat.zero_le _) (fun p cap st' q0 q1 q2 q3 => ?_)
    · show ((strL l).length + (strL ys).length) * 16 ≤ _; omega
    · show (strL l).length + (strL ys).length ≤ _; omega
    have hb' := q1.at' hba (fun e => hrb e.symm)
    have hpb : p ≠ b := fun e => (q2.elim (fun e' => hrb (by rw [← e', e])) (fun e' => by omega))
    refine ⟨_, hb', ?_⟩
    refine h (some p) _ ⟨_, st_eq hb', ?_, fun e => hpb (Option.some.inj e)⟩ ⟨(q1.wide fun q _ e => .inr e).set (p := b) (fun _ => .inl rfl) _, ?_⟩
    · have := HR.hs (st := ⟨st'.heap.set b [.hs p 0 ((strL l).length + (strL ys).length) cap 1], st'.tk⟩) p cap _ (q0.keep fun cs h => st_ne (fun e => hpb e.symm) h)
      rw [List.length_append, ← strL_appL] at this
      exact this
    · rcases q2 with e | e
      · exact .inl e
      · exact .inr ⟨p, rfl, e⟩
  · skip
    refine ACalls.of_vc T_ok mixed Tryz.func71 rfl Tryz.call71 ?_
    refine ⟨_, hba, ?_⟩
    refine HR.app (n := 0) (i := ti9) hR rfl rfl (fun e => hy (by unfold strL at e; exact List.map_eq_nil_iff.1 e)) (strL_el ys) ?_ ?_ (Nat.zero_le _) (fun p cap st' q0 q1 q2 q3 => ?_)
    · show ((strL l).length + (strL ys).length) * 16 ≤ _; omega
    · show (strL l).length + (strL ys).length ≤ _; omega
    have hb' := q1.at' hba (fun e => hrb e.symm)
    have hpb : p ≠ b := fun e => (q2.elim (fun e' => hrb (by rw [← e', e])) (fun e' => by omega))
    refine ⟨_, hb', ?_⟩
    refine h (some p) _ ⟨_, st_eq hb', ?_, fun e => hpb (Option.some.inj e)⟩ ⟨(q1.wide fun q _ e => .inr e).set (p := b) (fun _ => .inl rfl) _, ?_⟩
    · have := HR.hs (st := ⟨st'.heap.set b [.hs p 0 ((strL l).length + (strL ys).length) cap 1], st'.tk⟩) p cap _ (q0.keep fun cs h => st_ne (fun e => hpb e.symm) h)
      rw [List.length_append, ← strL_appL] at this
      exact this
    · rcases q2 with e | e
      · exact .inl e
      · exact .inr ⟨p, rfl, e⟩
theorem value34_p (s : ByteArray) (hs : s.size ≤ 1099511627776) : APure Tryz.prog 16 [.s s] (.tup [.s (quoteR s).1, .i (quoteR s).2]) [] := by
  have h := quote_p s hs
  refine APure.of rfl (ACalls.of_vc T_ok mixed Tryz.func16 rfl Tryz.call16 ?_)
  refine .p rfl h ?_
  rfl
theorem value34_a (l : List ByteArray) (s : ByteArray) (hs : s.size ≤ 1099511627776) (hl : l.length + 1 ≤ 1000000) (hb : WB st b r l) (h : ∀ r' st', WB st' b r' (l ++ [(quoteR s).1]) → WgS st b r st' r' → R (.tup []) st') : ACalls Tryz.prog 72 [.ptr b 0, .s s] st R := by
  refine ACalls.of_vc T_ok mixed Tryz.func72 rfl Tryz.call72 ?_
  refine .p rfl (value34_p s hs) ?_
  exact .s (put_a l [(quoteR s).1] hl (List.cons_ne_nil _ _) hb h)
/-- a step on: what is there besides is kept -/
theorem WB.on {st st' : St} {x : List AV} {l : List ByteArray} (hb : WB st b r l) : WB ⟨st.heap ++ [x], st.tk⟩ b r l := hb.mv (((Mv.refl (n := 0) (C := fun _ => False) (Nat.zero_le _))).alloc x) (fun h => h) (fun _ _ h => h)
/-- behind a variable of one's own -/
theorem WgS.own {st st' : St} {x : List AV} {r' : Option Nat} (hr : ∀ p, r = some p → p < st.heap.length) (h : WgS ⟨st.heap ++ [x], st.tk⟩ b r st' r') (hbl : b < st.heap.length) : WgS st b r st' r' := by
  refine ⟨((Mv.refl (n := 0) (C := fun q => q = b ∨ some q = r) (Nat.zero_le _)).alloc x).trans h.mv fun q hq hd => hd, ?_⟩
  rcases h.nw with e | ⟨p, e, hp⟩
  · exact .inl e
  · exact .inr ⟨p, e, by simp at hp; omega⟩
theorem guard34_a (l : List ByteArray) (k : Int) (ga gb : ByteArray) (hk : k = 0 ∨ k = 1 ∨ k = 2 ∨ k = 3 ∧ (quoteR gb).1 = quoteB gb) (hs : gb.size ≤ 1099511627776) (hl : l.length ≤ 1000) (hb : WB st b r l) (h : ∀ r' st', WB st' b r' (l ++ (guardW k ga gb).map wdB) → WgS st b r st' r' → R (.tup []) st') :
    ACalls Tryz.prog 39 [.ptr b 0, .agg [.i k, .s ga, .s gb]] st R := by
  have hbl := hb.lt
  have hrl : ∀ p, r = some p → p < st.heap.length := fun p e => by subst e; exact hb.rlt
  have hb2 := fun x => WB.on (st' := st) (x := x) hb
  rcases hk with rfl | rfl | rfl | ⟨rfl, hq⟩
  · refine ACalls.of_vc T_ok mixed Tryz.func39 rfl Tryz.call39 ?_
    refine ⟨_, last_at _ _, ?_⟩
    refine h r _ ?_ (WgS.own hrl (.refl _ _ _) hbl)
    rw [show (guardW 0 ga gb).map wdB = [] from rfl, List.append_nil]
    exact hb2 _
  · refine ACalls.of_vc T_ok mixed Tryz.func39 rfl Tryz.call39 ?_
    refine ⟨_, last_at _ _, ?_⟩
    refine ⟨_, last_at _ _, ?_⟩
    refine .s (put_a l [kIf, kHas, ga] (by show l.length + 3 ≤ _; omega) (List.cons_ne_nil _ _) (hb2 _) fun r' st' h1 h2 => ?_)
    exact h r' st' h1 (WgS.own hrl h2 hbl)
  · refine ACalls.of_vc T_ok mixed Tryz.func39 rfl Tryz.call39 ?_
    refine ⟨_, last_at _ _, ?_⟩
    refine ⟨_, last_at _ _, ?_⟩
    refine .s (put_a l [kIf, kLacks, ga] (by show l.length + 3 ≤ _; omega) (List.cons_ne_nil _ _) (hb2 _) fun r' st' h1 h2 => ?_)
    exact h r' st' h1 (WgS.own hrl h2 hbl)
  · refine ACalls.of_vc T_ok mixed Tryz.func39 rfl Tryz.call39 ?_
    refine ⟨_, last_at _ _, ?_⟩
    refine ⟨_, last_at _ _, ?_⟩
    refine .s (put_a l [kIf, kIs, ga] (by show l.length + 3 ≤ _; omega) (List.cons_ne_nil _ _) (hb2 _) fun r' st' h1 h2 => ?_)
    have hne : ¬ (st.heap.length = b ∨ some st.heap.length = r) := fun e => by
      rcases e with e | e
      · omega
      · have := hrl _ e.symm
        omega
    have hat := h2.mv.at' (last_at st.heap _) hne
    refine ⟨_, hat, ?_⟩
    refine .s (value34_a _ gb hs (by show (l ++ [kIf, kIs, ga]).length + 1 ≤ _; simp; omega) h1 fun r2 st2 h3 h4 => ?_)
    refine h r2 st2 ?_ (WgS.own hrl (h2.trans h4) hbl)
    rw [hq] at h3
    have e : l ++ [kIf, kIs, ga] ++ [quoteB gb] = l ++ (guardW 3 ga gb).map wdB := by rw [List.append_assoc]; rfl
    rw [← e]
    exact h3
end
end Go.Proofs.YtgaidgblihnldaaGreatDoor
