/- Lines of chunks: Parse, by the program. No statement of its own. -/
import Derived.Test.YtfhodppaelfcfaaDoorCk1
set_option maxRecDepth 100000
namespace Go.Proofs.YtfhodppaelfcfaaDoor
open Go.RowKit
theorem lt_of {h : List (List AV)} {n : Nat} {v : List AV} (hv : h[n]? = some v) : n < h.length := (List.getElem?_eq_some_iff.1 hv).1
theorem while_m {st : St} {p k n m : Nat} {s : ByteArray} {R : AV → St → Prop} {f : FuncId} {q : Int → Bool} (hq : ByteF f q) (h : Sc st p s k) (hn : n ≤ st.tk.length) (hm : k + tw q s k = m) (hR : ∀ st', Mv n (· = p) st st' → Sc st' p s m → R (.s (s.extract k m)) st') : ACalls Tryd.prog 64 [.ptr p 0, .lit (.func (.func f) #[] #[])] st R := by
  subst hm
  exact while_a hq h (hR _ ((Mv.refl (C := (· = p)) hn).sc (p := p) (fun _ => rfl) s _) (h.sc (tw_le q s k h.le)))
section
attribute [local irreducible] vcApp
set_option maxHeartbeats 2000000 in
theorem parse18_p (s : ByteArray) (hs : s.size ≤ 4000000000) : APure Tryd.prog 15 [.s s] (.tup [.i (parseC s).1, .sl .no 3 (atrL (parseC s).2.1), .i (parseC s).2.2]) [] := by
  have hmx : maxLen = 9223372036854775807 := rfl
  have hl := tw_le hexI s 0 (Nat.zero_le _)
  rw [Nat.zero_add] at hl
  have hP : parseC s = match extW s (tw hexI s 0) [] with
    | none => (0, [], 31)
    | some (l, k) => if k < s.size ∨ (readH (s.extract 0 (tw hexI s 0)) mostB).2 = 2 then (0, [], 31) else if (readH (s.extract 0 (tw hexI s 0)) mostB).2 ≠ 0 then (0, [], (readH (s.extract 0 (tw hexI s 0)) mostB).2) else ((readH (s.extract 0 (tw hexI s 0)) mostB).1, l, 0) := rfl
  have hx := hex_p (s.extract 0 (tw hexI s 0)) (by rw [ext_len _ _ _ hl]; omega)
  generalize parseC s = Z at *
  refine APure.ofW2 rfl ?_
  refine ACalls.of_vc T_ok mixed Tryd.func15 rfl Tryd.call15 ?_
  refine .s (new_a ?_)
  refine ⟨_, last_at _ _, ?_⟩
  refine ⟨_, last_upd _ _ _, ?_⟩
  have h0 : Sc ⟨[[.s s, .i 0], [.ptr 0 0]], []⟩ 0 s 0 := ⟨rfl, Nat.zero_le _, by omega⟩
  have ht : 0 + tw hexI s 0 = tw hexI s 0 := Nat.zero_add _
  generalize htt : tw hexI s 0 = t0 at *
  rw [← htt] at ht
  refine .s (while_m (n := 0) (m := t0) isHex_f h0 (Nat.zero_le _) (ht.trans htt) (fun S0 m0 hs0 => ?_))
  have hf0 := m0.at' (q := 1) (cs := [.ptr 0 0]) rfl (by decide)
  generalize readH (s.extract 0 t0) mostB = rd at *
  obtain ⟨rn, re⟩ := rd
  refine .p rfl hx ?_
  refine vc_loop [9] (fun g vals st' => ∃ (k : Nat) (a : AV) (acc : List Atr), vals = [a] ∧ k + g = s.size ∧ Sc st' 0 s k ∧ st'.heap[1]? = some [.ptr 0 0] ∧ Acc 0 st'.tk 3 a (atrL acc) ∧ extW s t0 [] = extW s k acc ∧ acc.length ≤ k) (s.size - t0) rfl ⟨t0, _, [], rfl, by omega, hs0, hf0, .nil, rfl, by simp⟩ ?_
  rintro g vals st1 ⟨k, a, acc, rfl, hk, hs1, hf1, hA, hX, hal⟩
  have ela := atrL_len acc
  generalize hes : atrL acc = es at hA ela
  cases hA with
  | nil =>
    refine ⟨_, hf1, ?_⟩
    refine .s (byte_m (n := st1.tk.length) hs1 (Nat.le_refl _) 59 (fun hb S1 m1 hs1 => ?_) (fun hb hlt S1 m1 hs1 => ?_))
    · have hf1 := m1.at' hf1 (by decide)
      rw [hX, extW_end acc hb] at hP
      simp only at hP
      refine ⟨_, hf1, ?_⟩
      refine .s (end_a hs1 ?_)
      refine cnd_split (fun hd => ?_) (fun hd => ?_)
      · have hd : k < s.size := by simpa using hd
        rw [if_pos (.inl hd)] at hP
        subst hP
        exact .inr ⟨.i 0, [.i 31], 3, rfl, rfl⟩
      · have hd : ¬ k < s.size := by simpa using hd
        refine cnd_split (fun h2 => ?_) (fun h2 => ?_)
        · have h2 : re = 2 := by simpa using h2
          rw [if_pos (.inr h2)] at hP
          subst hP
          exact .inr ⟨.i 0, [.i 31], 3, rfl, rfl⟩
        · have h2 : ¬ re = 2 := by simpa using h2
          rw [if_neg (fun h => h.elim hd h2)] at hP
          refine cnd_split (fun h3 => ?_) (fun h3 => ?_)
          · have h3 : re ≠ 0 := by simpa using h3
            rw [if_pos h3] at hP
            subst hP
            exact .inr ⟨.i 0, [.i re], 3, rfl, rfl⟩
          · have h3 : re = 0 := by simpa using h3
            rw [if_neg (fun h => h h3)] at hP
            subst hP
            exact .inr ⟨.i rn, [.i 0], 3, rfl, by show (AV.tup [.i rn, .sl .no 3 (atrL acc), .i 0]) = _; rw [hes]; rfl⟩
    · have hf1 := m1.at' hf1 (by decide)
      refine ⟨_, hf1, ?_⟩
      refine .s (one18_a (n := S1.tk.length) hs1 (Nat.le_refl _) (by omega) (fun ho a2 S2 m2 hs2 => ?_) (fun a2 j ho S2 m2 hs2 => ?_))
      · refine ⟨_, last_at _ _, ?_⟩
        rw [hX, extW_none acc hb ho] at hP
        simp only at hP
        subst hP
        exact .inr ⟨.i 0, [.i 31], 3, rfl, rfl⟩
      · have jl := oneS_lt (by omega) ho
        have hf2 := m2.at' hf1 (by decide)
        refine ⟨_, last_at _ _, ?_⟩
        refine ⟨_, last_upd _ _ _, ?_⟩
        have tkl : st1.tk.length ≤ S2.tk.length := Nat.le_trans m1.tl m2.tl
        have tke : ∀ t, t < st1.tk.length → S2.tk[t]? = st1.tk[t]? := fun t ht => (m2.tk t (Nat.lt_of_lt_of_le ht m1.tl)).trans (m1.tk t ht)
        have hA2 : Acc 0 S2.tk 3 .nilS ([] : List (List AV)) := .nil
        refine Acc.app (n := 0) (i := ti100) hA2 (Nat.zero_le _) (List.cons_ne_nil _ _) ?_ ?_ (fun t9 e9 tk9 z0 z1 z2 z3 => ?_)
        · show (([] : List (List AV)).length + 1) * 40 ≤ _; omega
        · show ([] : List (List AV)).length + 1 ≤ _; omega
        refine ⟨s.size - j, by omega, j, _, acc ++ [a2], rfl, by omega, ?_, ?_, ?_, hX.trans (extW_some acc hb ho), by simp; omega⟩
        · exact ⟨(st_ne (by have := hs2.lt; omega) (ap hs2.at')), hs2.le, hs2.max⟩
        · exact st_ne (by have := lt_of hf2; omega) (ap hf2)
        · rw [← atrL_app, hes]
          exact .own _ _ _ (Nat.zero_le _) z1
  | own t e es q0 q1 =>
    refine ⟨_, hf1, ?_⟩
    refine .s (byte_m (n := st1.tk.length) hs1 (Nat.le_refl _) 59 (fun hb S1 m1 hs1 => ?_) (fun hb hlt S1 m1 hs1 => ?_))
    · have hf1 := m1.at' hf1 (by decide)
      rw [hX, extW_end acc hb] at hP
      simp only at hP
      refine ⟨_, hf1, ?_⟩
      refine .s (end_a hs1 ?_)
      refine cnd_split (fun hd => ?_) (fun hd => ?_)
      · have hd : k < s.size := by simpa using hd
        rw [if_pos (.inl hd)] at hP
        subst hP
        exact .inr ⟨.i 0, [.i 31], 3, rfl, rfl⟩
      · have hd : ¬ k < s.size := by simpa using hd
        refine cnd_split (fun h2 => ?_) (fun h2 => ?_)
        · have h2 : re = 2 := by simpa using h2
          rw [if_pos (.inr h2)] at hP
          subst hP
          exact .inr ⟨.i 0, [.i 31], 3, rfl, rfl⟩
        · have h2 : ¬ re = 2 := by simpa using h2
          rw [if_neg (fun h => h.elim hd h2)] at hP
          refine cnd_split (fun h3 => ?_) (fun h3 => ?_)
          · have h3 : re ≠ 0 := by simpa using h3
            rw [if_pos h3] at hP
            subst hP
            exact .inr ⟨.i 0, [.i re], 3, rfl, rfl⟩
          · have h3 : re = 0 := by simpa using h3
            rw [if_neg (fun h => h h3)] at hP
            subst hP
            exact .inl (by show (AV.tup [.i rn, .sl .no 3 es, .i 0]) = _; rw [← hes])
    · have hf1 := m1.at' hf1 (by decide)
      refine ⟨_, hf1, ?_⟩
      refine .s (one18_a (n := S1.tk.length) hs1 (Nat.le_refl _) (by omega) (fun ho a2 S2 m2 hs2 => ?_) (fun a2 j ho S2 m2 hs2 => ?_))
      · refine ⟨_, last_at _ _, ?_⟩
        rw [hX, extW_none acc hb ho] at hP
        simp only at hP
        subst hP
        exact .inr ⟨.i 0, [.i 31], 3, rfl, rfl⟩
      · have jl := oneS_lt (by omega) ho
        have hf2 := m2.at' hf1 (by decide)
        refine ⟨_, last_at _ _, ?_⟩
        refine ⟨_, last_upd _ _ _, ?_⟩
        have tkl : st1.tk.length ≤ S2.tk.length := Nat.le_trans m1.tl m2.tl
        have tke : ∀ t, t < st1.tk.length → S2.tk[t]? = st1.tk[t]? := fun t ht => (m2.tk t (Nat.lt_of_lt_of_le ht m1.tl)).trans (m1.tk t ht)
        have hA2 : Acc 0 S2.tk 3 (.sl (.own t e) 3 es) (es : List (List AV)) := .own _ _ _ (Nat.zero_le _) ((tke t (List.getElem?_eq_some_iff.1 q1).1).trans q1)
        refine Acc.app (n := 0) (i := ti100) hA2 (Nat.zero_le _) (List.cons_ne_nil _ _) ?_ ?_ (fun t9 e9 tk9 z0 z1 z2 z3 => ?_)
        · show ((es : List (List AV)).length + 1) * 40 ≤ _; omega
        · show (es : List (List AV)).length + 1 ≤ _; omega
        refine ⟨s.size - j, by omega, j, _, acc ++ [a2], rfl, by omega, ?_, ?_, ?_, hX.trans (extW_some acc hb ho), by simp; omega⟩
        · exact ⟨(st_ne (by have := hs2.lt; omega) (ap hs2.at')), hs2.le, hs2.max⟩
        · exact st_ne (by have := lt_of hf2; omega) (ap hf2)
        · rw [← atrL_app, hes]
          exact .own _ _ _ (Nat.zero_le _) z1
end
end Go.Proofs.YtfhodppaelfcfaaDoor
