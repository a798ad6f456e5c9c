/- Lines of chunks: the program's reading. No statement of its own. -/
import Derived.Test.YtookaenbpfpegaaDoorHx
import Derived.Test.YtookaenbpfpegaaDoorSm
import Derived.Test.YtookaenbpfpegaaDoorSb
set_option linter.unusedSimpArgs false
set_option linter.unusedVariables false
set_option maxRecDepth 100000
namespace Go.Proofs.YtookaenbpfpegaaDoor
open Go.RowKit
theorem isHex_p (n : Int) (h0 : 0 ≤ n) (h1 : n ≤ 255) : APure Tryd.prog 115 [.int .u8 n] (.b (hexI n)) [] := by
  refine APure.of rfl (ACalls.of_vc T_ok mixed Tryd.func115 rfl Tryd.call115 ?_)
  unfold hexI
  refine .p rfl (isDigit_p n) ?_
  refine cnd_split (fun h => ?_) (fun h => ?_)
  · exact retb (by rw [h]; rfl)
  · rw [h]
    refine .p rfl (lower_p n h0 h1) ?_
    refine cnd_split (fun h => ?_) (fun h => ?_)
    · refine .p rfl (lower_p n h0 h1) ?_
      exact retb (by rw [show decide (97 ≤ lowI n) = true from h]; rfl)
    · exact retb (by rw [show decide (97 ≤ lowI n) = false from h]; rfl)
theorem isHex_f : ByteF 115 hexI := isHex_p
theorem readQ_H (s : ByteArray) : readQ hexI 16 s mostB = readH s mostB := rfl
theorem hex_p (s : ByteArray) (hs : s.size < maxLen) : APure Tryd.prog 116 [.s s, .i mostB] (.tup [.i (readH s mostB).1, .i (readH s mostB).2]) [] := by
  have h := nread_p isHex_f (fun _ h => h) 16 (by omega) (by omega) s hs mostB (by decide)
  rw [readQ_H] at h
  refine APure.of rfl (ACalls.of_vc T_ok mixed Tryd.func116 rfl Tryd.call116 ?_)
  refine .p rfl h ?_
  rfl
def atrC (a : Atr) : List AV := [.s a.1, .s a.2.1, .b a.2.2]
def atrL (l : List Atr) : List (List AV) := l.map atrC
theorem atrL_len (l : List Atr) : (atrL l).length = l.length := by simp [atrL]
theorem atrL_app (l : List Atr) (a : Atr) : atrL l ++ [atrC a] = atrL (l ++ [a]) := by simp [atrL]
theorem atrL_at {l : List Atr} {j : Nat} (h : j < l.length) : (atrL l)[j]? = some (atrC l[j]) := by simp [atrL, h]
section
variable {st : St} {p k n : Nat} {s : ByteArray} {R : AV → St → Prop}
theorem word_a (h : Sc st p s k) (hn : n ≤ st.tk.length) (hm : s.size < 140737488355328)
    (h1 : wordS s k = none → ∀ st', Mv n (· = p) st st' → Sc st' p s k → R (.tup [.s ⟨#[]⟩, .b false]) st')
    (h2 : ∀ v j, wordS s k = some (v, j) → ∀ st', Mv n (· = p) st st' → Sc st' p s j → R (.tup [.s v, .b true]) st') :
    ACalls Tryd.prog 136 [.ptr p 0] st R := by
  have hl := tw_le tokI s k h.le
  have hW : wordS s k = if 0 < tw tokI s k then some (s.extract k (k + tw tokI s k), k + tw tokI s k) else (frontS s k).map fun x => (⟨x.1.toArray⟩, x.2) := rfl
  refine ACalls.of_vc T_ok mixed Tryd.func136 rfl Tryd.call136 ?_
  refine .s (token_m h hn (fun he S1 m1 hs1 => ?_) (fun he S1 m1 hs1 => ?_))
  · rw [if_neg (by omega)] at hW
    refine .s (read_a hs1 m1.tl hm (fun hf st' m hs => ?_) (fun v j hf st' m hs => ?_))
    · rw [hf] at hW
      exact h1 hW _ (m1.trans m (fun q _ e => e)) hs
    · rw [hf] at hW
      exact h2 _ _ hW _ (m1.trans m (fun q _ e => e)) hs
  · rw [if_pos (by omega)] at hW
    exact h2 _ _ hW _ m1 hs1
/-- one extension -/
theorem one18_a (h : Sc st p s k) (hn : n ≤ st.tk.length) (hm : s.size < 140737488355328)
    (h1 : oneS s k = none → ∀ a st', Mv n (· = p) st st' → (∃ j, Sc st' p s j) → R (.tup [.agg (atrC a), .b false]) st')
    (h2 : ∀ a j, oneS s k = some (a, j) → ∀ st', Mv n (· = p) st st' → Sc st' p s j → R (.tup [.agg (atrC a), .b true]) st') :
    ACalls Tryd.prog 118 [.agg [.ptr p 0]] st R := by
  have hlt := h.lt
  have hl := tw_le tokI s k h.le
  have hO : oneS s k = if tw tokI s k = 0 then none else if atB s (k + tw tokI s k) 61 = true then (wordS s (k + tw tokI s k + 1)).map fun x => ((s.extract k (k + tw tokI s k), x.1, true), x.2) else some ((s.extract k (k + tw tokI s k), ⟨#[]⟩, false), k + tw tokI s k) := rfl
  refine ACalls.of_vc T_ok mixed Tryd.func118 rfl Tryd.call118 ?_
  refine ⟨hlt, ?_⟩
  have mF : Mv n (fun _ => False) st ⟨(st.heap ++ [[.ptr p 0]]) ++ [[.s ⟨#[]⟩, .s ⟨#[]⟩, .b false]], st.tk⟩ := ((Mv.refl hn).alloc _).alloc _
  have m0 : Mv n (· = p) st ⟨(st.heap ++ [[.ptr p 0]]) ++ [[.s ⟨#[]⟩, .s ⟨#[]⟩, .b false]], st.tk⟩ := ((Mv.refl hn).alloc _).alloc _
  have h0 := h.mv mF (fun h => h)
  have r1 : ((st.heap ++ [[AV.ptr p 0]]) ++ [[.s ⟨#[]⟩, .s ⟨#[]⟩, .b false]])[st.heap.length]? = some [.ptr p 0] := by simp
  refine ⟨_, r1, ?_⟩
  have r2 : ((st.heap ++ [[AV.ptr p 0]]) ++ [[.s ⟨#[]⟩, .s ⟨#[]⟩, .b false]])[(st.heap ++ [[AV.ptr p 0]]).length]? = some [.s ⟨#[]⟩, .s ⟨#[]⟩, .b false] := last_at _ _
  have n1 : st.heap.length ≠ p := by omega
  have n2 : (st.heap ++ [[AV.ptr p 0]]).length ≠ p := by simp; omega
  have fin : ∀ {S : St} (c : List AV), Mv n (· = p) st S → Mv n (· = p) st ⟨S.heap.set (st.heap ++ [[AV.ptr p 0]]).length c, S.tk⟩ := fun c m => m.set (fun hh => absurd hh (by simp)) c
  have fsc : ∀ {S : St} {j : Nat} (c : List AV), Sc S p s j → Sc ⟨S.heap.set (st.heap ++ [[AV.ptr p 0]]).length c, S.tk⟩ p s j := fun c h => ⟨(List.getElem?_set_ne n2).trans h.at', h.le, h.max⟩
  refine .s (token_m h0 hn (fun he S1 m1 hs1 => ?_) (fun he S1 m1 hs1 => ?_))
  · have q2 := m1.at' r2 n2
    rw [if_pos he] at hO
    refine ⟨_, q2, ?_⟩
    refine ⟨_, st_eq q2, ?_⟩
    exact h1 hO (⟨#[]⟩, ⟨#[]⟩, false) _ (fin _ (m0.trans m1 (fun q _ e => e))) ⟨_, fsc _ hs1⟩
  · have q1 := m1.at' r1 n1
    have q2 := m1.at' r2 n2
    have mm := m0.trans m1 (fun q _ e => e)
    rw [if_neg he] at hO
    refine ⟨_, q1, ?_⟩
    refine .s (byte_m hs1 m1.tl 61 (fun hb S2 m2 hs2 => ?_) (fun hb hlt2 S2 m2 hs2 => ?_))
    · have q2 := m2.at' q2 n2
      have mm := mm.trans m2 (fun q _ e => e)
      rw [hb, if_neg (by decide)] at hO
      refine ⟨_, q2, ?_⟩
      refine ⟨_, st_eq q2, ?_⟩
      exact h2 _ _ hO _ (fin _ mm) (fsc _ hs2)
    · have q1 := m2.at' q1 n1
      have q2 := m2.at' q2 n2
      have mm := mm.trans m2 (fun q _ e => e)
      rw [hb, if_pos rfl] at hO
      refine ⟨_, q1, ?_⟩
      refine .s (word_a hs2 m2.tl hm (fun hw S3 m3 hs3 => ?_) (fun v j hw S3 m3 hs3 => ?_))
      · have q2 := m3.at' q2 n2
        have mm := mm.trans m3 (fun q _ e => e)
        rw [hw] at hO
        refine ⟨_, q2, ?_⟩
        refine ⟨_, st_eq q2, ?_⟩
        exact h1 hO (_, ⟨#[]⟩, true) _ (fin _ mm) ⟨_, fsc _ hs3⟩
      · have q2 := m3.at' q2 n2
        have mm := mm.trans m3 (fun q _ e => e)
        rw [hw] at hO
        refine ⟨_, q2, ?_⟩
        refine ⟨_, st_eq q2, ?_⟩
        exact h2 _ _ hO _ (fin _ mm) (fsc _ hs3)
end
section
attribute [local irreducible] vcApp
set_option maxHeartbeats 2000000 in
theorem parse18_p (s : ByteArray) (hs : s.size ≤ 4000000000) : APure Tryd.prog 105 [.s s] (.tup [.i (parseC s).1, .sl .no 3 (atrL (parseC s).2.1), .i (parseC s).2.2]) [] := by
  have hmx : maxLen = 9223372036854775807 := rfl
  have hl := tw_le hexI s 0 (Nat.zero_le _)
  rw [Nat.zero_add] at hl
  have hP : parseC s = match extW s (tw hexI s 0) [] with
    | none => (0, [], 31)
    | some (l, k) => if k < s.size ∨ (readH (s.extract 0 (tw hexI s 0)) mostB).2 = 2 then (0, [], 31) else if (readH (s.extract 0 (tw hexI s 0)) mostB).2 ≠ 0 then (0, [], (readH (s.extract 0 (tw hexI s 0)) mostB).2) else ((readH (s.extract 0 (tw hexI s 0)) mostB).1, l, 0) := rfl
  have hx := hex_p (s.extract 0 (tw hexI s 0)) (by rw [ext_len _ _ _ hl]; omega)
  generalize parseC s = Z at *
  refine APure.ofW2 rfl ?_
  refine ACalls.of_vc T_ok mixed Tryd.func105 rfl Tryd.call105 ?_
  refine .s (new_a ?_)
  refine ⟨_, last_at _ _, ?_⟩
  refine ⟨_, last_upd _ _ _, ?_⟩
  have h0 : Sc ⟨[[.s s, .i 0], [.ptr 0 0]], []⟩ 0 s 0 := ⟨rfl, Nat.zero_le _, by omega⟩
  have ht : 0 + tw hexI s 0 = tw hexI s 0 := Nat.zero_add _
  generalize htt : tw hexI s 0 = t0 at *
  rw [← htt] at ht
  refine .s (while_m (n := 0) (m := t0) isHex_f h0 (Nat.zero_le _) (ht.trans htt) (fun S0 m0 hs0 => ?_))
  have hf0 := m0.at' (q := 1) (cs := [.ptr 0 0]) rfl (by decide)
  generalize readH (s.extract 0 t0) mostB = rd at *
  obtain ⟨rn, re⟩ := rd
  refine .p rfl hx ?_
  refine vc_loop [9] (fun g vals st' => ∃ (k : Nat) (a : AV) (acc : List Atr), vals = [a] ∧ k + g = s.size ∧ Sc st' 0 s k ∧ st'.heap[1]? = some [.ptr 0 0] ∧ Acc 0 st'.tk 3 a (atrL acc) ∧ extW s t0 [] = extW s k acc ∧ acc.length ≤ k) (s.size - t0) rfl ⟨t0, _, [], rfl, by omega, hs0, hf0, .nil, rfl, by simp⟩ ?_
  rintro g vals st1 ⟨k, a, acc, rfl, hk, hs1, hf1, hA, hX, hal⟩
  have ela := atrL_len acc
  generalize hes : atrL acc = es at hA ela
  cases hA with
  | nil =>
    refine ⟨_, hf1, ?_⟩
    refine .s (byte_m (n := st1.tk.length) hs1 (Nat.le_refl _) 59 (fun hb S1 m1 hs1 => ?_) (fun hb hlt S1 m1 hs1 => ?_))
    · have hf1 := m1.at' hf1 (by decide)
      rw [hX, extW_end acc hb] at hP
      simp only at hP
      refine ⟨_, hf1, ?_⟩
      refine .s (end_a hs1 ?_)
      refine cnd_split (fun hd => ?_) (fun hd => ?_)
      · have hd : k < s.size := by simpa using hd
        rw [if_pos (.inl hd)] at hP
        subst hP
        exact .inr ⟨.i 0, [.i 31], 3, rfl, rfl⟩
      · have hd : ¬ k < s.size := by simpa using hd
        refine cnd_split (fun h2 => ?_) (fun h2 => ?_)
        · have h2 : re = 2 := by simpa using h2
          rw [if_pos (.inr h2)] at hP
          subst hP
          exact .inr ⟨.i 0, [.i 31], 3, rfl, rfl⟩
        · have h2 : ¬ re = 2 := by simpa using h2
          rw [if_neg (fun h => h.elim hd h2)] at hP
          refine cnd_split (fun h3 => ?_) (fun h3 => ?_)
          · have h3 : re ≠ 0 := by simpa using h3
            rw [if_pos h3] at hP
            subst hP
            exact .inr ⟨.i 0, [.i re], 3, rfl, rfl⟩
          · have h3 : re = 0 := by simpa using h3
            rw [if_neg (fun h => h h3)] at hP
            subst hP
            exact .inr ⟨.i rn, [.i 0], 3, rfl, by show (AV.tup [.i rn, .sl .no 3 (atrL acc), .i 0]) = _; rw [hes]; rfl⟩
    · have hf1 := m1.at' hf1 (by decide)
      refine ⟨_, hf1, ?_⟩
      refine .s (one18_a (n := S1.tk.length) hs1 (Nat.le_refl _) (by omega) (fun ho a2 S2 m2 hs2 => ?_) (fun a2 j ho S2 m2 hs2 => ?_))
      · refine ⟨_, last_at _ _, ?_⟩
        rw [hX, extW_none acc hb ho] at hP
        simp only at hP
        subst hP
        exact .inr ⟨.i 0, [.i 31], 3, rfl, rfl⟩
      · have jl := oneS_lt (by omega) ho
        have hf2 := m2.at' hf1 (by decide)
        refine ⟨_, last_at _ _, ?_⟩
        refine ⟨_, last_upd _ _ _, ?_⟩
        have tkl : st1.tk.length ≤ S2.tk.length := Nat.le_trans m1.tl m2.tl
        have tke : ∀ t, t < st1.tk.length → S2.tk[t]? = st1.tk[t]? := fun t ht => (m2.tk t (Nat.lt_of_lt_of_le ht m1.tl)).trans (m1.tk t ht)
        have hA2 : Acc 0 S2.tk 3 .nilS ([] : List (List AV)) := .nil
        refine Acc.app (n := 0) (i := ti109) hA2 (Nat.zero_le _) (List.cons_ne_nil _ _) ?_ ?_ (fun t9 e9 tk9 z0 z1 z2 z3 => ?_)
        · show (([] : List (List AV)).length + 1) * 40 ≤ _; omega
        · show ([] : List (List AV)).length + 1 ≤ _; omega
        refine ⟨s.size - j, by omega, j, _, acc ++ [a2], rfl, by omega, ?_, ?_, ?_, hX.trans (extW_some acc hb ho), by simp; omega⟩
        · exact ⟨(st_ne (by have := hs2.lt; omega) (ap hs2.at')), hs2.le, hs2.max⟩
        · exact st_ne (by have := lt_of hf2; omega) (ap hf2)
        · rw [← atrL_app, hes]
          exact .own _ _ _ (Nat.zero_le _) z1
  | own t e es q0 q1 =>
    refine ⟨_, hf1, ?_⟩
    refine .s (byte_m (n := st1.tk.length) hs1 (Nat.le_refl _) 59 (fun hb S1 m1 hs1 => ?_) (fun hb hlt S1 m1 hs1 => ?_))
    · have hf1 := m1.at' hf1 (by decide)
      rw [hX, extW_end acc hb] at hP
      simp only at hP
      refine ⟨_, hf1, ?_⟩
      refine .s (end_a hs1 ?_)
      refine cnd_split (fun hd => ?_) (fun hd => ?_)
      · have hd : k < s.size := by simpa using hd
        rw [if_pos (.inl hd)] at hP
        subst hP
        exact .inr ⟨.i 0, [.i 31], 3, rfl, rfl⟩
      · have hd : ¬ k < s.size := by simpa using hd
        refine cnd_split (fun h2 => ?_) (fun h2 => ?_)
        · have h2 : re = 2 := by simpa using h2
          rw [if_pos (.inr h2)] at hP
          subst hP
          exact .inr ⟨.i 0, [.i 31], 3, rfl, rfl⟩
        · have h2 : ¬ re = 2 := by simpa using h2
          rw [if_neg (fun h => h.elim hd h2)] at hP
          refine cnd_split (fun h3 => ?_) (fun h3 => ?_)
          · have h3 : re ≠ 0 := by simpa using h3
            rw [if_pos h3] at hP
            subst hP
            exact .inr ⟨.i 0, [.i re], 3, rfl, rfl⟩
          · have h3 : re = 0 := by simpa using h3
            rw [if_neg (fun h => h h3)] at hP
            subst hP
            exact .inl (by show (AV.tup [.i rn, .sl .no 3 es, .i 0]) = _; rw [← hes])
    · have hf1 := m1.at' hf1 (by decide)
      refine ⟨_, hf1, ?_⟩
      refine .s (one18_a (n := S1.tk.length) hs1 (Nat.le_refl _) (by omega) (fun ho a2 S2 m2 hs2 => ?_) (fun a2 j ho S2 m2 hs2 => ?_))
      · refine ⟨_, last_at _ _, ?_⟩
        rw [hX, extW_none acc hb ho] at hP
        simp only at hP
        subst hP
        exact .inr ⟨.i 0, [.i 31], 3, rfl, rfl⟩
      · have jl := oneS_lt (by omega) ho
        have hf2 := m2.at' hf1 (by decide)
        refine ⟨_, last_at _ _, ?_⟩
        refine ⟨_, last_upd _ _ _, ?_⟩
        have tkl : st1.tk.length ≤ S2.tk.length := Nat.le_trans m1.tl m2.tl
        have tke : ∀ t, t < st1.tk.length → S2.tk[t]? = st1.tk[t]? := fun t ht => (m2.tk t (Nat.lt_of_lt_of_le ht m1.tl)).trans (m1.tk t ht)
        have hA2 : Acc 0 S2.tk 3 (.sl (.own t e) 3 es) (es : List (List AV)) := .own _ _ _ (Nat.zero_le _) ((tke t (List.getElem?_eq_some_iff.1 q1).1).trans q1)
        refine Acc.app (n := 0) (i := ti109) hA2 (Nat.zero_le _) (List.cons_ne_nil _ _) ?_ ?_ (fun t9 e9 tk9 z0 z1 z2 z3 => ?_)
        · show ((es : List (List AV)).length + 1) * 40 ≤ _; omega
        · show (es : List (List AV)).length + 1 ≤ _; omega
        refine ⟨s.size - j, by omega, j, _, acc ++ [a2], rfl, by omega, ?_, ?_, ?_, hX.trans (extW_some acc hb ho), by simp; omega⟩
        · exact ⟨(st_ne (by have := hs2.lt; omega) (ap hs2.at')), hs2.le, hs2.max⟩
        · exact st_ne (by have := lt_of hf2; omega) (ap hf2)
        · rw [← atrL_app, hes]
          exact .own _ _ _ (Nat.zero_le _) z1
end
def hexC : ByteArray := ⟨#[48, 49, 50, 51, 52, 53, 54, 55, 56, 57, 97, 98, 99, 100, 101, 102, 65, 66, 67, 68, 69, 70]⟩
theorem hexC_eq : ∀ m : Nat, m < 256 → inI hexC (m : Int) = hexI (m : Int) := by decide +kernel
theorem r1hex_p (n : Int) (h0 : 0 ≤ n) (h1 : n ≤ 255) : APure Tryd.prog 66 [.int .u8 n] (.b (hexI n)) [] := by
  have e : inI hexC n = hexI n := by
    obtain ⟨m, rfl⟩ := Int.eq_ofNat_of_zero_le h0
    exact hexC_eq m (by omega)
  rw [← e]
  refine APure.of rfl (ACalls.of_vc T_ok mixed Tryd.func66 rfl Tryd.call66 ?_)
  refine .p rfl (in1_p n hexC (by decide)) ?_
  rfl
theorem word5_p (s : ByteArray) (hs : s.size ≤ 1099511627776) : APure Tryd.prog 69 [.s s] (.tup [.s (wordR s).1, .i (wordR s).2]) [] := by
  have hmx : maxLen = 9223372036854775807 := rfl
  have hW : wordS s 0 = if 0 < tw tokI s 0 then some (s.extract 0 (0 + tw tokI s 0), 0 + tw tokI s 0) else (frontS s 0).map fun x => (⟨x.1.toArray⟩, x.2) := rfl
  have hF := front5_p s hs
  refine APure.of rfl (ACalls.of_vc T_ok mixed Tryd.func69 rfl Tryd.call69 ?_)
  refine vc_loop [4] (fun g vals st' => ∃ m : Nat, m + g = s.size ∧ vals = [.i m] ∧ ∀ j (hj : j < s.size), 0 ≤ j → j < m → tokI (s[j].toNat : Int) = true) s.size rfl ⟨0, by omega, rfl, fun j _ _ h => absurd h (by omega)⟩ ?_
  rintro g vals st' ⟨m, hm, rfl, hall⟩
  refine cnd_split (fun hd => ?_) (fun hd => ?_)
  · have hd := of_decide_eq_true hd
    have m1 : m < s.size := by omega
    refine ⟨m, m1, rfl, ?_⟩
    refine .p rfl (tok1_p _ (by omega) (by have := s[m].toNat_lt; omega)) ?_
    refine cnd_split (fun h1 => ?_) (fun h1 => ?_)
    · intro c hc
      rw [IntWalk.i64_in _ (by omega)] at hc
      obtain rfl : c = ((m + 1 : Nat) : Int) := by omega
      refine ⟨g - 1, by omega, m + 1, by omega, rfl, fun j hj h0 hjm => ?_⟩
      by_cases e : j = m
      · subst e; exact h1
      · exact hall j hj h0 (by omega)
    · have ht := tw_at hall (by omega) (by omega) (fun _ => h1)
      rw [Nat.zero_add] at ht
      refine cnd_split (fun h2 => ?_) (fun h2 => ?_)
      · have h2 := of_decide_eq_true h2
        have h3 : 0 < m := by omega
        refine ⟨m, rfl, Nat.zero_le _, by omega, ?_⟩
        rw [ht, Nat.zero_add, if_pos h3] at hW
        have : wordR s = (s.extract 0 m, (m : Int)) := by unfold wordR; rw [hW]
        rw [this]
        rfl
      · have h2 := of_decide_eq_false h2
        have h3 : ¬ 0 < m := by omega
        rw [ht, if_neg h3] at hW
        have : wordR s = frontR s := by unfold wordR frontR; rw [hW]; cases frontS s 0 <;> rfl
        rw [this]
        refine .p rfl hF ?_
        rfl
  · have hd := of_decide_eq_false hd
    have ht := tw_at hall (by omega) (by omega) (fun h => absurd h (by omega))
    rw [Nat.zero_add] at ht
    refine cnd_split (fun h2 => ?_) (fun h2 => ?_)
    · have h2 := of_decide_eq_true h2
      have h3 : 0 < m := by omega
      refine ⟨m, rfl, Nat.zero_le _, by omega, ?_⟩
      rw [ht, Nat.zero_add, if_pos h3] at hW
      have : wordR s = (s.extract 0 m, (m : Int)) := by unfold wordR; rw [hW]
      rw [this]
      rfl
    · have h2 := of_decide_eq_false h2
      have h3 : ¬ 0 < m := by omega
      rw [ht, if_neg h3] at hW
      have : wordR s = frontR s := by unfold wordR frontR; rw [hW]; cases frontS s 0 <;> rfl
      rw [this]
      refine .p rfl hF ?_
      rfl
theorem ret31 {Z : Int × List Atr × Int} (h : Z = (0, [], 31)) : resW2 (.tup [.i 0, .nilS, .i 31]) (.tup [.i Z.1, .sl .no 3 (atrL Z.2.1), .i Z.2.2]) := by
  subst h
  exact .inr ⟨.i 0, [.i 31], 3, rfl, rfl⟩
section
attribute [local irreducible] vcApp
set_option maxHeartbeats 4000000 in
theorem r18parse_p (s : ByteArray) (hs : s.size ≤ 4000000000) : APure Tryd.prog 53 [.s s] (.tup [.i (parseC s).1, .sl .no 3 (atrL (parseC s).2.1), .i (parseC s).2.2]) [] := by
  have hmx : maxLen = 9223372036854775807 := rfl
  have hl := tw_le hexI s 0 (Nat.zero_le _)
  rw [Nat.zero_add] at hl
  have hP : parseC s = match extW s (tw hexI s 0) [] with
    | none => (0, [], 31)
    | some (l, k) => if k < s.size ∨ (readH (s.extract 0 (tw hexI s 0)) mostB).2 = 2 then (0, [], 31) else if (readH (s.extract 0 (tw hexI s 0)) mostB).2 ≠ 0 then (0, [], (readH (s.extract 0 (tw hexI s 0)) mostB).2) else ((readH (s.extract 0 (tw hexI s 0)) mostB).1, l, 0) := rfl
  have hRd := r3Read_p 16 (by decide) (by decide) (s.extract 0 (tw hexI s 0)) (by rw [ext_len _ _ _ hl]; omega) mostB (by decide)
  rw [readG_H] at hRd
  generalize parseC s = Z at *
  generalize readH (s.extract 0 (tw hexI s 0)) mostB = rd at *
  obtain ⟨rn, re⟩ := rd
  refine APure.ofW2 rfl ?_
  refine ACalls.of_vc T_ok mixed Tryd.func53 rfl Tryd.call53 ?_
  refine vc_loopx 0 [5] (fun g vals st' => ∃ m : Nat, m + g = (s).size ∧ 0 ≤ m ∧ vals = [.i m] ∧ st' = ⟨[], []⟩ ∧ ∀ j (hj : j < (s).size), 0 ≤ j → j < m → hexI ((s)[j].toNat : Int) = true) ((s).size - (0)) (fun vals st' => vals = [.i (0 + tw hexI (s) (0) : Nat)] ∧ st' = ⟨[], []⟩) rfl ⟨0, by omega, Nat.le_refl _, rfl, rfl, fun j _ h1 h2 => absurd h2 (by omega)⟩ ?_ ?_
  · rintro g vals st' ⟨m, hm, hm1, rfl, rfl, hall⟩
    refine cnd_split (fun hd => ?_) (fun hd => ?_)
    · have hd := of_decide_eq_true hd
      have m1 : m < (s).size := by omega
      refine ⟨m, m1, rfl, ?_⟩
      refine .p rfl (r1hex_p _ (by omega) (by have := (s)[m].toNat_lt; omega)) ?_
      refine cnd_split (fun h1 => ?_) (fun h1 => ?_)
      · intro c hc
        rw [IntWalk.i64_in _ (by omega)] at hc
        obtain rfl : c = ((m + 1 : Nat) : Int) := by omega
        refine ⟨g - 1, by omega, m + 1, by omega, by omega, rfl, rfl, fun j hj h0 hjm => ?_⟩
        by_cases e : j = m
        · subst e; exact h1
        · exact hall j hj h0 (by omega)
      · exact ⟨congrArg (fun x : Nat => [AV.i (x : Int)]) (tw_at hall hm1 (by omega) (fun _ => h1)).symm, rfl⟩
    · have hd := of_decide_eq_false hd
      exact ⟨congrArg (fun x : Nat => [AV.i (x : Int)]) (tw_at hall hm1 (by omega) (fun h => absurd h (by omega))).symm, rfl⟩
  rintro vals st' ⟨rfl, rfl⟩
  generalize htt : tw hexI s 0 = t0 at *
  rw [Nat.zero_add] at *
  refine ⟨t0, rfl, Nat.zero_le _, by omega, ?_⟩
  refine .p rfl hRd ?_
  refine cnd_split (fun h2 => ?_) (fun h2 => ?_)
  · have h2 : re = 2 := by simpa using h2
    refine ret31 ?_
    rw [hP]
    cases extW s t0 [] with
    | none => rfl
    | some x => exact if_pos (.inr h2)
  have hre : ¬ re = 2 := by simpa using h2
  refine ⟨t0, rfl, by omega, Nat.le_refl _, ?_⟩
  refine vc_loop [0, 8] (fun g vals st' => ∃ (k : Nat) (T : ByteArray) (a : AV) (acc : List Atr), vals = [.s T, a] ∧ T = s.extract k s.size ∧ k ≤ s.size ∧ k + g = s.size ∧ Acc 0 st'.tk 3 a (atrL acc) ∧ extW s t0 [] = extW s k acc ∧ acc.length ≤ k) (s.size - t0) rfl ⟨t0, _, _, [], rfl, rfl, by omega, by omega, .nil, rfl, by simp⟩ ?_
  rintro g vals st1 ⟨k, T, a, acc, rfl, hT, hk, hkg, hA, hX, hal⟩
  have hTz : T.size + k = s.size := by rw [hT, cut_size]; omega
  have ela := atrL_len acc
  generalize hes : atrL acc = es at hA ela
  cases hA with
  | nil =>
    intro t ht
    cases t with
    | false =>
      have hz : T.size = 0 := (emp_iff _).1 (ht.1 rfl)
      rw [hX, extW_end acc (atB_ge (by omega) _)] at hP
      simp only at hP
      refine cnd_split (fun h2 => ?_) (fun h2 => ?_)
      · have h2 : re ≠ 0 := by simpa using h2
        rw [if_neg (fun h => h.elim (fun h => by omega) hre), if_pos h2] at hP
        subst hP
        exact .inr ⟨.i 0, [.i re], 3, rfl, rfl⟩
      · have h2 : re = 0 := by simpa using h2
        rw [if_neg (fun h => h.elim (fun h => by omega) hre), if_neg (fun h => h h2)] at hP
        subst hP
        exact .inr ⟨.i rn, [.i 0], 3, rfl, by show (AV.tup [.i rn, .sl .no 3 (atrL acc), .i 0]) = _; rw [hes]; rfl⟩
    | true =>
      have hz : 0 < T.size := Nat.pos_of_ne_zero fun e => by have := ht.2 ((emp_iff _).2 e); cases this
      have hTa := cut_atB s k 0 59
      rw [← hT, Nat.add_zero, atB_lt hz] at hTa
      refine ⟨0, hz, rfl, ?_⟩
      refine cnd_split (fun h1 => ?_) (fun h1 => ?_)
      · have h1 : ((T[0].toNat : Int) == 59) = false := by rw [bne, Bool.not_eq_true'] at h1; exact h1
        rw [h1] at hTa
        rw [hX, extW_end acc hTa.symm] at hP
        simp only at hP
        rw [if_pos (.inl (by omega))] at hP
        exact ret31 hP
      have h1 : ((T[0].toNat : Int) == 59) = true := by rw [bne, Bool.not_eq_false'] at h1; exact h1
      rw [h1] at hTa
      have hb := hTa.symm
      refine vc_loopx 4 [9] (fun g vals st' => ∃ m : Nat, m + g = (T).size ∧ 1 ≤ m ∧ vals = [.i m] ∧ st' = st1 ∧ ∀ j (hj : j < (T).size), 1 ≤ j → j < m → tokI ((T)[j].toNat : Int) = true) ((T).size - (1)) (fun vals st' => vals = [.i (1 + tw tokI (T) (1) : Nat)] ∧ st' = st1) rfl ⟨1, by omega, Nat.le_refl _, rfl, rfl, fun j _ h1 h2 => absurd h2 (by omega)⟩ ?_ ?_
      · rintro g vals st' ⟨m, hm, hm1, rfl, rfl, hall⟩
        refine cnd_split (fun hd => ?_) (fun hd => ?_)
        · have hd := of_decide_eq_true hd
          have m1 : m < (T).size := by omega
          refine ⟨m, m1, rfl, ?_⟩
          refine .p rfl (tok1_p _ (by omega) (by have := (T)[m].toNat_lt; omega)) ?_
          refine cnd_split (fun h1 => ?_) (fun h1 => ?_)
          · intro c hc
            rw [IntWalk.i64_in _ (by omega)] at hc
            obtain rfl : c = ((m + 1 : Nat) : Int) := by omega
            refine ⟨g - 1, by omega, m + 1, by omega, by omega, rfl, rfl, fun j hj h0 hjm => ?_⟩
            by_cases e : j = m
            · subst e; exact h1
            · exact hall j hj h0 (by omega)
          · exact ⟨congrArg (fun x : Nat => [AV.i (x : Int)]) (tw_at hall hm1 (by omega) (fun _ => h1)).symm, rfl⟩
        · have hd := of_decide_eq_false hd
          exact ⟨congrArg (fun x : Nat => [AV.i (x : Int)]) (tw_at hall hm1 (by omega) (fun h => absurd h (by omega))).symm, rfl⟩
      rintro vals st' ⟨rfl, rfl⟩
      have hmT := tw_le tokI T 1 (by omega)
      generalize hm : 1 + tw tokI T 1 = m at *
      have hm0 : 1 ≤ m := by omega
      have he : tw tokI s (k + 1) = m - 1 := by
        rw [← cut_tw tokI s k 1, ← hT]
        omega
      have hO : oneS s (k + 1) = if m - 1 = 0 then none else if atB s (k + m) 61 = true then (wordS s (k + m + 1)).map fun x => ((s.extract (k + 1) (k + m), x.1, true), x.2) else some ((s.extract (k + 1) (k + m), ⟨#[]⟩, false), k + m) := by
        unfold oneS
        rw [he, show k + 1 + (m - 1) = k + m by omega]
      refine cnd_split (fun h2 => ?_) (fun h2 => ?_)
      · have h2 : m = 1 := by
          have := beq_iff_eq.1 h2
          omega
        rw [if_pos (by omega)] at hO
        rw [hX, extW_none acc hb hO] at hP
        exact ret31 hP
      have h2 : m ≠ 1 := by
        have := beq_eq_false_iff_ne.1 h2
        omega
      rw [if_neg (by omega)] at hO
      have hN : T.extract 1 m = s.extract (k + 1) (k + m) := by rw [hT]; exact cut_ext s k 1 m
      refine ⟨m, rfl, 1, rfl, hm0, hmT, ?_⟩
      refine ⟨_, last_at _ _, ?_⟩
      refine ⟨m, rfl, hmT, Nat.le_refl _, ?_⟩
      have hU : T.extract m T.size = s.extract (k + m) s.size := by rw [hT]; exact cut_cut s k m
      have hUz : (T.extract m T.size).size = T.size - m := ext_len _ _ _ (Nat.le_refl _)
      have hUa : atB (T.extract m T.size) 0 61 = atB s (k + m) 61 := by rw [hU, cut_atB]; rfl
      have hUx : ∀ x, (T.extract m T.size).extract x (T.extract m T.size).size = s.extract (k + m + x) s.size := fun x => by rw [hU]; exact cut_cut s (k + m) x
      rw [← hN] at hO
      generalize T.extract m T.size = U at *
      intro t ht
      cases t with
      | false =>
        have hz : U.size = 0 := (emp_iff _).1 (ht.1 rfl)
        rw [← hUa, atB_ge (by omega), if_neg (by decide)] at hO
        refine ⟨_, last_upd _ _ _, ?_⟩
        refine Acc.app (n := 0) (i := ti109) (es := []) .nil (Nat.zero_le _) (List.cons_ne_nil _ _) ?_ ?_ (fun t9 e9 tk9 z0 z1 z2 z3 => ?_)
        · show (([] : List (List AV)).length + 1) * 40 ≤ _; omega
        · show ([] : List (List AV)).length + 1 ≤ _; omega
        refine ⟨s.size - (k + m), by omega, k + m, _, _, acc ++ [(T.extract 1 m, ⟨#[]⟩, false)], rfl, hU, by omega, by omega, ?_, hX.trans (extW_some acc hb hO), by simp; omega⟩
        rw [← atrL_app, hes]
        exact .own _ _ _ (Nat.zero_le _) z1
      | true =>
        have hz : 0 < U.size := Nat.pos_of_ne_zero fun e => by have := ht.2 ((emp_iff _).2 e); cases this
        refine ⟨0, hz, rfl, ?_⟩
        rw [atB_lt hz] at hUa
        refine cnd_split (fun h3 => ?_) (fun h3 => ?_)
        · have h3 : ((U[0].toNat : Int) == 61) = true := h3
          rw [← hUa, h3, if_pos rfl] at hO
          refine ⟨1, rfl, hz, Nat.le_refl _, ?_⟩
          have hw := word5_p (U.extract 1 U.size) (by rw [ext_len _ _ _ (Nat.le_refl _)]; omega)
          have hc := cut_word s (k + m + 1) (by omega)
          have hwR : wordR (U.extract 1 U.size) = match (wordS s (k + m + 1)).map (fun x => (x.1, x.2 - (k + m + 1))) with
            | some (v, j) => (v, (j : Int))
            | none => (⟨#[]⟩, 0) := by rw [hUx 1]; unfold wordR; rw [hc]; cases wordS s (k + m + 1) <;> rfl
          have hle : ∀ v j, wordS s (k + m + 1) = some (v, j) → k + m + 1 < j ∧ j ≤ s.size := fun v j h => wordS_le (by omega) h
          refine .p rfl hw ?_
          generalize wordR (U.extract 1 U.size) = W at hwR
          generalize wordS s (k + m + 1) = X at *
          cases X with
          | none =>
            have hwR : W = (⟨#[]⟩, 0) := hwR
            subst hwR
            rw [hX, extW_none acc hb hO] at hP
            exact ret31 hP
          | some x =>
            obtain ⟨v, j⟩ := x
            obtain ⟨j1, j2⟩ := hle v j rfl
            have hwR : W = (v, ((j - (k + m + 1) : Nat) : Int)) := hwR
            subst hwR
            refine cnd_split (fun h4 => ?_) (fun h4 => ?_)
            · have h4 : ((j - (k + m + 1) : Nat) : Int) = 0 := beq_iff_eq.1 h4
              omega
            · refine ⟨_, last_upd _ _ _, ?_⟩
              refine ⟨_, st_eq (last_upd _ _ _), ?_⟩
              intro c hc1
              have hc2 : c = ((1 + (j - (k + m + 1)) : Nat) : Int) := by rw [hc1, IntWalk.i64_in _ (by omega)]; omega
              subst hc2
              refine ⟨1 + (j - (k + m + 1)), rfl, by omega, Nat.le_refl _, ?_⟩
              refine ⟨_, st_eq (st_eq (last_upd _ _ _)), ?_⟩
              refine Acc.app (n := 0) (i := ti109) (es := []) .nil (Nat.zero_le _) (List.cons_ne_nil _ _) ?_ ?_ (fun t9 e9 tk9 z0 z1 z2 z3 => ?_)
              · show (([] : List (List AV)).length + 1) * 40 ≤ _; omega
              · show ([] : List (List AV)).length + 1 ≤ _; omega
              refine ⟨s.size - (j), by omega, j, _, _, acc ++ [(T.extract 1 m, v, true)], rfl, (hUx _).trans (by congr 1; omega), by omega, by omega, ?_, hX.trans (extW_some acc hb hO), by simp; omega⟩
              rw [← atrL_app, hes]
              exact .own _ _ _ (Nat.zero_le _) z1
        · have h3 : ((U[0].toNat : Int) == 61) = false := h3
          rw [← hUa, h3, if_neg (by decide)] at hO
          refine ⟨_, last_upd _ _ _, ?_⟩
          refine Acc.app (n := 0) (i := ti109) (es := []) .nil (Nat.zero_le _) (List.cons_ne_nil _ _) ?_ ?_ (fun t9 e9 tk9 z0 z1 z2 z3 => ?_)
          · show (([] : List (List AV)).length + 1) * 40 ≤ _; omega
          · show ([] : List (List AV)).length + 1 ≤ _; omega
          refine ⟨s.size - (k + m), by omega, k + m, _, _, acc ++ [(T.extract 1 m, ⟨#[]⟩, false)], rfl, hU, by omega, by omega, ?_, hX.trans (extW_some acc hb hO), by simp; omega⟩
          rw [← atrL_app, hes]
          exact .own _ _ _ (Nat.zero_le _) z1
  | own t e es q0 q1 =>
    intro t ht
    cases t with
    | false =>
      have hz : T.size = 0 := (emp_iff _).1 (ht.1 rfl)
      rw [hX, extW_end acc (atB_ge (by omega) _)] at hP
      simp only at hP
      refine cnd_split (fun h2 => ?_) (fun h2 => ?_)
      · have h2 : re ≠ 0 := by simpa using h2
        rw [if_neg (fun h => h.elim (fun h => by omega) hre), if_pos h2] at hP
        subst hP
        exact .inr ⟨.i 0, [.i re], 3, rfl, rfl⟩
      · have h2 : re = 0 := by simpa using h2
        rw [if_neg (fun h => h.elim (fun h => by omega) hre), if_neg (fun h => h h2)] at hP
        subst hP
        exact .inl (by show (AV.tup [.i rn, .sl .no 3 es, .i 0]) = _; rw [← hes])
    | true =>
      have hz : 0 < T.size := Nat.pos_of_ne_zero fun e => by have := ht.2 ((emp_iff _).2 e); cases this
      have hTa := cut_atB s k 0 59
      rw [← hT, Nat.add_zero, atB_lt hz] at hTa
      refine ⟨0, hz, rfl, ?_⟩
      refine cnd_split (fun h1 => ?_) (fun h1 => ?_)
      · have h1 : ((T[0].toNat : Int) == 59) = false := by rw [bne, Bool.not_eq_true'] at h1; exact h1
        rw [h1] at hTa
        rw [hX, extW_end acc hTa.symm] at hP
        simp only at hP
        rw [if_pos (.inl (by omega))] at hP
        exact ret31 hP
      have h1 : ((T[0].toNat : Int) == 59) = true := by rw [bne, Bool.not_eq_false'] at h1; exact h1
      rw [h1] at hTa
      have hb := hTa.symm
      refine vc_loopx 4 [9] (fun g vals st' => ∃ m : Nat, m + g = (T).size ∧ 1 ≤ m ∧ vals = [.i m] ∧ st' = st1 ∧ ∀ j (hj : j < (T).size), 1 ≤ j → j < m → tokI ((T)[j].toNat : Int) = true) ((T).size - (1)) (fun vals st' => vals = [.i (1 + tw tokI (T) (1) : Nat)] ∧ st' = st1) rfl ⟨1, by omega, Nat.le_refl _, rfl, rfl, fun j _ h1 h2 => absurd h2 (by omega)⟩ ?_ ?_
      · rintro g vals st' ⟨m, hm, hm1, rfl, rfl, hall⟩
        refine cnd_split (fun hd => ?_) (fun hd => ?_)
        · have hd := of_decide_eq_true hd
          have m1 : m < (T).size := by omega
          refine ⟨m, m1, rfl, ?_⟩
          refine .p rfl (tok1_p _ (by omega) (by have := (T)[m].toNat_lt; omega)) ?_
          refine cnd_split (fun h1 => ?_) (fun h1 => ?_)
          · intro c hc
            rw [IntWalk.i64_in _ (by omega)] at hc
            obtain rfl : c = ((m + 1 : Nat) : Int) := by omega
            refine ⟨g - 1, by omega, m + 1, by omega, by omega, rfl, rfl, fun j hj h0 hjm => ?_⟩
            by_cases e : j = m
            · subst e; exact h1
            · exact hall j hj h0 (by omega)
          · exact ⟨congrArg (fun x : Nat => [AV.i (x : Int)]) (tw_at hall hm1 (by omega) (fun _ => h1)).symm, rfl⟩
        · have hd := of_decide_eq_false hd
          exact ⟨congrArg (fun x : Nat => [AV.i (x : Int)]) (tw_at hall hm1 (by omega) (fun h => absurd h (by omega))).symm, rfl⟩
      rintro vals st' ⟨rfl, rfl⟩
      have hmT := tw_le tokI T 1 (by omega)
      generalize hm : 1 + tw tokI T 1 = m at *
      have hm0 : 1 ≤ m := by omega
      have he : tw tokI s (k + 1) = m - 1 := by
        rw [← cut_tw tokI s k 1, ← hT]
        omega
      have hO : oneS s (k + 1) = if m - 1 = 0 then none else if atB s (k + m) 61 = true then (wordS s (k + m + 1)).map fun x => ((s.extract (k + 1) (k + m), x.1, true), x.2) else some ((s.extract (k + 1) (k + m), ⟨#[]⟩, false), k + m) := by
        unfold oneS
        rw [he, show k + 1 + (m - 1) = k + m by omega]
      refine cnd_split (fun h2 => ?_) (fun h2 => ?_)
      · have h2 : m = 1 := by
          have := beq_iff_eq.1 h2
          omega
        rw [if_pos (by omega)] at hO
        rw [hX, extW_none acc hb hO] at hP
        exact ret31 hP
      have h2 : m ≠ 1 := by
        have := beq_eq_false_iff_ne.1 h2
        omega
      rw [if_neg (by omega)] at hO
      have hN : T.extract 1 m = s.extract (k + 1) (k + m) := by rw [hT]; exact cut_ext s k 1 m
      refine ⟨m, rfl, 1, rfl, hm0, hmT, ?_⟩
      refine ⟨_, last_at _ _, ?_⟩
      refine ⟨m, rfl, hmT, Nat.le_refl _, ?_⟩
      have hU : T.extract m T.size = s.extract (k + m) s.size := by rw [hT]; exact cut_cut s k m
      have hUz : (T.extract m T.size).size = T.size - m := ext_len _ _ _ (Nat.le_refl _)
      have hUa : atB (T.extract m T.size) 0 61 = atB s (k + m) 61 := by rw [hU, cut_atB]; rfl
      have hUx : ∀ x, (T.extract m T.size).extract x (T.extract m T.size).size = s.extract (k + m + x) s.size := fun x => by rw [hU]; exact cut_cut s (k + m) x
      rw [← hN] at hO
      generalize T.extract m T.size = U at *
      intro t ht
      cases t with
      | false =>
        have hz : U.size = 0 := (emp_iff _).1 (ht.1 rfl)
        rw [← hUa, atB_ge (by omega), if_neg (by decide)] at hO
        refine ⟨_, last_upd _ _ _, ?_⟩
        refine Acc.app (n := 0) (i := ti109) (es := es) (.own _ _ _ q0 q1) (Nat.zero_le _) (List.cons_ne_nil _ _) ?_ ?_ (fun t9 e9 tk9 z0 z1 z2 z3 => ?_)
        · show ((es : List (List AV)).length + 1) * 40 ≤ _; omega
        · show (es : List (List AV)).length + 1 ≤ _; omega
        refine ⟨s.size - (k + m), by omega, k + m, _, _, acc ++ [(T.extract 1 m, ⟨#[]⟩, false)], rfl, hU, by omega, by omega, ?_, hX.trans (extW_some acc hb hO), by simp; omega⟩
        rw [← atrL_app, hes]
        exact .own _ _ _ (Nat.zero_le _) z1
      | true =>
        have hz : 0 < U.size := Nat.pos_of_ne_zero fun e => by have := ht.2 ((emp_iff _).2 e); cases this
        refine ⟨0, hz, rfl, ?_⟩
        rw [atB_lt hz] at hUa
        refine cnd_split (fun h3 => ?_) (fun h3 => ?_)
        · have h3 : ((U[0].toNat : Int) == 61) = true := h3
          rw [← hUa, h3, if_pos rfl] at hO
          refine ⟨1, rfl, hz, Nat.le_refl _, ?_⟩
          have hw := word5_p (U.extract 1 U.size) (by rw [ext_len _ _ _ (Nat.le_refl _)]; omega)
          have hc := cut_word s (k + m + 1) (by omega)
          have hwR : wordR (U.extract 1 U.size) = match (wordS s (k + m + 1)).map (fun x => (x.1, x.2 - (k + m + 1))) with
            | some (v, j) => (v, (j : Int))
            | none => (⟨#[]⟩, 0) := by rw [hUx 1]; unfold wordR; rw [hc]; cases wordS s (k + m + 1) <;> rfl
          have hle : ∀ v j, wordS s (k + m + 1) = some (v, j) → k + m + 1 < j ∧ j ≤ s.size := fun v j h => wordS_le (by omega) h
          refine .p rfl hw ?_
          generalize wordR (U.extract 1 U.size) = W at hwR
          generalize wordS s (k + m + 1) = X at *
          cases X with
          | none =>
            have hwR : W = (⟨#[]⟩, 0) := hwR
            subst hwR
            rw [hX, extW_none acc hb hO] at hP
            exact ret31 hP
          | some x =>
            obtain ⟨v, j⟩ := x
            obtain ⟨j1, j2⟩ := hle v j rfl
            have hwR : W = (v, ((j - (k + m + 1) : Nat) : Int)) := hwR
            subst hwR
            refine cnd_split (fun h4 => ?_) (fun h4 => ?_)
            · have h4 : ((j - (k + m + 1) : Nat) : Int) = 0 := beq_iff_eq.1 h4
              omega
            · refine ⟨_, last_upd _ _ _, ?_⟩
              refine ⟨_, st_eq (last_upd _ _ _), ?_⟩
              intro c hc1
              have hc2 : c = ((1 + (j - (k + m + 1)) : Nat) : Int) := by rw [hc1, IntWalk.i64_in _ (by omega)]; omega
              subst hc2
              refine ⟨1 + (j - (k + m + 1)), rfl, by omega, Nat.le_refl _, ?_⟩
              refine ⟨_, st_eq (st_eq (last_upd _ _ _)), ?_⟩
              refine Acc.app (n := 0) (i := ti109) (es := es) (.own _ _ _ q0 q1) (Nat.zero_le _) (List.cons_ne_nil _ _) ?_ ?_ (fun t9 e9 tk9 z0 z1 z2 z3 => ?_)
              · show ((es : List (List AV)).length + 1) * 40 ≤ _; omega
              · show (es : List (List AV)).length + 1 ≤ _; omega
              refine ⟨s.size - (j), by omega, j, _, _, acc ++ [(T.extract 1 m, v, true)], rfl, (hUx _).trans (by congr 1; omega), by omega, by omega, ?_, hX.trans (extW_some acc hb hO), by simp; omega⟩
              rw [← atrL_app, hes]
              exact .own _ _ _ (Nat.zero_le _) z1
        · have h3 : ((U[0].toNat : Int) == 61) = false := h3
          rw [← hUa, h3, if_neg (by decide)] at hO
          refine ⟨_, last_upd _ _ _, ?_⟩
          refine Acc.app (n := 0) (i := ti109) (es := es) (.own _ _ _ q0 q1) (Nat.zero_le _) (List.cons_ne_nil _ _) ?_ ?_ (fun t9 e9 tk9 z0 z1 z2 z3 => ?_)
          · show ((es : List (List AV)).length + 1) * 40 ≤ _; omega
          · show (es : List (List AV)).length + 1 ≤ _; omega
          refine ⟨s.size - (k + m), by omega, k + m, _, _, acc ++ [(T.extract 1 m, ⟨#[]⟩, false)], rfl, hU, by omega, by omega, ?_, hX.trans (extW_some acc hb hO), by simp; omega⟩
          rw [← atrL_app, hes]
          exact .own _ _ _ (Nat.zero_le _) z1
end
def crlf : ByteArray := ⟨#[13, 10]⟩
theorem toNat_cast {n : Int} (h : ¬ n < 0) : n = ((n.toNat : Nat) : Int) := (Int.toNat_of_nonneg (by omega)).symm
def pieceW (data : ByteArray) : ByteArray := if data.size = 0 then ⟨#[]⟩ else textH data.size ++ crlf ++ data ++ crlf
theorem textH_size {n : Int} (h : n < 2 ^ 63) : (textH n).size ≤ 64 := by
  unfold textH
  split
  · exact Nat.zero_le _
  · exact digB_size (by omega) (by omega)
theorem crlf_size : crlf.size = 2 := rfl
theorem emp_b {data : ByteArray} {t : Bool} (ht : t = true ↔ data = ⟨#[]⟩) : t = decide (data.size = 0) := by
  rw [Bool.eq_iff_iff, ht, emp_iff, decide_eq_true_eq]
theorem joinC_emp (sep a d : ByteArray) : joinC sep [a, d, ⟨#[]⟩] = a ++ sep ++ d ++ sep := by
  rw [joinC_cons (by simp), joinC_cons (by simp), joinC_one, emp_app, ByteArray.append_empty, ← ByteArray.append_assoc]
def awC : ByteArray := ⟨#[49, 65, 59, 97, 61, 98, 59, 99]⟩
def awA : List Atr := [(⟨#[97]⟩, ⟨#[98]⟩, true), (⟨#[99]⟩, ⟨#[]⟩, false)]
theorem aw18 : parseC awC = (26, awA, 0) := by decide +kernel
theorem aw18p : pieceW ⟨#[97, 98, 99]⟩ = ⟨#[51, 13, 10, 97, 98, 99, 13, 10]⟩ := by decide +kernel
/-- how many extensions there may be -/
theorem extW_len (s : ByteArray) : ∀ (z k : Nat) (acc l : List Atr) (j : Nat), s.size - k ≤ z → acc.length ≤ k → k ≤ s.size → extW s k acc = some (l, j) → l.length ≤ j ∧ j ≤ s.size := by
  intro z
  induction z with
  | zero =>
    intro k acc l j hz ha hk h
    rw [extW_end acc (atB_ge (by omega) _)] at h
    cases h
    exact ⟨ha, hk⟩
  | succ z ih =>
    intro k acc l j hz ha hk h
    cases hb : atB s k 59 with
    | false =>
      rw [extW_end acc hb] at h
      cases h
      exact ⟨ha, hk⟩
    | true =>
      cases ho : oneS s (k + 1) with
      | none => rw [extW_none acc hb ho] at h; cases h
      | some x =>
        obtain ⟨a, j2⟩ := x
        have hk1 := atB_iff hb
        have := oneS_lt (by omega) ho
        rw [extW_some acc hb ho] at h
        exact ih j2 _ l j (by omega) (by simp; omega) (by omega) h
theorem parseC_len (s : ByteArray) : (parseC s).2.1.length ≤ s.size := by
  have hl := tw_le hexI s 0 (Nat.zero_le _)
  unfold parseC
  simp only
  cases he : extW s (tw hexI s 0) [] with
  | none => exact Nat.zero_le _
  | some x =>
    obtain ⟨l, j⟩ := x
    have := extW_len s _ _ _ l j (Nat.le_refl _) (by simp) (by omega) he
    simp only
    split
    · exact Nat.zero_le _
    · split
      · exact Nat.zero_le _
      · show l.length ≤ _; omega
theorem digV_digH (n : Nat) : digV (digB 16 n) = digs 16 n := by
  obtain ⟨_, h2, _⟩ := digs_facts (B := 16) (by omega) n
  unfold digV digB
  show ((digs 16 n).map dgt).toArray.toList.map _ = _
  rw [List.toList_toArray, List.map_map]
  conv => rhs; rw [← List.map_id (digs 16 n)]
  refine List.map_congr_left fun d hd => ?_
  have := (dgt_worth d (by have := h2 d hd; omega)).2
  simp [this]
theorem digH_dig (n : Nat) : ∀ b ∈ (digB 16 n).data.toList, ∃ d, d < 16 ∧ b = dgt d := fun b hb => by
  obtain ⟨_, h2, _⟩ := digs_facts (B := 16) (by omega) n
  have hb : b ∈ (digs 16 n).map dgt := by
    have : (digB 16 n).data.toList = (digs 16 n).map dgt := by unfold digB; show ((digs 16 n).map dgt).toArray.toList = _; rw [List.toList_toArray]
    rwa [this] at hb
  obtain ⟨d, hd, rfl⟩ := List.mem_map.1 hb
  exact ⟨d, h2 d hd, rfl⟩
theorem digH_pos (n : Nat) : 0 < (digB 16 n).size := by
  obtain ⟨_, _, h3, _⟩ := digs_facts (B := 16) (by omega) n
  have : (digB 16 n).size = (digs 16 n).length := by unfold digB; show ((digs 16 n).map dgt).toArray.size = _; rw [List.size_toArray, List.length_map]
  rw [this]
  exact List.length_pos_iff.2 h3.1
theorem digH_hex (n : Nat) : allI hexI (digB 16 n) = true := by
  unfold allI
  refine List.all_eq_true.2 fun b hb => ?_
  obtain ⟨d, hd, rfl⟩ := digH_dig n b hb
  exact (dgt_worth d hd).1
theorem readH_dig (n : Nat) : readH (digB 16 n) mostB = if mostB < n then (0, 7) else ((n : Int), 0) := by
  have ha : allI (isD 16) (digB 16 n) = true := by
    unfold allI
    refine List.all_eq_true.2 fun b hb => ?_
    obtain ⟨d, hd, rfl⟩ := digH_dig n b hb
    obtain ⟨x1, x2⟩ := dgt_worth d (by omega)
    unfold isD
    rw [x1, x2]
    simp; omega
  have hp := digH_pos n
  have hv : valN 16 (digV (digB 16 n)) = n := by
    rw [digV_digH]
    exact (digs_facts (B := 16) (by omega) n).1
  rw [← readG_H]
  unfold readG
  rw [if_neg (fun h => h.elim (fun h => by omega) (fun h => by rw [ha] at h; cases h)), hv]
theorem ext_allC (s : ByteArray) : s.extract 0 s.size = s := by
  apply inL
  rw [cut_l]; rfl
theorem tw_full {q : Int → Bool} {s : ByteArray} (h : allI q s = true) : tw q s 0 = s.size := by
  have := tw_at (q := q) (s := s) (k := 0) (m := s.size) (fun i hi _ _ => allI_at h i hi) (Nat.zero_le _) (Nat.le_refl _) (fun h => absurd h (by omega))
  omega
theorem parseC_text (n : Int) : parseC (textH n) = if n < 0 then (0, [], 31) else if (mostB : Int) < n then (0, [], 7) else (n, [], 0) := by
  unfold textH
  split
  · decide +kernel
  · rename_i hn
    have hk := toNat_cast hn
    generalize n.toNat = k at *
    subst hk
    have he : extW (digB 16 k) (digB 16 k).size [] = some ([], (digB 16 k).size) := extW_end [] (atB_ge (Nat.le_refl _) _)
    unfold parseC
    simp only
    rw [tw_full (digH_hex k), ext_allC, he, readH_dig]
    by_cases h : mostB < k
    · rw [if_pos h, if_pos (by omega)]
      simp
    · rw [if_neg h, if_neg (by omega)]
      simp
end Go.Proofs.YtookaenbpfpegaaDoor
