/- Bags whose row is one's own: one field put, one element put behind; the values of a name. No statement of its own. -/
import Derived.Test.YtookaenbpfpegaaDoorBi
set_option linter.unusedSimpArgs false
set_option linter.unusedVariables false
set_option maxRecDepth 100000
namespace Go.Proofs.YtookaenbpfpegaaDoor
open Go.RowKit
theorem NmOk.one {n : ByteArray} (h : n.size ≤ 1099511627776) : NmOk [n] := by
  refine ⟨by show 1 ≤ 1099511627776; decide, fun x hx => ?_⟩
  rw [List.mem_singleton.1 hx]; exact h
section
variable {st : St} {R : AV → St → Prop} {b p cap : Nat} {r : Option Nat}
attribute [local irreducible] vcApp
set_option maxHeartbeats 2000000 in
theorem putX_a (n v : ByteArray) (hn : n.size ≤ 1099511627776) (l : List Fld) (hl : l.length ≤ 1000000) (hz : ∀ f ∈ l, f.1.size ≤ 1099511627776) (hb : HB st b r l)
    (h : ∀ r' st', HB st' b r' (putW n v l) → BgS st b r st' r' → R (.tup []) st') : ACalls Tryd.prog 30 [.ptr b 0, .s n, .s v] st R := by
  have hmx : maxLen = 9223372036854775807 := rfl
  have hb0 := hb
  obtain ⟨a, hba, hR, hrb⟩ := hb
  have el := fldL_len l
  have hbl := lt_of hba
  obtain ⟨S1, hS1⟩ : ∃ S1 : St, S1 = ⟨((st.heap ++ [[AV.s n]]) ++ [[AV.s ⟨#[]⟩, AV.s ⟨#[]⟩]]).set (st.heap ++ [[AV.s n]]).length [AV.s n, AV.s v], st.tk⟩ := ⟨_, rfl⟩
  have hlen1 : (st.heap ++ [[AV.s n]]).length = st.heap.length + 1 := by simp
  have m1 : Mv 0 (fun _ => False) st S1 := by
    rw [hS1, last_set]
    exact ((Mv.refl (Nat.zero_le _)).alloc _).alloc _
  have hq1 : S1.heap[st.heap.length]? = some [.s n] := by rw [hS1]; exact st_ne (by omega) (ap (last_at _ _))
  have hf1 : S1.heap[(st.heap ++ [[AV.s n]]).length]? = some [.s n, .s v] := by rw [hS1]; exact last_upd _ _ _
  have hl1 : st.heap.length + 2 ≤ S1.heap.length := by rw [hS1]; simp
  have fin : ∀ (K : AV → St → Prop) S2, Mv 0 (fun _ => False) S1 S2 → (∀ i (hi : i < l.length), ofB n l[i] = false) → HB S2 b r l → (∀ st', R (.tup []) st' → K (.tup []) st') → ACalls Tryd.prog 29 [.ptr b 0, .sl .tight 2 [[.s n, .s v]]] S2 K := fun K S2 m2 hno hb2 hK => by
    refine addX_a l [(n, v)] (by simp; omega) (List.cons_ne_nil _ _) hb2 (fun r' st' h1 h2 => hK _ (h r' st' ?_ ?_))
    · rw [putW_no hno]; exact h1
    · exact (⟨(m1.trans m2 (fun _ _ h => h)).wide (fun _ _ h => h.elim), .inl rfl⟩ : BgS st b r S2 r).trans h2
  subst hS1
  obtain ⟨es, hes⟩ : ∃ es, fldL l = es := ⟨_, rfl⟩
  rw [hes] at hR
  cases hR with
  | nil =>
    obtain rfl := fldL_nil hes
    refine ACalls.of_vc T_ok mixed Tryd.func30 rfl Tryd.call30 ?_
    refine ⟨_, last_at _ _, ?_⟩
    refine ⟨_, last_at _ _, ?_⟩
    refine ⟨_, m1.at' hba (fun e => e), ?_⟩
    refine .s (indexPE_a _ (.inl rfl) _ _ _ ?_)
    refine ⟨_, hf1, ?_⟩
    exact .s (fin _ _ (.refl (Nat.zero_le _)) (fun i hi => by simp at hi) (hb0.mv m1 (fun e => e) (fun _ _ e => e)) (fun _ h => h))
  | tight =>
    obtain rfl := fldL_nil hes
    refine ACalls.of_vc T_ok mixed Tryd.func30 rfl Tryd.call30 ?_
    refine ⟨_, last_at _ _, ?_⟩
    refine ⟨_, last_at _ _, ?_⟩
    refine ⟨_, m1.at' hba (fun e => e), ?_⟩
    refine .s (indexPE_a _ (.inr rfl) _ _ _ ?_)
    refine ⟨_, hf1, ?_⟩
    exact .s (fin _ _ (.refl (Nat.zero_le _)) (fun i hi => by simp at hi) (hb0.mv m1 (fun e => e) (fun _ _ e => e)) (fun _ h => h))
  | hs p cap _ hw =>
    have hw0 := hw
    obtain ⟨⟨zs, hp, hzl⟩, he, hc⟩ := hw
    subst hes
    rw [el] at hba hc hzl
    have hpb : p ≠ b := fun e => hrb (by rw [e])
    have hpl := lt_of hp
    have hba1 := m1.at' hba (fun e => e)
    have hp1 := m1.at' hp (fun e => e)
    refine ACalls.of_vc T_ok mixed Tryd.func30 rfl Tryd.call30 ?_
    refine ⟨_, last_at _ _, ?_⟩
    refine ⟨_, last_at _ _, ?_⟩
    refine ⟨_, hba1, ?_⟩
    refine .s (indexP_a (q := st.heap.length) (by omega) l zs (by omega) hz hp1 hq1 (fun w S2 m2 hw9 => ?_))
    rcases hw9 with ⟨rfl, hno⟩ | ⟨k, hk, rfl, hk1, hk2⟩
    · refine ⟨_, m2.at' hf1 (fun e => e), ?_⟩
      exact .s (fin _ S2 m2 hno ((hb0.mv m1 (fun e => e) (fun _ _ e => e)).mv m2 (fun e => e) (fun _ _ e => e)) (fun _ h => h))
    · refine ⟨_, m2.at' hq1 (fun e => e), ?_⟩
      obtain ⟨w1, w2, w3⟩ := putW_at (n := n) (v := v) hk hk2 hk1
      have hkw := keptW_one n l
      refine .s (removeH_a [n] (.one hn) l zs (by omega) hz (m2.at' hba1 (fun e => e)) (m2.at' hp1 (fun e => e)) hc hpb (fun S3 zs' m3 hb3 hp3 hle => ?_))
      rw [hkw] at hb3 hp3 hle
      have hf3 := m3.at' (m2.at' hf1 (fun e => e)) (fun e => by omega)
      have hcl : (fl (withoutW n l) ++ zs').length = cap * 2 := by rw [hle, List.length_append, fl_len]; exact hzl
      refine .n (.one 0 (.one 1 (.one 2 (.one 3 (.one 4 (.one 5 (.one 6 (.one 7 (.only 8 (.one 9 (.one 10 (.one 11 .done)))))))))))) (by kernel_rfl) ?_
      refine ⟨_, hb3, ?_⟩
      refine ⟨_, hf3, ?_⟩
      refine .s (insert_a (withoutW n l) zs' k n v (by omega) w2 (by omega) hp3 (by rw [← hcl, List.length_append, fl_len]) (fun S4 zs4 m4 hp4 hl4 => ?_))
      have hb4 := m4.at' hb3 (fun e => hpb e.symm)
      refine ⟨_, hb4, ?_⟩
      refine h (some p) _ ⟨_, st_eq hb4, ?_, fun e => hpb (Option.some.inj e)⟩ ⟨?_, .inl rfl⟩
      · have hlp : (putW n v l).length = (withoutW n l).length + 1 := by rw [w1, List.length_append, List.length_take, List.length_cons, List.length_drop]; omega
        have := HR.hs (st := ⟨S4.heap.set b [.hs p 0 ((withoutW n l).length + 1) cap 2], S4.tk⟩) p cap (fldL (putW n v l)) ⟨⟨zs4, ?_, ?_⟩, fldL_el _, by rw [fldL_len]; omega⟩
        · rw [fldL_len, hlp] at this
          exact this
        · refine st_ne (fun e => hpb e.symm) ?_
          rw [hp4, ← w1]
        · rw [← hl4, ← w1, List.length_append, fl_len, fldL_len]
      · have m12 := (m1.trans m2 (fun _ _ h => h)).wide (D := fun q => q = b ∨ some q = some p) (fun _ _ h => h.elim)
        have m3' := m3.wide (D := fun q => q = b ∨ some q = some p) (fun q _ e => e.imp id (fun e => by rw [e]))
        have m4' := m4.wide (D := fun q => q = b ∨ some q = some p) (fun q _ e => .inr (by rw [e]))
        exact ((m12.trans m3' (fun _ _ h => h)).trans m4' (fun _ _ h => h)).set (fun _ => .inl rfl) _
set_option maxHeartbeats 2000000 in
theorem behindX_a (n e : ByteArray) (hn : n.size ≤ 1099511627776) (he : e.size ≤ 1099511627776) (l : List Fld) (hl : l.length ≤ 1000000) (hz : ∀ f ∈ l, f.1.size ≤ 1099511627776 ∧ f.2.size ≤ 1099511627776) (hb : HB st b r l)
    (h : ∀ r' st', HB st' b r' (behW n e l) → BgS st b r st' r' → R (.tup []) st') : ACalls Tryd.prog 31 [.ptr b 0, .s n, .s e] st R := by
  have hmx : maxLen = 9223372036854775807 := rfl
  have hb0 := hb
  obtain ⟨a, hba, hR, hrb⟩ := hb
  have el := fldL_len l
  have hbl := lt_of hba
  have fin : ∀ (K : AV → St → Prop), (∀ i (hi : i < l.length), ofB n l[i] = false) → (∀ st', R (.tup []) st' → K (.tup []) st') → ACalls Tryd.prog 29 [.ptr b 0, .sl .tight 2 [[.s n, .s e]]] st K := fun K hno hK => by
    refine addX_a l [(n, e)] (by simp; omega) (List.cons_ne_nil _ _) hb0 (fun r' st' h1 h2 => hK _ (h r' st' ?_ h2))
    rw [behW_no hno]; exact h1
  obtain ⟨es, hes⟩ : ∃ es, fldL l = es := ⟨_, rfl⟩
  rw [hes] at hR
  cases hR with
  | nil =>
    obtain rfl := fldL_nil hes
    refine ACalls.of_vc T_ok mixed Tryd.func31 rfl Tryd.call31 ?_
    refine ⟨_, hba, ?_⟩
    intro c hc9
    rw [IntWalk.i64_in _ (by simp)] at hc9
    obtain rfl : c = -1 := by simpa using hc9
    refine vc_loop [6] (fun g vals st' => vals = [.i (-1)] ∧ st' = st) 0 rfl ⟨rfl, rfl⟩ ?_
    rintro g vals st' ⟨rfl, rfl⟩
    exact .s (fin _ (fun i hi => by simp at hi) (fun _ h => h))
  | tight =>
    obtain rfl := fldL_nil hes
    refine ACalls.of_vc T_ok mixed Tryd.func31 rfl Tryd.call31 ?_
    refine ⟨_, hba, ?_⟩
    intro c hc9
    rw [IntWalk.i64_in _ (by simp)] at hc9
    obtain rfl : c = -1 := by simpa using hc9
    refine vc_loop [6] (fun g vals st' => vals = [.i (-1)] ∧ st' = st) 0 rfl ⟨rfl, rfl⟩ ?_
    rintro g vals st' ⟨rfl, rfl⟩
    exact .s (fin _ (fun i hi => by simp at hi) (fun _ h => h))
  | hs p cap _ hw =>
    obtain ⟨⟨zs, hp, hzl⟩, he9, hc⟩ := hw
    subst hes
    rw [el] at hba hc hzl
    have hpb : p ≠ b := fun e => hrb (by rw [e])
    refine ACalls.of_vc T_ok mixed Tryd.func31 rfl Tryd.call31 ?_
    refine ⟨_, hba, ?_⟩
    intro c hc9
    rw [IntWalk.i64_in _ (by omega)] at hc9
    refine vc_loop [6] (fun g vals st' => ∃ v : Int, v = (g : Int) - 1 ∧ g ≤ l.length ∧ vals = [.i v] ∧ st' = st ∧ ∀ i (hi : i < l.length), g ≤ i → ofB n l[i] = false) l.length rfl ⟨c, by omega, Nat.le_refl _, rfl, rfl, fun i hi h => absurd hi (by omega)⟩ ?_
    rintro g vals st' ⟨v, hv, hg, rfl, rfl, hall⟩
    refine cnd_split (fun hd => ?_) (fun hd => ?_)
    · have hd := of_decide_eq_true hd
      obtain ⟨k, rfl⟩ : ∃ k, g = k + 1 := ⟨g - 1, by omega⟩
      obtain rfl : v = (k : Int) := by omega
      have k1 : k < l.length := by omega
      have sz := hz l[k] (List.getElem_mem k1)
      have q1 := sameO_p l[k].1 n (by omega) (by omega)
      have hof : decide (foldB l[k].1 = foldB n) = ofB n l[k] := rfl
      rw [hof] at q1
      refine ⟨_, hba, ?_⟩
      refine ⟨k, rfl, k1, ?_⟩
      refine ⟨_, hp, ld1 (c := .s l[k].1) rfl (fl_get (j := 0) k1 (by omega)) ?_⟩
      refine .p rfl q1 ?_
      refine cnd_split (fun ho => ?_) (fun ho => ?_)
      · have hlast : IsLast n l k := ⟨k1, ho, fun j hj hkj => hall j hj (by omega)⟩
        have hjz : joinC comS [e] = e := joinC_one _ _
        have q2 := append_p l[k].2 [e] (by omega) (by show 1 ≤ 1099511627776; decide) (by rw [hjz]; omega)
        refine .n (.one 0 (.one 1 (.one 2 (.one 3 (.one 4 (.one 5 (.one 6 (.one 7 (.one 8 (.one 9 (.one 10 (.one 11 (.one 12 (.one 13 (.one 14 (.one 15 (.one 16 (.one 17 (.one 18 .done))))))))))))))))))) (by kernel_rfl) ?_
        refine ⟨_, hba, ?_⟩
        refine ⟨_, hba, ?_⟩
        refine ⟨k, rfl, k1, ?_⟩
        refine ⟨_, hp, ld1 (c := .s l[k].2) rfl (fl_get (j := 1) k1 (by omega)) ?_⟩
        refine .p rfl q2 ?_
        refine ⟨k, rfl, k1, ?_⟩
        refine ⟨_, hp, st1' (o := 0 + k * 2 + 1) rfl (by rw [List.length_append, fl_len]; omega) (fl_set2 k1 (appW l[k].2 [e])) ?_⟩
        have hbe := behW_at (n := n) (s := e) hlast k1
        have hlb : (behW n e l).length = l.length := by rw [hbe, List.length_set]
        refine h (some p) _ ⟨_, st_ne hpb hba, ?_, fun e => hpb (Option.some.inj e)⟩ ⟨((Mv.refl (Nat.zero_le _)).set (fun _ => .inr rfl) _), .inl rfl⟩
        have := HR.hs (st := ⟨st'.heap.set p (fl (l.set k (l[k].1, appW l[k].2 [e])) ++ zs), st'.tk⟩) p cap (fldL (behW n e l)) ⟨⟨zs, ?_, ?_⟩, fldL_el _, by rw [fldL_len]; omega⟩
        · rw [fldL_len, hlb] at this
          exact this
        · rw [hbe]; exact st_eq hp
        · rw [fldL_len, hlb]; exact hzl
      · intro c9 hc8
        rw [IntWalk.i64_in _ (by omega)] at hc8
        refine ⟨k, by omega, c9, by omega, by omega, rfl, rfl, fun i hi hki => ?_⟩
        by_cases e9 : i = k
        · subst e9; exact ho
        · exact hall i hi (by omega)
    · have hd := of_decide_eq_false hd
      exact .s (fin _ (fun i hi => hall i hi (by omega)) (fun _ h => h))
end
end Go.Proofs.YtookaenbpfpegaaDoor
