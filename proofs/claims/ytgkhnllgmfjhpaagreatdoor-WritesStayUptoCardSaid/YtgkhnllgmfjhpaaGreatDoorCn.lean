/- Rules made instructions: the program. No statement of its own. -/
import Derived.Test.YtgkhnllgmfjhpaaGreatDoorCm
import Derived.Test.YtgkhnllgmfjhpaaGreatDoorWk
set_option linter.unusedSimpArgs false
set_option linter.unusedVariables false
set_option maxRecDepth 100000
namespace Go.Proofs.YtgkhnllgmfjhpaaGreatDoor
open Go.RowKit
/-- an argument of a call, said less of -/
theorem opL_snoc (l : List Opn) (o : Opn) : opL l ++ [o.cs] = opL (l ++ [o]) := by simp [opL]
theorem rlL_snoc (l : List Rl) (o : Rl) : rlL l ++ [o.cs] = rlL (l ++ [o]) := by simp [rlL]
section
attribute [local irreducible] vcApp
variable {st : St} {R : AV → St → Prop} {n c : Nat} {a : AV}
theorem put36_a {tg : Tk} {done : List Opn} (rs : List Rl) (h : st.heap[c]? = some [a]) (hA : Acc n st.tk 5 a (opL done)) (hn : n ≤ st.tk.length) (hl : done.length + rs.length ≤ 1000000) (hr : ∀ r ∈ rs, r.Ok)
    (hK : ∀ st' a', Mv n (· = c) st st' → st'.heap[c]? = some [a'] → Acc n st'.tk 5 a' (opL (done ++ rs.map ownO)) → R (.tup []) st') :
    ACalls Tryz.prog 35 [.ptr c 0, .sl tg 8 (rlL rs)] st R := by
  have hmx : maxLen = 9223372036854775807 := rfl
  have el := rlL_len rs
  have hcl0 := lt_of h
  refine ACalls.of_vc T_ok mixed Tryz.func35 rfl Tryz.call35 ?_
  refine vc_loop [8] (fun g vals st' => ∃ (k : Nat) (a' : AV), k + g = rs.length ∧ vals = [.i k] ∧ Mv n (· = c) st st' ∧ st'.heap[c]? = some [a'] ∧ Acc n st'.tk 5 a' (opL (done ++ (rs.take k).map ownO))) rs.length rfl ⟨0, a, by omega, rfl, .refl hn, h, by simpa using hA⟩ ?_
  rintro g vals st' ⟨k, a', hk, rfl, m, hc, hA⟩
  refine cnd_split (fun hd => ?_) (fun hd => ?_)
  · have hd := of_decide_eq_true hd
    have k1 : k < rs.length := by omega
    have q1 := own36_p rs[k] (hr _ (List.getElem_mem k1))
    have hcl := lt_of hc
    have ee : (rs.take (k + 1)).map ownO = (rs.take k).map ownO ++ [ownO rs[k]] := by rw [List.take_succ_eq_append_getElem k1, List.map_append]; rfl
    have hlen : (done ++ (rs.take k).map ownO).length ≤ 1000000 := by rw [List.length_append, List.length_map, List.length_take]; omega
    refine ⟨k, _, rfl, rlL_at k1, ?_⟩
    refine ⟨_, last_at _ _, ?_⟩
    rcases hA.form with rfl | ⟨t, e, rfl⟩
    · skip
      have m0 : st.heap.length ≤ st'.heap.length := m.len
      have hc1 := st_ne (x := [.i rs[k].sd, .i rs[k].gk, .s rs[k].ga, .s rs[k].gb, .i rs[k].ac, .s rs[k].nm, .s rs[k].un, .sl .no 2 (prtL rs[k].ps)]) (m := st'.heap.length) (by omega) (ap (x := [.i 0, .i 0, .s ⟨#[]⟩, .s ⟨#[]⟩, .i 0, .s ⟨#[]⟩, .s ⟨#[]⟩, .nilS]) hc)
      refine .x (by kernel_rfl) ?_
      refine ⟨_, hc1, ?_⟩
      refine ⟨_, last_upd _ _ _, ?_⟩
      refine .p rfl q1 ?_
      refine Acc.app (i := ti87) hA m.tl (List.cons_ne_nil _ _) ?_ ?_ (fun t1 e1 tk1 q0 q1 q2 q3 => ?_)
      · show ((opL _).length + 1) * 72 ≤ _; rw [opL_len]; omega
      · show (opL _).length + 1 ≤ _; rw [opL_len]; omega
      refine ⟨_, hc1, ?_⟩
      intro c hc
      rw [IntWalk.i64_in _ (by omega)] at hc
      obtain rfl : c = ((k + 1 : Nat) : Int) := by omega
      refine ⟨g - 1, by omega, k + 1, _, by omega, rfl, ((((m.alloc _).set (fun h => by omega) _).tks q2 q3).set (fun _ => rfl) _), st_eq hc1, ?_⟩
      rw [ee, ← List.append_assoc, ← opL_snoc]
      exact .own _ _ _ q0 q1
    · skip
      have m0 : st.heap.length ≤ st'.heap.length := m.len
      have hc1 := st_ne (x := [.i rs[k].sd, .i rs[k].gk, .s rs[k].ga, .s rs[k].gb, .i rs[k].ac, .s rs[k].nm, .s rs[k].un, .sl .no 2 (prtL rs[k].ps)]) (m := st'.heap.length) (by omega) (ap (x := [.i 0, .i 0, .s ⟨#[]⟩, .s ⟨#[]⟩, .i 0, .s ⟨#[]⟩, .s ⟨#[]⟩, .nilS]) hc)
      refine .x (by kernel_rfl) ?_
      refine ⟨_, hc1, ?_⟩
      refine ⟨_, last_upd _ _ _, ?_⟩
      refine .p rfl q1 ?_
      refine Acc.app (i := ti87) hA m.tl (List.cons_ne_nil _ _) ?_ ?_ (fun t1 e1 tk1 q0 q1 q2 q3 => ?_)
      · show ((opL _).length + 1) * 72 ≤ _; rw [opL_len]; omega
      · show (opL _).length + 1 ≤ _; rw [opL_len]; omega
      refine ⟨_, hc1, ?_⟩
      intro c hc
      rw [IntWalk.i64_in _ (by omega)] at hc
      obtain rfl : c = ((k + 1 : Nat) : Int) := by omega
      refine ⟨g - 1, by omega, k + 1, _, by omega, rfl, ((((m.alloc _).set (fun h => by omega) _).tks q2 q3).set (fun _ => rfl) _), st_eq hc1, ?_⟩
      rw [ee, ← List.append_assoc, ← opL_snoc]
      exact .own _ _ _ q0 q1
  · have hd := of_decide_eq_false hd
    rw [List.take_of_length_le (by omega)] at hA
    exact hK _ _ m hc hA
theorem take_rl (l : List Rl) (m : Nat) : rlL (l.take m) = ((rlL l).drop 0).take (m - 0) := by simp [rlL]
theorem drop_rl (l : List Rl) (m : Nat) : ((rlL l).drop m).take ((rlL l).length - m) = rlL (l.drop m) := by
  rw [List.take_of_length_le (by simp)]
  simp [rlL]
theorem all36_a {done : List Opn} (l : List Rl) (h : st.heap[c]? = some [a]) (hA : Acc n st.tk 5 a (opL done)) (hn : n ≤ st.tk.length) (hl : done.length + (allW l).length ≤ 100000) (hll : l.length ≤ 100000) (hr : ∀ r ∈ l, r.Ok) (hg : ∀ r ∈ l, checkR r = 0)
    (hK : ∀ st' a', Mv n (· = c) st st' → st'.heap[c]? = some [a'] → Acc n st'.tk 5 a' (opL (done ++ allW l)) → R (.tup []) st') :
    ACalls Tryz.prog 21 [.ptr c 0, .sl .no 8 (rlL l)] st R := by
  have hmx : maxLen = 9223372036854775807 := rfl
  have hcl0 := lt_of h
  refine ACalls.of_vc T_ok mixed Tryz.func21 rfl Tryz.call21 ?_
  refine vc_loop [1] (fun g vals st' => ∃ (k : Nat) (a' : AV) (d : List Opn), k ≤ l.length ∧ k + g = l.length ∧ vals = [.sl .no 8 (rlL (l.drop k))] ∧ Mv n (· = c) st st' ∧ st'.heap[c]? = some [a'] ∧ Acc n st'.tk 5 a' (opL d) ∧ d ++ allW (l.drop k) = done ++ allW l) l.length rfl ⟨0, a, done, Nat.zero_le _, by omega, rfl, .refl hn, h, hA, rfl⟩ ?_
  rintro g vals st' ⟨k, a', d, hkl, hk, rfl, m, hc, hA, hd⟩
  have hdl : (l.drop k).length = g := by rw [List.length_drop]; omega
  have hmem : ∀ r ∈ l.drop k, r ∈ l := fun r h => List.mem_of_mem_drop h
  have hlen := congrArg List.length hd
  rw [List.length_append, List.length_append] at hlen
  generalize hD : l.drop k = D at hd hdl hmem hlen ⊢
  have hel := rlL_len D
  refine cnd_split (fun h1 => ?_) (fun h1 => ?_)
  · have h1 := of_decide_eq_true h1
    obtain ⟨r, rs, rfl⟩ : ∃ r rs, D = r :: rs := by
      cases D with
      | nil => simp [rlL] at h1
      | cons r rs => exact ⟨r, rs, rfl⟩
    have m0 := m.len
    have hcl := lt_of hc
    have hdl1 : rs.length + 1 = g := hdl
    have hel1 : (rlL (r :: rs)).length = rs.length + 1 := hel
    have hmr : ∀ q ∈ r :: rs, q.Ok := fun q hq => hr _ (hmem _ hq)
    have hg1 := hg _ (hmem _ List.mem_cons_self)
    have hc1 := st_ne (x := [.i r.gk, .s r.ga, .s r.gb]) (m := st'.heap.length) (by omega) (ap (x := [.i 0, .s ⟨#[]⟩, .s ⟨#[]⟩]) hc)
    refine ⟨0, _, rfl, rfl, ?_⟩
    refine ⟨_, last_at _ _, ?_⟩
    refine ⟨_, last_upd _ _ _, ?_⟩
    refine cnd_split (fun h2 => ?_) (fun h2 => ?_)
    · have h2 : r.gk ≠ 0 := bne_iff_ne.1 h2
      have hcw := contW_le r.g r rs
      have q1 := run36_p r rs (by omega) hmr
      obtain ⟨mm, hm⟩ : ∃ mm, mm = contW r.g r rs + 1 := ⟨_, rfl⟩
      have e1 : (r :: rs).take mm = r :: rs.take (contW r.g r rs) := by rw [hm]; rfl
      have e2 : (r :: rs).drop mm = rs.drop (contW r.g r rs) := by rw [hm]; rfl
      have e3 : allW (r :: rs) = guardO r.g mm :: ((r :: rs).take mm).map ownO ++ allW ((r :: rs).drop mm) := by rw [allW_run h2, e1, e2, hm]; simp
      have hlw := congrArg List.length e3
      simp only [List.length_append, List.length_cons, List.length_map, List.length_take] at hlw
      have hml : mm ≤ (rlL (r :: rs)).length := by omega
      have hgk := checkR_gk hg1
      have q2 := guard36_p r.gk r.ga r.gb mm (by omega) hgk.2
      rw [← hm] at q1
      have hm1 : 1 ≤ mm := by omega
      clear e1 e2 hm
      refine .p rfl q1 ?_
      rcases hA.form with rfl | ⟨t, e, rfl⟩
      · skip
        refine .x (by kernel_rfl) ?_
        refine ⟨_, hc1, ?_⟩
        refine ⟨_, last_upd _ _ _, ?_⟩
        refine .p rfl q2 ?_
        refine Acc.app (i := ti87) hA m.tl (List.cons_ne_nil _ _) ?_ ?_ (fun t1 e1 tk1 z0 z1 z2 z3 => ?_)
        · show ((opL _).length + 1) * 72 ≤ _; rw [opL_len]; omega
        · show (opL _).length + 1 ≤ _; rw [opL_len]; omega
        refine ⟨_, hc1, ?_⟩
        have hA2 : Acc n tk1 5 (.sl (.own t1 e1) 5 (opL d ++ [(guardO r.g mm).cs])) (opL (d ++ [guardO r.g mm])) := by rw [← opL_snoc]; exact .own _ _ _ z0 z1
        have m2 := (((m.alloc _).set (p := st'.heap.length) (fun h => by omega) [.i r.gk, .s r.ga, .s r.gb]).tks z2 z3).set (p := c) (fun _ => rfl) [.sl (.own t1 e1) 5 (opL d ++ [(guardO r.g mm).cs])]
        refine ⟨mm, rfl, Nat.zero_le _, hml, ?_⟩
        refine .s (ACalls.weak (args' := [.ptr c 0, .sl .no 8 (rlL ((r :: rs).take mm))]) ⟨.inl rfl, .inl (congrArg (AV.sl .no 8) (take_rl _ _)), trivial⟩ (put36_a ((r :: rs).take mm) (st_eq hc1) hA2 m2.tl (by simp only [List.length_append, List.length_singleton, List.length_take]; omega) (fun q hq => hr _ (hmem _ (List.mem_of_mem_take hq))) (fun st3 a3 m3 hc3 hA3 => ?_)))
        refine ⟨mm, rfl, hml, Nat.le_refl _, ?_⟩
        refine ⟨g - mm, by omega, k + mm, a3, _, by omega, by omega, congrArg (fun x => [AV.sl .no 8 x]) ?_, m2.trans m3 (fun _ _ e => e), hc3, hA3, ?_⟩
        · rw [← List.drop_drop, hD, drop_rl]
        · rw [← List.drop_drop, hD, ← hd]
          rw [e3]; simp
      · skip
        refine .x (by kernel_rfl) ?_
        refine ⟨_, hc1, ?_⟩
        refine ⟨_, last_upd _ _ _, ?_⟩
        refine .p rfl q2 ?_
        refine Acc.app (i := ti87) hA m.tl (List.cons_ne_nil _ _) ?_ ?_ (fun t1 e1 tk1 z0 z1 z2 z3 => ?_)
        · show ((opL _).length + 1) * 72 ≤ _; rw [opL_len]; omega
        · show (opL _).length + 1 ≤ _; rw [opL_len]; omega
        refine ⟨_, hc1, ?_⟩
        have hA2 : Acc n tk1 5 (.sl (.own t1 e1) 5 (opL d ++ [(guardO r.g mm).cs])) (opL (d ++ [guardO r.g mm])) := by rw [← opL_snoc]; exact .own _ _ _ z0 z1
        have m2 := (((m.alloc _).set (p := st'.heap.length) (fun h => by omega) [.i r.gk, .s r.ga, .s r.gb]).tks z2 z3).set (p := c) (fun _ => rfl) [.sl (.own t1 e1) 5 (opL d ++ [(guardO r.g mm).cs])]
        refine ⟨mm, rfl, Nat.zero_le _, hml, ?_⟩
        refine .s (ACalls.weak (args' := [.ptr c 0, .sl .no 8 (rlL ((r :: rs).take mm))]) ⟨.inl rfl, .inl (congrArg (AV.sl .no 8) (take_rl _ _)), trivial⟩ (put36_a ((r :: rs).take mm) (st_eq hc1) hA2 m2.tl (by simp only [List.length_append, List.length_singleton, List.length_take]; omega) (fun q hq => hr _ (hmem _ (List.mem_of_mem_take hq))) (fun st3 a3 m3 hc3 hA3 => ?_)))
        refine ⟨mm, rfl, hml, Nat.le_refl _, ?_⟩
        refine ⟨g - mm, by omega, k + mm, a3, _, by omega, by omega, congrArg (fun x => [AV.sl .no 8 x]) ?_, m2.trans m3 (fun _ _ e => e), hc3, hA3, ?_⟩
        · rw [← List.drop_drop, hD, drop_rl]
        · rw [← List.drop_drop, hD, ← hd]
          rw [e3]; simp
    · have h2 : r.gk = 0 := bne_eq_false_iff_eq.1 h2
      have e3 : allW (r :: rs) = ((r :: rs).take 1).map ownO ++ allW ((r :: rs).drop 1) := by rw [allW_plain h2]; rfl
      have hlw := congrArg List.length e3
      simp only [List.length_append, List.length_cons, List.length_map, List.length_take] at hlw
      have m2 := (m.alloc [.i 0, .s ⟨#[]⟩, .s ⟨#[]⟩]).set (p := st'.heap.length) (fun h => by omega) [.i r.gk, .s r.ga, .s r.gb]
      refine ⟨1, rfl, Nat.zero_le _, (by omega), ?_⟩
      refine .s (ACalls.weak (args' := [.ptr c 0, .sl .no 8 (rlL ((r :: rs).take 1))]) ⟨.inl rfl, .inl (congrArg (AV.sl .no 8) (take_rl _ _)), trivial⟩ (put36_a ((r :: rs).take 1) hc1 hA m2.tl (by simp only [List.length_append, List.length_singleton, List.length_take]; omega) (fun q hq => hr _ (hmem _ (List.mem_of_mem_take hq))) (fun st3 a3 m3 hc3 hA3 => ?_)))
      refine ⟨1, rfl, (by omega), Nat.le_refl _, ?_⟩
      refine ⟨g - 1, by omega, k + 1, a3, _, by omega, by omega, congrArg (fun x => [AV.sl .no 8 x]) ?_, m2.trans m3 (fun _ _ e => e), hc3, hA3, ?_⟩
      · rw [← List.drop_drop, hD, drop_rl]
      · rw [← List.drop_drop, hD, ← hd]
        rw [e3, List.append_assoc]
  · have h1 := of_decide_eq_false h1
    have : D = [] := List.eq_nil_of_length_eq_zero (by omega)
    subst this
    rw [allW_nil, List.append_nil] at hd
    rw [hd] at hA
    exact hK _ _ m hc hA
end
end Go.Proofs.YtgkhnllgmfjhpaaGreatDoor
