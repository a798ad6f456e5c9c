/- The law WritesStay. No statement of its own. -/
import Derived.Test.YtgkhnllgmfjhpaaGreatDoorWp
set_option linter.unusedSimpArgs false
set_option linter.unusedVariables false
set_option maxRecDepth 100000
namespace Go.Proofs.YtgkhnllgmfjhpaaGreatDoor
open Go.RowKit
section
attribute [local irreducible] vcApp
theorem frees_p (k c mi : Int) (m t r : ByteArray) (gs : List Fld) (hF : FldOk gs) (l : List Rl) (hl : l.length ≤ 1000) (hr : ∀ r ∈ l, r.Ok) (fs : List Fld) (hfl : fs.length ≤ 1000000) (hfn : ∀ f ∈ fs, f.1.size ≤ maxLen) :
    APure Tryz.prog 9 [hdA k c mi m t r (.sl .no 2 (fldL gs)), .sl .no 2 (fldL fs), .sl .no 8 (rlL l)] (.sl .no 2 (fldL (fs.filter fun f => freeW f.1 k gs l))) [] := by
  have hmx : maxLen = 9223372036854775807 := rfl
  have el := fldL_len fs
  have qf := fun (i : Nat) (hi : i < fs.length) => free38_p fs[i].1 (hfn _ (List.getElem_mem hi)) k c mi m t r gs hF l hl hr
  have hstep : ∀ (j : Nat) (hj : j < fs.length), (fs.take (j + 1)).filter (fun f => freeW f.1 k gs l) = (fs.take j).filter (fun f => freeW f.1 k gs l) ++ if freeW fs[j].1 k gs l = true then [fs[j]] else [] := fun j hj => by
    rw [List.take_succ_eq_append_getElem hj, List.filter_append]
    congr 1
    rw [List.filter_cons]
    rfl
  have hle : ∀ j, ((fs.take j).filter (fun f => freeW f.1 k gs l)).length ≤ fs.length := fun j => by
    have h1 : ((fs.take j).filter (fun f => freeW f.1 k gs l)).length ≤ (fs.take j).length := List.length_filter_le _ _
    rw [List.length_take] at h1; omega
  refine APure.ofX rfl ?_
  show ACalls _ _ [.agg [.i k, .s m, .s t, .i c, .s r, .i mi, .sl .no 2 (fldL gs)], .sl .no 2 (fldL fs), .sl .no 8 (rlL l)] _ _
  refine ACalls.of_vc T_ok mixed Tryz.func9 rfl Tryz.call9 ?_
  refine vc_loop [8, 7] (fun g vals st' => ∃ (j : Nat) (a' : AV), j + g = fs.length ∧ vals = [.i j, a'] ∧ st'.heap[0]? = some [.i k, .s m, .s t, .i c, .s r, .i mi, .sl .no 2 (fldL gs)] ∧ Acc 0 st'.tk 2 a' (fldL ((fs.take j).filter (fun f => freeW f.1 k gs l)))) fs.length rfl ⟨0, _, by omega, rfl, rfl, .nil⟩ ?_
  rintro g vals st' ⟨j, a', hj, rfl, h0, hA⟩
  have hA0 := hA
  have hlj := hle j
  rcases hA.form with rfl | ⟨t, e, rfl⟩
  · skip
    refine cnd_split (fun hd => ?_) (fun hd => ?_)
    · have hd := of_decide_eq_true hd
      have j1 : j < fs.length := by omega
      have hn := hstep j j1
      first
        | refine .e (by kernel_rfl) ?_
        | refine .x (by kernel_rfl) ?_
      refine ⟨j, _, rfl, fldL_at j1, ?_⟩
      refine ⟨_, h0, ?_⟩
      refine .p rfl (qf j j1) ?_
      refine cnd_split (fun h3 => ?_) (fun h3 => ?_)
      · rw [if_pos h3] at hn
        refine ⟨j, _, rfl, fldL_at j1, ?_⟩
        refine Acc.app (n := 0) (i := ti48) hA0 (Nat.zero_le _) (List.cons_ne_nil _ _) ?_ ?_ (fun t9 e9 tk9 z0 z1 z2 z3 => ?_)
        · show (List.length _ + 1) * 32 ≤ _; rw [fldL_len]; omega
        · show List.length _ + 1 ≤ _; rw [fldL_len]; omega
        intro c hc
        rw [IntWalk.i64_in _ (by omega)] at hc
        obtain rfl : c = ((j + 1 : Nat) : Int) := by omega
        refine ⟨g - 1, by omega, j + 1, _, by omega, rfl, h0, ?_⟩
        rw [hn, ← fldL_appL]
        exact .own _ _ _ (Nat.zero_le _) z1
      · rw [if_neg (by rw [h3]; decide), List.append_nil] at hn
        intro c hc
        rw [IntWalk.i64_in _ (by omega)] at hc
        obtain rfl : c = ((j + 1 : Nat) : Int) := by omega
        refine ⟨g - 1, by omega, j + 1, _, by omega, rfl, h0, ?_⟩
        rw [hn]
        exact hA0
    · have hd := of_decide_eq_false hd
      exact .inl (hA0.resC (by rw [show j = fs.length by omega, List.take_length]))
  · skip
    refine cnd_split (fun hd => ?_) (fun hd => ?_)
    · have hd := of_decide_eq_true hd
      have j1 : j < fs.length := by omega
      have hn := hstep j j1
      first
        | refine .e (by kernel_rfl) ?_
        | refine .x (by kernel_rfl) ?_
      refine ⟨j, _, rfl, fldL_at j1, ?_⟩
      refine ⟨_, h0, ?_⟩
      refine .p rfl (qf j j1) ?_
      refine cnd_split (fun h3 => ?_) (fun h3 => ?_)
      · rw [if_pos h3] at hn
        refine ⟨j, _, rfl, fldL_at j1, ?_⟩
        refine Acc.app (n := 0) (i := ti48) hA0 (Nat.zero_le _) (List.cons_ne_nil _ _) ?_ ?_ (fun t9 e9 tk9 z0 z1 z2 z3 => ?_)
        · show (List.length _ + 1) * 32 ≤ _; rw [fldL_len]; omega
        · show List.length _ + 1 ≤ _; rw [fldL_len]; omega
        intro c hc
        rw [IntWalk.i64_in _ (by omega)] at hc
        obtain rfl : c = ((j + 1 : Nat) : Int) := by omega
        refine ⟨g - 1, by omega, j + 1, _, by omega, rfl, h0, ?_⟩
        rw [hn, ← fldL_appL]
        exact .own _ _ _ (Nat.zero_le _) z1
      · rw [if_neg (by rw [h3]; decide), List.append_nil] at hn
        intro c hc
        rw [IntWalk.i64_in _ (by omega)] at hc
        obtain rfl : c = ((j + 1 : Nat) : Int) := by omega
        refine ⟨g - 1, by omega, j + 1, _, by omega, rfl, h0, ?_⟩
        rw [hn]
        exact hA0
    · have hd := of_decide_eq_false hd
      exact .inl (hA0.resC (by rw [show j = fs.length by omega, List.take_length]))
set_option maxHeartbeats 2000000 in
theorem writesStay_p (k c mi : Int) (m0 t0 r0 : ByteArray) (fs : List Fld) (l : List Rl) (kn : List Fld) (hk : ∀ f ∈ kn, f.2.size ≤ 1048576) :
    APure Tryz.prog 3 [.agg [.i k, .s m0, .s t0, .i c, .s r0, .i mi, .sl .no 2 (fldL fs)], .sl .no 8 (rlL l), .sl .no 2 (fldL kn)] (.b true) [] := by
  have hmx : maxLen = 9223372036854775807 := rfl
  have hkl : (kn.take 6).length ≤ 6 := by rw [List.length_take]; omega
  have hkz : ∀ f ∈ kn.take 6, f.2.size ≤ 2000000 := fun f hf => by have := hk f (List.mem_of_mem_take hf); omega
  have hLl : ((l.take 70).map fewR).length ≤ 70 := by rw [List.length_map, List.length_take]; omega
  have hL : ∀ r ∈ (l.take 70).map fewR, r.Ok ∧ ∀ p ∈ r.ps, p.2.size ≤ 1000000 := fun r hr => by
    obtain ⟨q, _, rfl⟩ := List.mem_map.1 hr
    exact ⟨fewR_ok q, fewR_parts q⟩
  have qh := few_h k c mi m0 t0 r0 fs
  have hFw := FldOk.few fs
  refine APure.ofZ T_ok mixed 5 Tryz.func3 rfl Tryz.call3 rfl ?_
  generalize fewF fs = G at *
  generalize cut400 m0 = m at *
  generalize cut400 t0 = t at *
  generalize cut400 r0 = r at *
  refine .p rfl awake38_p ?_
  refine .n (.one 0 (.one 2 (.one 4 (.one 5 (.one 6 (.one 7 (.one 8 (.one 1 (.one 3 (.one 9 (.one 10 (.one 11 .done)))))))))))) (by kernel_rfl) ?_
  refine ⟨_, rfl, ?_⟩
  have hq6 := minI_at (fldL kn).length 6
  have e6 := take_min (fldL kn) 6
  rw [fldL_take] at e6
  have elk := fldL_len kn
  refine ⟨_, hq6, Nat.zero_le _, by split <;> omega, ?_⟩
  rw [e6]
  generalize kn.take 6 = KN at *
  refine .p rfl qh ?_
  refine .s (few35H_a l fun a rr st0 mm hR hf => ⟨mm.preM, ?_⟩)
  have h0 := mm.at' (q := 0) rfl (fun e => e)
  refine ⟨_, h0, ?_⟩
  have h1 : ∀ x, (st0.heap.set 0 x)[0]? = some x := fun x => st_eq h0
  have hq2 := minI_at (fldL G).length 20
  have e2 := take_min (fldL G) 20
  rw [fldL_take] at e2
  have elG := fldL_len G
  have hFo : FldOk (G.take 20) := ⟨by rw [List.length_take]; omega, fun f hf => hFw.size f (List.mem_of_mem_take hf)⟩
  have hFl : (G.take 20).length ≤ 20 := by rw [List.length_take]; omega
  have hfz : Sz 65536 (G.take 20) := fun f hf => by have := hFo.size f hf; omega
  generalize (l.take 70).map fewR = L at hLl hL hR
  generalize G.take 20 = F at *
  have eL := rlL_len L
  have hC : ∀ r ∈ L.map cutP, r.Ok ∧ (∀ p ∈ r.ps, p.2.size ≤ 1000000) ∧ r.ps.length ≤ 400 := fun r hr => by
    obtain ⟨q, hq, rfl⟩ := List.mem_map.1 hr
    refine ⟨cutP_ok (hL q hq).1, fun p hp => (hL q hq).2 p (List.mem_of_mem_take hp), ?_⟩
    show (q.ps.take 4).length ≤ 400
    rw [List.length_take]; omega
  have hC2 : ∀ r ∈ L.map cutP, r.Ok ∧ ∀ p ∈ r.ps, p.2.size ≤ 1000000 := fun r hr => ⟨(hC r hr).1, (hC r hr).2.1⟩
  have hCl : (L.map cutP).length ≤ 70 := by rw [List.length_map]; omega
  have qy := rules37_p KN F k (L.map cutP) (by omega) hkz (by omega) hfz (by omega) hC2
  have hXl := doc_len KN F k (L.map cutP) hC2 hfz
  have hst := doc_stay KN F k F (L.map cutP) hC2 hfz
  have w1 := frees_p k c mi m t r F hFo (L.map cutP) (by omega) (fun r hr => (hC r hr).1) F (by omega) (fun f hf => by have := hfz f hf; omega)
  have w2 := fun X => frees_p k c mi m t r F hFo (L.map cutP) (by omega) (fun r hr => (hC r hr).1) X
  generalize (fun f : Fld => freeW f.1 k F (L.map cutP)) = P at w1 w2 hst
  rw [rules_doc] at qy
  generalize docW KN F k (L.map cutP) = Q at qy hXl hst
  obtain ⟨X, e⟩ := Q
  dsimp only at qy hXl hst
  rcases hR.inv with ⟨rfl, hes⟩ | ⟨rfl, hes⟩ | ⟨p, cap, rfl, rfl, hRw⟩
  · obtain rfl : L = [] := List.length_eq_zero_iff.1 (by rw [← eL, hes]; rfl)
    refine ⟨_, h1 _, ?_⟩
    refine ⟨_, h1 _, ?_⟩
    refine ⟨_, hq2, Nat.zero_le _, by split <;> omega, ?_⟩
    rw [e2]
    refine ⟨_, h1 _, ?_⟩
    refine vc_loop [7] (fun g vals st1 => vals = [.i 0] ∧ st1.heap[0]? = some [.i k, .s m, .s t, .i c, .s r, .i mi, .sl .no 2 (fldL F)]) 0 rfl ⟨rfl, st_eq (h1 _)⟩ ?_
    rintro g vals st1 ⟨rfl, h0⟩
    refine FrzK.mk [1, 2, 3] [.nilS, .sl .no 2 (fldL KN), .elt [.i k, .s m, .s t, .i c, .s r, .i mi, .sl .no 2 (fldL F)]] ⟨.inr (.inl ⟨rfl, rfl⟩), .inr (.inl ⟨rfl, rfl⟩), .inr (.inr (.inl ⟨0, 0, _, rfl, h0, rfl, rfl⟩)), trivial⟩ ?_
    first
      | refine .p rfl qy ?_
      | refine .w (args' := [.sl .no 2 (fldL KN), .sl .no 2 (fldL F), .i k, .sl .no 8 []]) rfl ⟨.inl (.inl ⟨rfl, rfl⟩), .inl (.inl ⟨rfl, rfl⟩), .inl (.inl ⟨rfl, rfl⟩), .inr ⟨rfl, 8, rfl⟩, trivial⟩ qy ?_
    rcases hst with ⟨he, hX⟩ | ⟨he, hXz, hX⟩
    · refine cnd_split (fun _ => ?_) (fun h => absurd (bne_eq_false_iff_eq.1 h) he)
      subst hX
      rfl
    · refine cnd_split (fun h => absurd he (bne_iff_ne.1 h)) (fun _ => ?_)
      have w2 := w2 X (by omega) (fun f hf => by have := hXz f hf; omega)
      rw [hX] at w2
      have hfl2 : (F.filter P).length ≤ F.length := List.length_filter_le _ _
      generalize F.filter P = Z at w1 w2 hfl2
      first
        | refine .e (by kernel_rfl) ?_
        | refine .x (by kernel_rfl) ?_
        | refine .n (.one 0 (.one 1 (.one 2 (.one 3 (.one 4 (.one 5 (.one 6 (.one 7 (.one 8 (.one 9 (.one 10 .done))))))))))) (by kernel_rfl) ?_
      first
        | refine .p rfl w1 ?_
        | refine .w (args' := [hdA k c mi m t r (.sl .no 2 (fldL F)), .sl .no 2 (fldL F), .sl .no 8 []]) rfl ⟨hdW F (.inl ⟨rfl, rfl⟩), .inl (.inl ⟨rfl, rfl⟩), .inr ⟨rfl, 8, rfl⟩, trivial⟩ w1 ?_
      first
        | refine .p rfl w2 ?_
        | refine .w (args' := [hdA k c mi m t r (.sl .no 2 (fldL F)), .sl .no 2 (fldL X), .sl .no 8 []]) rfl ⟨hdW F (.inl ⟨rfl, rfl⟩), .inl (.inl ⟨rfl, rfl⟩), .inr ⟨rfl, 8, rfl⟩, trivial⟩ w2 ?_
      refine .p rfl (same13_p Z Z (by omega) (by omega)) ?_
      show AV.b (decide (Z = Z)) = AV.b true
      rw [decide_eq_true rfl]
  · obtain rfl : L = [] := List.length_eq_zero_iff.1 (by rw [← eL, hes]; rfl)
    refine ⟨_, h1 _, ?_⟩
    refine ⟨_, h1 _, ?_⟩
    refine ⟨_, hq2, Nat.zero_le _, by split <;> omega, ?_⟩
    rw [e2]
    refine ⟨_, h1 _, ?_⟩
    refine vc_loop [7] (fun g vals st1 => vals = [.i 0] ∧ st1.heap[0]? = some [.i k, .s m, .s t, .i c, .s r, .i mi, .sl .no 2 (fldL F)]) 0 rfl ⟨rfl, st_eq (h1 _)⟩ ?_
    rintro g vals st1 ⟨rfl, h0⟩
    refine FrzK.mk [1, 2, 3] [.sl .no 8 [], .sl .no 2 (fldL KN), .elt [.i k, .s m, .s t, .i c, .s r, .i mi, .sl .no 2 (fldL F)]] ⟨.inr (.inl ⟨rfl, rfl⟩), .inr (.inl ⟨rfl, rfl⟩), .inr (.inr (.inl ⟨0, 0, _, rfl, h0, rfl, rfl⟩)), trivial⟩ ?_
    first
      | refine .p rfl qy ?_
      | refine .w (args' := [.sl .no 2 (fldL KN), .sl .no 2 (fldL F), .i k, .sl .no 8 []]) rfl ⟨.inl (.inl ⟨rfl, rfl⟩), .inl (.inl ⟨rfl, rfl⟩), .inl (.inl ⟨rfl, rfl⟩), .inr ⟨rfl, 8, rfl⟩, trivial⟩ qy ?_
    rcases hst with ⟨he, hX⟩ | ⟨he, hXz, hX⟩
    · refine cnd_split (fun _ => ?_) (fun h => absurd (bne_eq_false_iff_eq.1 h) he)
      subst hX
      rfl
    · refine cnd_split (fun h => absurd he (bne_iff_ne.1 h)) (fun _ => ?_)
      have w2 := w2 X (by omega) (fun f hf => by have := hXz f hf; omega)
      rw [hX] at w2
      have hfl2 : (F.filter P).length ≤ F.length := List.length_filter_le _ _
      generalize F.filter P = Z at w1 w2 hfl2
      first
        | refine .e (by kernel_rfl) ?_
        | refine .x (by kernel_rfl) ?_
        | refine .n (.one 0 (.one 1 (.one 2 (.one 3 (.one 4 (.one 5 (.one 6 (.one 7 (.one 8 (.one 9 (.one 10 .done))))))))))) (by kernel_rfl) ?_
      first
        | refine .p rfl w1 ?_
        | refine .w (args' := [hdA k c mi m t r (.sl .no 2 (fldL F)), .sl .no 2 (fldL F), .sl .no 8 []]) rfl ⟨hdW F (.inl ⟨rfl, rfl⟩), .inl (.inl ⟨rfl, rfl⟩), .inr ⟨rfl, 8, rfl⟩, trivial⟩ w1 ?_
      first
        | refine .p rfl w2 ?_
        | refine .w (args' := [hdA k c mi m t r (.sl .no 2 (fldL F)), .sl .no 2 (fldL X), .sl .no 8 []]) rfl ⟨hdW F (.inl ⟨rfl, rfl⟩), .inl (.inl ⟨rfl, rfl⟩), .inr ⟨rfl, 8, rfl⟩, trivial⟩ w2 ?_
      refine .p rfl (same13_p Z Z (by omega) (by omega)) ?_
      show AV.b (decide (Z = Z)) = AV.b true
      rw [decide_eq_true rfl]
  · have hp0 : p ≠ 0 := fun e => by have : 1 ≤ p := hf p rfl; omega
    have hRw1 : RwS ⟨(st0.heap.set 0 [.i k, .s m, .s t, .i c, .s r, .i mi, .sl .no 2 (fldL G)]).set 0 [.i k, .s m, .s t, .i c, .s r, .i mi, .sl .no 2 (fldL F)], st0.tk⟩ p cap 8 (rlL (cutM L 0)) := by
      obtain ⟨⟨zs, h1, h2⟩, h3, h4⟩ := hRw
      rw [cutM_0]
      exact ⟨⟨zs, st_ne (Ne.symm hp0) (st_ne (Ne.symm hp0) h1), h2⟩, h3, h4⟩
    refine ⟨_, h1 _, ?_⟩
    refine ⟨_, h1 _, ?_⟩
    refine ⟨_, hq2, Nat.zero_le _, by split <;> omega, ?_⟩
    rw [e2]
    refine ⟨_, h1 _, ?_⟩
    refine vc_loop [7] (fun g vals st1 => ∃ j : Nat, j + g = L.length ∧ vals = [.i j] ∧ st1.heap[0]? = some [.i k, .s m, .s t, .i c, .s r, .i mi, .sl .no 2 (fldL F)] ∧ RwS st1 p cap 8 (rlL (cutM L j))) L.length rfl ⟨0, by omega, rfl, st_eq (h1 _), hRw1⟩ ?_
    rintro g vals st1 ⟨j, hj9, rfl, h0, hRw⟩
    have eM : (rlL (cutM L j)).length = L.length := by rw [rlL_len, cutM_len]
    obtain ⟨⟨zs, hp, hz⟩, hel, hle⟩ := hRw
    refine cnd_split (fun hd => ?_) (fun hd => ?_)
    · have hd := of_decide_eq_true hd
      have k1 : j < L.length := by omega
      have k2 : j < (rlL (cutM L j)).length := by omega
      have el1 : ∀ e ∈ rlL (cutM L j), e.length = 8 := fun e he => (hel e he).1
      have hrow : (rlL (cutM L j))[j] = L[j].cs := by
        have h1 : (rlL (cutM L j))[j]? = some L[j].cs := by unfold rlL; rw [List.getElem?_map, cutM_at k1]; rfl
        rw [List.getElem?_eq_getElem k2] at h1
        exact Option.some.inj h1
      have hc7 : ((rlL (cutM L j)).flatten ++ zs)[0 + j * 8 + 7]? = some (.sl .no 2 (prtL L[j].ps)) := by
        have := rows_at (zs := zs) el1 k2 (j := 7) (by omega)
        rw [hrow] at this
        rw [Nat.zero_add]
        exact this
      have hset := rows_set1 (zs := zs) el1 k2 (j := 7) (by omega) (.sl .no 2 (prtL (L[j].ps.take 4)))
      rw [hrow, show L[j].cs.set 7 (.sl .no 2 (prtL (L[j].ps.take 4))) = (cutP L[j]).cs from rfl, show (rlL (cutM L j)).set j (cutP L[j]).cs = rlL (cutM L (j + 1)) by rw [← cutM_set k1]; unfold rlL; rw [List.map_set]] at hset
      have hlen : ((rlL (cutM L j)).flatten ++ zs).length = cap * 8 := by rw [List.length_append, rows_len el1]; exact hz
      have hq := minI_at (prtL L[j].ps).length 4
      have e4 := take_min (prtL L[j].ps) 4
      rw [prtL_take] at e4
      have eM2 : (rlL (cutM L (j + 1))).length = L.length := by rw [rlL_len, cutM_len]
      refine .n (.one 0 (.one 1 (.one 2 (.one 3 (.one 4 (.one 5 (.one 6 (.one 7 (.one 8 (.one 9 (.one 10 (.one 11 (.one 12 (.one 13 (.one 14 (.one 15 (.one 16 (.one 17 .done)))))))))))))))))) (by kernel_rfl) ?_
      refine ⟨j, rfl, by omega, ?_⟩
      refine ⟨_, hp, ld1 (c := .sl .no 2 (prtL L[j].ps)) rfl hc7 ?_⟩
      refine ⟨j, rfl, by omega, ?_⟩
      refine ⟨_, hp, ld1 (c := .sl .no 2 (prtL L[j].ps)) rfl hc7 ?_⟩
      refine ⟨_, hq, Nat.zero_le _, by split <;> omega, ?_⟩
      rw [e4]
      refine ⟨j, rfl, by omega, ?_⟩
      refine ⟨_, hp, st1' (o := 0 + j * 8 + 7) rfl (by omega) hset ?_⟩
      intro c hc
      rw [IntWalk.i64_in _ (by omega)] at hc
      obtain rfl : c = ((j + 1 : Nat) : Int) := by omega
      refine ⟨g - 1, by omega, j + 1, by omega, rfl, st_ne hp0 h0, ⟨⟨zs, st_eq hp, by omega⟩, rlL_el _, by omega⟩⟩
    · have hd := of_decide_eq_false hd
      obtain rfl : j = L.length := by omega
      rw [cutM_all] at hp hel hle hz eM
      have hsn := rows_seen (zs := zs) hel
      refine FrzK.mk [1, 2, 3] [.sl .no 8 (rlL (L.map cutP)), .sl .no 2 (fldL KN), .elt [.i k, .s m, .s t, .i c, .s r, .i mi, .sl .no 2 (fldL F)]] ⟨.inr (.inr (.inr ⟨p, 0, _, cap, 8, _, _, rfl, hp, ?_, rfl⟩)), .inr (.inl ⟨rfl, rfl⟩), .inr (.inr (.inl ⟨0, 0, _, rfl, h0, rfl, rfl⟩)), trivial⟩ ?_
      · have e1 : (rlL (L.map cutP)).length = (rlL L).length := by omega
        exact e1 ▸ hsn
      · refine .p rfl qy ?_
        rcases hst with ⟨he, hX⟩ | ⟨he, hXz, hX⟩
        · refine cnd_split (fun _ => ?_) (fun h => absurd (bne_eq_false_iff_eq.1 h) he)
          subst hX
          rfl
        · refine cnd_split (fun h => absurd he (bne_iff_ne.1 h)) (fun _ => ?_)
          have w2 := w2 X (by omega) (fun f hf => by have := hXz f hf; omega)
          rw [hX] at w2
          have hfl2 : (F.filter P).length ≤ F.length := List.length_filter_le _ _
          generalize F.filter P = Z at w1 w2 hfl2
          first
            | refine .e (by kernel_rfl) ?_
            | refine .x (by kernel_rfl) ?_
            | refine .n (.one 0 (.one 1 (.one 2 (.one 3 (.one 4 (.one 5 (.one 6 (.one 7 (.one 8 (.one 9 (.one 10 .done))))))))))) (by kernel_rfl) ?_
          first
            | refine .p rfl w1 ?_
            | refine .w (args' := [hdA k c mi m t r (.sl .no 2 (fldL F)), .sl .no 2 (fldL F), .sl .no 8 []]) rfl ⟨hdW F (.inl ⟨rfl, rfl⟩), .inl (.inl ⟨rfl, rfl⟩), .inr ⟨rfl, 8, rfl⟩, trivial⟩ w1 ?_
          first
            | refine .p rfl w2 ?_
            | refine .w (args' := [hdA k c mi m t r (.sl .no 2 (fldL F)), .sl .no 2 (fldL X), .sl .no 8 []]) rfl ⟨hdW F (.inl ⟨rfl, rfl⟩), .inl (.inl ⟨rfl, rfl⟩), .inr ⟨rfl, 8, rfl⟩, trivial⟩ w2 ?_
          refine .p rfl (same13_p Z Z (by omega) (by omega)) ?_
          show AV.b (decide (Z = Z)) = AV.b true
          rw [decide_eq_true rfl]
end
end Go.Proofs.YtgkhnllgmfjhpaaGreatDoor
