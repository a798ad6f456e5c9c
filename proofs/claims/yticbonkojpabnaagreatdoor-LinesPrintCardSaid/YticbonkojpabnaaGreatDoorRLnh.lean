/- Scripts, cut: Few. No statement of its own. -/
import Derived.Test.YticbonkojpabnaaGreatDoorRLnd
import Derived.Test.YticbonkojpabnaaGreatDoorRLna
import Derived.Test.YticbonkojpabnaaGreatDoorRVg
import Derived.Test.YticbonkojpabnaaGreatDoorRLne
set_option linter.unusedSimpArgs false
set_option linter.unusedVariables false
set_option maxRecDepth 100000
namespace Go.Proofs.YticbonkojpabnaaGreatDoor
open Go.RowKit
section
theorem rlL_snoc' (l : List Rl) (r : Rl) : rlL (l ++ [r]) = rlL l ++ [r.cs] := by unfold rlL; rw [List.map_append]; rfl
theorem prtL_take (l : List Prt) (n : Nat) : (prtL l).take n = prtL (l.take n) := by unfold prtL; rw [List.map_take]
theorem take_min {α : Type} (l : List α) (n : Nat) : ((l.drop 0).take ((if n < l.length then n else l.length) - 0)) = l.take n := by
 rw [List.drop_zero, Nat.sub_zero]
 split
 ·rfl
 ·rw [List.take_of_length_le (Nat.le_refl _), List.take_of_length_le (by omega)]
def cutP (r : Rl) : Rl := { r with ps := r.ps.take 4 }
theorem cutP_ok {r : Rl} (h : r.Ok) : (cutP r).Ok := ⟨h.ga, h.gb, h.nm, h.un, Nat.le_trans (List.length_take_le _ _) (by omega), Nat.le_trans (sumT_take _ _) h.pz⟩
def cutM (L : List Rl) (k : Nat) : List Rl := (L.take k).map cutP ++ L.drop k
theorem cutM_len (L : List Rl) (k : Nat) : (cutM L k).length = L.length := by
 unfold cutM
 rw [List.length_append, List.length_map, List.length_take, List.length_drop]
 omega
theorem cutM_at {L : List Rl} {k : Nat} (h : k < L.length) : (cutM L k)[k]? = some L[k] := by
 have hl : ((L.take k).map cutP).length = k := by rw [List.length_map, List.length_take]; omega
 unfold cutM
 rw [List.getElem?_append_right (by omega), hl, Nat.sub_self, List.getElem?_drop, Nat.add_zero, List.getElem?_eq_getElem h]
theorem cutM_set {L : List Rl} {k : Nat} (h : k < L.length) : (cutM L k).set k (cutP L[k]) = cutM L (k + 1) := by
 have hl : ((L.take k).map cutP).length = k := by rw [List.length_map, List.length_take]; omega
 unfold cutM
 rw [List.drop_eq_getElem_cons h, List.set_append, if_neg (by omega), hl, Nat.sub_self, List.set_cons_zero, List.take_succ_eq_append_getElem h, List.map_append, List.append_assoc]
 rfl
theorem cutM_0 (L : List Rl) : cutM L 0 = L := by unfold cutM; simp
theorem cutM_all (L : List Rl) : cutM L L.length = L.map cutP := by unfold cutM; simp
theorem HR.inv {st : St} {sz : Nat} {a : AV} {r : Option Nat} {es : List (List AV)} (h : HR st sz a r es) : (a = .nilS /\ es = []) \/ (a = .sl .tight sz [] /\ es = []) \/ ∃ p cap, a = .hs p 0 es.length cap sz /\ r = some p /\ RwS st p cap sz es := by
 cases h with
 | nil => exact .inl ⟨rfl, rfl⟩
 | tight => exact .inr (.inl ⟨rfl, rfl⟩)
 | hs p cap es h => exact .inr (.inr ⟨p, cap, rfl, rfl, h⟩)
theorem HR.form {st : St} {sz : Nat} {a : AV} {r : Option Nat} {es : List (List AV)} (h : HR st sz a r es) : (a = .nilS /\ r = none) \/ (a = .sl .tight sz [] /\ r = none) \/ ∃ p cap n, a = .hs p 0 n cap sz /\ r = some p := by
 cases h with
 | nil => exact .inl ⟨rfl, rfl⟩
 | tight => exact .inr (.inl ⟨rfl, rfl⟩)
 | hs p cap es h => exact .inr (.inr ⟨p, cap, _, rfl, rfl⟩)
section
variable {st : St} {R : AV -> St -> Prop}
attribute [local irreducible] vcApp
theorem few35H_a (l : List Rl) (h : ∀ a r st', Mv 0 (fun _ => False) st st' -> HR st' 8 a r (rlL ((l.take 70).map fewR)) -> (∀ p, r = some p -> st.heap.length <= p) -> R a st') : ACalls Tryz.prog 53 [.sl .no 8 (rlL l)] st R := by
 have hmx : maxLen = 9223372036854775807 := rfl
 have el := rlL_len l
 refine ACalls.of_vc T_ok mixed Tryz.func53 rfl Tryz.call53 ?_
 refine vc_loop [4, 3] (fun g vals st' => ∃ (k : Nat) (a' : AV) (r : Option Nat), k + g = (l.take 70).length /\ vals = [.i k, a'] /\ Mv 0 (fun _ => False) st st' /\ HR st' 8 a' r (rlL ((l.take k).map fewR)) /\ (∀ p, r = some p -> st.heap.length <= p)) (l.take 70).length rfl ⟨0, .nilS, none, by omega, rfl, .refl (Nat.zero_le _), .nil, fun p e => by cases e⟩ ?_
 rintro g vals st' ⟨k, a', r, hk, rfl, m', hR, hf⟩
 have h70 : (l.take 70).length = min 70 l.length := List.length_take
 have ee : ∀ k1 : k < l.length, (l.take (k + 1)).map fewR = (l.take k).map fewR ++ [fewR l[k]] := fun k1 => by rw [List.take_succ_eq_append_getElem k1, List.map_append]; rfl
 have fin : (l.take k).length = (l.take 70).length -> (l.take k).map fewR = (l.take 70).map fewR := fun e => by
  congr 1
  rw [List.length_take] at e
  by_cases hc : l.length <= 70
  ·rw [List.take_of_length_le (by omega), List.take_of_length_le (by omega)]
  ·rw [show k = 70 by omega]
 have hlk : (l.take k).length = min k l.length := List.length_take
 have done : ¬ (k < l.length /\ k < 70) -> R a' st' := fun hn => h a' r st' m' (by rw [<- fin (by omega)]; exact hR) hf
 rcases hR.form with ⟨rfl, rfl⟩ | ⟨rfl, rfl⟩ | ⟨p0, c0, n0, rfl, rfl⟩
 iterate 3
  ·refine cnd_split (fun hd => ?_) (fun hd => ?_)
   ·have hd := of_decide_eq_true hd
    have k1 : k < l.length := by omega
    refine cnd_split (fun h7 => ?_) (fun h7 => ?_)
    ·have h7 : (k : Int) < 70 := of_decide_eq_true h7
     refine ⟨k, _, rfl, rlL_at k1, ?_⟩
     refine .p rfl (few32_p l[k]) ?_
     refine HR.app (n := 0) (i := ti78) hR rfl rfl ?_ ?_ ?_ ?_ (Nat.zero_le _) (fun p cap st2 q0 q1 q2 q3 => ?_)
     ·exact List.cons_ne_nil _ _
     ·intro e he
      rw [List.mem_singleton.1 he]
      exact ⟨rfl, rfl⟩
     ·show ((rlL _).length + 1) * 112 <= _; rw [rlL_len, List.length_map]; omega
     ·show (rlL _).length + 1 <= _; rw [rlL_len, List.length_map]; omega
     intro c hc
     rw [IntWalk.i64_in _ (by omega)] at hc
     obtain rfl : c = ((k + 1 : Nat) : Int) := by omega
     have hR2 := HR.hs (st := st2) p cap _ q0
     rw [List.length_append] at hR2
     refine ⟨g - 1, by omega, k + 1, _, some p, by omega, rfl, ?_, ?_, ?_⟩
     ·exact m'.trans q1 (fun q hq e => by have := hf q e.symm; omega)
     ·rw [ee k1, rlL_snoc']
      exact hR2
     ·intro q e
      have e := Option.some.inj e
      subst e
      have := m'.len
      exact q2.elim (fun e => hf _ e.symm) (fun h => by omega)
    ·have h7 : ¬ (k : Int) < 70 := of_decide_eq_false h7
     exact done (fun h => by omega)
   ·have hd := of_decide_eq_false hd
    exact done (fun h => by omega)
end
theorem resX_hr {st : St} {a : AV} {r : Option Nat} {sz : Nat} {es : List (List AV)} (hH : HR st sz a r es) : resX st a (.sl .no sz es) := by
 refine .inl ?_
 cases hH with
 | nil => exact .inr (.inl ⟨rfl, sz, rfl⟩)
 | tight => exact .inl ⟨rfl, rfl⟩
 | hs p cap es h =>
  obtain ⟨⟨zs, h1, h2⟩, h3, h4⟩ := h
  exact .inr (.inr ⟨p, 0, _, cap, sz, _, es, rfl, h1, rows_seen h3, rfl⟩)
def cutS (x : Swp) : Swp := (cut60 x.1, cut60 x.2)
theorem fldL_snocS (l : List Swp) (x : Swp) : fldL l ++ [[.s x.1, .s x.2]] = fldL (l ++ [x]) := by simp [fldL]
section
attribute [local irreducible] vcApp
theorem few29_p (l : List Swp) : APure Tryz.prog 52 [.sl .no 2 (fldL l)] (.sl .no 2 (fldL ((l.take 70).map cutS))) [] := by
 have hmx : maxLen = 9223372036854775807 := rfl
 have el := fldL_len l
 refine APure.ofX rfl ?_
 refine ACalls.of_vc T_ok mixed Tryz.func52 rfl Tryz.call52 ?_
 refine vc_loop [3, 4] (fun g vals st' => ∃ (k : Nat) (a' : AV), k + g = (l.take 70).length /\ vals = [a', .i k] /\ Acc 0 st'.tk 2 a' (fldL ((l.take k).map cutS))) (l.take 70).length rfl ⟨0, .nilS, by omega, rfl, .nil⟩ ?_
 rintro g vals st' ⟨k, a', hk, rfl, hA⟩
 have h70 : (l.take 70).length = min 70 l.length := List.length_take
 have ee : ∀ k1 : k < l.length, (l.take (k + 1)).map cutS = (l.take k).map cutS ++ [cutS l[k]] := fun k1 => by rw [List.take_succ_eq_append_getElem k1, List.map_append]; rfl
 have fin : (l.take k).length = (l.take 70).length -> (l.take k).map cutS = (l.take 70).map cutS := fun e => by
  congr 1
  rw [List.length_take] at e
  by_cases hc : l.length <= 70
  ·rw [List.take_of_length_le (by omega), List.take_of_length_le (by omega)]
  ·rw [show k = 70 by omega]
 have hlk : (l.take k).length = min k l.length := List.length_take
 rcases hA.form with rfl | ⟨t, e, rfl⟩
 iterate 2
  ·skip
   refine cnd_split (fun hd => ?_) (fun hd => ?_)
   rotate_left
   ·have hd := of_decide_eq_false hd
    exact .inl (hA.resC (congrArg fldL (fin (by omega))))
   have hd := of_decide_eq_true hd
   have k1 : k < l.length := by omega
   refine cnd_split (fun h7 => ?_) (fun h7 => ?_)
   rotate_left
   ·have h7 := of_decide_eq_false h7
    exact .inl (hA.resC (congrArg fldL (fin (by omega))))
   have h7 := of_decide_eq_true h7
   refine .e (by kernel_rfl) ?_
   refine ⟨k, _, rfl, fldL_at k1, ?_⟩
   refine ⟨k, _, rfl, fldL_at k1, ?_⟩
   refine ⟨_, minI_at l[k].1.size 60, Nat.zero_le _, by split <;> omega, ?_⟩
   refine ⟨k, _, rfl, fldL_at k1, ?_⟩
   refine ⟨k, _, rfl, fldL_at k1, ?_⟩
   refine ⟨_, minI_at l[k].2.size 60, Nat.zero_le _, by split <;> omega, ?_⟩
   refine Acc.app (n := 0) (i := ti97) hA (Nat.zero_le _) (List.cons_ne_nil _ _) ?_ ?_ (fun t1 e1 tk1 q0 q1 q2 q3 => ?_)
   ·show ((fldL ((l.take k).map cutS)).length + 1) * 32 <= _; rw [fldL_len, List.length_map]; omega
   ·show (fldL ((l.take k).map cutS)).length + 1 <= _; rw [fldL_len, List.length_map]; omega
   intro c hc
   rw [IntWalk.i64_in _ (by omega)] at hc
   obtain rfl : c = ((k + 1 : Nat) : Int) := by omega
   refine ⟨g - 1, by omega, k + 1, _, by omega, rfl, ?_⟩
   rw [ee k1, <- fldL_snocS]
   exact .own _ _ _ q0 q1
end
end
section
section
attribute [local irreducible] vcApp
set_option maxHeartbeats 1000000 in
theorem few40_p (l : List Rl) : APure Tryz.prog 24 [.sl .no 8 (rlL l)] (.sl .no 8 (rlL (((l.take 70).map fewR).map cutP))) [] := by
 have hmx : maxLen = 9223372036854775807 := rfl
 have hLl : ((l.take 70).map fewR).length <= 70 := by rw [List.length_map, List.length_take]; omega
 refine APure.ofX rfl ?_
 refine ACalls.of_vc T_ok mixed Tryz.func24 rfl Tryz.call24 ?_
 refine .s (few35H_a l fun a r st0 m0 hR hf => ?_)
 generalize (l.take 70).map fewR = L at hLl hR
 have eL := rlL_len L
 rcases hR.inv with ⟨rfl, hes⟩ | ⟨rfl, hes⟩ | ⟨p, cap, rfl, rfl, hRw⟩
 ·obtain rfl : L = [] := List.length_eq_zero_iff.1 (by rw [<- eL, hes]; rfl)
  refine vc_loop [4] (fun g vals st1 => vals = [.i (0 : Nat)]) 0 rfl rfl ?_
  rintro g vals st1 rfl
  exact resX_hr .nil
 ·obtain rfl : L = [] := List.length_eq_zero_iff.1 (by rw [<- eL, hes]; rfl)
  refine vc_loop [4] (fun g vals st1 => vals = [.i (0 : Nat)]) 0 rfl rfl ?_
  rintro g vals st1 rfl
  exact resX_hr .tight
 ·have hRw1 : RwS st0 p cap 8 (rlL (cutM L 0)) := by rw [cutM_0]; exact hRw
  refine vc_loop [4] (fun g vals st1 => ∃ k : Nat, k + g = L.length /\ vals = [.i k] /\ RwS st1 p cap 8 (rlL (cutM L k))) L.length rfl ⟨0, by omega, rfl, hRw1⟩ ?_
  rintro g vals st1 ⟨k, hk9, rfl, hRw⟩
  have eM : (rlL (cutM L k)).length = L.length := by rw [rlL_len, cutM_len]
  obtain ⟨⟨zs, hp, hz⟩, hel, hle⟩ := hRw
  refine cnd_split (fun hd => ?_) (fun hd => ?_)
  ·have hd := of_decide_eq_true hd
   have k1 : k < L.length := by omega
   have k2 : k < (rlL (cutM L k)).length := by omega
   have el1 : ∀ e ∈ rlL (cutM L k), e.length = 8 := fun e he => (hel e he).1
   have hrow : (rlL (cutM L k))[k] = L[k].cs := by
    have h1 : (rlL (cutM L k))[k]? = some L[k].cs := by unfold rlL; rw [List.getElem?_map, cutM_at k1]; rfl
    rw [List.getElem?_eq_getElem k2] at h1
    exact Option.some.inj h1
   have hc7 : ((rlL (cutM L k)).flatten ++ zs)[0 + k * 8 + 7]? = some (.sl .no 2 (prtL L[k].ps)) := by
    have := rows_at (zs := zs) el1 k2 (j := 7) (by omega)
    rw [hrow] at this
    rw [Nat.zero_add]
    exact this
   have hset := rows_set1 (zs := zs) el1 k2 (j := 7) (by omega) (.sl .no 2 (prtL (L[k].ps.take 4)))
   rw [hrow, show L[k].cs.set 7 (.sl .no 2 (prtL (L[k].ps.take 4))) = (cutP L[k]).cs from rfl, show (rlL (cutM L k)).set k (cutP L[k]).cs = rlL (cutM L (k + 1)) by rw [<- cutM_set k1]; unfold rlL; rw [List.map_set]] at hset
   have hlen : ((rlL (cutM L k)).flatten ++ zs).length = cap * 8 := by rw [List.length_append, rows_len el1]; exact hz
   have hq := minI_at (prtL L[k].ps).length 4
   have e4 := take_min (prtL L[k].ps) 4
   rw [prtL_take] at e4
   have eM2 : (rlL (cutM L (k + 1))).length = L.length := by rw [rlL_len, cutM_len]
   refine .n (.one 0 (.one 1 (.one 2 (.one 3 (.one 4 (.one 5 (.one 6 (.one 7 (.one 8 (.one 9 (.one 10 (.one 11 (.one 12 (.one 13 (.one 14 (.one 15 (.one 16 (.one 17 .done)))))))))))))))))) (by kernel_rfl) ?_
   refine ⟨k, rfl, by omega, ?_⟩
   refine ⟨_, hp, ld1 (c := .sl .no 2 (prtL L[k].ps)) rfl hc7 ?_⟩
   refine ⟨k, rfl, by omega, ?_⟩
   refine ⟨_, hp, ld1 (c := .sl .no 2 (prtL L[k].ps)) rfl hc7 ?_⟩
   refine ⟨_, hq, Nat.zero_le _, by split <;> omega, ?_⟩
   rw [e4]
   refine ⟨k, rfl, by omega, ?_⟩
   refine ⟨_, hp, st1' (o := 0 + k * 8 + 7) rfl (by omega) hset ?_⟩
   intro c hc
   rw [IntWalk.i64_in _ (by omega)] at hc
   obtain rfl : c = ((k + 1 : Nat) : Int) := by omega
   refine ⟨g - 1, by omega, k + 1, by omega, rfl, ⟨⟨zs, st_eq hp, by omega⟩, rlL_el _, by omega⟩⟩
  ·have hd := of_decide_eq_false hd
   obtain rfl : k = L.length := by omega
   rw [cutM_all] at hp hel hle hz eM
   have hH : HR st1 8 (.hs p 0 (rlL (L.map cutP)).length cap 8) (some p) (rlL (L.map cutP)) := .hs p cap _ ⟨⟨zs, hp, hz⟩, hel, hle⟩
   rw [show (rlL (L.map cutP)).length = (rlL L).length by omega] at hH
   exact resX_hr hH
end
end
section
theorem swap26_p (x : Swp) : APure Tryz.prog 84 [.agg [.s x.1, .s x.2]] (.agg [.s (cutS x).1, .s (cutS x).2]) [] := by
 refine APure.of rfl (ACalls.of_vc T_ok mixed Tryz.func84 rfl Tryz.call84 ?_)
 refine .e (by kernel_rfl) ?_
 refine ⟨_, rfl, ?_⟩
 refine ⟨_, rfl, ?_⟩
 refine ⟨_, minI_at x.1.size 60, Nat.zero_le _, by split <;> omega, ?_⟩
 refine ⟨_, rfl, ?_⟩
 refine ⟨_, rfl, ?_⟩
 refine ⟨_, minI_at x.2.size 60, Nat.zero_le _, by split <;> omega, ?_⟩
 refine ⟨_, rfl, ?_⟩
 refine ⟨_, rfl, ?_⟩
 rfl
theorem cellWs (a : ByteArray) : cellW (.s a) (.s a) := .inl ⟨rfl, rfl⟩
theorem setAll_goF : ∀ (vs pre cs : List AV), cs.length = vs.length -> setAll (pre ++ cs) pre.length vs = pre ++ vs
 | [], pre, cs, h => by
  rw [List.eq_nil_of_length_eq_zero h]
  rfl
 | v :: vs, pre, [], h => by cases h
 | v :: vs, pre, c :: cs, h => by
  have ih := setAll_goF vs (pre ++ [v]) cs (by simpa using h)
  rw [List.length_append, List.append_assoc, List.append_assoc] at ih
  have e : (pre ++ c :: cs).set pre.length v = pre ++ v :: cs := by simp
  show setAll ((pre ++ c :: cs).set pre.length v) (pre.length + 1) vs = _
  rw [e]
  exact ih
theorem setAllF {cs vs : List AV} (h : cs.length = vs.length) : setAll cs 0 vs = vs := setAll_goF vs [] cs h
theorem take6 {α : Type} {l : List α} {k : Nat} (h : k = (l.take 6).length) : l.take k = l.take 6 := by
 rw [List.length_take] at h
 by_cases hc : l.length <= 6
 ·rw [List.take_of_length_le (by omega), List.take_of_length_le (by omega)]
 ·rw [show k = 6 by omega]
def env6 (a b c d : ByteArray) (D Q : List Swp) : List AV := [.s a, .s b, .s c, .s d, .sl .no 2 (fldL D), .sl .no 2 (fldL Q)]
section
attribute [local irreducible] vcApp
set_option maxHeartbeats 4000000 in
theorem few26_p (a b c d : ByteArray) (D Q : List Swp) : APure Tryz.prog 51 [.agg (env6 a b c d D Q)] (.agg (env6 (cut60 a) (cut60 b) (cut60 c) (cut60 d) ((D.take 6).map cutS) ((Q.take 6).map cutS))) [] := by
 have hmx : maxLen = 9223372036854775807 := rfl
 have el1 := fldL_len D
 have el2 := fldL_len Q
 refine APure.ofG rfl ?_
 refine ACalls.of_vc T_ok mixed Tryz.func51 rfl Tryz.call51 ?_
 iterate 5 refine ⟨_, rfl, ?_⟩
 refine vc_loop [4] (fun g vals st' => ∃ (i : Nat) (x0 x1 x2 x3 : ByteArray), i + g = 4 /\ vals = [.i i] /\ st' = ⟨[env6 a b c d D Q, [.s ⟨#[]⟩, .s ⟨#[]⟩, .s ⟨#[]⟩, .s ⟨#[]⟩, .nilS, .nilS], [.s x0, .s x1, .s x2, .s x3]], []⟩ /\ x0 = (if 0 < i then cut60 a else a) /\ x1 = (if 1 < i then cut60 b else b) /\ x2 = (if 2 < i then cut60 c else c) /\ x3 = (if 3 < i then cut60 d else d)) 4 rfl ⟨0, a, b, c, d, rfl, rfl, rfl, rfl, rfl, rfl, rfl⟩ ?_
 rintro g vals st1 ⟨i, x0, x1, x2, x3, hi, rfl, rfl, e0', e1', e2', e3'⟩
 obtain rfl | rfl | rfl | rfl | rfl : i = 0 \/ i = 1 \/ i = 2 \/ i = 3 \/ i = 4 := by omega
 ·obtain rfl : x0 = a := e0'
  obtain rfl : x1 = b := e1'
  obtain rfl : x2 = c := e2'
  obtain rfl : x3 = d := e3'
  refine .e (by kernel_rfl) ?_
  refine ⟨0, rfl, by decide, ?_⟩
  refine ⟨_, rfl, ?_⟩
  refine ⟨0, rfl, by decide, ?_⟩
  refine ⟨_, rfl, ?_⟩
  refine ⟨_, minI_at (x0).size 60, Nat.zero_le _, by split <;> omega, ?_⟩
  refine ⟨0, rfl, by decide, ?_⟩
  refine ⟨_, rfl, ?_⟩
  intro c0 hc0
  obtain rfl : c0 = 0 + 1 := hc0.trans (by decide)
  exact ⟨g - 1, by omega, 0 + 1, cut60 x0, x1, x2, x3, by omega, rfl, rfl, rfl, rfl, rfl, rfl⟩
 ·obtain rfl : x0 = cut60 a := e0'
  obtain rfl : x1 = b := e1'
  obtain rfl : x2 = c := e2'
  obtain rfl : x3 = d := e3'
  refine .e (by kernel_rfl) ?_
  refine ⟨1, rfl, by decide, ?_⟩
  refine ⟨_, rfl, ?_⟩
  refine ⟨1, rfl, by decide, ?_⟩
  refine ⟨_, rfl, ?_⟩
  refine ⟨_, minI_at (x1).size 60, Nat.zero_le _, by split <;> omega, ?_⟩
  refine ⟨1, rfl, by decide, ?_⟩
  refine ⟨_, rfl, ?_⟩
  intro c0 hc0
  obtain rfl : c0 = 1 + 1 := hc0.trans (by decide)
  exact ⟨g - 1, by omega, 1 + 1, cut60 a, cut60 x1, x2, x3, by omega, rfl, rfl, rfl, rfl, rfl, rfl⟩
 ·obtain rfl : x0 = cut60 a := e0'
  obtain rfl : x1 = cut60 b := e1'
  obtain rfl : x2 = c := e2'
  obtain rfl : x3 = d := e3'
  refine .e (by kernel_rfl) ?_
  refine ⟨2, rfl, by decide, ?_⟩
  refine ⟨_, rfl, ?_⟩
  refine ⟨2, rfl, by decide, ?_⟩
  refine ⟨_, rfl, ?_⟩
  refine ⟨_, minI_at (x2).size 60, Nat.zero_le _, by split <;> omega, ?_⟩
  refine ⟨2, rfl, by decide, ?_⟩
  refine ⟨_, rfl, ?_⟩
  intro c0 hc0
  obtain rfl : c0 = 2 + 1 := hc0.trans (by decide)
  exact ⟨g - 1, by omega, 2 + 1, cut60 a, cut60 b, cut60 x2, x3, by omega, rfl, rfl, rfl, rfl, rfl, rfl⟩
 ·obtain rfl : x0 = cut60 a := e0'
  obtain rfl : x1 = cut60 b := e1'
  obtain rfl : x2 = cut60 c := e2'
  obtain rfl : x3 = d := e3'
  refine .e (by kernel_rfl) ?_
  refine ⟨3, rfl, by decide, ?_⟩
  refine ⟨_, rfl, ?_⟩
  refine ⟨3, rfl, by decide, ?_⟩
  refine ⟨_, rfl, ?_⟩
  refine ⟨_, minI_at (x3).size 60, Nat.zero_le _, by split <;> omega, ?_⟩
  refine ⟨3, rfl, by decide, ?_⟩
  refine ⟨_, rfl, ?_⟩
  intro c0 hc0
  obtain rfl : c0 = 3 + 1 := hc0.trans (by decide)
  exact ⟨g - 1, by omega, 3 + 1, cut60 a, cut60 b, cut60 c, cut60 x3, by omega, rfl, rfl, rfl, rfl, rfl, rfl⟩
 ·obtain rfl : x0 = cut60 a := e0'
  obtain rfl : x1 = cut60 b := e1'
  obtain rfl : x2 = cut60 c := e2'
  obtain rfl : x3 = cut60 d := e3'
  refine ⟨0, rfl, by decide, ?_⟩
  refine ⟨_, rfl, ?_⟩
  refine ⟨1, rfl, by decide, ?_⟩
  refine ⟨_, rfl, ?_⟩
  refine ⟨2, rfl, by decide, ?_⟩
  refine ⟨_, rfl, ?_⟩
  refine ⟨3, rfl, by decide, ?_⟩
  refine ⟨_, rfl, ?_⟩
  refine ⟨_, rfl, ?_⟩
  refine vc_loop [6] (fun g vals st' => ∃ (k : Nat) (a1 : AV), k + g = (D.take 6).length /\ vals = [.i k] /\ st'.heap[0]? = some (env6 a b c d D Q) /\ st'.heap[1]? = some [.s ⟨#[]⟩, .s ⟨#[]⟩, .s ⟨#[]⟩, .s ⟨#[]⟩, .nilS, .nilS] /\ st'.heap[3]? = some [.s (cut60 a), .s (cut60 b), .s (cut60 c), .s (cut60 d), a1, .nilS] /\ Acc 0 st'.tk 2 a1 (fldL ((D.take k).map cutS))) (D.take 6).length rfl ⟨0, .nilS, by omega, rfl, rfl, rfl, rfl, .nil⟩ ?_
  rintro g vals st2 ⟨k, a1, hk, rfl, he, hz1, h3, hA⟩
  have hlk : (D.take k).length = min k D.length := List.length_take
  have h6 : (D.take 6).length = min 6 D.length := List.length_take
  rcases hA.form with rfl | ⟨t, e, rfl⟩
  ·skip
   refine ⟨_, he, ?_⟩
   refine cnd_split (fun hd => ?_) (fun hd => ?_)
   rotate_left
   ·have hd := of_decide_eq_false hd
    have hk6 : D.take k = D.take 6 := take6 (by omega)
    rw [hk6] at hA
    try rw [hk6] at h3
    have hcD := hA.cellW
    refine vc_loop [7] (fun g vals st' => ∃ (k : Nat) (a2 : AV), k + g = (Q.take 6).length /\ vals = [.i k] /\ st'.heap[0]? = some (env6 a b c d D Q) /\ st'.heap[1]? = some [.s ⟨#[]⟩, .s ⟨#[]⟩, .s ⟨#[]⟩, .s ⟨#[]⟩, .nilS, .nilS] /\ st'.heap[3]? = some [.s (cut60 a), .s (cut60 b), .s (cut60 c), .s (cut60 d), .nilS, a2] /\ Acc 0 st'.tk 2 a2 (fldL ((Q.take k).map cutS))) (Q.take 6).length rfl ⟨0, .nilS, by omega, rfl, he, hz1, h3, .nil⟩ ?_
    clear hA h3 he hk hd
    rintro g vals st3 ⟨k, a2, hk, rfl, he, hz1, h3, hA⟩
    have hlk : (Q.take k).length = min k Q.length := List.length_take
    have h6 : (Q.take 6).length = min 6 Q.length := List.length_take
    refine hA.form.elim (fun ea => ?_) (fun ea => ?_)
    ·subst ea
     refine ⟨_, he, ?_⟩
     refine cnd_split (fun hd => ?_) (fun hd => ?_)
     rotate_left
     ·have hd := of_decide_eq_false hd
      have hk6 : Q.take k = Q.take 6 := take6 (by omega)
      rw [hk6] at hA
      try rw [hk6] at h3
      have hcQ := hA.cellW
      refine ⟨_, h3, ?_⟩
      refine ⟨_, hz1, lkI (setAllF rfl) ?_⟩
      refine ⟨_, st_eq hz1, ?_⟩
      exact .inl (argW_agg ⟨cellWs _, cellWs _, cellWs _, cellWs _, hcD, hcQ, trivial⟩)
     have hd := of_decide_eq_true hd
     have k1 : k < Q.length := by omega
     refine cnd_split (fun h7 => ?_) (fun h7 => ?_)
     rotate_left
     ·have h7 := of_decide_eq_false h7
      have hk6 : Q.take k = Q.take 6 := take6 (by omega)
      rw [hk6] at hA
      try rw [hk6] at h3
      have hcQ := hA.cellW
      refine ⟨_, h3, ?_⟩
      refine ⟨_, hz1, lkI (setAllF rfl) ?_⟩
      refine ⟨_, st_eq hz1, ?_⟩
      exact .inl (argW_agg ⟨cellWs _, cellWs _, cellWs _, cellWs _, hcD, hcQ, trivial⟩)
     have h7 := of_decide_eq_true h7
     refine .x (by kernel_rfl) ?_
     refine ⟨_, h3, ?_⟩
     refine ⟨_, he, ?_⟩
     refine ⟨k, _, rfl, fldL_at k1, ?_⟩
     refine .p rfl (swap26_p Q[k]) ?_
     refine Acc.app (n := 0) (i := ti97) hA (Nat.zero_le _) (List.cons_ne_nil _ _) ?_ ?_ (fun t1 e1 tk1 q0 q1 q2 q3 => ?_)
     ·show ((fldL ((Q.take k).map cutS)).length + 1) * 32 <= _; rw [fldL_len, List.length_map]; omega
     ·show (fldL ((Q.take k).map cutS)).length + 1 <= _; rw [fldL_len, List.length_map]; omega
     refine ⟨_, h3, lkI (l' := [.s (cut60 a), .s (cut60 b), .s (cut60 c), .s (cut60 d), _, .sl (.own t1 e1) 2 (fldL ((Q.take k).map cutS) ++ [[.s (cutS Q[k]).1, .s (cutS Q[k]).2]])]) rfl ?_⟩
     intro c hc
     rw [IntWalk.i64_in _ (by omega)] at hc
     obtain rfl : c = ((k + 1 : Nat) : Int) := by omega
     refine ⟨g - 1, by omega, k + 1, _, by omega, rfl, st_ne (show (3 : Nat) ≠ 0 from by decide) he, st_ne (show (3 : Nat) ≠ 1 from by decide) hz1, st_eq h3, ?_⟩
     rw [List.take_succ_eq_append_getElem k1, List.map_append, show [Q[k]].map cutS = [cutS Q[k]] from rfl, <- fldL_snocS]
     exact .own _ _ _ q0 q1
    ·obtain ⟨t8, e8, rfl⟩ := ea
     refine ⟨_, he, ?_⟩
     refine cnd_split (fun hd => ?_) (fun hd => ?_)
     rotate_left
     ·have hd := of_decide_eq_false hd
      have hk6 : Q.take k = Q.take 6 := take6 (by omega)
      rw [hk6] at hA
      try rw [hk6] at h3
      have hcQ := hA.cellW
      refine ⟨_, h3, ?_⟩
      refine ⟨_, hz1, lkI (setAllF rfl) ?_⟩
      refine ⟨_, st_eq hz1, ?_⟩
      exact .inl (argW_agg ⟨cellWs _, cellWs _, cellWs _, cellWs _, hcD, hcQ, trivial⟩)
     have hd := of_decide_eq_true hd
     have k1 : k < Q.length := by omega
     refine cnd_split (fun h7 => ?_) (fun h7 => ?_)
     rotate_left
     ·have h7 := of_decide_eq_false h7
      have hk6 : Q.take k = Q.take 6 := take6 (by omega)
      rw [hk6] at hA
      try rw [hk6] at h3
      have hcQ := hA.cellW
      refine ⟨_, h3, ?_⟩
      refine ⟨_, hz1, lkI (setAllF rfl) ?_⟩
      refine ⟨_, st_eq hz1, ?_⟩
      exact .inl (argW_agg ⟨cellWs _, cellWs _, cellWs _, cellWs _, hcD, hcQ, trivial⟩)
     have h7 := of_decide_eq_true h7
     refine .x (by kernel_rfl) ?_
     refine ⟨_, h3, ?_⟩
     refine ⟨_, he, ?_⟩
     refine ⟨k, _, rfl, fldL_at k1, ?_⟩
     refine .p rfl (swap26_p Q[k]) ?_
     refine Acc.app (n := 0) (i := ti97) hA (Nat.zero_le _) (List.cons_ne_nil _ _) ?_ ?_ (fun t1 e1 tk1 q0 q1 q2 q3 => ?_)
     ·show ((fldL ((Q.take k).map cutS)).length + 1) * 32 <= _; rw [fldL_len, List.length_map]; omega
     ·show (fldL ((Q.take k).map cutS)).length + 1 <= _; rw [fldL_len, List.length_map]; omega
     refine ⟨_, h3, lkI (l' := [.s (cut60 a), .s (cut60 b), .s (cut60 c), .s (cut60 d), _, .sl (.own t1 e1) 2 (fldL ((Q.take k).map cutS) ++ [[.s (cutS Q[k]).1, .s (cutS Q[k]).2]])]) rfl ?_⟩
     intro c hc
     rw [IntWalk.i64_in _ (by omega)] at hc
     obtain rfl : c = ((k + 1 : Nat) : Int) := by omega
     refine ⟨g - 1, by omega, k + 1, _, by omega, rfl, st_ne (show (3 : Nat) ≠ 0 from by decide) he, st_ne (show (3 : Nat) ≠ 1 from by decide) hz1, st_eq h3, ?_⟩
     rw [List.take_succ_eq_append_getElem k1, List.map_append, show [Q[k]].map cutS = [cutS Q[k]] from rfl, <- fldL_snocS]
     exact .own _ _ _ q0 q1
   have hd := of_decide_eq_true hd
   have k1 : k < D.length := by omega
   refine cnd_split (fun h7 => ?_) (fun h7 => ?_)
   rotate_left
   ·have h7 := of_decide_eq_false h7
    have hk6 : D.take k = D.take 6 := take6 (by omega)
    rw [hk6] at hA
    try rw [hk6] at h3
    have hcD := hA.cellW
    refine vc_loop [7] (fun g vals st' => ∃ (k : Nat) (a2 : AV), k + g = (Q.take 6).length /\ vals = [.i k] /\ st'.heap[0]? = some (env6 a b c d D Q) /\ st'.heap[1]? = some [.s ⟨#[]⟩, .s ⟨#[]⟩, .s ⟨#[]⟩, .s ⟨#[]⟩, .nilS, .nilS] /\ st'.heap[3]? = some [.s (cut60 a), .s (cut60 b), .s (cut60 c), .s (cut60 d), .nilS, a2] /\ Acc 0 st'.tk 2 a2 (fldL ((Q.take k).map cutS))) (Q.take 6).length rfl ⟨0, .nilS, by omega, rfl, he, hz1, h3, .nil⟩ ?_
    clear hA h3 he hk hd
    rintro g vals st3 ⟨k, a2, hk, rfl, he, hz1, h3, hA⟩
    have hlk : (Q.take k).length = min k Q.length := List.length_take
    have h6 : (Q.take 6).length = min 6 Q.length := List.length_take
    refine hA.form.elim (fun ea => ?_) (fun ea => ?_)
    ·subst ea
     refine ⟨_, he, ?_⟩
     refine cnd_split (fun hd => ?_) (fun hd => ?_)
     rotate_left
     ·have hd := of_decide_eq_false hd
      have hk6 : Q.take k = Q.take 6 := take6 (by omega)
      rw [hk6] at hA
      try rw [hk6] at h3
      have hcQ := hA.cellW
      refine ⟨_, h3, ?_⟩
      refine ⟨_, hz1, lkI (setAllF rfl) ?_⟩
      refine ⟨_, st_eq hz1, ?_⟩
      exact .inl (argW_agg ⟨cellWs _, cellWs _, cellWs _, cellWs _, hcD, hcQ, trivial⟩)
     have hd := of_decide_eq_true hd
     have k1 : k < Q.length := by omega
     refine cnd_split (fun h7 => ?_) (fun h7 => ?_)
     rotate_left
     ·have h7 := of_decide_eq_false h7
      have hk6 : Q.take k = Q.take 6 := take6 (by omega)
      rw [hk6] at hA
      try rw [hk6] at h3
      have hcQ := hA.cellW
      refine ⟨_, h3, ?_⟩
      refine ⟨_, hz1, lkI (setAllF rfl) ?_⟩
      refine ⟨_, st_eq hz1, ?_⟩
      exact .inl (argW_agg ⟨cellWs _, cellWs _, cellWs _, cellWs _, hcD, hcQ, trivial⟩)
     have h7 := of_decide_eq_true h7
     refine .x (by kernel_rfl) ?_
     refine ⟨_, h3, ?_⟩
     refine ⟨_, he, ?_⟩
     refine ⟨k, _, rfl, fldL_at k1, ?_⟩
     refine .p rfl (swap26_p Q[k]) ?_
     refine Acc.app (n := 0) (i := ti97) hA (Nat.zero_le _) (List.cons_ne_nil _ _) ?_ ?_ (fun t1 e1 tk1 q0 q1 q2 q3 => ?_)
     ·show ((fldL ((Q.take k).map cutS)).length + 1) * 32 <= _; rw [fldL_len, List.length_map]; omega
     ·show (fldL ((Q.take k).map cutS)).length + 1 <= _; rw [fldL_len, List.length_map]; omega
     refine ⟨_, h3, lkI (l' := [.s (cut60 a), .s (cut60 b), .s (cut60 c), .s (cut60 d), _, .sl (.own t1 e1) 2 (fldL ((Q.take k).map cutS) ++ [[.s (cutS Q[k]).1, .s (cutS Q[k]).2]])]) rfl ?_⟩
     intro c hc
     rw [IntWalk.i64_in _ (by omega)] at hc
     obtain rfl : c = ((k + 1 : Nat) : Int) := by omega
     refine ⟨g - 1, by omega, k + 1, _, by omega, rfl, st_ne (show (3 : Nat) ≠ 0 from by decide) he, st_ne (show (3 : Nat) ≠ 1 from by decide) hz1, st_eq h3, ?_⟩
     rw [List.take_succ_eq_append_getElem k1, List.map_append, show [Q[k]].map cutS = [cutS Q[k]] from rfl, <- fldL_snocS]
     exact .own _ _ _ q0 q1
    ·obtain ⟨t8, e8, rfl⟩ := ea
     refine ⟨_, he, ?_⟩
     refine cnd_split (fun hd => ?_) (fun hd => ?_)
     rotate_left
     ·have hd := of_decide_eq_false hd
      have hk6 : Q.take k = Q.take 6 := take6 (by omega)
      rw [hk6] at hA
      try rw [hk6] at h3
      have hcQ := hA.cellW
      refine ⟨_, h3, ?_⟩
      refine ⟨_, hz1, lkI (setAllF rfl) ?_⟩
      refine ⟨_, st_eq hz1, ?_⟩
      exact .inl (argW_agg ⟨cellWs _, cellWs _, cellWs _, cellWs _, hcD, hcQ, trivial⟩)
     have hd := of_decide_eq_true hd
     have k1 : k < Q.length := by omega
     refine cnd_split (fun h7 => ?_) (fun h7 => ?_)
     rotate_left
     ·have h7 := of_decide_eq_false h7
      have hk6 : Q.take k = Q.take 6 := take6 (by omega)
      rw [hk6] at hA
      try rw [hk6] at h3
      have hcQ := hA.cellW
      refine ⟨_, h3, ?_⟩
      refine ⟨_, hz1, lkI (setAllF rfl) ?_⟩
      refine ⟨_, st_eq hz1, ?_⟩
      exact .inl (argW_agg ⟨cellWs _, cellWs _, cellWs _, cellWs _, hcD, hcQ, trivial⟩)
     have h7 := of_decide_eq_true h7
     refine .x (by kernel_rfl) ?_
     refine ⟨_, h3, ?_⟩
     refine ⟨_, he, ?_⟩
     refine ⟨k, _, rfl, fldL_at k1, ?_⟩
     refine .p rfl (swap26_p Q[k]) ?_
     refine Acc.app (n := 0) (i := ti97) hA (Nat.zero_le _) (List.cons_ne_nil _ _) ?_ ?_ (fun t1 e1 tk1 q0 q1 q2 q3 => ?_)
     ·show ((fldL ((Q.take k).map cutS)).length + 1) * 32 <= _; rw [fldL_len, List.length_map]; omega
     ·show (fldL ((Q.take k).map cutS)).length + 1 <= _; rw [fldL_len, List.length_map]; omega
     refine ⟨_, h3, lkI (l' := [.s (cut60 a), .s (cut60 b), .s (cut60 c), .s (cut60 d), _, .sl (.own t1 e1) 2 (fldL ((Q.take k).map cutS) ++ [[.s (cutS Q[k]).1, .s (cutS Q[k]).2]])]) rfl ?_⟩
     intro c hc
     rw [IntWalk.i64_in _ (by omega)] at hc
     obtain rfl : c = ((k + 1 : Nat) : Int) := by omega
     refine ⟨g - 1, by omega, k + 1, _, by omega, rfl, st_ne (show (3 : Nat) ≠ 0 from by decide) he, st_ne (show (3 : Nat) ≠ 1 from by decide) hz1, st_eq h3, ?_⟩
     rw [List.take_succ_eq_append_getElem k1, List.map_append, show [Q[k]].map cutS = [cutS Q[k]] from rfl, <- fldL_snocS]
     exact .own _ _ _ q0 q1
   have h7 := of_decide_eq_true h7
   refine .x (by kernel_rfl) ?_
   refine ⟨_, h3, ?_⟩
   refine ⟨_, he, ?_⟩
   refine ⟨k, _, rfl, fldL_at k1, ?_⟩
   refine .p rfl (swap26_p D[k]) ?_
   refine Acc.app (n := 0) (i := ti97) hA (Nat.zero_le _) (List.cons_ne_nil _ _) ?_ ?_ (fun t1 e1 tk1 q0 q1 q2 q3 => ?_)
   ·show ((fldL ((D.take k).map cutS)).length + 1) * 32 <= _; rw [fldL_len, List.length_map]; omega
   ·show (fldL ((D.take k).map cutS)).length + 1 <= _; rw [fldL_len, List.length_map]; omega
   refine ⟨_, h3, lkI (l' := [.s (cut60 a), .s (cut60 b), .s (cut60 c), .s (cut60 d), .sl (.own t1 e1) 2 (fldL ((D.take k).map cutS) ++ [[.s (cutS D[k]).1, .s (cutS D[k]).2]]), .nilS]) rfl ?_⟩
   intro c hc
   rw [IntWalk.i64_in _ (by omega)] at hc
   obtain rfl : c = ((k + 1 : Nat) : Int) := by omega
   refine ⟨g - 1, by omega, k + 1, _, by omega, rfl, st_ne (show (3 : Nat) ≠ 0 from by decide) he, st_ne (show (3 : Nat) ≠ 1 from by decide) hz1, st_eq h3, ?_⟩
   rw [List.take_succ_eq_append_getElem k1, List.map_append, show [D[k]].map cutS = [cutS D[k]] from rfl, <- fldL_snocS]
   exact .own _ _ _ q0 q1
  ·skip
   refine ⟨_, he, ?_⟩
   refine cnd_split (fun hd => ?_) (fun hd => ?_)
   rotate_left
   ·have hd := of_decide_eq_false hd
    have hk6 : D.take k = D.take 6 := take6 (by omega)
    rw [hk6] at hA
    try rw [hk6] at h3
    have hcD := hA.cellW
    refine vc_loop [7] (fun g vals st' => ∃ (k : Nat) (a2 : AV), k + g = (Q.take 6).length /\ vals = [.i k] /\ st'.heap[0]? = some (env6 a b c d D Q) /\ st'.heap[1]? = some [.s ⟨#[]⟩, .s ⟨#[]⟩, .s ⟨#[]⟩, .s ⟨#[]⟩, .nilS, .nilS] /\ st'.heap[3]? = some [.s (cut60 a), .s (cut60 b), .s (cut60 c), .s (cut60 d), (.sl (.own t e) 2 (fldL ((D.take 6).map cutS))), a2] /\ Acc 0 st'.tk 2 a2 (fldL ((Q.take k).map cutS))) (Q.take 6).length rfl ⟨0, .nilS, by omega, rfl, he, hz1, h3, .nil⟩ ?_
    clear hA h3 he hk hd
    rintro g vals st3 ⟨k, a2, hk, rfl, he, hz1, h3, hA⟩
    have hlk : (Q.take k).length = min k Q.length := List.length_take
    have h6 : (Q.take 6).length = min 6 Q.length := List.length_take
    refine hA.form.elim (fun ea => ?_) (fun ea => ?_)
    ·subst ea
     refine ⟨_, he, ?_⟩
     refine cnd_split (fun hd => ?_) (fun hd => ?_)
     rotate_left
     ·have hd := of_decide_eq_false hd
      have hk6 : Q.take k = Q.take 6 := take6 (by omega)
      rw [hk6] at hA
      try rw [hk6] at h3
      have hcQ := hA.cellW
      refine ⟨_, h3, ?_⟩
      refine ⟨_, hz1, lkI (setAllF rfl) ?_⟩
      refine ⟨_, st_eq hz1, ?_⟩
      exact .inl (argW_agg ⟨cellWs _, cellWs _, cellWs _, cellWs _, hcD, hcQ, trivial⟩)
     have hd := of_decide_eq_true hd
     have k1 : k < Q.length := by omega
     refine cnd_split (fun h7 => ?_) (fun h7 => ?_)
     rotate_left
     ·have h7 := of_decide_eq_false h7
      have hk6 : Q.take k = Q.take 6 := take6 (by omega)
      rw [hk6] at hA
      try rw [hk6] at h3
      have hcQ := hA.cellW
      refine ⟨_, h3, ?_⟩
      refine ⟨_, hz1, lkI (setAllF rfl) ?_⟩
      refine ⟨_, st_eq hz1, ?_⟩
      exact .inl (argW_agg ⟨cellWs _, cellWs _, cellWs _, cellWs _, hcD, hcQ, trivial⟩)
     have h7 := of_decide_eq_true h7
     refine .x (by kernel_rfl) ?_
     refine ⟨_, h3, ?_⟩
     refine ⟨_, he, ?_⟩
     refine ⟨k, _, rfl, fldL_at k1, ?_⟩
     refine .p rfl (swap26_p Q[k]) ?_
     refine Acc.app (n := 0) (i := ti97) hA (Nat.zero_le _) (List.cons_ne_nil _ _) ?_ ?_ (fun t1 e1 tk1 q0 q1 q2 q3 => ?_)
     ·show ((fldL ((Q.take k).map cutS)).length + 1) * 32 <= _; rw [fldL_len, List.length_map]; omega
     ·show (fldL ((Q.take k).map cutS)).length + 1 <= _; rw [fldL_len, List.length_map]; omega
     refine ⟨_, h3, lkI (l' := [.s (cut60 a), .s (cut60 b), .s (cut60 c), .s (cut60 d), _, .sl (.own t1 e1) 2 (fldL ((Q.take k).map cutS) ++ [[.s (cutS Q[k]).1, .s (cutS Q[k]).2]])]) rfl ?_⟩
     intro c hc
     rw [IntWalk.i64_in _ (by omega)] at hc
     obtain rfl : c = ((k + 1 : Nat) : Int) := by omega
     refine ⟨g - 1, by omega, k + 1, _, by omega, rfl, st_ne (show (3 : Nat) ≠ 0 from by decide) he, st_ne (show (3 : Nat) ≠ 1 from by decide) hz1, st_eq h3, ?_⟩
     rw [List.take_succ_eq_append_getElem k1, List.map_append, show [Q[k]].map cutS = [cutS Q[k]] from rfl, <- fldL_snocS]
     exact .own _ _ _ q0 q1
    ·obtain ⟨t8, e8, rfl⟩ := ea
     refine ⟨_, he, ?_⟩
     refine cnd_split (fun hd => ?_) (fun hd => ?_)
     rotate_left
     ·have hd := of_decide_eq_false hd
      have hk6 : Q.take k = Q.take 6 := take6 (by omega)
      rw [hk6] at hA
      try rw [hk6] at h3
      have hcQ := hA.cellW
      refine ⟨_, h3, ?_⟩
      refine ⟨_, hz1, lkI (setAllF rfl) ?_⟩
      refine ⟨_, st_eq hz1, ?_⟩
      exact .inl (argW_agg ⟨cellWs _, cellWs _, cellWs _, cellWs _, hcD, hcQ, trivial⟩)
     have hd := of_decide_eq_true hd
     have k1 : k < Q.length := by omega
     refine cnd_split (fun h7 => ?_) (fun h7 => ?_)
     rotate_left
     ·have h7 := of_decide_eq_false h7
      have hk6 : Q.take k = Q.take 6 := take6 (by omega)
      rw [hk6] at hA
      try rw [hk6] at h3
      have hcQ := hA.cellW
      refine ⟨_, h3, ?_⟩
      refine ⟨_, hz1, lkI (setAllF rfl) ?_⟩
      refine ⟨_, st_eq hz1, ?_⟩
      exact .inl (argW_agg ⟨cellWs _, cellWs _, cellWs _, cellWs _, hcD, hcQ, trivial⟩)
     have h7 := of_decide_eq_true h7
     refine .x (by kernel_rfl) ?_
     refine ⟨_, h3, ?_⟩
     refine ⟨_, he, ?_⟩
     refine ⟨k, _, rfl, fldL_at k1, ?_⟩
     refine .p rfl (swap26_p Q[k]) ?_
     refine Acc.app (n := 0) (i := ti97) hA (Nat.zero_le _) (List.cons_ne_nil _ _) ?_ ?_ (fun t1 e1 tk1 q0 q1 q2 q3 => ?_)
     ·show ((fldL ((Q.take k).map cutS)).length + 1) * 32 <= _; rw [fldL_len, List.length_map]; omega
     ·show (fldL ((Q.take k).map cutS)).length + 1 <= _; rw [fldL_len, List.length_map]; omega
     refine ⟨_, h3, lkI (l' := [.s (cut60 a), .s (cut60 b), .s (cut60 c), .s (cut60 d), _, .sl (.own t1 e1) 2 (fldL ((Q.take k).map cutS) ++ [[.s (cutS Q[k]).1, .s (cutS Q[k]).2]])]) rfl ?_⟩
     intro c hc
     rw [IntWalk.i64_in _ (by omega)] at hc
     obtain rfl : c = ((k + 1 : Nat) : Int) := by omega
     refine ⟨g - 1, by omega, k + 1, _, by omega, rfl, st_ne (show (3 : Nat) ≠ 0 from by decide) he, st_ne (show (3 : Nat) ≠ 1 from by decide) hz1, st_eq h3, ?_⟩
     rw [List.take_succ_eq_append_getElem k1, List.map_append, show [Q[k]].map cutS = [cutS Q[k]] from rfl, <- fldL_snocS]
     exact .own _ _ _ q0 q1
   have hd := of_decide_eq_true hd
   have k1 : k < D.length := by omega
   refine cnd_split (fun h7 => ?_) (fun h7 => ?_)
   rotate_left
   ·have h7 := of_decide_eq_false h7
    have hk6 : D.take k = D.take 6 := take6 (by omega)
    rw [hk6] at hA
    try rw [hk6] at h3
    have hcD := hA.cellW
    refine vc_loop [7] (fun g vals st' => ∃ (k : Nat) (a2 : AV), k + g = (Q.take 6).length /\ vals = [.i k] /\ st'.heap[0]? = some (env6 a b c d D Q) /\ st'.heap[1]? = some [.s ⟨#[]⟩, .s ⟨#[]⟩, .s ⟨#[]⟩, .s ⟨#[]⟩, .nilS, .nilS] /\ st'.heap[3]? = some [.s (cut60 a), .s (cut60 b), .s (cut60 c), .s (cut60 d), (.sl (.own t e) 2 (fldL ((D.take 6).map cutS))), a2] /\ Acc 0 st'.tk 2 a2 (fldL ((Q.take k).map cutS))) (Q.take 6).length rfl ⟨0, .nilS, by omega, rfl, he, hz1, h3, .nil⟩ ?_
    clear hA h3 he hk hd
    rintro g vals st3 ⟨k, a2, hk, rfl, he, hz1, h3, hA⟩
    have hlk : (Q.take k).length = min k Q.length := List.length_take
    have h6 : (Q.take 6).length = min 6 Q.length := List.length_take
    refine hA.form.elim (fun ea => ?_) (fun ea => ?_)
    ·subst ea
     refine ⟨_, he, ?_⟩
     refine cnd_split (fun hd => ?_) (fun hd => ?_)
     rotate_left
     ·have hd := of_decide_eq_false hd
      have hk6 : Q.take k = Q.take 6 := take6 (by omega)
      rw [hk6] at hA
      try rw [hk6] at h3
      have hcQ := hA.cellW
      refine ⟨_, h3, ?_⟩
      refine ⟨_, hz1, lkI (setAllF rfl) ?_⟩
      refine ⟨_, st_eq hz1, ?_⟩
      exact .inl (argW_agg ⟨cellWs _, cellWs _, cellWs _, cellWs _, hcD, hcQ, trivial⟩)
     have hd := of_decide_eq_true hd
     have k1 : k < Q.length := by omega
     refine cnd_split (fun h7 => ?_) (fun h7 => ?_)
     rotate_left
     ·have h7 := of_decide_eq_false h7
      have hk6 : Q.take k = Q.take 6 := take6 (by omega)
      rw [hk6] at hA
      try rw [hk6] at h3
      have hcQ := hA.cellW
      refine ⟨_, h3, ?_⟩
      refine ⟨_, hz1, lkI (setAllF rfl) ?_⟩
      refine ⟨_, st_eq hz1, ?_⟩
      exact .inl (argW_agg ⟨cellWs _, cellWs _, cellWs _, cellWs _, hcD, hcQ, trivial⟩)
     have h7 := of_decide_eq_true h7
     refine .x (by kernel_rfl) ?_
     refine ⟨_, h3, ?_⟩
     refine ⟨_, he, ?_⟩
     refine ⟨k, _, rfl, fldL_at k1, ?_⟩
     refine .p rfl (swap26_p Q[k]) ?_
     refine Acc.app (n := 0) (i := ti97) hA (Nat.zero_le _) (List.cons_ne_nil _ _) ?_ ?_ (fun t1 e1 tk1 q0 q1 q2 q3 => ?_)
     ·show ((fldL ((Q.take k).map cutS)).length + 1) * 32 <= _; rw [fldL_len, List.length_map]; omega
     ·show (fldL ((Q.take k).map cutS)).length + 1 <= _; rw [fldL_len, List.length_map]; omega
     refine ⟨_, h3, lkI (l' := [.s (cut60 a), .s (cut60 b), .s (cut60 c), .s (cut60 d), _, .sl (.own t1 e1) 2 (fldL ((Q.take k).map cutS) ++ [[.s (cutS Q[k]).1, .s (cutS Q[k]).2]])]) rfl ?_⟩
     intro c hc
     rw [IntWalk.i64_in _ (by omega)] at hc
     obtain rfl : c = ((k + 1 : Nat) : Int) := by omega
     refine ⟨g - 1, by omega, k + 1, _, by omega, rfl, st_ne (show (3 : Nat) ≠ 0 from by decide) he, st_ne (show (3 : Nat) ≠ 1 from by decide) hz1, st_eq h3, ?_⟩
     rw [List.take_succ_eq_append_getElem k1, List.map_append, show [Q[k]].map cutS = [cutS Q[k]] from rfl, <- fldL_snocS]
     exact .own _ _ _ q0 q1
    ·obtain ⟨t8, e8, rfl⟩ := ea
     refine ⟨_, he, ?_⟩
     refine cnd_split (fun hd => ?_) (fun hd => ?_)
     rotate_left
     ·have hd := of_decide_eq_false hd
      have hk6 : Q.take k = Q.take 6 := take6 (by omega)
      rw [hk6] at hA
      try rw [hk6] at h3
      have hcQ := hA.cellW
      refine ⟨_, h3, ?_⟩
      refine ⟨_, hz1, lkI (setAllF rfl) ?_⟩
      refine ⟨_, st_eq hz1, ?_⟩
      exact .inl (argW_agg ⟨cellWs _, cellWs _, cellWs _, cellWs _, hcD, hcQ, trivial⟩)
     have hd := of_decide_eq_true hd
     have k1 : k < Q.length := by omega
     refine cnd_split (fun h7 => ?_) (fun h7 => ?_)
     rotate_left
     ·have h7 := of_decide_eq_false h7
      have hk6 : Q.take k = Q.take 6 := take6 (by omega)
      rw [hk6] at hA
      try rw [hk6] at h3
      have hcQ := hA.cellW
      refine ⟨_, h3, ?_⟩
      refine ⟨_, hz1, lkI (setAllF rfl) ?_⟩
      refine ⟨_, st_eq hz1, ?_⟩
      exact .inl (argW_agg ⟨cellWs _, cellWs _, cellWs _, cellWs _, hcD, hcQ, trivial⟩)
     have h7 := of_decide_eq_true h7
     refine .x (by kernel_rfl) ?_
     refine ⟨_, h3, ?_⟩
     refine ⟨_, he, ?_⟩
     refine ⟨k, _, rfl, fldL_at k1, ?_⟩
     refine .p rfl (swap26_p Q[k]) ?_
     refine Acc.app (n := 0) (i := ti97) hA (Nat.zero_le _) (List.cons_ne_nil _ _) ?_ ?_ (fun t1 e1 tk1 q0 q1 q2 q3 => ?_)
     ·show ((fldL ((Q.take k).map cutS)).length + 1) * 32 <= _; rw [fldL_len, List.length_map]; omega
     ·show (fldL ((Q.take k).map cutS)).length + 1 <= _; rw [fldL_len, List.length_map]; omega
     refine ⟨_, h3, lkI (l' := [.s (cut60 a), .s (cut60 b), .s (cut60 c), .s (cut60 d), _, .sl (.own t1 e1) 2 (fldL ((Q.take k).map cutS) ++ [[.s (cutS Q[k]).1, .s (cutS Q[k]).2]])]) rfl ?_⟩
     intro c hc
     rw [IntWalk.i64_in _ (by omega)] at hc
     obtain rfl : c = ((k + 1 : Nat) : Int) := by omega
     refine ⟨g - 1, by omega, k + 1, _, by omega, rfl, st_ne (show (3 : Nat) ≠ 0 from by decide) he, st_ne (show (3 : Nat) ≠ 1 from by decide) hz1, st_eq h3, ?_⟩
     rw [List.take_succ_eq_append_getElem k1, List.map_append, show [Q[k]].map cutS = [cutS Q[k]] from rfl, <- fldL_snocS]
     exact .own _ _ _ q0 q1
   have h7 := of_decide_eq_true h7
   refine .x (by kernel_rfl) ?_
   refine ⟨_, h3, ?_⟩
   refine ⟨_, he, ?_⟩
   refine ⟨k, _, rfl, fldL_at k1, ?_⟩
   refine .p rfl (swap26_p D[k]) ?_
   refine Acc.app (n := 0) (i := ti97) hA (Nat.zero_le _) (List.cons_ne_nil _ _) ?_ ?_ (fun t1 e1 tk1 q0 q1 q2 q3 => ?_)
   ·show ((fldL ((D.take k).map cutS)).length + 1) * 32 <= _; rw [fldL_len, List.length_map]; omega
   ·show (fldL ((D.take k).map cutS)).length + 1 <= _; rw [fldL_len, List.length_map]; omega
   refine ⟨_, h3, lkI (l' := [.s (cut60 a), .s (cut60 b), .s (cut60 c), .s (cut60 d), .sl (.own t1 e1) 2 (fldL ((D.take k).map cutS) ++ [[.s (cutS D[k]).1, .s (cutS D[k]).2]]), .nilS]) rfl ?_⟩
   intro c hc
   rw [IntWalk.i64_in _ (by omega)] at hc
   obtain rfl : c = ((k + 1 : Nat) : Int) := by omega
   refine ⟨g - 1, by omega, k + 1, _, by omega, rfl, st_ne (show (3 : Nat) ≠ 0 from by decide) he, st_ne (show (3 : Nat) ≠ 1 from by decide) hz1, st_eq h3, ?_⟩
   rw [List.take_succ_eq_append_getElem k1, List.map_append, show [D[k]].map cutS = [cutS D[k]] from rfl, <- fldL_snocS]
   exact .own _ _ _ q0 q1
end
end
section
def cutN (n : Nat) (s : ByteArray) : ByteArray := s.extract 0 (if n < s.size then n else s.size)
theorem cutN_size (n : Nat) (s : ByteArray) : (cutN n s).size <= n := by
 unfold cutN
 rw [ByteArray.size_extract]
 split <;> omega
def fewS (s : Scr) : Scr :=
 { s with ec := cut60 s.ec, eh := cut60 s.eh, es := cut60 s.es, eb := cut60 s.eb, doms := (s.doms.take 70).map cutS, locs := (s.locs.take 70).map cutS, rules := ((s.rules.take 70).map fewR).map cutP, cl := cutN 3000 s.cl, up := cutN 3000 s.up, evs := s.evs.take 150 }
theorem evL_take (l : List (Int × Int)) (n : Nat) : (evL l).take n = evL (l.take n) := by unfold evL; rw [List.map_take]
theorem few39_p (a b c d : ByteArray) (D Q : List Swp) : APure Tryz.prog 23 [.agg (env6 a b c d D Q)] (.agg (env6 (cut60 a) (cut60 b) (cut60 c) (cut60 d) ((D.take 70).map cutS) ((Q.take 70).map cutS))) [] := by
 have h1 := few26_p a b c d D Q
 have h2 := few29_p D
 have h3 := few29_p Q
 refine APure.of rfl (ACalls.of_vc T_ok mixed Tryz.func23 rfl Tryz.call23 ?_)
 refine ⟨_, rfl, ?_⟩
 refine .p rfl h1 ?_
 refine ⟨_, rfl, ?_⟩
 refine ⟨_, rfl, ?_⟩
 refine .p rfl h2 ?_
 refine ⟨_, rfl, ?_⟩
 refine ⟨_, rfl, ?_⟩
 refine .p rfl h3 ?_
 refine ⟨_, rfl, ?_⟩
 refine ⟨_, rfl, ?_⟩
 refine ⟨_, rfl, lkI (setAllF rfl) ?_⟩
 refine ⟨_, rfl, ?_⟩
 rfl
set_option maxHeartbeats 4000000 in
theorem few46_p (s : Scr) : APure Tryz.prog 11 [s.av] (fewS s).av [] := by
 have h1 := few39_p s.ec s.eh s.es s.eb s.doms s.locs
 have h2 := few40_p s.rules
 have e5 := take_min (evL s.evs) 150
 rw [evL_take] at e5
 refine APure.of rfl (ACalls.of_vc T_ok mixed Tryz.func11 rfl Tryz.call11 ?_)
 refine ⟨_, rfl, ?_⟩
 refine .p rfl h1 ?_
 refine ⟨_, rfl, ?_⟩
 refine ⟨_, rfl, ?_⟩
 refine .p rfl h2 ?_
 iterate 3 refine ⟨_, rfl, ?_⟩
 refine ⟨_, minI_at s.cl.size 3000, Nat.zero_le _, by split <;> omega, ?_⟩
 iterate 3 refine ⟨_, rfl, ?_⟩
 refine ⟨_, minI_at s.up.size 3000, Nat.zero_le _, by split <;> omega, ?_⟩
 iterate 3 refine ⟨_, rfl, ?_⟩
 refine ⟨_, minI_at (evL s.evs).length 150, Nat.zero_le _, by split <;> omega, ?_⟩
 rw [e5]
 refine ⟨_, rfl, ?_⟩
 refine ⟨_, rfl, ?_⟩
 refine ⟨_, rfl, lkI (setAllF rfl) ?_⟩
 refine ⟨_, rfl, ?_⟩
 rfl
end
end Go.Proofs.YticbonkojpabnaaGreatDoor
