/- The machine: instructions done on fields; the program's. No statement of its own. -/
import Derived.Test.YtgkhnllgmfjhpaaGreatDoorBgm
import Derived.Test.YtgkhnllgmfjhpaaGreatDoorEvm
import Derived.Test.YtgkhnllgmfjhpaaGreatDoorPc
import Derived.Test.YtgkhnllgmfjhpaaGreatDoorTmF
import Derived.Test.YtgkhnllgmfjhpaaGreatDoorCp
import Derived.Test.YtgkhnllgmfjhpaaGreatDoorVg
set_option linter.unusedSimpArgs false
set_option linter.unusedVariables false
set_option maxRecDepth 100000
namespace Go.Proofs.YtgkhnllgmfjhpaaGreatDoor
open Go.RowKit
/-- is an instruction a guard's that passes others over? -/
def skipsO (o : Opn) (fs : List Fld) : Bool :=
  if o.k = 1 then !(headV (valsW o.nm fs)).2 else if o.k = 2 then (headV (valsW o.nm fs)).2 else if o.k = 3 then (!(headV (valsW o.nm fs)).2 || decide ((headV (valsW o.nm fs)).1 ≠ o.tx)) else false
/-- what one that is no guard's does -/
def doO (kn : List Fld) (o : Opn) (fs : List Fld) : List Fld :=
  if o.k = 4 then withoutW o.nm fs else if o.k = 5 then fs ++ [(o.nm, clnB (evT kn fs o.ps))] else if o.k = 6 then putW o.nm (clnB (evT kn fs o.ps)) fs else if o.k = 7 then renW o.nm o.tx fs else fs
def runO (kn : List Fld) : List Opn → List Fld → Nat → List Fld × Nat
  | [], fs, n => (fs, n)
  | o :: r, fs, n => if skipsO o fs = true then runO kn (r.drop o.n.toNat) fs (n + 1) else runO kn r (doO kn o fs) (n + 1)
termination_by l => l.length
decreasing_by all_goals simp; try omega
theorem runO_nil (kn fs : List Fld) (n : Nat) : runO kn [] fs n = (fs, n) := by rw [runO]
theorem runO_cons (kn fs : List Fld) (n : Nat) (o : Opn) (r : List Opn) : runO kn (o :: r) fs n = if skipsO o fs = true then runO kn (r.drop o.n.toNat) fs (n + 1) else runO kn r (doO kn o fs) (n + 1) := by rw [runO]
theorem clnB_size' (s : ByteArray) : (clnB s).size ≤ 65536 := by
  have h := trimB_size ⟨(clG s s.size).toArray⟩
  have h2 := clG_len s s.size
  have h3 : (⟨(clG s s.size).toArray⟩ : ByteArray).size = (clG s s.size).length := by show (clG s s.size).toArray.size = _; rw [List.size_toArray]
  unfold clnB
  omega
structure OpOk (o : Opn) : Prop where
  nm : o.nm.size ≤ 1000
  tx : o.tx.size ≤ 1000
  pl : o.ps.length ≤ 1000
  pz : ∀ p ∈ o.ps, p.2.size ≤ 1000000
theorem doO_sz {kn : List Fld} {o : Opn} {fs : List Fld} (ho : OpOk o) (h : Sz 65536 fs) : Sz 65536 (doO kn o fs) ∧ (doO kn o fs).length ≤ fs.length + 1 := by
  have hc := clnB_size' (evT kn fs o.ps)
  have h1 := ho.nm
  have h2 := ho.tx
  unfold doO
  split
  · have := withoutW_len o.nm fs
    exact ⟨fun f hf => h f (List.mem_filter.1 hf).1, by omega⟩
  split
  · refine ⟨fun f hf => ?_, by simp⟩
    rcases List.mem_append.1 hf with hf | hf
    · exact h f hf
    · rw [List.mem_singleton.1 hf]; exact ⟨by show o.nm.size ≤ _; omega, hc⟩
  split
  · refine ⟨fun f hf => ?_, putW_len fs⟩
    rcases putW_mem hf with hf | hf
    · exact h f hf
    · rw [hf]; exact ⟨by show o.nm.size ≤ _; omega, hc⟩
  split
  · refine ⟨fun f hf => ?_, by unfold renW; rw [List.length_map]; omega⟩
    obtain ⟨g, hg, rfl⟩ := List.mem_map.1 hf
    have := h g hg
    unfold renF
    split
    · exact ⟨by show o.tx.size ≤ _; omega, this.2⟩
    · exact this
  · exact ⟨h, by omega⟩
/-- what is known, of whatever make -/
def KvF (kv : AV) (kn : List Fld) : Prop := kv = .sl .no 2 (fldL kn) ∨ (kv = .nilS ∧ kn = [])
theorem Mv.preM {n : Nat} {st st' : St} (m : Mv n (fun _ => False) st st') : Pre st st' := by
  refine ⟨st'.heap.drop st.heap.length, List.ext_getElem? fun q => ?_⟩
  have := m.len
  by_cases h : q < st.heap.length
  · rw [List.getElem?_append_left h]
    exact m.keep q h (fun e => e)
  · rw [List.getElem?_append_right (by omega), List.getElem?_drop]
    congr 1; omega
structure MS (st : St) (M b : Nat) (r : Option Nat) (kv : AV) (n : Nat) (fs : List Fld) : Prop where
  h : st.heap[M]? = some [.ptr b 0, kv, .i n]
  hb : HB st b r fs
  ne : M ≠ b
  nr : r ≠ some M
theorem MS.mv {st st' : St} {M b : Nat} {r : Option Nat} {kv : AV} {n : Nat} {fs : List Fld} (h : MS st M b r kv n fs) (m : Mv 0 (fun _ => False) st st') : MS st' M b r kv n fs :=
  ⟨m.at' h.h (fun e => e), h.hb.mv m (fun e => e) (fun _ _ e => e), h.ne, h.nr⟩
theorem MS.bg {st st' : St} {M b : Nat} {r r' : Option Nat} {kv : AV} {n : Nat} {fs fs' : List Fld} (h : MS st M b r kv n fs) (hb : HB st' b r' fs') (hs : BgS st b r st' r') : MS st' M b r' kv n fs' := by
  have hl := lt_of h.h
  refine ⟨hs.mv.at' h.h (fun e => e.elim h.ne (fun e => h.nr e.symm)), hb, h.ne, ?_⟩
  rcases hs.nw with e | ⟨p, e, hp⟩
  · rw [e]; exact h.nr
  · rw [e]; intro e2; have := Option.some.inj e2; omega
/-- fields, and what is known, that a template may read -/
structure EvOk (kn fs : List Fld) (ps : List Prt) : Prop where
  kl : kn.length ≤ 1000000
  fl : fs.length ≤ 1000000
  fz : Sz 65536 fs
  pl : ps.length ≤ 1000
  pz : ∀ p ∈ ps, p.2.size ≤ 1000000
  ev : (evT kn fs ps).size ≤ 1099511627776
section
variable {st : St} {R : AV → St → Prop} {M b n : Nat} {r : Option Nat} {kv : AV} {kn fs : List Fld}
theorem Sz.big (h : Sz 65536 fs) : ∀ f ∈ fs, f.1.size ≤ 1099511627776 ∧ f.2.size ≤ 1099511627776 := fun f hf => by have := h f hf; omega
theorem Sz.big1 (h : Sz 65536 fs) : ∀ f ∈ fs, f.1.size ≤ 1099511627776 := fun f hf => by have := (h f hf).1; omega
theorem value_a {ps : List Prt} (hk : KvF kv kn) (hM : MS st M b r kv n fs) (he : EvOk kn fs ps) (h : ∀ st', Mv 0 (fun _ => False) st st' → R (.s (clnB (evT kn fs ps))) st') : ACalls Tryz.prog 63 [.ptr M 0, .sl .no 2 (prtL ps)] st R := by
  have q := eval_p kn fs ps he.kl (by have := he.fl; omega) he.fz.big he.pl he.pz he.ev
  rcases hk with rfl | ⟨rfl, rfl⟩
  · refine ACalls.of_vc T_ok mixed Tryz.func63 rfl Tryz.call63 ?_
    refine .n (.one 0 (.one 1 (.one 2 (.one 3 (.one 4 (.one 5 (.one 6 (.one 7 (.one 9 (.one 8 (.one 10 (.one 11 .done)))))))))))) (by kernel_rfl) ?_
    refine ⟨_, hM.h, ?_⟩
    refine ⟨_, hM.h, ?_⟩
    refine .s (listV_a fs (by have := he.fl; omega) hM.hb (fun st' m => ⟨m.preM, ?_⟩))
    refine .p rfl q ?_
    exact h _ m
  · refine ACalls.of_vc T_ok mixed Tryz.func63 rfl Tryz.call63 ?_
    refine .n (.one 0 (.one 1 (.one 2 (.one 3 (.one 4 (.one 5 (.one 6 (.one 7 (.one 9 (.one 8 (.one 10 (.one 11 .done)))))))))))) (by kernel_rfl) ?_
    refine ⟨_, hM.h, ?_⟩
    refine ⟨_, hM.h, ?_⟩
    refine .s (listV_a fs (by have := he.fl; omega) hM.hb (fun st' m => ⟨m.preM, ?_⟩))
    refine .w (args' := [.sl .no 2 [], .sl .no 2 (fldL fs), .sl .no 2 (prtL ps)]) rfl ⟨.inr ⟨rfl, 2, rfl⟩, .inl (.inl ⟨rfl, rfl⟩), .inl (.inl ⟨rfl, rfl⟩), trivial⟩ q ?_
    exact h _ m
theorem headV_of {V : List ByteArray} {x : ByteArray} {ok : Bool} (h : (ok = false ∧ x = ⟨#[]⟩ ∧ V = []) ∨ (ok = true ∧ ∃ q, V = x :: q)) : headV V = (x, ok) := by
  rcases h with ⟨rfl, rfl, rfl⟩ | ⟨rfl, q, rfl⟩
  · rfl
  · rfl
theorem skips_a (o : Opn) (ho : OpOk o) (hk : KvF kv kn) (hM : MS st M b r kv n fs) (hl : fs.length ≤ 1000000) (hz : Sz 65536 fs) (h : ∀ st', Mv 0 (fun _ => False) st st' → R (.b (skipsO o fs)) st') : ACalls Tryz.prog 37 [.ptr M 0, .agg [.i o.k, .s o.nm, .s o.tx, .sl .no 2 (prtL o.ps), .i o.n]] st R := by
  have hMx := fun (x : List AV) => ap (x := x) hM.h
  have m0 := fun (x : List AV) => (Mv.refl (n := 0) (C := fun _ => False) (st := st) (Nat.zero_le _)).alloc x
  rcases hk with rfl | ⟨rfl, rfl⟩
  all_goals
    refine ACalls.of_vc T_ok mixed Tryz.func37 rfl Tryz.call37 ?_
    refine .n (.one 0 (.one 1 (.one 2 (.one 3 (.one 4 (.one 5 (.one 6 (.one 7 (.one 8 (.one 9 (.one 10 (.one 11 .done)))))))))))) (by kernel_rfl) ?_
    refine ⟨_, hMx _, ?_⟩
    refine ⟨_, last_at _ _, ?_⟩
    refine .s (getX_a fs o.nm hl hz.big1 (by have := ho.nm; omega) (hM.hb.mv (m0 _) (fun e => e) (fun _ _ e => e)) (fun st' x ok m hx => ⟨m.preM, ?_⟩))
    have hh := headV_of hx
    have h := h st' ((m0 _).trans m (fun _ _ e => e))
    have hc := m.at' (last_at st.heap [.i o.k, .s o.nm, .s o.tx, .sl .no 2 (prtL o.ps), .i o.n]) (fun e => e)
    unfold skipsO at h
    rw [hh] at h
    clear hx hh
    refine ⟨_, hc, ?_⟩
    refine cnd_split (fun h1 => ?_) (fun h1 => ?_)
    · rw [if_pos (beq_iff_eq.1 h1)] at h
      exact h
    rw [if_neg (beq_eq_false_iff_ne.1 h1)] at h
    refine cnd_split (fun h2 => ?_) (fun h2 => ?_)
    · rw [if_pos (beq_iff_eq.1 h2)] at h
      exact h
    rw [if_neg (beq_eq_false_iff_ne.1 h2)] at h
    refine cnd_split (fun h3 => ?_) (fun h3 => ?_)
    · rw [if_pos (beq_iff_eq.1 h3)] at h
      cases ok with
      | false => exact h
      | true =>
        refine ⟨_, hc, ?_⟩
        intro t ht
        have ht : t = false ↔ x = o.tx := ht
        have e : decide (x ≠ o.tx) = t := by
          rw [Bool.eq_iff_iff, decide_eq_true_eq]
          cases t with
          | false => exact ⟨fun h => absurd (ht.1 rfl) h, fun h => (by cases h)⟩
          | true => exact ⟨fun _ => rfl, fun _ e => (by have := ht.2 e; cases this)⟩
        have h : R (.b (false || decide (x ≠ o.tx))) st' := h
        rw [Bool.false_or, e] at h
        exact h
    rw [if_neg (beq_eq_false_iff_ne.1 h3)] at h
    exact h
end
section
variable {st : St} {R : AV → St → Prop} {M b n : Nat} {r : Option Nat} {kv : AV} {kn fs : List Fld}
theorem BgS.of {st st1 st' : St} {b : Nat} {r r' : Option Nat} (m : Mv 0 (fun _ => False) st st1) (h : BgS st1 b r st' r') : BgS st b r st' r' :=
  (⟨m.wide (fun _ _ h => h.elim), .inl rfl⟩ : BgS st b r st1 r).trans h
set_option maxHeartbeats 1000000 in
theorem do_m (o : Opn) (ho : OpOk o) (hk : KvF kv kn) (hM : MS st M b r kv n fs) (he : EvOk kn fs o.ps) (hl : fs.length ≤ 100000) (h : ∀ r' st', MS st' M b r' kv n (doO kn o fs) → R (.tup []) st') : ACalls Tryz.prog 38 [.ptr M 0, .agg [.i o.k, .s o.nm, .s o.tx, .sl .no 2 (prtL o.ps), .i o.n]] st R := by
  have hn := ho.nm
  have ht := ho.tx
  have hz := he.fz
  have m0 : Mv 0 (fun _ => False) st ⟨st.heap ++ [[.i o.k, .s o.nm, .s o.tx, .sl .no 2 (prtL o.ps), .i o.n]], st.tk⟩ := (Mv.refl (Nat.zero_le _)).alloc _
  have hM0 := hM.mv m0
  have hc0 : (st.heap ++ [[AV.i o.k, .s o.nm, .s o.tx, .sl .no 2 (prtL o.ps), .i o.n]])[st.heap.length]? = some [AV.i o.k, .s o.nm, .s o.tx, .sl .no 2 (prtL o.ps), .i o.n] := last_at _ _
  have hk0 := hk
  rcases hk with rfl | ⟨rfl, hkn⟩
  all_goals
    refine ACalls.of_vc T_ok mixed Tryz.func38 rfl Tryz.call38 ?_
    refine ⟨_, hc0, ?_⟩
    unfold doO at h
    refine cnd_split (fun h1 => ?_) (fun h1 => ?_)
    · simp only [if_pos (beq_iff_eq.1 h1)] at h
      refine .n (.one 0 (.one 1 (.one 2 (.one 3 (.one 4 (.one 5 (.one 6 (.only 7 .done)))))))) (by kernel_rfl) ?_
      refine ⟨_, hM0.h, ?_⟩
      refine ⟨_, hc0, ?_⟩
      refine .s (removeX_a [o.nm] (.one (by omega)) fs (by omega) hz.big1 hM0.hb (fun st' hb hs => ?_))
      rw [keptW_one] at hb
      exact h _ _ (hM0.bg hb hs)
    simp only [if_neg (beq_eq_false_iff_ne.1 h1)] at h
    refine cnd_split (fun h2 => ?_) (fun h2 => ?_)
    · simp only [if_pos (beq_iff_eq.1 h2)] at h
      refine .n (.one 0 (.one 1 (.one 2 (.one 3 (.one 4 (.one 5 (.one 6 (.one 7 (.one 8 (.one 9 (.one 10 (.one 11 (.only 12 .done))))))))))))) (by kernel_rfl) ?_
      refine ⟨_, hM0.h, ?_⟩
      refine ⟨_, hc0, ?_⟩
      refine ⟨_, hc0, ?_⟩
      refine .s (value_a hk0 hM0 he (fun st1 m1 => ⟨m1.preM, ?_⟩))
      have hM1 := hM0.mv m1
      refine .s (addX_a fs [(o.nm, clnB (evT kn fs o.ps))] (by simp; omega) (List.cons_ne_nil _ _) hM1.hb (fun r' st' hb hs => ?_))
      exact h _ _ (hM1.bg hb hs)
    simp only [if_neg (beq_eq_false_iff_ne.1 h2)] at h
    refine cnd_split (fun h3 => ?_) (fun h3 => ?_)
    · simp only [if_pos (beq_iff_eq.1 h3)] at h
      refine .n (.one 0 (.one 1 (.one 2 (.one 3 (.one 4 (.one 5 (.one 6 (.one 7 (.one 8 (.one 9 (.only 10 .done))))))))))) (by kernel_rfl) ?_
      refine ⟨_, hM0.h, ?_⟩
      refine ⟨_, hc0, ?_⟩
      refine ⟨_, hc0, ?_⟩
      refine .s (value_a hk0 hM0 he (fun st1 m1 => ⟨m1.preM, ?_⟩))
      have hM1 := hM0.mv m1
      refine .s (putX_a o.nm (clnB (evT kn fs o.ps)) (by omega) fs (by omega) hz.big1 hM1.hb (fun r' st' hb hs => ?_))
      exact h _ _ (hM1.bg hb hs)
    simp only [if_neg (beq_eq_false_iff_ne.1 h3)] at h
    refine cnd_split (fun h4 => ?_) (fun h4 => ?_)
    · simp only [if_pos (beq_iff_eq.1 h4)] at h
      refine .n (.one 0 (.one 1 (.one 2 (.one 3 (.one 4 (.one 5 (.one 6 (.one 7 (.only 8 .done))))))))) (by kernel_rfl) ?_
      refine ⟨_, hM0.h, ?_⟩
      refine ⟨_, hc0, ?_⟩
      refine ⟨_, hc0, ?_⟩
      refine .s (renameX_a o.nm o.tx (by omega) fs (by omega) hz.big1 hM0.hb (fun st' hb hs => ?_))
      exact h _ _ (hM0.bg hb hs)
    simp only [if_neg (beq_eq_false_iff_ne.1 h4)] at h
    exact h _ _ hM0
theorem MS.step (hM : MS st M b r kv n fs) (m : Nat) : MS ⟨st.heap.set M [.ptr b 0, kv, .i m], st.tk⟩ M b r kv m fs :=
  ⟨st_eq hM.h, hM.hb.mv ((Mv.refl (C := fun q => q = M) (Nat.zero_le _)).set (fun _ => rfl) _) (fun e => hM.ne e.symm) (fun q hq e => hM.nr (by rw [hq, e])), hM.ne, hM.nr⟩
/-- what every step may count on -/
structure RunOk (kn : List Fld) (ops : List Opn) : Prop where
  kl : kn.length ≤ 1000000
  kz : ∀ f ∈ kn, f.2.size ≤ 2000000
  ol : ops.length ≤ 10000
  ok : ∀ o ∈ ops, OpOk o
theorem RunOk.ev {ops : List Opn} (h : RunOk kn ops) {o : Opn} (ho : o ∈ ops) (hl : fs.length ≤ 100000) (hz : Sz 65536 fs) : EvOk kn fs o.ps := by
  have h1 := h.ok o ho
  refine ⟨h.kl, by omega, hz, h1.pl, h1.pz, ?_⟩
  have := evT_size (kn := kn) (fs := fs) (B := 2000000) o.ps (fun p hp => by have := h1.pz p hp; omega) h.kz (fun f hf => by have := (hz f hf).2; omega) o.ps.length (Nat.le_refl _)
  rw [List.take_of_length_le (Nat.le_refl _)] at this
  have h2 : o.ps.length * 2000000 ≤ 1000 * 2000000 := Nat.mul_le_mul_right _ h1.pl
  omega
set_option maxHeartbeats 1000000 in
theorem run_a (ops : List Opn) (hr : RunOk kn ops) (hk : KvF kv kn) (hM : MS st M b r kv 0 fs) (hl : fs.length ≤ 1000) (hz : Sz 65536 fs) (h : ∀ r' st', MS st' M b r' kv (runO kn ops fs 0).2 (runO kn ops fs 0).1 → (runO kn ops fs 0).1.length ≤ 30000 → Sz 65536 (runO kn ops fs 0).1 → R (.tup []) st') : ACalls Tryz.prog 23 [.ptr M 0, .sl .no 5 (opL ops)] st R := by
  have hmx : maxLen = 9223372036854775807 := rfl
  have eo := opL_len ops
  have hol := hr.ol
  obtain ⟨Z, hZ⟩ : ∃ Z, runO kn ops fs 0 = Z := ⟨_, rfl⟩
  rw [hZ] at h
  have hk0 := hk
  rcases hk with rfl | ⟨rfl, hkn⟩
  all_goals
    refine ACalls.of_vc T_ok mixed Tryz.func23 rfl Tryz.call23 ?_
    refine vc_loop [4] (fun g vals st' => ∃ (i n : Nat) (fs : List Fld) (r : Option Nat), g = ops.length - i ∧ vals = [.i i] ∧ i ≤ 2 * ops.length + 1 ∧ n ≤ i ∧ fs.length ≤ 1000 + i ∧ Sz 65536 fs ∧ MS st' M b r _ n fs ∧ runO kn (ops.drop i) fs n = Z) ops.length rfl ⟨0, 0, fs, r, by omega, rfl, by omega, by omega, by omega, hz, hM, by rw [List.drop_zero]; exact hZ⟩ ?_
    clear hM hZ
    rintro g vals st1 ⟨i, n, fs, r, hg, rfl, hi, hn, hfl, hz, hM, hZ⟩
    refine cnd_split (fun hd => ?_) (fun hd => ?_)
    · have hd := of_decide_eq_true hd
      have i1 : i < ops.length := by omega
      rw [List.drop_eq_getElem_cons i1, runO_cons] at hZ
      have hmem := List.getElem_mem i1
      have ho := hr.ok _ hmem
      have hev := hr.ev (fs := fs) hmem (by omega) hz
      refine ⟨_, hM.h, ?_⟩
      intro c hc
      rw [IntWalk.i64_in _ (by omega)] at hc
      obtain rfl : c = ((n + 1 : Nat) : Int) := by omega
      refine ⟨_, hM.h, ?_⟩
      have hM1 := hM.step (n + 1)
      refine ⟨i, _, rfl, opL_at i1, ?_⟩
      refine .s (skips_a ops[i] ho hk0 hM1 (by omega) hz (fun st2 m2 => ?_))
      have hM2 := hM1.mv m2
      refine cnd_split (fun hs => ?_) (fun hs => ?_)
      · rw [if_pos hs, List.drop_drop] at hZ
        refine ⟨i, _, rfl, opL_at i1, ?_⟩
        obtain ⟨w, hw⟩ : ∃ w, w = min ops[i].n.toNat (opL ops).length := ⟨_, rfl⟩
        have hw9 : (if ((opL ops).length : Int) < (if (0 : Int) > ops[i].n then 0 else ops[i].n) then ((opL ops).length : Int) else (if (0 : Int) > ops[i].n then 0 else ops[i].n)) = (w : Int) := by
          split <;> split <;> omega
        intro c hc
        have hc := hc.trans (congrArg (fun z : Int => IntKind.i64.wrap ((i : Int) + z)) hw9)
        rw [IntWalk.i64_in _ (by omega)] at hc
        obtain rfl : c = ((i + w : Nat) : Int) := by omega
        intro c hc
        rw [IntWalk.i64_in _ (by omega)] at hc
        obtain rfl : c = ((i + w + 1 : Nat) : Int) := by omega
        refine ⟨ops.length - (i + w + 1), by omega, i + w + 1, n + 1, fs, r, rfl, rfl, by omega, by omega, by omega, hz, hM2, ?_⟩
        rw [← hZ]
        congr 1
        by_cases h9 : ops[i].n.toNat ≤ (opL ops).length
        · rw [show w = ops[i].n.toNat by omega, Nat.add_right_comm]
        · rw [List.drop_of_length_le (by omega), List.drop_of_length_le (by omega)]
      · rw [if_neg (by rw [hs]; decide)] at hZ
        refine ⟨i, _, rfl, opL_at i1, ?_⟩
        refine .s (do_m ops[i] ho hk0 hM2 hev (by omega) (fun r3 st3 hM3 => ?_))
        have hsz := doO_sz (kn := kn) ho hz
        intro c hc
        rw [IntWalk.i64_in _ (by omega)] at hc
        obtain rfl : c = ((i + 1 : Nat) : Int) := by omega
        exact ⟨g - 1, by omega, i + 1, n + 1, _, r3, by omega, rfl, by omega, by omega, by omega, hsz.1, hM3, hZ⟩
    · have hd := of_decide_eq_false hd
      rw [List.drop_of_length_le (by omega), runO_nil] at hZ
      subst hZ
      exact h _ _ hM (by show fs.length ≤ _; omega) hz
end
theorem KvF.argV {kv : AV} {kn : List Fld} (h : KvF kv kn) : argV kv (.sl .no 2 (fldL kn)) := by
  rcases h with rfl | ⟨rfl, rfl⟩
  · exact .inl rfl
  · exact .inr (.inr ⟨rfl, 2, rfl⟩)
theorem run37_p (kn fs : List Fld) (ops : List Opn) (hr : RunOk kn ops) (hl : fs.length ≤ 1000) (hz : Sz 65536 fs) : APure Tryz.prog 14 [.sl .no 2 (fldL kn), .sl .no 2 (fldL fs), .sl .no 5 (opL ops)] (.sl .no 2 (fldL (runO kn ops fs 0).1)) [] := by
  refine APure.of rfl ?_
  refine ACalls.of_vc T_ok mixed Tryz.func14 rfl Tryz.call14 ?_
  refine .s (newX_a fs (by omega) (fun b r st1 m1 hb hbl hbr => ?_))
  have hlt := hb.lt
  refine ⟨hlt, ?_⟩
  have m2 : Mv 0 (fun _ => False) st1 ⟨st1.heap ++ [[.ptr b 0, .sl .no 2 (fldL kn), .i 0]], st1.tk⟩ := (Mv.refl (Nat.zero_le _)).alloc _
  have hM : MS ⟨st1.heap ++ [[.ptr b 0, .sl .no 2 (fldL kn), .i 0]], st1.tk⟩ st1.heap.length b r (.sl .no 2 (fldL kn)) 0 fs := ⟨last_at _ _, hb.mv m2 (fun e => e) (fun _ _ e => e), by omega, fun e => by subst e; have := hb.rlt; omega⟩
  refine .s (run_a ops hr (.inl rfl) hM hl hz (fun r' st' hM' hl' hz' => ?_))
  refine ⟨_, hM'.h, ?_⟩
  refine .s (listV_a _ (by omega) hM'.hb (fun st2 m2 => ?_))
  rfl
/-- does a guard hold? -/
def holdsG (k : Int) (nm v : ByteArray) (fs : List Fld) : Bool :=
  if k = 1 then (headV (valsW nm fs)).2 else if k = 2 then !(headV (valsW nm fs)).2 else if k = 3 then ((headV (valsW nm fs)).2 && decide ((headV (valsW nm fs)).1 = v)) else true
/-- what a rule makes of fields -/
def actR (kn : List Fld) (r : Rl) (fs : List Fld) : List Fld :=
  if holdsG r.gk r.ga r.gb fs = true then (if r.ac = 1 then putW r.nm (clnB (evT kn fs r.ps)) fs else if r.ac = 2 then fs ++ [(r.nm, clnB (evT kn fs r.ps))] else if r.ac = 3 then withoutW r.nm fs else renW r.nm r.un fs) else fs
theorem headV_pos {V : List ByteArray} : decide ((V.length : Int) > 0) = (headV V).2 := by
  cases V with
  | nil => rfl
  | cons x q => exact decide_eq_true (by rw [List.length_cons]; omega)
theorem headV_nil {V : List ByteArray} : ((V.length : Int) == 0) = !(headV V).2 := by
  cases V with
  | nil => rfl
  | cons x q =>
    show ((((x :: q).length : Nat) : Int) == 0) = false
    exact beq_eq_false_iff_ne.2 (by rw [List.length_cons]; omega)
/-- what a rule may count on -/
structure ActOk (kn fs : List Fld) (r : Rl) : Prop where
  kl : kn.length ≤ 1000000
  kz : ∀ f ∈ kn, f.2.size ≤ 2000000
  fl : fs.length ≤ 100000
  fz : Sz 65536 fs
  ga : r.ga.size ≤ 1000
  nm : r.nm.size ≤ 1000
  un : r.un.size ≤ 1000
  pl : r.ps.length ≤ 400
  pz : ∀ p ∈ r.ps, p.2.size ≤ 1000000
section
attribute [local irreducible] vcApp
theorem skips_holds {o : Opn} {fs : List Fld} (h : 1 ≤ o.k ∧ o.k ≤ 3) : skipsO o fs = !holdsG o.k o.nm o.tx fs := by
  unfold skipsO holdsG
  obtain h | h | h : o.k = 1 ∨ o.k = 2 ∨ o.k = 3 := by omega
  · rw [if_pos h, if_pos h]
  · rw [if_neg (by omega), if_pos h, if_neg (by omega), if_pos h, Bool.not_not]
  · rw [if_neg (by omega), if_neg (by omega), if_pos h, if_neg (by omega), if_neg (by omega), if_pos h, Bool.not_and, ← decide_not]
theorem skips_no {o : Opn} {fs : List Fld} (h : ¬ (1 ≤ o.k ∧ o.k ≤ 3)) : skipsO o fs = false := by
  unfold skipsO
  rw [if_neg (by omega), if_neg (by omega), if_neg (by omega)]
theorem doO_no {kn fs : List Fld} {o : Opn} (h : o.k < 4 ∨ 7 < o.k) : doO kn o fs = fs := by
  unfold doO
  rw [if_neg (by omega), if_neg (by omega), if_neg (by omega), if_neg (by omega)]
def kindO (k : Int) : Int := if k = 4 then 3 else if k = 5 then 2 else if k = 6 then 1 else 4
def ruleO (o : Opn) : Rl := ⟨0, 0, ⟨#[]⟩, ⟨#[]⟩, kindO o.k, o.nm, o.tx, o.ps⟩
theorem act_do {kn fs : List Fld} {o : Opn} (h : 4 ≤ o.k ∧ o.k ≤ 7) : actR kn (ruleO o) fs = doO kn o fs := by
  unfold actR doO holdsG ruleO kindO
  obtain h | h | h | h : o.k = 4 ∨ o.k = 5 ∨ o.k = 6 ∨ o.k = 7 := by omega
  all_goals simp [h]
/-- what every step of the document may count on -/
structure RunOkD (kn : List Fld) (ops : List Opn) : Prop where
  kl : kn.length ≤ 1000000
  kz : ∀ f ∈ kn, f.2.size ≤ 2000000
  ol : ops.length ≤ 10000
  ok : ∀ o ∈ ops, OpOk o ∧ o.ps.length ≤ 400
end
theorem take_min {α : Type} (l : List α) (n : Nat) : ((l.drop 0).take ((if n < l.length then n else l.length) - 0)) = l.take n := by
  rw [List.drop_zero, Nat.sub_zero]
  split
  · rfl
  · rw [List.take_of_length_le (Nat.le_refl _), List.take_of_length_le (by omega)]
theorem fldL_take (l : List Fld) (n : Nat) : (fldL l).take n = fldL (l.take n) := by unfold fldL; rw [List.map_take]
theorem prtL_take (l : List Prt) (n : Nat) : (prtL l).take n = prtL (l.take n) := by unfold prtL; rw [List.map_take]
def tk30 (fs : List Fld) : List Fld := (fewF fs).take 30
theorem tk30_len (fs : List Fld) : (tk30 fs).length ≤ 30 := by unfold tk30; rw [List.length_take]; omega
theorem tk30_sz (fs : List Fld) : Sz 65536 (tk30 fs) := fun f hf => by
  have := fewF_size fs f (List.mem_of_mem_take hf)
  omega
def cutO (o : Opn) : Opn := ⟨o.k, cut60 o.nm, cut60 o.tx, (fewT o.ps).take 4, o.n⟩
theorem fewT_mem {l : List Prt} {p : Prt} (h : p ∈ fewT l) : p.2.size ≤ 60 := by
  unfold fewT at h
  obtain ⟨q, _, rfl⟩ := List.mem_map.1 h
  exact cut60_size _
theorem cutO_ok (o : Opn) : OpOk (cutO o) ∧ (cutO o).ps.length ≤ 400 := by
  have h1 := cut60_size o.nm
  have h2 := cut60_size o.tx
  have h3 : ((fewT o.ps).take 4).length ≤ 4 := by rw [List.length_take]; omega
  refine ⟨⟨by show (cut60 o.nm).size ≤ _; omega, by show (cut60 o.tx).size ≤ _; omega, by show ((fewT o.ps).take 4).length ≤ _; omega, fun p hp => ?_⟩, by show ((fewT o.ps).take 4).length ≤ _; omega⟩
  have := fewT_mem (List.mem_of_mem_take hp)
  omega
theorem cutO_take {l : List Opn} {k : Nat} (h : k < l.length) : opL ((l.take (k + 1)).map cutO) = opL ((l.take k).map cutO) ++ [(cutO l[k]).cs] := by
  rw [List.take_succ_eq_append_getElem h, List.map_append]
  unfold opL
  rw [List.map_append]
  rfl
section
variable (kn fs : List Fld) (sd : Int) (l : List Rl)
/-- the fields behind rules; an error -/
def rulesW : List Fld × Int := if (compW sd l).2 ≠ 0 then ([], (compW sd l).2) else ((runO kn (compW sd l).1 fs 0).1, 0)
end
theorem contW_own (r : Rl) : OpOk (ownO r) ↔ OpOk (ownO r) := Iff.rfl
theorem ownO_ok {r : Rl} (h : r.Ok) (hp : ∀ p ∈ r.ps, p.2.size ≤ 1000000) : OpOk (ownO r) := by
  have h1 := h.nm
  have h2 := h.un
  have h3 := h.pl
  have e0 : emB.size ≤ 1000 := by decide
  have e1 : ([] : List Prt).length ≤ 1000 := by decide
  unfold ownO
  split
  · exact ⟨h1, e0, h3, hp⟩
  split
  · exact ⟨h1, e0, h3, hp⟩
  split
  · exact ⟨h1, e0, e1, fun p hp => by cases hp⟩
  split
  · exact ⟨h1, h2, e1, fun p hp => by cases hp⟩
  · exact ⟨e0, e0, e1, fun p hp => by cases hp⟩
theorem guardO_ok {r : Rl} (h : r.Ok) (n : Nat) : OpOk (guardO r.g n) := ⟨h.ga, h.gb, by show ([] : List Prt).length ≤ _; decide, fun p hp => by cases hp⟩
theorem allW_ok : ∀ (n : Nat) (l : List Rl), l.length ≤ n → (∀ r ∈ l, r.Ok ∧ ∀ p ∈ r.ps, p.2.size ≤ 1000000) → ∀ o ∈ allW l, OpOk o
  | _, [], _, _, o, ho => by rw [allW_nil] at ho; cases ho
  | 0, r :: rs, hl, _, o, ho => by simp at hl
  | n + 1, r :: rs, hl, hr, o, ho => by
    have hl' : rs.length ≤ n := by simp at hl; omega
    have h0 := hr r List.mem_cons_self
    have hrs : ∀ q ∈ rs, q.Ok ∧ ∀ p ∈ q.ps, p.2.size ≤ 1000000 := fun q hq => hr q (List.mem_cons_of_mem _ hq)
    by_cases hg : r.gk = 0
    · rw [allW_plain hg] at ho
      rcases List.mem_cons.1 ho with rfl | ho
      · exact ownO_ok h0.1 h0.2
      · exact allW_ok n rs hl' hrs o ho
    · rw [allW_run hg] at ho
      rcases List.mem_cons.1 ho with rfl | ho
      · exact guardO_ok h0.1 _
      rcases List.mem_cons.1 ho with rfl | ho
      · exact ownO_ok h0.1 h0.2
      rcases List.mem_append.1 ho with ho | ho
      · obtain ⟨q, hq, rfl⟩ := List.mem_map.1 ho
        have := hrs q (List.mem_of_mem_take hq)
        exact ownO_ok this.1 this.2
      · exact allW_ok n (rs.drop (contW r.g r rs)) (by rw [List.length_drop]; omega) (fun q hq => hrs q (List.mem_of_mem_drop hq)) o ho
theorem compW_ok {sd : Int} {l : List Rl} (hl : l.length ≤ 1000) (hr : ∀ r ∈ l, r.Ok ∧ ∀ p ∈ r.ps, p.2.size ≤ 1000000) : (compW sd l).1.length ≤ 10000 ∧ ∀ o ∈ (compW sd l).1, OpOk o := by
  unfold compW
  split
  · exact ⟨Nat.zero_le _, fun o h => by cases h⟩
  split
  · exact ⟨Nat.zero_le _, fun o h => by cases h⟩
  · have hs : (sideL sd l).length ≤ l.length := List.length_filter_le _ _
    have := allW_len _ (sideL sd l) (Nat.le_refl _)
    exact ⟨by show (allW _).length ≤ _; omega, allW_ok _ _ (Nat.le_refl _) (fun r hr' => hr r (List.mem_filter.1 hr').1)⟩
theorem rules37_p (kn fs : List Fld) (sd : Int) (l : List Rl) (hkl : kn.length ≤ 1000000) (hkz : ∀ f ∈ kn, f.2.size ≤ 2000000) (hfl : fs.length ≤ 1000) (hfz : Sz 65536 fs) (hl : l.length ≤ 1000) (hr : ∀ r ∈ l, r.Ok ∧ ∀ p ∈ r.ps, p.2.size ≤ 1000000) :
    APure Tryz.prog 7 [.sl .no 2 (fldL kn), .sl .no 2 (fldL fs), .i sd, .sl .no 8 (rlL l)] (.tup [.sl .no 2 (fldL (rulesW kn fs sd l).1), .i (rulesW kn fs sd l).2]) [] := by
  have qc := compile_p sd l hl (fun r h => (hr r h).1)
  obtain ⟨c1, c2⟩ := compW_ok (sd := sd) hl hr
  unfold rulesW
  generalize compW sd l = C at qc c1 c2
  obtain ⟨ops, e⟩ := C
  dsimp only at qc c1 c2 ⊢
  have qr := run37_p kn fs ops ⟨hkl, hkz, c1, c2⟩ hfl hfz
  refine APure.ofW rfl ?_
  refine ACalls.of_vc T_ok mixed Tryz.func7 rfl Tryz.call7 ?_
  refine .p rfl qc ?_
  by_cases he : e = 0
  · subst he
    refine .p rfl qr ?_
    exact .inl (by rw [if_neg (fun h => h rfl)]; rfl)
  · refine cnd_split (fun _ => ?_) (fun h => absurd (bne_eq_false_iff_eq.1 h) he)
    exact .inr (.inr ⟨[.i e], 2, rfl, by rw [if_pos he]; rfl⟩)
/-- the page's example -/
def awR : Rl := ⟨1, 3, ⟨#[97]⟩, ⟨#[49]⟩, 1, ⟨#[65]⟩, ⟨#[]⟩, [(1, ⟨#[50]⟩)]⟩
theorem doO_len (kn : List Fld) (o : Opn) (fs : List Fld) : (doO kn o fs).length ≤ fs.length + 1 := by
  unfold doO
  split
  · have := withoutW_len o.nm fs; omega
  split
  · simp
  split
  · exact putW_len fs
  split
  · unfold renW; rw [List.length_map]; omega
  · omega
theorem runO_len' (kn : List Fld) : ∀ (m : Nat) (ops : List Opn) (fs : List Fld) (n : Nat), ops.length ≤ m → (runO kn ops fs n).1.length ≤ fs.length + ops.length
  | _, [], fs, n, _ => by rw [runO_nil]; exact Nat.le_refl _
  | 0, o :: r, fs, n, h => by simp at h
  | m + 1, o :: r, fs, n, h => by
    have hr : r.length ≤ m := by simp at h; omega
    have hd : (r.drop o.n.toNat).length ≤ r.length := by rw [List.length_drop]; omega
    rw [runO_cons, List.length_cons]
    split
    · have := runO_len' kn m (r.drop o.n.toNat) fs (n + 1) (by omega)
      omega
    · have := runO_len' kn m r (doO kn o fs) (n + 1) hr
      have := doO_len kn o fs
      omega
theorem runO_len (kn : List Fld) (ops : List Opn) (fs : List Fld) (n : Nat) : (runO kn ops fs n).1.length ≤ fs.length + ops.length := runO_len' kn _ ops fs n (Nat.le_refl _)
section
attribute [local irreducible] vcApp
end
def otherL (sd : Int) (l : List Rl) : List Rl := l.filter fun r => decide (r.sd ≠ sd)
theorem side_other (sd : Int) (l : List Rl) : sideL sd (otherL sd l) = [] := by
  unfold sideL otherL
  rw [List.filter_filter]
  refine List.filter_eq_nil_iff.2 fun r _ => ?_
  by_cases h : r.sd = sd
  · rw [decide_eq_false (p := r.sd ≠ sd) (fun e => e h), Bool.and_false]; decide
  · rw [decide_eq_false h, Bool.false_and]; decide
theorem rules_other (kn fs : List Fld) (sd : Int) (l : List Rl) : ((rulesW kn fs sd (otherL sd l)).2 ≠ 0 ∧ (rulesW kn fs sd (otherL sd l)).1 = []) ∨ ((rulesW kn fs sd (otherL sd l)).2 = 0 ∧ (rulesW kn fs sd (otherL sd l)).1 = fs) := by
  unfold rulesW
  by_cases h : (compW sd (otherL sd l)).2 ≠ 0
  · rw [if_pos h]; exact .inl ⟨h, rfl⟩
  · rw [if_neg h]
    refine .inr ⟨rfl, ?_⟩
    have e : (compW sd (otherL sd l)).1 = [] := by
      unfold compW
      split
      · rfl
      split
      · rfl
      · rw [side_other, allW_nil]
    rw [e, runO_nil]
theorem tappY' {st : St} {i : TI} {tg : Tk} {ys : List (List AV)} {K : AV → St → Prop} (hz : i.zero.all Value.oneCell' = true) (hb : ys.length * i.bytes ≤ 140737488355328) (hm : ys.length ≤ maxLen) (h0 : K (.sl .tight i.size ys) st) (h1 : ys ≠ [] → ∀ t e tk', tk'[t]? = some e → K (.sl (.own t e) i.size ys) ⟨st.heap, tk'⟩) : vcApp i (.sl .tight i.size []) (.sl tg i.size ys) st K :=
  tapp hz hb hm (fun e => by subst e; exact h0) h1
theorem fewR_parts (r : Rl) : ∀ p ∈ (fewR r).ps, p.2.size ≤ 1000000 := fun p hp => by
  have := fewT_mem (l := r.ps) hp
  omega
section
attribute [local irreducible] vcApp
end
section
variable {P : Program} {T : Tab}
def frz (st : St) (a b : AV) : Prop :=
  b = .top ∨ (b = a.strip ∧ b.dat = true) ∨ (∃ p off cs, a = .ptr p off ∧ st.heap[p]? = some cs ∧ b = .elt (cs.drop off) ∧ (cs.drop off).all AV.flat = true) ∨
    ∃ p lo n cap sz cs es, a = .hs p lo n cap sz ∧ st.heap[p]? = some cs ∧ Seen cs lo n sz es ∧ b = .sl .no sz es
def frzL (st : St) (fr : Fr) : List Nat → List AV → Prop
  | [], [] => True
  | i :: is, b :: bs => frz st (fr.getD i .un) b ∧ frzL st fr is bs
  | _, _ => False
theorem frzL.get {st : St} {fr : Fr} : ∀ {is : List Nat} {bs : List AV}, frzL st fr is bs → ∀ (k i : Nat) b, is[k]? = some i → bs[k]? = some b → frz st (fr.getD i .un) b
  | [], [], _, k, i, b, h, _ => by simp at h
  | i0 :: is, b0 :: bs, h, k, i, b, h1, h2 => by
    cases k with
    | zero => simp at h1 h2; subst h1; subst h2; exact h.1
    | succ k => exact frzL.get h.2 k i b (by simpa using h1) (by simpa using h2)
  | [], _ :: _, h, _, _, _, _, _ => h.elim
  | _ :: _, [], h, _, _, _, _, _ => h.elim
/-- code behind n pieces, run on what was made as data -/
inductive FrzK (P : Program) (T : Tab) (Q : Exit → Fr → St → Prop) (c : Code) (fr : Fr) (st : St) : Prop
  | mk (live : List Nat) (vals : List AV) (h : frzL st fr live vals) (hv : listK (sets live vals (List.replicate fr.length .top)) fun fr2 => vc P T c Q fr2 ⟨[], []⟩)
def vcAt (P : Program) (T : Tab) (Q : Exit → Fr → St → Prop) : Nat → Code → Fr → St → Prop
  | 0, c, fr, st => FrzK P T Q c fr st
  | n + 1, .seq a b, fr, st => vc P T a (seqQ (fun fr' st' => vcAt P T Q n b fr' st') Q) fr st
  | _ + 1, _, _, _ => False
variable {base : Nat} {J : Nat → Nat → Prop} {w0 : World} {st : St} {μ : Nat → Nat} {σ : Nat → Tkt} {w w' : World}
theorem frz.at (hok : Ok base J w0 st μ σ w) {a b : AV} {v : Value} (h : At base J st μ σ w a v) (hf : frz st a b) : At w.heap.size (fun _ _ => True) ⟨[], []⟩ (fun _ => 0) (fun _ => ⟨0, 0, 0⟩) w b v := by
  have im : ∀ g x, Im w.heap.size (fun _ _ => True) ⟨[], []⟩ (fun _ => 0) (fun _ => ⟨0, 0, 0⟩) g x := fun g x => ⟨fun _ => trivial, fun p hp => by simp at hp, fun t e ht => by simp at ht⟩
  rcases hf with rfl | ⟨rfl, hd⟩ | ⟨p, off, cs, rfl, hcs, rfl, hfl⟩ | ⟨p, lo, n, cap, sz, cs, es, rfl, hcs, hseen, rfl⟩
  · exact .top v
  · exact h.strip.dat (fun g x _ _ => im g x) hd
  · cases h with
    | ptr _ _ hp =>
      obtain ⟨_, us, TT, hb, hlen, hr⟩ := hok.hp p cs hcs
      refine .elt _ (μ p) off (fun j => us.getD (off + j) undef) hfl (fun j a ha => ⟨im _ _, ?_⟩) (fun j a ha => ?_)
      · rw [List.getElem?_drop] at ha
        have hj := (List.getElem?_eq_some_iff.1 ha).1
        have hu : us[off + j]? = some us[off + j] := Array.getElem?_eq_getElem (by omega)
        rw [cell_block hb, hu]
        simp [Array.getD_eq_getD_getElem?, hu]
      · have ha' := ha
        rw [List.getElem?_drop] at ha
        have hj := (List.getElem?_eq_some_iff.1 ha).1
        have hu : us[off + j]? = some us[off + j] := Array.getElem?_eq_getElem (by omega)
        have := (hr (off + j) a _ ha hu).2.2
        have hg : us.getD (off + j) undef = us[off + j] := by simp [Array.getD_eq_getD_getElem?, hu]
        show Rp w _ _ _ _ _ a (us.getD (off + j) undef)
        rw [hg]
        exact this.data (fun g x _ _ => im g x) (List.all_eq_true.1 hfl a (List.mem_of_getElem? ha'))
  · cases h with
    | hs _ _ _ _ _ hp hnc hm =>
      obtain rfl := hseen.len
      obtain ⟨us, hrow, hcell⟩ := hseen.row hok hcs
      have hrow' : Row w.heap.size (fun _ _ => True) ⟨[], []⟩ (fun _ => 0) (fun _ => ⟨0, 0, 0⟩) w sz es us := ⟨hrow.len, hrow.el, fun k e j a he ha => by
        obtain ⟨u, h1, h2⟩ := hrow.at' k e j a he ha
        exact ⟨u, h1, h2.dat (fun g x _ _ => im g x) (AV.dat_of_flat (List.all_eq_true.1 (hrow.el k e he).2 a (List.mem_of_getElem? ha)))⟩⟩
      exact hrow'.sl .no (μ p) lo cap hnc hm (fun j u hu => ⟨im _ _, hcell j u hu⟩) (fun h => by cases h) (fun i e h => by cases h)
theorem sets_len' : ∀ (is : List Nat) (vs : List AV) (fr : Fr), (sets is vs fr).length = fr.length := sets_len
/-- what stands behind it all -/
def ZFin (P : Program) (fn : Func) (base : Nat) (w0 : World) (r : Value) (e : Exit) (a : Act) (w : World) : Prop :=
  (e = .normal ∨ e = .ret) ∧ a.defers = [] ∧ (results fn a.tmps).run P w = .ok r w ∧ Below base w0 w
theorem rel_fin (hT : T.Ok P) {fn : Func} {r : Value} {b2 : Nat} {J2 : Nat → Nat → Prop} {w2 : World} {st2 : St} {μ2 : Nat → Nat} {σ2 : Nat → Tkt} {w3 : World} (hbl : ∀ w'', Below b2 w2 w'' → Below base w0 w'') {e : Exit} {a' : Act} {w'' : World}
    (hr : Rel b2 J2 w2 st2 μ2 σ2 w3 (retQ T fn (fun r' _ => r' = .lit r) e) a' w'') : ZFin P fn base w0 r e a' w'' := by
  obtain ⟨fr', st', μ', σ', q1, q2, q3, q4, q5⟩ := hr
  have main : (e = .normal ∨ e = .ret) → ZFin P fn base w0 r e a' w'' := fun he => by
    have q1' : resAll T fn.results.toList fr' st' fun vs => match vs with | [v] => (fun (r' : AV) (_ : St) => r' = .lit r) v st' | vs => (fun (r' : AV) (_ : St) => r' = .lit r) (.tup vs) st' := by
      rcases he with rfl | rfl <;> exact q1
    obtain ⟨v, a, h1, h2, h3⟩ := res_sound (fn := fn) (R := fun r' _ => r' = .lit r) hT q2 q4 q1'
    subst h2
    rw [h3.of_lit] at h1
    exact ⟨he, q5, h1, hbl _ q2.below⟩
  cases e with
  | normal => exact main (.inl rfl)
  | ret => exact main (.inr rfl)
  | _ => exact q1.elim
theorem z_sound (hT : T.Ok P) (hm : P.follows .mixedOrders = true) {fn : Func} {r : Value} : ∀ (n : Nat) (c : Code) (fr : Fr) (st : St) (μ : Nat → Nat) (σ : Nat → Tkt) (a : Act) (w : World),
    vcAt P T (retQ T fn (fun r' _ => r' = .lit r)) n c fr st → Ok base J w0 st μ σ w → FrAt base J st μ σ w fr a.tmps → a.defers = [] → c.wp P (ZFin P fn base w0 r) a w
  | 0, c, fr, st, μ, σ, a, w, hv, h, hf, hd => by
    obtain ⟨live, vals, hz, hv⟩ := hv
    have hv := listK_iff.1 hv
    refine wp_mono (vc_sound hT hm c _ _ ⟨[], []⟩ (fun _ => 0) (fun _ => ⟨0, 0, 0⟩) a w hv (Ok.none (fun _ _ => True) _ _ w h.laid') ⟨by rw [sets_len, List.length_replicate]; exact hf.1, fun i b v h1 h2 => ?_⟩ hd) fun e a' w' hr => rel_fin hT (fun w'' hb => h.below.trans (hb.mono h.base_le)) hr
    rcases sets_get _ _ _ _ _ h1 with ⟨k, k1, k2⟩ | k1
    · have hfz := hz.get k i b k1 k2
      have hi := (List.getElem?_eq_some_iff.1 h1).1
      rw [sets_len, List.length_replicate] at hi
      have hx : fr[i]? = some (fr.getD i .un) := by rw [List.getD_eq_getElem?_getD, List.getElem?_eq_getElem hi]; rfl
      exact hfz.at h (hf.2 i _ v hx h2)
    · rw [List.getElem?_replicate] at k1
      split at k1
      · cases k1; exact .top v
      · cases k1
  | n + 1, c, fr, st, μ, σ, a, w, hv, h, hf, hd => by
    cases c with
    | seq x y =>
      have hv : vc P T x (seqQ (fun fr' st' => vcAt P T (retQ T fn (fun r' _ => r' = .lit r)) n y fr' st') (retQ T fn (fun r' _ => r' = .lit r))) fr st := hv
      refine wp_seq (wp_mono (vc_sound hT hm x _ fr st μ σ a w hv h hf hd) fun e a' w' hr => ?_)
      cases e with
      | normal =>
        obtain ⟨fr', st', μ', σ', q1, q2, q3, q4, q5⟩ := hr
        exact z_sound hT hm n y fr' st' μ' σ' a' w' q1 q2 q4 q5
      | _ => exact rel_fin hT (fun w'' hb => hb) hr
    | _ => exact hv.elim
/-- a pure function's plain answer: its code behind n pieces only reads what was made -/
theorem APure.ofZ (hT : T.Ok P) (hm : P.follows .mixedOrders = true) (n : Nat) {f : FuncId} {fn : Func} {c : Code} (hf : P.funcs[f]? = some fn) (hb : fn.body = some c)
    (hcall : ∀ zs w, (callFunc f zs).run P w = .ok (.enter f zs) w) {args : List AV} {r : Value} (hd : (AV.lit r).res = true) (hv : frameK fn args fun fr => vcAt P T (retQ T fn (fun r' _ => r' = .lit r)) n c fr ⟨[], []⟩) : APure P f args (.lit r) [] := by
  have hv := frameK_iff.1 hv
  refine ⟨hd, hcall, fun J w vs hw hl ha => ?_⟩
  refine calls_of_wp hf hb (wp_mono (z_sound (base := w.heap.size) (J := J) (w0 := w) hT hm n c _ ⟨[], []⟩ (fun _ => 0) (fun _ => ⟨0, 0, 0⟩) { tmps := vs ++ Array.replicate (fn.ntmps - vs.size) undef, defers := [] } w hv (Ok.none J _ _ w hw) ?_ rfl) fun e a' w' hr => ?_)
  · refine ⟨by simp [frame, hl], fun i a v h1 h2 => ?_⟩
    simp only [frame, List.getElem?_append, hl] at h1
    rw [Array.getElem?_append] at h2
    by_cases hi : i < vs.size
    · rw [if_pos hi] at h1 h2
      exact ha i a v h1 h2
    · rw [if_neg hi] at h1 h2
      rw [List.getElem?_replicate] at h1
      rw [Array.getElem?_replicate] at h2
      split at h1
      · split at h2
        · cases h1; cases h2; exact .lit _
        · rename_i q1 q2; exact absurd q1 q2
      · cases h1
  · obtain ⟨he, hd, hres, hbel⟩ := hr
    have fin : a'.defers = [] ∧ ∃ v, (results fn a'.tmps).run P w' = .ok v w' ∧ ∃ v' σ', Ending.returned v = .returned v' ∧ Ok w.heap.size J w ⟨[], []⟩ (fun _ => 0) σ' w' ∧ At w.heap.size J ⟨[], []⟩ (fun _ => 0) σ' w' (.lit r) v' :=
      ⟨hd, r, hres, r, fun _ => ⟨0, 0, 0⟩, rfl, ⟨⟨Nat.le_refl _, hw⟩, hbel, fun p cs h => by simp at h, fun p q h => by simp at h, fun t e h => by simp at h⟩, .lit _⟩
    rcases he with rfl | rfl
    · exact fin
    · exact fin
end
section
variable {kn : List Fld}
/-- what a rule does, its guard aside -/
def actX (kn : List Fld) (r : Rl) (fs : List Fld) : List Fld :=
  if r.ac = 1 then putW r.nm (clnB (evT kn fs r.ps)) fs else if r.ac = 2 then fs ++ [(r.nm, clnB (evT kn fs r.ps))] else if r.ac = 3 then withoutW r.nm fs else renW r.nm r.un fs
theorem actR_yes {r : Rl} {fs : List Fld} (h : holdsG r.gk r.ga r.gb fs = true) : actR kn r fs = actX kn r fs := if_pos h
theorem actR_no {r : Rl} {fs : List Fld} (h : holdsG r.gk r.ga r.gb fs = false) : actR kn r fs = fs := if_neg (by rw [h]; decide)
theorem own_do {r : Rl} {fs : List Fld} (h : 1 ≤ r.ac ∧ r.ac ≤ 4) : doO kn (ownO r) fs = actX kn r fs := by
  obtain h | h | h | h : r.ac = 1 ∨ r.ac = 2 ∨ r.ac = 3 ∨ r.ac = 4 := by omega
  all_goals simp [ownO, doO, actX, h]
theorem own_k {r : Rl} (h : 1 ≤ r.ac ∧ r.ac ≤ 4) : 4 ≤ (ownO r).k ∧ (ownO r).k ≤ 7 := by
  obtain h | h | h | h : r.ac = 1 ∨ r.ac = 2 ∨ r.ac = 3 ∨ r.ac = 4 := by omega
  all_goals simp [ownO, h]
theorem run_own {r : Rl} {ops : List Opn} {fs : List Fld} {n : Nat} (h : 1 ≤ r.ac ∧ r.ac ≤ 4) : runO kn (ownO r :: ops) fs n = runO kn ops (actX kn r fs) (n + 1) := by
  have hk := own_k h
  rw [runO_cons, skips_no (by omega), if_neg (by decide), own_do h]
theorem run_guard {g : Int × ByteArray × ByteArray} {c : Nat} {ops : List Opn} {fs : List Fld} {n : Nat} (h : 1 ≤ g.1 ∧ g.1 ≤ 3) :
    runO kn (guardO g c :: ops) fs n = if holdsG g.1 g.2.1 g.2.2 fs = true then runO kn ops fs (n + 1) else runO kn (ops.drop c) fs (n + 1) := by
  have e1 : skipsO (guardO g c) fs = !holdsG g.1 g.2.1 g.2.2 fs := skips_holds (o := guardO g c) h
  have e2 : doO kn (guardO g c) fs = fs := doO_no (.inl (by show g.1 < 4; omega))
  have e3 : (guardO g c).n.toNat = c := rfl
  rw [runO_cons, e1, e2, e3]
  cases holdsG g.1 g.2.1 g.2.2 fs with
  | true => rfl
  | false => rfl
theorem runO_n : ∀ (m : Nat) (ops : List Opn) (fs : List Fld) (n k : Nat), ops.length ≤ m → (runO kn ops fs n).1 = (runO kn ops fs k).1
  | _, [], fs, n, k, _ => by rw [runO_nil, runO_nil]
  | 0, o :: r, fs, n, k, h => by simp at h
  | m + 1, o :: r, fs, n, k, h => by
    have hr : r.length ≤ m := by simp at h; omega
    rw [runO_cons, runO_cons]
    split
    · exact runO_n m _ fs (n + 1) (k + 1) (by rw [List.length_drop]; omega)
    · exact runO_n m r _ (n + 1) (k + 1) hr
theorem runO_0 (ops : List Opn) (fs : List Fld) (n : Nat) : (runO kn ops fs n).1 = (runO kn ops fs 0).1 := runO_n _ ops fs n 0 (Nat.le_refl _)
/-- other names' values stay -/
theorem vals_put {nm x v : ByteArray} (h : foldB nm ≠ foldB x) : ∀ l : List Fld, valsW x (putW nm v l) = valsW x l
  | [] => by
    unfold valsW
    rw [putW, List.filter_cons, decide_eq_false h]; rfl
  | f :: r => by
    have ih := vals_put (v := v) h r
    have hw : valsW x (withoutW nm r) = valsW x r := by
      unfold valsW withoutW
      rw [List.filter_filter]
      congr 1
      refine List.filter_congr fun g _ => ?_
      by_cases h1 : foldB g.1 = foldB x
      · have : ofB nm g = false := decide_eq_false (fun e => h (e.symm.trans h1))
        rw [this, Bool.not_false, Bool.and_true]
      · rw [decide_eq_false h1, Bool.false_and]
    rw [putW]
    split
    · rename_i hf
      have h2 : foldB f.1 = foldB nm := of_decide_eq_true hf
      have e1 : valsW x ((nm, v) :: withoutW nm r) = valsW x (withoutW nm r) := by
        unfold valsW; rw [List.filter_cons, decide_eq_false h]; rfl
      have e2 : valsW x (f :: r) = valsW x r := by
        unfold valsW; rw [List.filter_cons, decide_eq_false (fun e => h (h2.symm.trans e))]; rfl
      rw [e1, e2, hw]
    · unfold valsW at ih ⊢
      rw [List.filter_cons, List.filter_cons]
      split
      · rw [List.map_cons, List.map_cons, ih]
      · exact ih
theorem vals_without {nm x : ByteArray} (h : foldB nm ≠ foldB x) (l : List Fld) : valsW x (withoutW nm l) = valsW x l := by
  unfold valsW withoutW
  rw [List.filter_filter]
  congr 1
  refine List.filter_congr fun g _ => ?_
  by_cases h1 : foldB g.1 = foldB x
  · have : ofB nm g = false := decide_eq_false (fun e => h (e.symm.trans h1))
    rw [this, Bool.not_false, Bool.and_true]
  · rw [decide_eq_false h1, Bool.false_and]
theorem vals_ren {nm un x : ByteArray} (h : foldB nm ≠ foldB x) (h2 : foldB un ≠ foldB x) (l : List Fld) : valsW x (renW nm un l) = valsW x l := by
  unfold renW
  induction l with
  | nil => rfl
  | cons f r ih =>
    unfold valsW at ih ⊢
    rw [List.map_cons, List.filter_cons, List.filter_cons]
    cases hf : ofB nm f with
    | true =>
      have e : renF nm un f = (un, f.2) := if_pos hf
      have h3 : foldB f.1 = foldB nm := of_decide_eq_true hf
      rw [e, decide_eq_false (p := foldB f.1 = foldB x) (fun e => h (h3.symm.trans e)), decide_eq_false (p := foldB (un, f.2).1 = foldB x) h2]
      exact ih
    | false =>
      have e : renF nm un f = f := if_neg (by rw [hf]; decide)
      rw [e]
      split
      · rw [List.map_cons, List.map_cons, ih]
      · exact ih
theorem vals_act {r : Rl} {x : ByteArray} {fs : List Fld} (ht : touchW r x = false) (h : 1 ≤ r.ac ∧ r.ac ≤ 4) : valsW x (actX kn r fs) = valsW x fs := by
  unfold touchW wrR memB at ht
  unfold actX
  by_cases h4 : r.ac = 4
  · rw [if_pos h4] at ht
    simp only [List.any_cons, List.any_nil, Bool.or_false, Bool.or_eq_false_iff, decide_eq_false_iff_not] at ht
    rw [if_neg (by omega), if_neg (by omega), if_neg (by omega)]
    exact vals_ren ht.1 ht.2 fs
  · rw [if_neg h4] at ht
    simp only [List.any_cons, List.any_nil, Bool.or_false, decide_eq_false_iff_not] at ht
    split
    · exact vals_put ht fs
    split
    · unfold valsW
      rw [List.filter_append, List.filter_cons, decide_eq_false ht]
      simp
    split
    · exact vals_without ht fs
    · omega
theorem holds_vals {k : Int} {nm v : ByteArray} {a b : List Fld} (h : valsW nm a = valsW nm b) : holdsG k nm v a = holdsG k nm v b := by unfold holdsG; rw [h]
theorem contW_g (g : Int × ByteArray × ByteArray) : ∀ (last : Rl) (rs : List Rl), ∀ q ∈ rs.take (contW g last rs), q.g = g
  | _, [], q, h => by simp at h
  | last, r :: rs, q, h => by
    unfold contW at h
    split at h
    · rename_i hc
      rw [List.take_succ_cons] at h
      rcases List.mem_cons.1 h with rfl | h
      · exact hc.1
      · exact contW_g g r rs q h
    · simp at h
theorem fold_skip {g : Int × ByteArray × ByteArray} {fs : List Fld} (hg : holdsG g.1 g.2.1 g.2.2 fs = false) : ∀ (l : List Rl), (∀ q ∈ l, q.g = g) → l.foldl (fun fs r => actR kn r fs) fs = fs
  | [], _ => rfl
  | r :: rs, h => by
    have h0 : r.g = g := h r List.mem_cons_self
    have e : actR kn r fs = fs := actR_no (by rw [← h0] at hg; exact hg)
    rw [List.foldl_cons, e]
    exact fold_skip hg rs fun q hq => h q (List.mem_cons_of_mem _ hq)
theorem run_cont (g : Int × ByteArray × ByteArray) (T : List Opn) : ∀ (rs : List Rl) (last : Rl) (fs : List Fld) (n : Nat), (∀ r ∈ rs, 1 ≤ r.ac ∧ r.ac ≤ 4) → (1 ≤ last.ac ∧ last.ac ≤ 4) → holdsG g.1 g.2.1 g.2.2 fs = true →
    (runO kn ((rs.take (contW g last rs)).map ownO ++ T) (actX kn last fs) n).1 = (runO kn T ((rs.take (contW g last rs)).foldl (fun fs r => actR kn r fs) (actX kn last fs)) 0).1
  | [], last, fs, n, _, _, _ => by
    show (runO kn T (actX kn last fs) n).1 = (runO kn T (actX kn last fs) 0).1
    exact runO_0 _ _ _
  | r :: rs, last, fs, n, h1, h2, hg => by
    rw [contW]
    split
    · rename_i hc
      have hr := h1 r List.mem_cons_self
      have hg2 : holdsG g.1 g.2.1 g.2.2 (actX kn last fs) = true := by rw [holds_vals (vals_act hc.2 h2)]; exact hg
      have hy : actR kn r (actX kn last fs) = actX kn r (actX kn last fs) := actR_yes (by rw [← hc.1] at hg2; exact hg2)
      rw [List.take_succ_cons, List.map_cons, List.cons_append, run_own hr, List.foldl_cons, hy]
      exact run_cont g T rs r (actX kn last fs) (n + 1) (fun q hq => h1 q (List.mem_cons_of_mem _ hq)) hr hg2
    · show (runO kn T (actX kn last fs) n).1 = (runO kn T (actX kn last fs) 0).1
      exact runO_0 _ _ _
/-- RULES DO WHAT THEY SAY -/
theorem all_run : ∀ (m : Nat) (l : List Rl) (fs : List Fld) (n : Nat), l.length ≤ m → (∀ r ∈ l, checkR r = 0) → (runO kn (allW l) fs n).1 = l.foldl (fun fs r => actR kn r fs) fs
  | _, [], fs, n, _, _ => by rw [allW_nil, runO_nil]; rfl
  | 0, r :: rs, fs, n, h, _ => by simp at h
  | m + 1, r :: rs, fs, n, h, hc => by
    have hm : rs.length ≤ m := by simp at h; omega
    have h0 := hc r List.mem_cons_self
    have hrs : ∀ q ∈ rs, checkR q = 0 := fun q hq => hc q (List.mem_cons_of_mem _ hq)
    have ha := checkR_ac h0
    have hk := (checkR_gk h0).1
    by_cases hg : r.gk = 0
    · have hy : actR kn r fs = actX kn r fs := actR_yes (by unfold holdsG; rw [if_neg (by omega), if_neg (by omega), if_neg (by omega)])
      rw [allW_plain hg, run_own ha, List.foldl_cons, hy]
      exact all_run m rs _ (n + 1) hm hrs
    · have hg3 : 1 ≤ r.g.1 ∧ r.g.1 ≤ 3 := by show 1 ≤ r.gk ∧ r.gk ≤ 3; omega
      have hcl := contW_le r.g r rs
      rw [allW_run hg, run_guard hg3]
      have hsplit : (r :: rs).foldl (fun fs r => actR kn r fs) fs = (rs.drop (contW r.g r rs)).foldl (fun fs r => actR kn r fs) ((rs.take (contW r.g r rs)).foldl (fun fs r => actR kn r fs) (actR kn r fs)) := by
        rw [List.foldl_cons, ← List.foldl_append, List.take_append_drop]
      rw [hsplit]
      have ih := fun fs n => all_run m (rs.drop (contW r.g r rs)) fs n (by rw [List.length_drop]; omega) (fun q hq => hrs q (List.mem_of_mem_drop hq))
      cases hh : holdsG r.g.1 r.g.2.1 r.g.2.2 fs with
      | true =>
        have hy : actR kn r fs = actX kn r fs := actR_yes hh
        rw [if_pos rfl, run_own ha, run_cont r.g (allW (rs.drop (contW r.g r rs))) rs r fs (n + 1 + 1) (fun q hq => checkR_ac (hrs q hq)) ha hh, ih, hy]
      | false =>
        have hn : actR kn r fs = fs := actR_no hh
        have hd : (ownO r :: ((rs.take (contW r.g r rs)).map ownO ++ allW (rs.drop (contW r.g r rs)))).drop (contW r.g r rs + 1) = allW (rs.drop (contW r.g r rs)) := by
          rw [List.drop_succ_cons]
          have hl : ((rs.take (contW r.g r rs)).map ownO).length = contW r.g r rs := by rw [List.length_map, List.length_take]; omega
          rw [List.drop_append, hl, List.drop_of_length_le (by omega), Nat.sub_self]
          rfl
        rw [if_neg (by decide), hd, ih, hn, fold_skip hh _ (contW_g r.g r rs)]
end
theorem rlL_snoc' (l : List Rl) (r : Rl) : rlL (l ++ [r]) = rlL l ++ [r.cs] := by unfold rlL; rw [List.map_append]; rfl
section
variable {st : St} {R : AV → St → Prop}
attribute [local irreducible] vcApp
theorem few35H_a (l : List Rl) (h : ∀ a r st', Mv 0 (fun _ => False) st st' → HR st' 8 a r (rlL ((l.take 70).map fewR)) → (∀ p, r = some p → st.heap.length ≤ p) → R a st') : ACalls Tryz.prog 6 [.sl .no 8 (rlL l)] st R := by
  have hmx : maxLen = 9223372036854775807 := rfl
  have el := rlL_len l
  refine ACalls.of_vc T_ok mixed Tryz.func6 rfl Tryz.call6 ?_
  refine vc_loop [4, 3] (fun g vals st' => ∃ (k : Nat) (a' : AV) (r : Option Nat), k + g = (l.take 70).length ∧ vals = [.i k, a'] ∧ Mv 0 (fun _ => False) st st' ∧ HR st' 8 a' r (rlL ((l.take k).map fewR)) ∧ (∀ p, r = some p → st.heap.length ≤ p)) (l.take 70).length rfl ⟨0, .nilS, none, by omega, rfl, .refl (Nat.zero_le _), .nil, fun p e => by cases e⟩ ?_
  rintro g vals st' ⟨k, a', r, hk, rfl, m', hR, hf⟩
  have h70 : (l.take 70).length = min 70 l.length := List.length_take
  have ee : ∀ k1 : k < l.length, (l.take (k + 1)).map fewR = (l.take k).map fewR ++ [fewR l[k]] := fun k1 => by rw [List.take_succ_eq_append_getElem k1, List.map_append]; rfl
  have fin : (l.take k).length = (l.take 70).length → (l.take k).map fewR = (l.take 70).map fewR := fun e => by
    congr 1
    rw [List.length_take] at e
    by_cases hc : l.length ≤ 70
    · rw [List.take_of_length_le (by omega), List.take_of_length_le (by omega)]
    · rw [show k = 70 by omega]
  have hlk : (l.take k).length = min k l.length := List.length_take
  have done : ¬ (k < l.length ∧ k < 70) → R a' st' := fun hn => h a' r st' m' (by rw [← fin (by omega)]; exact hR) hf
  rcases hR.form with ⟨rfl, rfl⟩ | ⟨rfl, rfl⟩ | ⟨p0, c0, n0, rfl, rfl⟩
  · refine cnd_split (fun hd => ?_) (fun hd => ?_)
    · have hd := of_decide_eq_true hd
      have k1 : k < l.length := by omega
      refine cnd_split (fun h7 => ?_) (fun h7 => ?_)
      · have h7 : (k : Int) < 70 := of_decide_eq_true h7
        refine ⟨k, _, rfl, rlL_at k1, ?_⟩
        refine .p rfl (few32_p l[k]) ?_
        refine HR.app (n := 0) (i := ti37) hR rfl rfl ?_ ?_ ?_ ?_ (Nat.zero_le _) (fun p cap st2 q0 q1 q2 q3 => ?_)
        · exact List.cons_ne_nil _ _
        · intro e he
          rw [List.mem_singleton.1 he]
          exact ⟨rfl, rfl⟩
        · show ((rlL _).length + 1) * 112 ≤ _; rw [rlL_len, List.length_map]; omega
        · show (rlL _).length + 1 ≤ _; rw [rlL_len, List.length_map]; omega
        intro c hc
        rw [IntWalk.i64_in _ (by omega)] at hc
        obtain rfl : c = ((k + 1 : Nat) : Int) := by omega
        have hR2 := HR.hs (st := st2) p cap _ q0
        rw [List.length_append] at hR2
        refine ⟨g - 1, by omega, k + 1, _, some p, by omega, rfl, ?_, ?_, ?_⟩
        · exact m'.trans q1 (fun q hq e => by have := hf q e.symm; omega)
        · rw [ee k1, rlL_snoc']
          exact hR2
        · intro q e
          have e := Option.some.inj e
          subst e
          have := m'.len
          exact q2.elim (fun e => hf _ e.symm) (fun h => by omega)
      · have h7 : ¬ (k : Int) < 70 := of_decide_eq_false h7
        exact done (fun h => by omega)
    · have hd := of_decide_eq_false hd
      exact done (fun h => by omega)
  · refine cnd_split (fun hd => ?_) (fun hd => ?_)
    · have hd := of_decide_eq_true hd
      have k1 : k < l.length := by omega
      refine cnd_split (fun h7 => ?_) (fun h7 => ?_)
      · have h7 : (k : Int) < 70 := of_decide_eq_true h7
        refine ⟨k, _, rfl, rlL_at k1, ?_⟩
        refine .p rfl (few32_p l[k]) ?_
        refine HR.app (n := 0) (i := ti37) hR rfl rfl ?_ ?_ ?_ ?_ (Nat.zero_le _) (fun p cap st2 q0 q1 q2 q3 => ?_)
        · exact List.cons_ne_nil _ _
        · intro e he
          rw [List.mem_singleton.1 he]
          exact ⟨rfl, rfl⟩
        · show ((rlL _).length + 1) * 112 ≤ _; rw [rlL_len, List.length_map]; omega
        · show (rlL _).length + 1 ≤ _; rw [rlL_len, List.length_map]; omega
        intro c hc
        rw [IntWalk.i64_in _ (by omega)] at hc
        obtain rfl : c = ((k + 1 : Nat) : Int) := by omega
        have hR2 := HR.hs (st := st2) p cap _ q0
        rw [List.length_append] at hR2
        refine ⟨g - 1, by omega, k + 1, _, some p, by omega, rfl, ?_, ?_, ?_⟩
        · exact m'.trans q1 (fun q hq e => by have := hf q e.symm; omega)
        · rw [ee k1, rlL_snoc']
          exact hR2
        · intro q e
          have e := Option.some.inj e
          subst e
          have := m'.len
          exact q2.elim (fun e => hf _ e.symm) (fun h => by omega)
      · have h7 : ¬ (k : Int) < 70 := of_decide_eq_false h7
        exact done (fun h => by omega)
    · have hd := of_decide_eq_false hd
      exact done (fun h => by omega)
  · refine cnd_split (fun hd => ?_) (fun hd => ?_)
    · have hd := of_decide_eq_true hd
      have k1 : k < l.length := by omega
      refine cnd_split (fun h7 => ?_) (fun h7 => ?_)
      · have h7 : (k : Int) < 70 := of_decide_eq_true h7
        refine ⟨k, _, rfl, rlL_at k1, ?_⟩
        refine .p rfl (few32_p l[k]) ?_
        refine HR.app (n := 0) (i := ti37) hR rfl rfl ?_ ?_ ?_ ?_ (Nat.zero_le _) (fun p cap st2 q0 q1 q2 q3 => ?_)
        · exact List.cons_ne_nil _ _
        · intro e he
          rw [List.mem_singleton.1 he]
          exact ⟨rfl, rfl⟩
        · show ((rlL _).length + 1) * 112 ≤ _; rw [rlL_len, List.length_map]; omega
        · show (rlL _).length + 1 ≤ _; rw [rlL_len, List.length_map]; omega
        intro c hc
        rw [IntWalk.i64_in _ (by omega)] at hc
        obtain rfl : c = ((k + 1 : Nat) : Int) := by omega
        have hR2 := HR.hs (st := st2) p cap _ q0
        rw [List.length_append] at hR2
        refine ⟨g - 1, by omega, k + 1, _, some p, by omega, rfl, ?_, ?_, ?_⟩
        · exact m'.trans q1 (fun q hq e => by have := hf q e.symm; omega)
        · rw [ee k1, rlL_snoc']
          exact hR2
        · intro q e
          have e := Option.some.inj e
          subst e
          have := m'.len
          exact q2.elim (fun e => hf _ e.symm) (fun h => by omega)
      · have h7 : ¬ (k : Int) < 70 := of_decide_eq_false h7
        exact done (fun h => by omega)
    · have hd := of_decide_eq_false hd
      exact done (fun h => by omega)
end
/-- the fields behind rules, one by one -/
def docW (kn fs : List Fld) (sd : Int) (l : List Rl) : List Fld × Int :=
  if sd ≠ 1 ∧ sd ≠ 2 then ([], 1) else if (checkL l).2 ≠ 0 then ([], (checkL l).2) else ((sideL sd l).foldl (fun fs r => actR kn r fs) fs, 0)
theorem rules_doc (kn fs : List Fld) (sd : Int) (l : List Rl) : rulesW kn fs sd l = docW kn fs sd l := by
  unfold rulesW docW compW
  by_cases h1 : sd ≠ 1 ∧ sd ≠ 2
  · rw [if_pos h1, if_pos h1, if_pos (show (1 : Int) ≠ 0 by decide)]
  · rw [if_neg h1, if_neg h1]
    by_cases h2 : (checkL l).2 ≠ 0
    · rw [if_pos h2, if_pos h2, if_pos h2]
    · rw [if_neg h2, if_neg h2, if_neg (fun h => h rfl)]
      have h3 : (chkL l 0).2 = 0 := by
        unfold checkL at h2
        by_cases h4 : (chkL l 0).2 ≠ 0
        · rw [if_pos h4] at h2; exact absurd h4 h2
        · exact Decidable.not_not.1 h4
      have hall := (chkL_all l 0).1 h3
      have := all_run (kn := kn) _ (sideL sd l) fs 0 (Nat.le_refl _) (fun r hr => hall r (List.mem_filter.1 hr).1)
      exact Prod.ext this rfl
theorem actR_sz {kn fs : List Fld} {r : Rl} (hr : r.Ok) (hp : ∀ p ∈ r.ps, p.2.size ≤ 1000000) (hc : checkR r = 0) (h : Sz 65536 fs) : Sz 65536 (actR kn r fs) ∧ (actR kn r fs).length ≤ fs.length + 1 := by
  cases hh : holdsG r.gk r.ga r.gb fs with
  | true =>
    rw [actR_yes hh, ← own_do (checkR_ac hc)]
    exact doO_sz (ownO_ok hr hp) h
  | false =>
    rw [actR_no hh]
    exact ⟨h, by omega⟩
def cutP (r : Rl) : Rl := { r with ps := r.ps.take 4 }
theorem cutP_ok {r : Rl} (h : r.Ok) : (cutP r).Ok := ⟨h.ga, h.gb, h.nm, h.un, Nat.le_trans (List.length_take_le _ _) (by omega), Nat.le_trans (sumT_take _ _) h.pz⟩
theorem fold_len (kn : List Fld) : ∀ (l : List Rl) (fs : List Fld), (∀ r ∈ l, r.Ok ∧ ∀ p ∈ r.ps, p.2.size ≤ 1000000) → (∀ r ∈ l, checkR r = 0) → Sz 65536 fs → (l.foldl (fun fs r => actR kn r fs) fs).length ≤ fs.length + l.length
  | [], fs, _, _, _ => Nat.le_refl _
  | r :: rs, fs, h1, h2, hz => by
    obtain ⟨o1, o2⟩ := h1 r List.mem_cons_self
    obtain ⟨z1, z2⟩ := actR_sz (kn := kn) o1 o2 (h2 r List.mem_cons_self) hz
    have := fold_len kn rs (actR kn r fs) (fun q hq => h1 q (List.mem_cons_of_mem _ hq)) (fun q hq => h2 q (List.mem_cons_of_mem _ hq)) z1
    rw [List.foldl_cons, List.length_cons]
    omega
theorem doc_len (kn fs : List Fld) (sd : Int) (l : List Rl) (h1 : ∀ r ∈ l, r.Ok ∧ ∀ p ∈ r.ps, p.2.size ≤ 1000000) (hz : Sz 65536 fs) : (docW kn fs sd l).1.length ≤ fs.length + l.length := by
  unfold docW
  split
  · exact Nat.zero_le _
  split
  · exact Nat.zero_le _
  · rename_i _ h2
    have hall := chkL_all l 0
    have h3 : (chkL l 0).2 = 0 := by
      unfold checkL at h2
      by_cases h4 : (chkL l 0).2 ≠ 0
      · rw [if_pos h4] at h2; exact absurd h4 h2
      · exact Decidable.not_not.1 h4
    have hall := hall.1 h3
    have := fold_len kn (sideL sd l) fs (fun r hr => h1 r (List.mem_filter.1 hr).1) (fun r hr => hall r (List.mem_filter.1 hr).1) hz
    have hs : (sideL sd l).length ≤ l.length := List.length_filter_le _ _
    show ((sideL sd l).foldl (fun fs r => actR kn r fs) fs).length ≤ _
    omega
def cutM (L : List Rl) (k : Nat) : List Rl := (L.take k).map cutP ++ L.drop k
theorem cutM_len (L : List Rl) (k : Nat) : (cutM L k).length = L.length := by
  unfold cutM
  rw [List.length_append, List.length_map, List.length_take, List.length_drop]
  omega
theorem cutM_at {L : List Rl} {k : Nat} (h : k < L.length) : (cutM L k)[k]? = some L[k] := by
  have hl : ((L.take k).map cutP).length = k := by rw [List.length_map, List.length_take]; omega
  unfold cutM
  rw [List.getElem?_append_right (by omega), hl, Nat.sub_self, List.getElem?_drop, Nat.add_zero, List.getElem?_eq_getElem h]
theorem cutM_set {L : List Rl} {k : Nat} (h : k < L.length) : (cutM L k).set k (cutP L[k]) = cutM L (k + 1) := by
  have hl : ((L.take k).map cutP).length = k := by rw [List.length_map, List.length_take]; omega
  unfold cutM
  rw [List.drop_eq_getElem_cons h, List.set_append, if_neg (by omega), hl, Nat.sub_self, List.set_cons_zero, List.take_succ_eq_append_getElem h, List.map_append, List.append_assoc]
  rfl
theorem cutM_0 (L : List Rl) : cutM L 0 = L := by unfold cutM; simp
theorem cutM_all (L : List Rl) : cutM L L.length = L.map cutP := by unfold cutM; simp
theorem HR.inv {st : St} {sz : Nat} {a : AV} {r : Option Nat} {es : List (List AV)} (h : HR st sz a r es) : (a = .nilS ∧ es = []) ∨ (a = .sl .tight sz [] ∧ es = []) ∨ ∃ p cap, a = .hs p 0 es.length cap sz ∧ r = some p ∧ RwS st p cap sz es := by
  cases h with
  | nil => exact .inl ⟨rfl, rfl⟩
  | tight => exact .inr (.inl ⟨rfl, rfl⟩)
  | hs p cap es h => exact .inr (.inr ⟨p, cap, rfl, rfl, h⟩)
section
attribute [local irreducible] vcApp
end
end Go.Proofs.YtgkhnllgmfjhpaaGreatDoor
