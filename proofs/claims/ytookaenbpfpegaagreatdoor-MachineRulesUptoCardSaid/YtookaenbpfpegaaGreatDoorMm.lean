/- The machine: instructions done on fields; the program's. No statement of its own. -/
import Derived.Test.YtookaenbpfpegaaGreatDoorBgm
import Derived.Test.YtookaenbpfpegaaGreatDoorEvm
import Derived.Test.YtookaenbpfpegaaGreatDoorPc
import Derived.Test.YtookaenbpfpegaaGreatDoorTmF
import Derived.Test.YtookaenbpfpegaaGreatDoorCp
set_option linter.unusedSimpArgs false
set_option linter.unusedVariables false
set_option maxRecDepth 100000
namespace Go.Proofs.YtookaenbpfpegaaGreatDoor
open Go.RowKit
/-- is an instruction a guard's that passes others over? -/
def skipsO (o : Opn) (fs : List Fld) : Bool :=
  if o.k = 1 then !(headV (valsW o.nm fs)).2 else if o.k = 2 then (headV (valsW o.nm fs)).2 else if o.k = 3 then (!(headV (valsW o.nm fs)).2 || decide ((headV (valsW o.nm fs)).1 ≠ o.tx)) else false
/-- what one that is no guard's does -/
def doO (kn : List Fld) (o : Opn) (fs : List Fld) : List Fld :=
  if o.k = 4 then withoutW o.nm fs else if o.k = 5 then fs ++ [(o.nm, clnB (evT kn fs o.ps))] else if o.k = 6 then putW o.nm (clnB (evT kn fs o.ps)) fs else if o.k = 7 then renW o.nm o.tx fs else fs
def runO (kn : List Fld) : List Opn → List Fld → Nat → List Fld × Nat
  | [], fs, n => (fs, n)
  | o :: r, fs, n => if skipsO o fs = true then runO kn (r.drop o.n.toNat) fs (n + 1) else runO kn r (doO kn o fs) (n + 1)
termination_by l => l.length
decreasing_by all_goals simp; try omega
theorem runO_nil (kn fs : List Fld) (n : Nat) : runO kn [] fs n = (fs, n) := by rw [runO]
theorem runO_cons (kn fs : List Fld) (n : Nat) (o : Opn) (r : List Opn) : runO kn (o :: r) fs n = if skipsO o fs = true then runO kn (r.drop o.n.toNat) fs (n + 1) else runO kn r (doO kn o fs) (n + 1) := by rw [runO]
theorem clnB_size' (s : ByteArray) : (clnB s).size ≤ 65536 := by
  have h := trimB_size ⟨(clG s s.size).toArray⟩
  have h2 := clG_len s s.size
  have h3 : (⟨(clG s s.size).toArray⟩ : ByteArray).size = (clG s s.size).length := by show (clG s s.size).toArray.size = _; rw [List.size_toArray]
  unfold clnB
  omega
structure OpOk (o : Opn) : Prop where
  nm : o.nm.size ≤ 1000
  tx : o.tx.size ≤ 1000
  pl : o.ps.length ≤ 1000
  pz : ∀ p ∈ o.ps, p.2.size ≤ 1000000
theorem doO_sz {kn : List Fld} {o : Opn} {fs : List Fld} (ho : OpOk o) (h : Sz 65536 fs) : Sz 65536 (doO kn o fs) ∧ (doO kn o fs).length ≤ fs.length + 1 := by
  have hc := clnB_size' (evT kn fs o.ps)
  have h1 := ho.nm
  have h2 := ho.tx
  unfold doO
  split
  · have := withoutW_len o.nm fs
    exact ⟨fun f hf => h f (List.mem_filter.1 hf).1, by omega⟩
  split
  · refine ⟨fun f hf => ?_, by simp⟩
    rcases List.mem_append.1 hf with hf | hf
    · exact h f hf
    · rw [List.mem_singleton.1 hf]; exact ⟨by show o.nm.size ≤ _; omega, hc⟩
  split
  · refine ⟨fun f hf => ?_, putW_len fs⟩
    rcases putW_mem hf with hf | hf
    · exact h f hf
    · rw [hf]; exact ⟨by show o.nm.size ≤ _; omega, hc⟩
  split
  · refine ⟨fun f hf => ?_, by unfold renW; rw [List.length_map]; omega⟩
    obtain ⟨g, hg, rfl⟩ := List.mem_map.1 hf
    have := h g hg
    unfold renF
    split
    · exact ⟨by show o.tx.size ≤ _; omega, this.2⟩
    · exact this
  · exact ⟨h, by omega⟩
/-- what is known, of whatever make -/
def KvF (kv : AV) (kn : List Fld) : Prop := kv = .sl .no 2 (fldL kn) ∨ (kv = .nilS ∧ kn = [])
theorem Mv.preM {n : Nat} {st st' : St} (m : Mv n (fun _ => False) st st') : Pre st st' := by
  refine ⟨st'.heap.drop st.heap.length, List.ext_getElem? fun q => ?_⟩
  have := m.len
  by_cases h : q < st.heap.length
  · rw [List.getElem?_append_left h]
    exact m.keep q h (fun e => e)
  · rw [List.getElem?_append_right (by omega), List.getElem?_drop]
    congr 1; omega
structure MS (st : St) (M b : Nat) (r : Option Nat) (kv : AV) (n : Nat) (fs : List Fld) : Prop where
  h : st.heap[M]? = some [.ptr b 0, kv, .i n]
  hb : HB st b r fs
  ne : M ≠ b
  nr : r ≠ some M
theorem MS.mv {st st' : St} {M b : Nat} {r : Option Nat} {kv : AV} {n : Nat} {fs : List Fld} (h : MS st M b r kv n fs) (m : Mv 0 (fun _ => False) st st') : MS st' M b r kv n fs :=
  ⟨m.at' h.h (fun e => e), h.hb.mv m (fun e => e) (fun _ _ e => e), h.ne, h.nr⟩
theorem MS.bg {st st' : St} {M b : Nat} {r r' : Option Nat} {kv : AV} {n : Nat} {fs fs' : List Fld} (h : MS st M b r kv n fs) (hb : HB st' b r' fs') (hs : BgS st b r st' r') : MS st' M b r' kv n fs' := by
  have hl := lt_of h.h
  refine ⟨hs.mv.at' h.h (fun e => e.elim h.ne (fun e => h.nr e.symm)), hb, h.ne, ?_⟩
  rcases hs.nw with e | ⟨p, e, hp⟩
  · rw [e]; exact h.nr
  · rw [e]; intro e2; have := Option.some.inj e2; omega
/-- fields, and what is known, that a template may read -/
structure EvOk (kn fs : List Fld) (ps : List Prt) : Prop where
  kl : kn.length ≤ 1000000
  fl : fs.length ≤ 1000000
  fz : Sz 65536 fs
  pl : ps.length ≤ 1000
  pz : ∀ p ∈ ps, p.2.size ≤ 1000000
  ev : (evT kn fs ps).size ≤ 1099511627776
section
variable {st : St} {R : AV → St → Prop} {M b n : Nat} {r : Option Nat} {kv : AV} {kn fs : List Fld}
theorem Sz.big (h : Sz 65536 fs) : ∀ f ∈ fs, f.1.size ≤ 1099511627776 ∧ f.2.size ≤ 1099511627776 := fun f hf => by have := h f hf; omega
theorem Sz.big1 (h : Sz 65536 fs) : ∀ f ∈ fs, f.1.size ≤ 1099511627776 := fun f hf => by have := (h f hf).1; omega
theorem value_a {ps : List Prt} (hk : KvF kv kn) (hM : MS st M b r kv n fs) (he : EvOk kn fs ps) (h : ∀ st', Mv 0 (fun _ => False) st st' → R (.s (clnB (evT kn fs ps))) st') : ACalls Tryz.prog 123 [.ptr M 0, .sl .no 2 (prtL ps)] st R := by
  have q := eval_p kn fs ps he.kl (by have := he.fl; omega) he.fz.big he.pl he.pz he.ev
  rcases hk with rfl | ⟨rfl, rfl⟩
  · refine ACalls.of_vc T_ok mixed Tryz.func123 rfl Tryz.call123 ?_
    refine .n (.one 0 (.one 1 (.one 2 (.one 3 (.one 4 (.one 5 (.one 6 (.one 7 (.one 9 (.one 8 (.one 10 (.one 11 .done)))))))))))) (by kernel_rfl) ?_
    refine ⟨_, hM.h, ?_⟩
    refine ⟨_, hM.h, ?_⟩
    refine .s (listV_a fs (by have := he.fl; omega) hM.hb (fun st' m => ⟨m.preM, ?_⟩))
    refine .p rfl q ?_
    exact h _ m
  · refine ACalls.of_vc T_ok mixed Tryz.func123 rfl Tryz.call123 ?_
    refine .n (.one 0 (.one 1 (.one 2 (.one 3 (.one 4 (.one 5 (.one 6 (.one 7 (.one 9 (.one 8 (.one 10 (.one 11 .done)))))))))))) (by kernel_rfl) ?_
    refine ⟨_, hM.h, ?_⟩
    refine ⟨_, hM.h, ?_⟩
    refine .s (listV_a fs (by have := he.fl; omega) hM.hb (fun st' m => ⟨m.preM, ?_⟩))
    refine .w (args' := [.sl .no 2 [], .sl .no 2 (fldL fs), .sl .no 2 (prtL ps)]) rfl ⟨.inr ⟨rfl, 2, rfl⟩, .inl (.inl ⟨rfl, rfl⟩), .inl (.inl ⟨rfl, rfl⟩), trivial⟩ q ?_
    exact h _ m
theorem headV_of {V : List ByteArray} {x : ByteArray} {ok : Bool} (h : (ok = false ∧ x = ⟨#[]⟩ ∧ V = []) ∨ (ok = true ∧ ∃ q, V = x :: q)) : headV V = (x, ok) := by
  rcases h with ⟨rfl, rfl, rfl⟩ | ⟨rfl, q, rfl⟩
  · rfl
  · rfl
theorem skips_a (o : Opn) (ho : OpOk o) (hk : KvF kv kn) (hM : MS st M b r kv n fs) (hl : fs.length ≤ 1000000) (hz : Sz 65536 fs) (h : ∀ st', Mv 0 (fun _ => False) st st' → R (.b (skipsO o fs)) st') : ACalls Tryz.prog 86 [.ptr M 0, .agg [.i o.k, .s o.nm, .s o.tx, .sl .no 2 (prtL o.ps), .i o.n]] st R := by
  have hMx := fun (x : List AV) => ap (x := x) hM.h
  have m0 := fun (x : List AV) => (Mv.refl (n := 0) (C := fun _ => False) (st := st) (Nat.zero_le _)).alloc x
  rcases hk with rfl | ⟨rfl, rfl⟩
  all_goals
    refine ACalls.of_vc T_ok mixed Tryz.func86 rfl Tryz.call86 ?_
    refine .n (.one 0 (.one 1 (.one 2 (.one 3 (.one 4 (.one 5 (.one 6 (.one 7 (.one 8 (.one 9 (.one 10 (.one 11 .done)))))))))))) (by kernel_rfl) ?_
    refine ⟨_, hMx _, ?_⟩
    refine ⟨_, last_at _ _, ?_⟩
    refine .s (getX_a fs o.nm hl hz.big1 (by have := ho.nm; omega) (hM.hb.mv (m0 _) (fun e => e) (fun _ _ e => e)) (fun st' x ok m hx => ⟨m.preM, ?_⟩))
    have hh := headV_of hx
    have h := h st' ((m0 _).trans m (fun _ _ e => e))
    have hc := m.at' (last_at st.heap [.i o.k, .s o.nm, .s o.tx, .sl .no 2 (prtL o.ps), .i o.n]) (fun e => e)
    unfold skipsO at h
    rw [hh] at h
    clear hx hh
    refine ⟨_, hc, ?_⟩
    refine cnd_split (fun h1 => ?_) (fun h1 => ?_)
    · rw [if_pos (beq_iff_eq.1 h1)] at h
      exact h
    rw [if_neg (beq_eq_false_iff_ne.1 h1)] at h
    refine cnd_split (fun h2 => ?_) (fun h2 => ?_)
    · rw [if_pos (beq_iff_eq.1 h2)] at h
      exact h
    rw [if_neg (beq_eq_false_iff_ne.1 h2)] at h
    refine cnd_split (fun h3 => ?_) (fun h3 => ?_)
    · rw [if_pos (beq_iff_eq.1 h3)] at h
      cases ok with
      | false => exact h
      | true =>
        refine ⟨_, hc, ?_⟩
        intro t ht
        have ht : t = false ↔ x = o.tx := ht
        have e : decide (x ≠ o.tx) = t := by
          rw [Bool.eq_iff_iff, decide_eq_true_eq]
          cases t with
          | false => exact ⟨fun h => absurd (ht.1 rfl) h, fun h => (by cases h)⟩
          | true => exact ⟨fun _ => rfl, fun _ e => (by have := ht.2 e; cases this)⟩
        have h : R (.b (false || decide (x ≠ o.tx))) st' := h
        rw [Bool.false_or, e] at h
        exact h
    rw [if_neg (beq_eq_false_iff_ne.1 h3)] at h
    exact h
end
section
variable {st : St} {R : AV → St → Prop} {M b n : Nat} {r : Option Nat} {kv : AV} {kn fs : List Fld}
theorem BgS.of {st st1 st' : St} {b : Nat} {r r' : Option Nat} (m : Mv 0 (fun _ => False) st st1) (h : BgS st1 b r st' r') : BgS st b r st' r' :=
  (⟨m.wide (fun _ _ h => h.elim), .inl rfl⟩ : BgS st b r st1 r).trans h
set_option maxHeartbeats 1000000 in
theorem do_m (o : Opn) (ho : OpOk o) (hk : KvF kv kn) (hM : MS st M b r kv n fs) (he : EvOk kn fs o.ps) (hl : fs.length ≤ 100000) (h : ∀ r' st', MS st' M b r' kv n (doO kn o fs) → R (.tup []) st') : ACalls Tryz.prog 87 [.ptr M 0, .agg [.i o.k, .s o.nm, .s o.tx, .sl .no 2 (prtL o.ps), .i o.n]] st R := by
  have hn := ho.nm
  have ht := ho.tx
  have hz := he.fz
  have m0 : Mv 0 (fun _ => False) st ⟨st.heap ++ [[.i o.k, .s o.nm, .s o.tx, .sl .no 2 (prtL o.ps), .i o.n]], st.tk⟩ := (Mv.refl (Nat.zero_le _)).alloc _
  have hM0 := hM.mv m0
  have hc0 : (st.heap ++ [[AV.i o.k, .s o.nm, .s o.tx, .sl .no 2 (prtL o.ps), .i o.n]])[st.heap.length]? = some [AV.i o.k, .s o.nm, .s o.tx, .sl .no 2 (prtL o.ps), .i o.n] := last_at _ _
  have hk0 := hk
  rcases hk with rfl | ⟨rfl, hkn⟩
  all_goals
    refine ACalls.of_vc T_ok mixed Tryz.func87 rfl Tryz.call87 ?_
    refine ⟨_, hc0, ?_⟩
    unfold doO at h
    refine cnd_split (fun h1 => ?_) (fun h1 => ?_)
    · simp only [if_pos (beq_iff_eq.1 h1)] at h
      refine .n (.one 0 (.one 1 (.one 2 (.one 3 (.one 4 (.one 5 (.one 6 (.only 7 .done)))))))) (by kernel_rfl) ?_
      refine ⟨_, hM0.h, ?_⟩
      refine ⟨_, hc0, ?_⟩
      refine .s (removeX_a [o.nm] (.one (by omega)) fs (by omega) hz.big1 hM0.hb (fun st' hb hs => ?_))
      rw [keptW_one] at hb
      exact h _ _ (hM0.bg hb hs)
    simp only [if_neg (beq_eq_false_iff_ne.1 h1)] at h
    refine cnd_split (fun h2 => ?_) (fun h2 => ?_)
    · simp only [if_pos (beq_iff_eq.1 h2)] at h
      refine .n (.one 0 (.one 1 (.one 2 (.one 3 (.one 4 (.one 5 (.one 6 (.one 7 (.one 8 (.one 9 (.one 10 (.one 11 (.only 12 .done))))))))))))) (by kernel_rfl) ?_
      refine ⟨_, hM0.h, ?_⟩
      refine ⟨_, hc0, ?_⟩
      refine ⟨_, hc0, ?_⟩
      refine .s (value_a hk0 hM0 he (fun st1 m1 => ⟨m1.preM, ?_⟩))
      have hM1 := hM0.mv m1
      refine .s (addX_a fs [(o.nm, clnB (evT kn fs o.ps))] (by simp; omega) (List.cons_ne_nil _ _) hM1.hb (fun r' st' hb hs => ?_))
      exact h _ _ (hM1.bg hb hs)
    simp only [if_neg (beq_eq_false_iff_ne.1 h2)] at h
    refine cnd_split (fun h3 => ?_) (fun h3 => ?_)
    · simp only [if_pos (beq_iff_eq.1 h3)] at h
      refine .n (.one 0 (.one 1 (.one 2 (.one 3 (.one 4 (.one 5 (.one 6 (.one 7 (.one 8 (.one 9 (.only 10 .done))))))))))) (by kernel_rfl) ?_
      refine ⟨_, hM0.h, ?_⟩
      refine ⟨_, hc0, ?_⟩
      refine ⟨_, hc0, ?_⟩
      refine .s (value_a hk0 hM0 he (fun st1 m1 => ⟨m1.preM, ?_⟩))
      have hM1 := hM0.mv m1
      refine .s (putX_a o.nm (clnB (evT kn fs o.ps)) (by omega) fs (by omega) hz.big1 hM1.hb (fun r' st' hb hs => ?_))
      exact h _ _ (hM1.bg hb hs)
    simp only [if_neg (beq_eq_false_iff_ne.1 h3)] at h
    refine cnd_split (fun h4 => ?_) (fun h4 => ?_)
    · simp only [if_pos (beq_iff_eq.1 h4)] at h
      refine .n (.one 0 (.one 1 (.one 2 (.one 3 (.one 4 (.one 5 (.one 6 (.one 7 (.only 8 .done))))))))) (by kernel_rfl) ?_
      refine ⟨_, hM0.h, ?_⟩
      refine ⟨_, hc0, ?_⟩
      refine ⟨_, hc0, ?_⟩
      refine .s (renameX_a o.nm o.tx (by omega) fs (by omega) hz.big1 hM0.hb (fun st' hb hs => ?_))
      exact h _ _ (hM0.bg hb hs)
    simp only [if_neg (beq_eq_false_iff_ne.1 h4)] at h
    exact h _ _ hM0
theorem MS.step (hM : MS st M b r kv n fs) (m : Nat) : MS ⟨st.heap.set M [.ptr b 0, kv, .i m], st.tk⟩ M b r kv m fs :=
  ⟨st_eq hM.h, hM.hb.mv ((Mv.refl (C := fun q => q = M) (Nat.zero_le _)).set (fun _ => rfl) _) (fun e => hM.ne e.symm) (fun q hq e => hM.nr (by rw [hq, e])), hM.ne, hM.nr⟩
/-- what every step may count on -/
structure RunOk (kn : List Fld) (ops : List Opn) : Prop where
  kl : kn.length ≤ 1000000
  kz : ∀ f ∈ kn, f.2.size ≤ 2000000
  ol : ops.length ≤ 10000
  ok : ∀ o ∈ ops, OpOk o
theorem RunOk.ev {ops : List Opn} (h : RunOk kn ops) {o : Opn} (ho : o ∈ ops) (hl : fs.length ≤ 100000) (hz : Sz 65536 fs) : EvOk kn fs o.ps := by
  have h1 := h.ok o ho
  refine ⟨h.kl, by omega, hz, h1.pl, h1.pz, ?_⟩
  have := evT_size (kn := kn) (fs := fs) (B := 2000000) o.ps (fun p hp => by have := h1.pz p hp; omega) h.kz (fun f hf => by have := (hz f hf).2; omega) o.ps.length (Nat.le_refl _)
  rw [List.take_of_length_le (Nat.le_refl _)] at this
  have h2 : o.ps.length * 2000000 ≤ 1000 * 2000000 := Nat.mul_le_mul_right _ h1.pl
  omega
set_option maxHeartbeats 1000000 in
theorem run_a (ops : List Opn) (hr : RunOk kn ops) (hk : KvF kv kn) (hM : MS st M b r kv 0 fs) (hl : fs.length ≤ 1000) (hz : Sz 65536 fs) (h : ∀ r' st', MS st' M b r' kv (runO kn ops fs 0).2 (runO kn ops fs 0).1 → (runO kn ops fs 0).1.length ≤ 30000 → Sz 65536 (runO kn ops fs 0).1 → R (.tup []) st') : ACalls Tryz.prog 49 [.ptr M 0, .sl .no 5 (opL ops)] st R := by
  have hmx : maxLen = 9223372036854775807 := rfl
  have eo := opL_len ops
  have hol := hr.ol
  obtain ⟨Z, hZ⟩ : ∃ Z, runO kn ops fs 0 = Z := ⟨_, rfl⟩
  rw [hZ] at h
  have hk0 := hk
  rcases hk with rfl | ⟨rfl, hkn⟩
  all_goals
    refine ACalls.of_vc T_ok mixed Tryz.func49 rfl Tryz.call49 ?_
    refine vc_loop [4] (fun g vals st' => ∃ (i n : Nat) (fs : List Fld) (r : Option Nat), g = ops.length - i ∧ vals = [.i i] ∧ i ≤ 2 * ops.length + 1 ∧ n ≤ i ∧ fs.length ≤ 1000 + i ∧ Sz 65536 fs ∧ MS st' M b r _ n fs ∧ runO kn (ops.drop i) fs n = Z) ops.length rfl ⟨0, 0, fs, r, by omega, rfl, by omega, by omega, by omega, hz, hM, by rw [List.drop_zero]; exact hZ⟩ ?_
    clear hM hZ
    rintro g vals st1 ⟨i, n, fs, r, hg, rfl, hi, hn, hfl, hz, hM, hZ⟩
    refine cnd_split (fun hd => ?_) (fun hd => ?_)
    · have hd := of_decide_eq_true hd
      have i1 : i < ops.length := by omega
      rw [List.drop_eq_getElem_cons i1, runO_cons] at hZ
      have hmem := List.getElem_mem i1
      have ho := hr.ok _ hmem
      have hev := hr.ev (fs := fs) hmem (by omega) hz
      refine ⟨_, hM.h, ?_⟩
      intro c hc
      rw [IntWalk.i64_in _ (by omega)] at hc
      obtain rfl : c = ((n + 1 : Nat) : Int) := by omega
      refine ⟨_, hM.h, ?_⟩
      have hM1 := hM.step (n + 1)
      refine ⟨i, _, rfl, opL_at i1, ?_⟩
      refine .s (skips_a ops[i] ho hk0 hM1 (by omega) hz (fun st2 m2 => ?_))
      have hM2 := hM1.mv m2
      refine cnd_split (fun hs => ?_) (fun hs => ?_)
      · rw [if_pos hs, List.drop_drop] at hZ
        refine ⟨i, _, rfl, opL_at i1, ?_⟩
        obtain ⟨w, hw⟩ : ∃ w, w = min ops[i].n.toNat (opL ops).length := ⟨_, rfl⟩
        have hw9 : (if ((opL ops).length : Int) < (if (0 : Int) > ops[i].n then 0 else ops[i].n) then ((opL ops).length : Int) else (if (0 : Int) > ops[i].n then 0 else ops[i].n)) = (w : Int) := by
          split <;> split <;> omega
        intro c hc
        have hc := hc.trans (congrArg (fun z : Int => IntKind.i64.wrap ((i : Int) + z)) hw9)
        rw [IntWalk.i64_in _ (by omega)] at hc
        obtain rfl : c = ((i + w : Nat) : Int) := by omega
        intro c hc
        rw [IntWalk.i64_in _ (by omega)] at hc
        obtain rfl : c = ((i + w + 1 : Nat) : Int) := by omega
        refine ⟨ops.length - (i + w + 1), by omega, i + w + 1, n + 1, fs, r, rfl, rfl, by omega, by omega, by omega, hz, hM2, ?_⟩
        rw [← hZ]
        congr 1
        by_cases h9 : ops[i].n.toNat ≤ (opL ops).length
        · rw [show w = ops[i].n.toNat by omega, Nat.add_right_comm]
        · rw [List.drop_of_length_le (by omega), List.drop_of_length_le (by omega)]
      · rw [if_neg (by rw [hs]; decide)] at hZ
        refine ⟨i, _, rfl, opL_at i1, ?_⟩
        refine .s (do_m ops[i] ho hk0 hM2 hev (by omega) (fun r3 st3 hM3 => ?_))
        have hsz := doO_sz (kn := kn) ho hz
        intro c hc
        rw [IntWalk.i64_in _ (by omega)] at hc
        obtain rfl : c = ((i + 1 : Nat) : Int) := by omega
        exact ⟨g - 1, by omega, i + 1, n + 1, _, r3, by omega, rfl, by omega, by omega, by omega, hsz.1, hM3, hZ⟩
    · have hd := of_decide_eq_false hd
      rw [List.drop_of_length_le (by omega), runO_nil] at hZ
      subst hZ
      exact h _ _ hM (by show fs.length ≤ _; omega) hz
end
theorem KvF.argV {kv : AV} {kn : List Fld} (h : KvF kv kn) : argV kv (.sl .no 2 (fldL kn)) := by
  rcases h with rfl | ⟨rfl, rfl⟩
  · exact .inl rfl
  · exact .inr (.inr ⟨rfl, 2, rfl⟩)
theorem run37_p (kn fs : List Fld) (ops : List Opn) (hr : RunOk kn ops) (hl : fs.length ≤ 1000) (hz : Sz 65536 fs) : APure Tryz.prog 25 [.sl .no 2 (fldL kn), .sl .no 2 (fldL fs), .sl .no 5 (opL ops)] (.sl .no 2 (fldL (runO kn ops fs 0).1)) [] := by
  refine APure.of rfl ?_
  refine ACalls.of_vc T_ok mixed Tryz.func25 rfl Tryz.call25 ?_
  refine .s (newX_a fs (by omega) (fun b r st1 m1 hb hbl hbr => ?_))
  have hlt := hb.lt
  refine ⟨hlt, ?_⟩
  have m2 : Mv 0 (fun _ => False) st1 ⟨st1.heap ++ [[.ptr b 0, .sl .no 2 (fldL kn), .i 0]], st1.tk⟩ := (Mv.refl (Nat.zero_le _)).alloc _
  have hM : MS ⟨st1.heap ++ [[.ptr b 0, .sl .no 2 (fldL kn), .i 0]], st1.tk⟩ st1.heap.length b r (.sl .no 2 (fldL kn)) 0 fs := ⟨last_at _ _, hb.mv m2 (fun e => e) (fun _ _ e => e), by omega, fun e => by subst e; have := hb.rlt; omega⟩
  refine .s (run_a ops hr (.inl rfl) hM hl hz (fun r' st' hM' hl' hz' => ?_))
  refine ⟨_, hM'.h, ?_⟩
  refine .s (listV_a _ (by omega) hM'.hb (fun st2 m2 => ?_))
  rfl
theorem steps37_p (fs : List Fld) (ops : List Opn) (hr : RunOk [] ops) (hl : fs.length ≤ 1000) (hz : Sz 65536 fs) : APure Tryz.prog 26 [.sl .no 2 (fldL fs), .sl .no 5 (opL ops)] (.i (runO [] ops fs 0).2) [] := by
  refine APure.of rfl ?_
  refine ACalls.of_vc T_ok mixed Tryz.func26 rfl Tryz.call26 ?_
  refine .s (newX_a fs (by omega) (fun b r st1 m1 hb hbl hbr => ?_))
  have hlt := hb.lt
  refine ⟨hlt, ?_⟩
  have m2 : Mv 0 (fun _ => False) st1 ⟨st1.heap ++ [[.ptr b 0, .nilS, .i 0]], st1.tk⟩ := (Mv.refl (Nat.zero_le _)).alloc _
  have hM : MS ⟨st1.heap ++ [[.ptr b 0, .nilS, .i 0]], st1.tk⟩ st1.heap.length b r .nilS 0 fs := ⟨last_at _ _, hb.mv m2 (fun e => e) (fun _ _ e => e), by omega, fun e => by subst e; have := hb.rlt; omega⟩
  refine .s (run_a (kn := []) ops hr (.inr ⟨rfl, rfl⟩) hM hl hz (fun r' st' hM' hl' hz' => ?_))
  refine ⟨_, hM'.h, ?_⟩
  rfl
/-- does a guard hold? -/
def holdsG (k : Int) (nm v : ByteArray) (fs : List Fld) : Bool :=
  if k = 1 then (headV (valsW nm fs)).2 else if k = 2 then !(headV (valsW nm fs)).2 else if k = 3 then ((headV (valsW nm fs)).2 && decide ((headV (valsW nm fs)).1 = v)) else true
/-- what a rule makes of fields -/
def actR (kn : List Fld) (r : Rl) (fs : List Fld) : List Fld :=
  if holdsG r.gk r.ga r.gb fs = true then (if r.ac = 1 then putW r.nm (clnB (evT kn fs r.ps)) fs else if r.ac = 2 then fs ++ [(r.nm, clnB (evT kn fs r.ps))] else if r.ac = 3 then withoutW r.nm fs else renW r.nm r.un fs) else fs
theorem headV_pos {V : List ByteArray} : decide ((V.length : Int) > 0) = (headV V).2 := by
  cases V with
  | nil => rfl
  | cons x q => exact decide_eq_true (by rw [List.length_cons]; omega)
theorem headV_nil {V : List ByteArray} : ((V.length : Int) == 0) = !(headV V).2 := by
  cases V with
  | nil => rfl
  | cons x q =>
    show ((((x :: q).length : Nat) : Int) == 0) = false
    exact beq_eq_false_iff_ne.2 (by rw [List.length_cons]; omega)
theorem holds37_p (k : Int) (nm v : ByteArray) (fs : List Fld) (hn : nm.size ≤ 1099511627776) (hl : fs.length ≤ 1000000) (hz : Sz 65536 fs) : APure Tryz.prog 47 [.agg [.i k, .s nm, .s v], .sl .no 2 (fldL fs)] (.b (holdsG k nm v fs)) [] := by
  have hv := valsW_len nm fs
  have q := vals13_p fs nm (by omega) hz.big hn
  unfold holdsG
  generalize valsW nm fs = V at q hv
  have eV := strL_len V
  refine APure.of rfl (ACalls.of_vc T_ok mixed Tryz.func47 rfl Tryz.call47 ?_)
  refine ⟨_, rfl, ?_⟩
  refine .p rfl q ?_
  refine ⟨_, rfl, ?_⟩
  refine cnd_split (fun h1 => ?_) (fun h1 => ?_)
  · rw [if_pos (beq_iff_eq.1 h1)]
    refine retb ?_
    rw [← headV_pos, eV]
  rw [if_neg (beq_eq_false_iff_ne.1 h1)]
  refine cnd_split (fun h2 => ?_) (fun h2 => ?_)
  · rw [if_pos (beq_iff_eq.1 h2)]
    refine retb ?_
    rw [← headV_nil, eV]
  rw [if_neg (beq_eq_false_iff_ne.1 h2)]
  refine cnd_split (fun h3 => ?_) (fun h3 => ?_)
  · rw [if_pos (beq_iff_eq.1 h3)]
    refine .e (by kernel_rfl) ?_
    refine cnd_split (fun h4 => ?_) (fun h4 => ?_)
    · have h4 := of_decide_eq_true h4
      have v0 : 0 < V.length := by omega
      refine ⟨0, _, rfl, strL_at v0, ?_⟩
      refine ⟨_, rfl, ?_⟩
      intro t ht
      have ht : t = true ↔ V[0] = v := ht
      refine retb ?_
      have e : headV V = (V[0], true) := by
        cases V with
        | nil => simp at v0
        | cons x q => rfl
      rw [e]
      show t = (true && decide (V[0] = v))
      rw [Bool.true_and, Bool.eq_iff_iff, decide_eq_true_eq]
      exact ht
    · have h4 := of_decide_eq_false h4
      refine retb ?_
      have e : V = [] := List.eq_nil_of_length_eq_zero (by omega)
      rw [e]; rfl
  · rw [if_neg (beq_eq_false_iff_ne.1 h3)]
    rfl
/-- what a rule may count on -/
structure ActOk (kn fs : List Fld) (r : Rl) : Prop where
  kl : kn.length ≤ 1000000
  kz : ∀ f ∈ kn, f.2.size ≤ 2000000
  fl : fs.length ≤ 100000
  fz : Sz 65536 fs
  ga : r.ga.size ≤ 1000
  nm : r.nm.size ≤ 1000
  un : r.un.size ≤ 1000
  pl : r.ps.length ≤ 400
  pz : ∀ p ∈ r.ps, p.2.size ≤ 1000000
section
attribute [local irreducible] vcApp
set_option maxHeartbeats 1000000 in
theorem act37_p (kn fs : List Fld) (r : Rl) (h : ActOk kn fs r) : APure Tryz.prog 46 [.sl .no 2 (fldL kn), .sl .no 2 (fldL fs), r.av] (.sl .no 2 (fldL (actR kn r fs))) [] := by
  have hmx : maxLen = 9223372036854775807 := rfl
  have ef := fldL_len fs
  have hfl := h.fl
  have hnm := h.nm
  have hun := h.un
  have hga := h.ga
  have qh := holds37_p r.gk r.ga r.gb fs (by omega) (by omega) h.fz
  have qe := eval31_p kn fs r.ps 2000000 (by have := Nat.mul_le_mul_right 2000000 h.pl; omega) h.kl (by omega) h.fz.big (by have := h.pl; omega) h.pz (fun p hp => by have := h.pz p hp; omega) h.kz (fun f hf => by have := (h.fz f hf).2; omega)
  unfold actR
  generalize holdsG r.gk r.ga r.gb fs = hg at qh
  generalize clnB (evT kn fs r.ps) = V at qe
  refine APure.ofW rfl ?_
  refine ACalls.of_vc T_ok mixed Tryz.func46 rfl Tryz.call46 ?_
  refine ⟨_, rfl, ?_⟩
  refine .p rfl qh ?_
  cases hg with
  | false => exact .inl rfl
  | true =>
  refine ⟨_, rfl, ?_⟩
  refine .p rfl qe ?_
  refine ⟨_, rfl, ?_⟩
  refine cnd_split (fun h1 => ?_) (fun h1 => ?_)
  · have h1 := beq_iff_eq.1 h1
    refine ⟨_, rfl, ?_⟩
    refine .p rfl (put13_p r.nm V (by omega) fs (by omega) h.fz.big1) ?_
    exact .inl (by rw [if_pos rfl, if_pos h1]; rfl)
  have h1 := beq_eq_false_iff_ne.1 h1
  refine cnd_split (fun h2 => ?_) (fun h2 => ?_)
  · have h2 := beq_iff_eq.1 h2
    refine .n (.one 0 (.one 1 (.one 3 (.one 4 (.one 5 (.one 6 (.one 7 (.one 2 (.one 8 (.one 9 .done)))))))))) (by kernel_rfl) ?_
    refine ⟨_, rfl, ?_⟩
    refine tapp (i := ti91) rfl (by rw [ef]; show fs.length * 32 ≤ _; omega) (by omega) (fun h0 => ?_) (fun hne t1 e1 tk1 ht1 => ?_)
    · have hl0 : fs = [] := fldL_nil h0
      refine tapp (i := ti91) rfl (by show 1 * 32 ≤ _; decide) (by show 1 ≤ _; omega) (fun h0 => by cases h0) (fun _ t2 e2 tk2 ht2 => ?_)
      exact .inl (by rw [if_pos rfl, if_neg h1, if_pos h2, hl0]; rfl)
    · refine Acc.app (n := 0) (i := ti91) (.own t1 e1 _ (Nat.zero_le _) ht1) (Nat.zero_le _) (List.cons_ne_nil _ _) ?_ ?_ (fun t2 e2 tk2 z0 z1 z2 z3 => ?_)
      · show (List.length _ + 1) * 32 ≤ _; omega
      · show List.length _ + 1 ≤ _; omega
      exact .inl (by rw [if_pos rfl, if_neg h1, if_pos h2, ← fldL_app]; rfl)
  have h2 := beq_eq_false_iff_ne.1 h2
  refine cnd_split (fun h3 => ?_) (fun h3 => ?_)
  · have h3 := beq_iff_eq.1 h3
    refine ⟨_, rfl, ?_⟩
    refine .p rfl (without13_p r.nm (by omega) fs (by omega) h.fz.big1) ?_
    exact .inl (by rw [if_pos rfl, if_neg h1, if_neg h2, if_pos h3]; rfl)
  have h3 := beq_eq_false_iff_ne.1 h3
  refine ⟨_, rfl, ?_⟩
  refine ⟨_, rfl, ?_⟩
  refine .p rfl (rename13_p r.nm r.un (by omega) fs (by omega) h.fz.big1) ?_
  exact .inl (by rw [if_pos rfl, if_neg h1, if_neg h2, if_neg h3]; rfl)
theorem skips_holds {o : Opn} {fs : List Fld} (h : 1 ≤ o.k ∧ o.k ≤ 3) : skipsO o fs = !holdsG o.k o.nm o.tx fs := by
  unfold skipsO holdsG
  obtain h | h | h : o.k = 1 ∨ o.k = 2 ∨ o.k = 3 := by omega
  · rw [if_pos h, if_pos h]
  · rw [if_neg (by omega), if_pos h, if_neg (by omega), if_pos h, Bool.not_not]
  · rw [if_neg (by omega), if_neg (by omega), if_pos h, if_neg (by omega), if_neg (by omega), if_pos h, Bool.not_and, ← decide_not]
theorem skips_no {o : Opn} {fs : List Fld} (h : ¬ (1 ≤ o.k ∧ o.k ≤ 3)) : skipsO o fs = false := by
  unfold skipsO
  rw [if_neg (by omega), if_neg (by omega), if_neg (by omega)]
theorem doO_no {kn fs : List Fld} {o : Opn} (h : o.k < 4 ∨ 7 < o.k) : doO kn o fs = fs := by
  unfold doO
  rw [if_neg (by omega), if_neg (by omega), if_neg (by omega), if_neg (by omega)]
def kindO (k : Int) : Int := if k = 4 then 3 else if k = 5 then 2 else if k = 6 then 1 else 4
def ruleO (o : Opn) : Rl := ⟨0, 0, ⟨#[]⟩, ⟨#[]⟩, kindO o.k, o.nm, o.tx, o.ps⟩
theorem act_do {kn fs : List Fld} {o : Opn} (h : 4 ≤ o.k ∧ o.k ≤ 7) : actR kn (ruleO o) fs = doO kn o fs := by
  unfold actR doO holdsG ruleO kindO
  obtain h | h | h | h : o.k = 4 ∨ o.k = 5 ∨ o.k = 6 ∨ o.k = 7 := by omega
  all_goals simp [h]
/-- what every step of the document may count on -/
structure RunOkD (kn : List Fld) (ops : List Opn) : Prop where
  kl : kn.length ≤ 1000000
  kz : ∀ f ∈ kn, f.2.size ≤ 2000000
  ol : ops.length ≤ 10000
  ok : ∀ o ∈ ops, OpOk o ∧ o.ps.length ≤ 400
set_option maxHeartbeats 2000000 in
theorem run37R_p (kn fs : List Fld) (ops : List Opn) (hr : RunOkD kn ops) (hl : fs.length ≤ 1000) (hz : Sz 65536 fs) : APure Tryz.prog 24 [.sl .no 2 (fldL kn), .sl .no 2 (fldL fs), .sl .no 5 (opL ops)] (.tup [.sl .no 2 (fldL (runO kn ops fs 0).1), .i (runO kn ops fs 0).2]) [] := by
  have hmx : maxLen = 9223372036854775807 := rfl
  have eo := opL_len ops
  have hol := hr.ol
  obtain ⟨Z, hZ⟩ : ∃ Z, runO kn ops fs 0 = Z := ⟨_, rfl⟩
  rw [hZ]
  refine APure.of rfl (ACalls.of_vc T_ok mixed Tryz.func24 rfl Tryz.call24 ?_)
  refine vc_loop [1, 8, 9] (fun g vals st' => ∃ (i n : Nat) (fs : List Fld), g = ops.length - i ∧ vals = [.sl .no 2 (fldL fs), .i n, .i i] ∧ i ≤ 2 * ops.length + 1 ∧ n ≤ i ∧ fs.length ≤ 1000 + i ∧ Sz 65536 fs ∧ runO kn (ops.drop i) fs n = Z) ops.length rfl ⟨0, 0, fs, by omega, rfl, by omega, by omega, by omega, hz, by rw [List.drop_zero]; exact hZ⟩ ?_
  clear hZ
  rintro g vals st1 ⟨i, n, fs, hg, rfl, hi, hn, hfl, hz, hZ⟩
  refine cnd_split (fun hd => ?_) (fun hd => ?_)
  · have hd := of_decide_eq_true hd
    have i1 : i < ops.length := by omega
    rw [List.drop_eq_getElem_cons i1, runO_cons] at hZ
    obtain ⟨ho, hpl⟩ := hr.ok _ (List.getElem_mem i1)
    have hcl := last_upd st1.heap [.i 0, .s ⟨#[]⟩, .s ⟨#[]⟩, .nilS, .i 0] ops[i].cs
    intro c hc
    rw [IntWalk.i64_in _ (by omega)] at hc
    obtain rfl : c = ((n + 1 : Nat) : Int) := by omega
    refine ⟨i, _, rfl, opL_at i1, ?_⟩
    refine ⟨_, last_at _ _, ?_⟩
    refine ⟨_, hcl, ?_⟩
    have hok : ∀ r : Rl, r.ga.size ≤ 1000 → r.nm = ops[i].nm → r.un = ops[i].tx → r.ps = ops[i].ps → ActOk kn fs r := fun r h1 h2 h3 h4 => ⟨hr.kl, hr.kz, by omega, hz, h1, by rw [h2]; exact ho.nm, by rw [h3]; exact ho.tx, by rw [h4]; exact hpl, by rw [h4]; exact ho.pz⟩
    have hon := ho.nm
    refine cnd_split (fun h1 => ?_) (fun h1 => ?_)
    · have h1 := of_decide_eq_true h1
      refine ⟨_, hcl, ?_⟩
      refine cnd_split (fun h2 => ?_) (fun h2 => ?_)
      · have h2 := of_decide_eq_true h2
        have hsk := skips_holds (o := ops[i]) (fs := fs) ⟨h1, h2⟩
        rw [hsk, doO_no (.inl (by omega))] at hZ
        have qh := holds37_p ops[i].k ops[i].nm ops[i].tx fs (by omega) (by omega) hz
        generalize holdsG ops[i].k ops[i].nm ops[i].tx fs = hg9 at qh hZ
        have hl9 : st1.heap.length < ((st1.heap ++ [[AV.i 0, .s ⟨#[]⟩, .s ⟨#[]⟩, .nilS, .i 0]]).set st1.heap.length ops[i].cs).length := by simp
        have hc2 := fun (x y : List AV) => st_ne (x := y) (Nat.ne_of_gt hl9) (ap (x := x) hcl)
        refine ⟨_, hcl, ?_⟩
        refine ⟨_, hcl, ?_⟩
        refine ⟨_, hcl, ?_⟩
        refine ⟨_, last_at _ _, ?_⟩
        refine ⟨_, last_upd _ _ _, ?_⟩
        refine .p rfl qh ?_
        cases hg9 with
        | true =>
          rw [if_neg (by decide)] at hZ
          intro c hc
          rw [IntWalk.i64_in _ (by omega)] at hc
          obtain rfl : c = ((i + 1 : Nat) : Int) := by omega
          exact ⟨g - 1, by omega, i + 1, n + 1, fs, by omega, rfl, by omega, by omega, by omega, hz, hZ⟩
        | false =>
          rw [if_pos (by decide), List.drop_drop] at hZ
          refine ⟨_, hc2 _ _, ?_⟩
          refine cnd_split (fun h3 => ?_) (fun h3 => ?_)
          · have h3 := of_decide_eq_true h3
            refine ⟨_, hc2 _ _, ?_⟩
            obtain ⟨w, hw⟩ : ∃ w, w = min ops[i].n.toNat (opL ops).length := ⟨_, rfl⟩
            have hw9 : (if ((opL ops).length : Int) < ops[i].n then ((opL ops).length : Int) else ops[i].n) = (w : Int) := by
              split <;> omega
            intro c hc9
            have hc9 := hc9.trans (congrArg (fun z : Int => IntKind.i64.wrap ((i : Int) + z)) hw9)
            rw [IntWalk.i64_in _ (by omega)] at hc9
            obtain rfl : c = ((i + w : Nat) : Int) := by omega
            intro c hc
            rw [IntWalk.i64_in _ (by omega)] at hc
            obtain rfl : c = ((i + w + 1 : Nat) : Int) := by omega
            refine ⟨ops.length - (i + w + 1), by omega, i + w + 1, n + 1, fs, rfl, rfl, by omega, by omega, by omega, hz, ?_⟩
            rw [← hZ]
            congr 1
            by_cases h9 : ops[i].n.toNat ≤ (opL ops).length
            · rw [show w = ops[i].n.toNat by omega, Nat.add_right_comm]
            · rw [List.drop_of_length_le (by omega), List.drop_of_length_le (by omega)]
          · have h3 := of_decide_eq_false h3
            rw [show i + 1 + ops[i].n.toNat = i + 1 by omega] at hZ
            intro c hc
            rw [IntWalk.i64_in _ (by omega)] at hc
            obtain rfl : c = ((i + 1 : Nat) : Int) := by omega
            exact ⟨g - 1, by omega, i + 1, n + 1, fs, by omega, rfl, by omega, by omega, by omega, hz, hZ⟩
      · have h2 := of_decide_eq_false h2
        rw [skips_no (by omega), if_neg (by decide)] at hZ
        refine ⟨_, hcl, ?_⟩
        refine cnd_split (fun h3 => absurd (of_decide_eq_true h3) (by omega)) (fun _ => ?_)
        refine ⟨_, hcl, ?_⟩
        refine cnd_split (fun h4 => ?_) (fun h4 => ?_)
        · have h4 := of_decide_eq_true h4
          rw [doO_no (.inr (by omega))] at hZ
          intro c hc
          rw [IntWalk.i64_in _ (by omega)] at hc
          obtain rfl : c = ((i + 1 : Nat) : Int) := by omega
          exact ⟨g - 1, by omega, i + 1, n + 1, fs, by omega, rfl, by omega, by omega, by omega, hz, hZ⟩
        · have h4 := of_decide_eq_false h4
          have hk47 : 4 ≤ ops[i].k ∧ ops[i].k ≤ 7 := ⟨by omega, by omega⟩
          have hsz := doO_sz (kn := kn) ho hz
          rw [← act_do hk47] at hZ hsz
          have qa : ∀ c, kindO ops[i].k = c → APure Tryz.prog 46 [.sl .no 2 (fldL kn), .sl .no 2 (fldL fs), .agg [.i 0, .i 0, .s ⟨#[]⟩, .s ⟨#[]⟩, .i c, .s ops[i].nm, .s ops[i].tx, .sl .no 2 (prtL ops[i].ps)]] (.sl .no 2 (fldL (actR kn (ruleO ops[i]) fs))) [] := fun c hc => by
            subst hc
            exact act37_p kn fs (ruleO ops[i]) (hok _ (Nat.zero_le _) rfl rfl rfl)
          refine ⟨_, hcl, ?_⟩
          intro c hc9
          rw [IntWalk.i64_in _ (by omega)] at hc9
          have rest : True := trivial
          obtain h9 | h9 | h9 | h9 : ops[i].k = 4 ∨ ops[i].k = 5 ∨ ops[i].k = 6 ∨ ops[i].k = 7 := by omega
          · refine ⟨0, by omega, by decide, ?_⟩
            refine ⟨_, hcl, ?_⟩
            refine ⟨_, hcl, ?_⟩
            refine ⟨_, hcl, ?_⟩
            refine .p rfl (qa 3 (by unfold kindO; rw [h9]; decide)) ?_
            intro c hc
            rw [IntWalk.i64_in _ (by omega)] at hc
            obtain rfl : c = ((i + 1 : Nat) : Int) := by omega
            exact ⟨g - 1, by omega, i + 1, n + 1, _, by omega, rfl, by omega, by omega, by omega, hsz.1, hZ⟩
          · refine ⟨1, by omega, by decide, ?_⟩
            refine ⟨_, hcl, ?_⟩
            refine ⟨_, hcl, ?_⟩
            refine ⟨_, hcl, ?_⟩
            refine .p rfl (qa 2 (by unfold kindO; rw [h9]; decide)) ?_
            intro c hc
            rw [IntWalk.i64_in _ (by omega)] at hc
            obtain rfl : c = ((i + 1 : Nat) : Int) := by omega
            exact ⟨g - 1, by omega, i + 1, n + 1, _, by omega, rfl, by omega, by omega, by omega, hsz.1, hZ⟩
          · refine ⟨2, by omega, by decide, ?_⟩
            refine ⟨_, hcl, ?_⟩
            refine ⟨_, hcl, ?_⟩
            refine ⟨_, hcl, ?_⟩
            refine .p rfl (qa 1 (by unfold kindO; rw [h9]; decide)) ?_
            intro c hc
            rw [IntWalk.i64_in _ (by omega)] at hc
            obtain rfl : c = ((i + 1 : Nat) : Int) := by omega
            exact ⟨g - 1, by omega, i + 1, n + 1, _, by omega, rfl, by omega, by omega, by omega, hsz.1, hZ⟩
          · refine ⟨3, by omega, by decide, ?_⟩
            refine ⟨_, hcl, ?_⟩
            refine ⟨_, hcl, ?_⟩
            refine ⟨_, hcl, ?_⟩
            refine .p rfl (qa 4 (by unfold kindO; rw [h9]; decide)) ?_
            intro c hc
            rw [IntWalk.i64_in _ (by omega)] at hc
            obtain rfl : c = ((i + 1 : Nat) : Int) := by omega
            exact ⟨g - 1, by omega, i + 1, n + 1, _, by omega, rfl, by omega, by omega, by omega, hsz.1, hZ⟩
    · have h1 := of_decide_eq_false h1
      rw [skips_no (by omega), if_neg (by decide), doO_no (.inl (by omega))] at hZ
      refine ⟨_, hcl, ?_⟩
      refine cnd_split (fun _ => ?_) (fun h3 => absurd (by omega) (of_decide_eq_false h3))
      intro c hc
      rw [IntWalk.i64_in _ (by omega)] at hc
      obtain rfl : c = ((i + 1 : Nat) : Int) := by omega
      exact ⟨g - 1, by omega, i + 1, n + 1, fs, by omega, rfl, by omega, by omega, by omega, hz, hZ⟩
  · have hd := of_decide_eq_false hd
    rw [List.drop_of_length_le (by omega), runO_nil] at hZ
    subst hZ
    rfl
end
theorem take_min {α : Type} (l : List α) (n : Nat) : ((l.drop 0).take ((if n < l.length then n else l.length) - 0)) = l.take n := by
  rw [List.drop_zero, Nat.sub_zero]
  split
  · rfl
  · rw [List.take_of_length_le (Nat.le_refl _), List.take_of_length_le (by omega)]
theorem fldL_take (l : List Fld) (n : Nat) : (fldL l).take n = fldL (l.take n) := by unfold fldL; rw [List.map_take]
theorem prtL_take (l : List Prt) (n : Nat) : (prtL l).take n = prtL (l.take n) := by unfold prtL; rw [List.map_take]
def tk30 (fs : List Fld) : List Fld := (fewF fs).take 30
theorem tk30_len (fs : List Fld) : (tk30 fs).length ≤ 30 := by unfold tk30; rw [List.length_take]; omega
theorem tk30_sz (fs : List Fld) : Sz 65536 (tk30 fs) := fun f hf => by
  have := fewF_size fs f (List.mem_of_mem_take hf)
  omega
theorem few37_p (kn fs : List Fld) (sd : Int) : APure Tryz.prog 18 [.agg [.sl .no 2 (fldL kn), .sl .no 2 (fldL fs), .i sd]] (.agg [.sl .no 2 (fldL (kn.take 8)), .sl .no 2 (fldL (tk30 fs)), .i sd]) [] := by
  have h1 := minI_at (fldL kn).length 8
  have h2 := minI_at (fldL (fewF fs)).length 30
  have e1 := take_min (fldL kn) 8
  have e2 := take_min (fldL (fewF fs)) 30
  rw [fldL_take] at e1 e2
  refine APure.of rfl ?_
  refine ACalls.of_vc T_ok mixed Tryz.func18 rfl Tryz.call18 ?_
  refine ⟨_, rfl, ?_⟩
  refine ⟨_, rfl, ?_⟩
  refine ⟨_, h1, Nat.zero_le _, by split <;> omega, ?_⟩
  rw [e1]
  refine ⟨_, rfl, ?_⟩
  refine ⟨_, rfl, ?_⟩
  refine .p rfl (few_h 0 0 0 ⟨#[]⟩ ⟨#[]⟩ ⟨#[]⟩ fs) ?_
  refine ⟨_, h2, Nat.zero_le _, by split <;> omega, ?_⟩
  rw [e2]
  refine ⟨_, rfl, ?_⟩
  refine ⟨_, rfl, ?_⟩
  refine ⟨_, rfl, ?_⟩
  refine ⟨_, rfl, ?_⟩
  rfl
def cutO (o : Opn) : Opn := ⟨o.k, cut60 o.nm, cut60 o.tx, (fewT o.ps).take 4, o.n⟩
theorem fewT_mem {l : List Prt} {p : Prt} (h : p ∈ fewT l) : p.2.size ≤ 60 := by
  unfold fewT at h
  obtain ⟨q, _, rfl⟩ := List.mem_map.1 h
  exact cut60_size _
theorem cutO_ok (o : Opn) : OpOk (cutO o) ∧ (cutO o).ps.length ≤ 400 := by
  have h1 := cut60_size o.nm
  have h2 := cut60_size o.tx
  have h3 : ((fewT o.ps).take 4).length ≤ 4 := by rw [List.length_take]; omega
  refine ⟨⟨by show (cut60 o.nm).size ≤ _; omega, by show (cut60 o.tx).size ≤ _; omega, by show ((fewT o.ps).take 4).length ≤ _; omega, fun p hp => ?_⟩, by show ((fewT o.ps).take 4).length ≤ _; omega⟩
  have := fewT_mem (List.mem_of_mem_take hp)
  omega
theorem cutO_take {l : List Opn} {k : Nat} (h : k < l.length) : opL ((l.take (k + 1)).map cutO) = opL ((l.take k).map cutO) ++ [(cutO l[k]).cs] := by
  rw [List.take_succ_eq_append_getElem h, List.map_append]
  unfold opL
  rw [List.map_append]
  rfl
section
variable (kn fs : List Fld) (sd : Int) (l : List Rl)
/-- the fields behind rules; an error -/
def rulesW : List Fld × Int := if (compW sd l).2 ≠ 0 then ([], (compW sd l).2) else ((runO kn (compW sd l).1 fs 0).1, 0)
end
theorem contW_own (r : Rl) : OpOk (ownO r) ↔ OpOk (ownO r) := Iff.rfl
theorem ownO_ok {r : Rl} (h : r.Ok) (hp : ∀ p ∈ r.ps, p.2.size ≤ 1000000) : OpOk (ownO r) := by
  have h1 := h.nm
  have h2 := h.un
  have h3 := h.pl
  have e0 : emB.size ≤ 1000 := by decide
  have e1 : ([] : List Prt).length ≤ 1000 := by decide
  unfold ownO
  split
  · exact ⟨h1, e0, h3, hp⟩
  split
  · exact ⟨h1, e0, h3, hp⟩
  split
  · exact ⟨h1, e0, e1, fun p hp => by cases hp⟩
  split
  · exact ⟨h1, h2, e1, fun p hp => by cases hp⟩
  · exact ⟨e0, e0, e1, fun p hp => by cases hp⟩
theorem guardO_ok {r : Rl} (h : r.Ok) (n : Nat) : OpOk (guardO r.g n) := ⟨h.ga, h.gb, by show ([] : List Prt).length ≤ _; decide, fun p hp => by cases hp⟩
theorem allW_ok : ∀ (n : Nat) (l : List Rl), l.length ≤ n → (∀ r ∈ l, r.Ok ∧ ∀ p ∈ r.ps, p.2.size ≤ 1000000) → ∀ o ∈ allW l, OpOk o
  | _, [], _, _, o, ho => by rw [allW_nil] at ho; cases ho
  | 0, r :: rs, hl, _, o, ho => by simp at hl
  | n + 1, r :: rs, hl, hr, o, ho => by
    have hl' : rs.length ≤ n := by simp at hl; omega
    have h0 := hr r List.mem_cons_self
    have hrs : ∀ q ∈ rs, q.Ok ∧ ∀ p ∈ q.ps, p.2.size ≤ 1000000 := fun q hq => hr q (List.mem_cons_of_mem _ hq)
    by_cases hg : r.gk = 0
    · rw [allW_plain hg] at ho
      rcases List.mem_cons.1 ho with rfl | ho
      · exact ownO_ok h0.1 h0.2
      · exact allW_ok n rs hl' hrs o ho
    · rw [allW_run hg] at ho
      rcases List.mem_cons.1 ho with rfl | ho
      · exact guardO_ok h0.1 _
      rcases List.mem_cons.1 ho with rfl | ho
      · exact ownO_ok h0.1 h0.2
      rcases List.mem_append.1 ho with ho | ho
      · obtain ⟨q, hq, rfl⟩ := List.mem_map.1 ho
        have := hrs q (List.mem_of_mem_take hq)
        exact ownO_ok this.1 this.2
      · exact allW_ok n (rs.drop (contW r.g r rs)) (by rw [List.length_drop]; omega) (fun q hq => hrs q (List.mem_of_mem_drop hq)) o ho
theorem compW_ok {sd : Int} {l : List Rl} (hl : l.length ≤ 1000) (hr : ∀ r ∈ l, r.Ok ∧ ∀ p ∈ r.ps, p.2.size ≤ 1000000) : (compW sd l).1.length ≤ 10000 ∧ ∀ o ∈ (compW sd l).1, OpOk o := by
  unfold compW
  split
  · exact ⟨Nat.zero_le _, fun o h => by cases h⟩
  split
  · exact ⟨Nat.zero_le _, fun o h => by cases h⟩
  · have hs : (sideL sd l).length ≤ l.length := List.length_filter_le _ _
    have := allW_len _ (sideL sd l) (Nat.le_refl _)
    exact ⟨by show (allW _).length ≤ _; omega, allW_ok _ _ (Nat.le_refl _) (fun r hr' => hr r (List.mem_filter.1 hr').1)⟩
theorem rules37_p (kn fs : List Fld) (sd : Int) (l : List Rl) (hkl : kn.length ≤ 1000000) (hkz : ∀ f ∈ kn, f.2.size ≤ 2000000) (hfl : fs.length ≤ 1000) (hfz : Sz 65536 fs) (hl : l.length ≤ 1000) (hr : ∀ r ∈ l, r.Ok ∧ ∀ p ∈ r.ps, p.2.size ≤ 1000000) :
    APure Tryz.prog 20 [.sl .no 2 (fldL kn), .sl .no 2 (fldL fs), .i sd, .sl .no 8 (rlL l)] (.tup [.sl .no 2 (fldL (rulesW kn fs sd l).1), .i (rulesW kn fs sd l).2]) [] := by
  have qc := compile_p sd l hl (fun r h => (hr r h).1)
  obtain ⟨c1, c2⟩ := compW_ok (sd := sd) hl hr
  unfold rulesW
  generalize compW sd l = C at qc c1 c2
  obtain ⟨ops, e⟩ := C
  dsimp only at qc c1 c2 ⊢
  have qr := run37_p kn fs ops ⟨hkl, hkz, c1, c2⟩ hfl hfz
  refine APure.ofW rfl ?_
  refine ACalls.of_vc T_ok mixed Tryz.func20 rfl Tryz.call20 ?_
  refine .p rfl qc ?_
  by_cases he : e = 0
  · subst he
    refine .p rfl qr ?_
    exact .inl (by rw [if_neg (fun h => h rfl)]; rfl)
  · refine cnd_split (fun _ => ?_) (fun h => absurd (bne_eq_false_iff_eq.1 h) he)
    exact .inr (.inr ⟨[.i e], 2, rfl, by rw [if_pos he]; rfl⟩)
/-- the page's example -/
def awR : Rl := ⟨1, 3, ⟨#[97]⟩, ⟨#[49]⟩, 1, ⟨#[65]⟩, ⟨#[]⟩, [(1, ⟨#[50]⟩)]⟩
theorem awake37_p : APure Tryz.prog 17 [] (.b true) [] := by
  have hw : rulesW [] [(⟨#[65]⟩, ⟨#[49]⟩)] 1 [awR] = ([(⟨#[65]⟩, ⟨#[50]⟩)], 0) := by decide +kernel
  have q := rules37_p [] [(⟨#[65]⟩, ⟨#[49]⟩)] 1 [awR] (by decide) (fun f h => by cases h) (by decide) (by unfold Sz; decide) (by decide) (fun r hr => by rw [List.mem_singleton.1 hr]; exact ⟨⟨by decide, by decide, by decide, by decide, by decide, by decide⟩, by decide⟩)
  rw [hw] at q
  refine APure.of rfl ?_
  refine ACalls.of_vc T_ok mixed Tryz.func17 rfl Tryz.call17 ?_
  refine .w (args' := [.sl .no 2 (fldL []), .sl .no 2 (fldL [(⟨#[65]⟩, ⟨#[49]⟩)]), .i 1, .sl .no 8 (rlL [awR])]) rfl ⟨.inr ⟨rfl, 2, rfl⟩, .inl (.inl ⟨rfl, rfl⟩), .inl (.inl ⟨rfl, rfl⟩), .inl (.inl ⟨rfl, rfl⟩), trivial⟩ q ?_
  refine .p rfl (same13_p [(⟨#[65]⟩, ⟨#[50]⟩)] [(⟨#[65]⟩, ⟨#[50]⟩)] (by decide) (by decide)) ?_
  exact retb (decide_eq_true rfl)
theorem doO_len (kn : List Fld) (o : Opn) (fs : List Fld) : (doO kn o fs).length ≤ fs.length + 1 := by
  unfold doO
  split
  · have := withoutW_len o.nm fs; omega
  split
  · simp
  split
  · exact putW_len fs
  split
  · unfold renW; rw [List.length_map]; omega
  · omega
theorem runO_len' (kn : List Fld) : ∀ (m : Nat) (ops : List Opn) (fs : List Fld) (n : Nat), ops.length ≤ m → (runO kn ops fs n).1.length ≤ fs.length + ops.length
  | _, [], fs, n, _ => by rw [runO_nil]; exact Nat.le_refl _
  | 0, o :: r, fs, n, h => by simp at h
  | m + 1, o :: r, fs, n, h => by
    have hr : r.length ≤ m := by simp at h; omega
    have hd : (r.drop o.n.toNat).length ≤ r.length := by rw [List.length_drop]; omega
    rw [runO_cons, List.length_cons]
    split
    · have := runO_len' kn m (r.drop o.n.toNat) fs (n + 1) (by omega)
      omega
    · have := runO_len' kn m r (doO kn o fs) (n + 1) hr
      have := doO_len kn o fs
      omega
theorem runO_len (kn : List Fld) (ops : List Opn) (fs : List Fld) (n : Nat) : (runO kn ops fs n).1.length ≤ fs.length + ops.length := runO_len' kn _ ops fs n (Nat.le_refl _)
section
attribute [local irreducible] vcApp
set_option maxHeartbeats 2000000 in
theorem machineRuns_p (kn fs : List Fld) (sd : Int) (l : List Opn) (hk : ∀ f ∈ kn, f.2.size ≤ 1048576) : APure Tryz.prog 5 [.agg [.sl .no 2 (fldL kn), .sl .no 2 (fldL fs), .i sd], .sl .no 5 (opL l)] (.b true) [] := by
  have hmx : maxLen = 9223372036854775807 := rfl
  have el := opL_len l
  have hfl := tk30_len fs
  have hfz := tk30_sz fs
  have hkl : (kn.take 8).length ≤ 8 := by rw [List.length_take]; omega
  have hkz : ∀ f ∈ kn.take 8, f.2.size ≤ 2000000 := fun f hf => by have := hk f (List.mem_of_mem_take hf); omega
  have qf := few37_p kn fs sd
  generalize tk30 fs = F at hfl hfz qf
  generalize kn.take 8 = KN at hkl hkz qf
  refine APure.of rfl ?_
  refine ACalls.of_vc T_ok mixed Tryz.func5 rfl Tryz.call5 ?_
  refine .p rfl awake37_p ?_
  refine ⟨_, rfl, ?_⟩
  refine .p rfl qf ?_
  refine ⟨_, rfl, ?_⟩
  refine vc_loop [5, 6] (fun g vals st' => ∃ (k : Nat) (a : AV), k + g = l.length ∧ k ≤ 30 ∧ vals = [a, .i k] ∧ st'.heap[0]? = some [.sl .no 2 (fldL KN), .sl .no 2 (fldL F), .i sd] ∧ Acc 0 st'.tk 5 a (opL ((l.take k).map cutO))) l.length rfl ⟨0, _, by omega, by omega, rfl, rfl, .nil⟩ ?_
  rintro g vals st1 ⟨k, a, hk9, hk30, rfl, h0, hA⟩
  have hrk : RunOkD KN ((l.take k).map cutO) := ⟨by omega, hkz, by rw [List.length_map, List.length_take]; omega, fun o ho => by
    obtain ⟨q, _, rfl⟩ := List.mem_map.1 ho
    exact cutO_ok q⟩
  have hr0 : RunOkD [] ((l.take k).map cutO) := ⟨by decide, fun f h => (by cases h), hrk.ol, hrk.ok⟩
  have toR : ∀ kn ops, RunOkD kn ops → RunOk kn ops := fun kn ops h => ⟨h.kl, h.kz, h.ol, fun o ho => (h.ok o ho).1⟩
  have q1 := run37R_p KN F _ hrk (by omega) hfz
  have q2 := run37R_p [] F _ hr0 (by omega) hfz
  have q3 := run37_p KN F _ (toR _ _ hrk) (by omega) hfz
  have q4 := steps37_p F _ (toR _ _ hr0) (by omega) hfz
  have hfo := opL_len ((l.take k).map cutO)
  have hmo : ((l.take k).map cutO).length ≤ k := by rw [List.length_map, List.length_take]; omega
  have hzl : (runO KN ((l.take k).map cutO) F 0).1.length ≤ 1099511627776 := by
    have := runO_len KN ((l.take k).map cutO) F 0
    omega
  have hA0 := hA
  generalize hes : opL ((l.take k).map cutO) = es at hA hA0 hfo q1 q2 q3 q4
  cases hA
  all_goals
    refine cnd_split (fun hd => ?_) (fun hd => ?_)
    · have hd := of_decide_eq_true hd
      have k1 : k < l.length := by omega
      refine cnd_split (fun hd2 => ?_) (fun hd2 => ?_)
      · have hd2 : (k : Int) < 30 := of_decide_eq_true hd2
        have hlt0 := lt_of h0
        have hp := minI_at (prtL (fewT l[k].ps)).length 4
        have e4 := take_min (prtL (fewT l[k].ps)) 4
        rw [prtL_take] at e4
        have c0 := last_upd st1.heap [.i 0, .s ⟨#[]⟩, .s ⟨#[]⟩, .nilS, .i 0] l[k].cs
        refine ⟨k, _, rfl, opL_at k1, ?_⟩
        refine ⟨_, last_at _ _, ?_⟩
        refine ⟨_, c0, ?_⟩
        refine ⟨_, c0, ?_⟩
        refine ⟨_, minI_at l[k].nm.size 60, Nat.zero_le _, by split <;> omega, ?_⟩
        refine ⟨_, c0, ?_⟩
        have c1 := fun (x : List AV) => st_eq (x := x) c0
        refine ⟨_, c1 _, ?_⟩
        refine ⟨_, c1 _, ?_⟩
        refine ⟨_, minI_at l[k].tx.size 60, Nat.zero_le _, by split <;> omega, ?_⟩
        refine ⟨_, c1 _, ?_⟩
        have c2 := fun (x y : List AV) => st_eq (x := y) (c1 x)
        refine ⟨_, c2 _ _, ?_⟩
        refine .p rfl (few31_p l[k].ps) ?_
        refine ⟨_, c2 _ _, ?_⟩
        have c3 := fun (x y z : List AV) => st_eq (x := z) (c2 x y)
        refine ⟨_, c3 _ _ _, ?_⟩
        refine ⟨_, c3 _ _ _, ?_⟩
        refine ⟨_, hp, Nat.zero_le _, by split <;> omega, ?_⟩
        rw [e4]
        refine ⟨_, c3 _ _ _, ?_⟩
        have c4 := fun (x y z u : List AV) => st_eq (x := u) (c3 x y z)
        refine ⟨_, c4 _ _ _ _, ?_⟩
        refine Acc.app (n := 0) (i := ti56) hA0 (Nat.zero_le _) (List.cons_ne_nil _ _) ?_ ?_ (fun t9 e9 tk9 z0 z1 z2 z3 => ?_)
        · show (List.length _ + 1) * 72 ≤ _; omega
        · show List.length _ + 1 ≤ _; omega
        intro c hc
        rw [IntWalk.i64_in _ (by omega)] at hc
        obtain rfl : c = ((k + 1 : Nat) : Int) := by omega
        refine ⟨g - 1, by omega, k + 1, _, by omega, by omega, rfl, ?_, ?_⟩
        · have hne : st1.heap.length ≠ 0 := by omega
          exact st_ne hne (st_ne hne (st_ne hne (st_ne hne (st_ne hne (ap h0)))))
        · rw [cutO_take k1, hes]
          exact .own _ _ _ (Nat.zero_le _) z1
      · skip
        refine ⟨_, h0, ?_⟩
        refine ⟨_, h0, ?_⟩
        first
          | refine .p rfl q1 ?_
          | refine .w (args' := [.sl .no 2 (fldL KN), .sl .no 2 (fldL F), .sl .no 5 []]) rfl ⟨.inl (.inl ⟨rfl, rfl⟩), .inl (.inl ⟨rfl, rfl⟩), .inr ⟨rfl, 5, rfl⟩, trivial⟩ q1 ?_
        refine ⟨_, h0, ?_⟩
        first
          | refine .w (args' := [.sl .no 2 (fldL []), .sl .no 2 (fldL F), _]) rfl ⟨.inr ⟨rfl, 2, rfl⟩, .inl (.inl ⟨rfl, rfl⟩), .inl (.inl ⟨rfl, rfl⟩), trivial⟩ q2 ?_
          | refine .w (args' := [.sl .no 2 (fldL []), .sl .no 2 (fldL F), .sl .no 5 []]) rfl ⟨.inr ⟨rfl, 2, rfl⟩, .inl (.inl ⟨rfl, rfl⟩), .inr ⟨rfl, 5, rfl⟩, trivial⟩ q2 ?_
        refine ⟨_, h0, ?_⟩
        refine ⟨_, h0, ?_⟩
        first
          | refine .p rfl q3 ?_
          | refine .w (args' := [.sl .no 2 (fldL KN), .sl .no 2 (fldL F), .sl .no 5 []]) rfl ⟨.inl (.inl ⟨rfl, rfl⟩), .inl (.inl ⟨rfl, rfl⟩), .inr ⟨rfl, 5, rfl⟩, trivial⟩ q3 ?_
        refine .p rfl (same13_p _ _ hzl hzl) ?_
        refine cnd_split (fun _ => ?_) (fun h => absurd h (by rw [decide_eq_true rfl]; decide))
        refine ⟨_, h0, ?_⟩
        first
          | refine .p rfl q4 ?_
          | refine .w (args' := [.sl .no 2 (fldL F), .sl .no 5 []]) rfl ⟨.inl (.inl ⟨rfl, rfl⟩), .inr ⟨rfl, 5, rfl⟩, trivial⟩ q4 ?_
        exact retb (beq_iff_eq.2 rfl)
    · skip
      refine ⟨_, h0, ?_⟩
      refine ⟨_, h0, ?_⟩
      first
        | refine .p rfl q1 ?_
        | refine .w (args' := [.sl .no 2 (fldL KN), .sl .no 2 (fldL F), .sl .no 5 []]) rfl ⟨.inl (.inl ⟨rfl, rfl⟩), .inl (.inl ⟨rfl, rfl⟩), .inr ⟨rfl, 5, rfl⟩, trivial⟩ q1 ?_
      refine ⟨_, h0, ?_⟩
      first
        | refine .w (args' := [.sl .no 2 (fldL []), .sl .no 2 (fldL F), _]) rfl ⟨.inr ⟨rfl, 2, rfl⟩, .inl (.inl ⟨rfl, rfl⟩), .inl (.inl ⟨rfl, rfl⟩), trivial⟩ q2 ?_
        | refine .w (args' := [.sl .no 2 (fldL []), .sl .no 2 (fldL F), .sl .no 5 []]) rfl ⟨.inr ⟨rfl, 2, rfl⟩, .inl (.inl ⟨rfl, rfl⟩), .inr ⟨rfl, 5, rfl⟩, trivial⟩ q2 ?_
      refine ⟨_, h0, ?_⟩
      refine ⟨_, h0, ?_⟩
      first
        | refine .p rfl q3 ?_
        | refine .w (args' := [.sl .no 2 (fldL KN), .sl .no 2 (fldL F), .sl .no 5 []]) rfl ⟨.inl (.inl ⟨rfl, rfl⟩), .inl (.inl ⟨rfl, rfl⟩), .inr ⟨rfl, 5, rfl⟩, trivial⟩ q3 ?_
      refine .p rfl (same13_p _ _ hzl hzl) ?_
      refine cnd_split (fun _ => ?_) (fun h => absurd h (by rw [decide_eq_true rfl]; decide))
      refine ⟨_, h0, ?_⟩
      first
        | refine .p rfl q4 ?_
        | refine .w (args' := [.sl .no 2 (fldL F), .sl .no 5 []]) rfl ⟨.inl (.inl ⟨rfl, rfl⟩), .inr ⟨rfl, 5, rfl⟩, trivial⟩ q4 ?_
      exact retb (beq_iff_eq.2 rfl)
end
def otherL (sd : Int) (l : List Rl) : List Rl := l.filter fun r => decide (r.sd ≠ sd)
theorem side_other (sd : Int) (l : List Rl) : sideL sd (otherL sd l) = [] := by
  unfold sideL otherL
  rw [List.filter_filter]
  refine List.filter_eq_nil_iff.2 fun r _ => ?_
  by_cases h : r.sd = sd
  · rw [decide_eq_false (p := r.sd ≠ sd) (fun e => e h), Bool.and_false]; decide
  · rw [decide_eq_false h, Bool.false_and]; decide
theorem rules_other (kn fs : List Fld) (sd : Int) (l : List Rl) : ((rulesW kn fs sd (otherL sd l)).2 ≠ 0 ∧ (rulesW kn fs sd (otherL sd l)).1 = []) ∨ ((rulesW kn fs sd (otherL sd l)).2 = 0 ∧ (rulesW kn fs sd (otherL sd l)).1 = fs) := by
  unfold rulesW
  by_cases h : (compW sd (otherL sd l)).2 ≠ 0
  · rw [if_pos h]; exact .inl ⟨h, rfl⟩
  · rw [if_neg h]
    refine .inr ⟨rfl, ?_⟩
    have e : (compW sd (otherL sd l)).1 = [] := by
      unfold compW
      split
      · rfl
      split
      · rfl
      · rw [side_other, allW_nil]
    rw [e, runO_nil]
theorem tappY' {st : St} {i : TI} {tg : Tk} {ys : List (List AV)} {K : AV → St → Prop} (hz : i.zero.all Value.oneCell' = true) (hb : ys.length * i.bytes ≤ 140737488355328) (hm : ys.length ≤ maxLen) (h0 : K (.sl .tight i.size ys) st) (h1 : ys ≠ [] → ∀ t e tk', tk'[t]? = some e → K (.sl (.own t e) i.size ys) ⟨st.heap, tk'⟩) : vcApp i (.sl .tight i.size []) (.sl tg i.size ys) st K :=
  tapp hz hb hm (fun e => by subst e; exact h0) h1
theorem fewR_parts (r : Rl) : ∀ p ∈ (fewR r).ps, p.2.size ≤ 1000000 := fun p hp => by
  have := fewT_mem (l := r.ps) hp
  omega
section
attribute [local irreducible] vcApp
set_option maxHeartbeats 4000000 in
theorem machineNone_p (kn fs : List Fld) (sd : Int) (l : List Rl) (hk : ∀ f ∈ kn, f.2.size ≤ 1048576) : APure Tryz.prog 6 [.agg [.sl .no 2 (fldL kn), .sl .no 2 (fldL fs), .i sd], .sl .no 8 (rlL l)] (.b true) [] := by
  have hmx : maxLen = 9223372036854775807 := rfl
  have hfl := tk30_len fs
  have hfz := tk30_sz fs
  have hkl : (kn.take 8).length ≤ 8 := by rw [List.length_take]; omega
  have hkz : ∀ f ∈ kn.take 8, f.2.size ≤ 2000000 := fun f hf => by have := hk f (List.mem_of_mem_take hf); omega
  have hLl : ((l.take 70).map fewR).length ≤ 70 := by rw [List.length_map, List.length_take]; omega
  have hL : ∀ r ∈ (l.take 70).map fewR, r.Ok ∧ ∀ p ∈ r.ps, p.2.size ≤ 1000000 := fun r hr => by
    obtain ⟨q, _, rfl⟩ := List.mem_map.1 hr
    exact ⟨fewR_ok q, fewR_parts q⟩
  have qf := few37_p kn fs sd
  have ql := few35_p l
  generalize tk30 fs = F at hfl hfz qf
  generalize kn.take 8 = KN at hkl hkz qf
  generalize (l.take 70).map fewR = L at hLl hL ql
  have eL := rlL_len L
  have eF := fldL_len F
  have q6 := rules37_p KN F sd L (by omega) hkz (by omega) hfz (by omega) hL
  have q7 := run37_p KN F [] ⟨by omega, hkz, by decide, fun o h => (by cases h)⟩ (by omega) hfz
  have q8 := steps37_p F [] ⟨by decide, fun f h => (by cases h), by decide, fun o h => (by cases h)⟩ (by omega) hfz
  rw [runO_nil] at q7 q8
  dsimp only at q7 q8
  refine APure.of rfl ?_
  refine ACalls.of_vc T_ok mixed Tryz.func6 rfl Tryz.call6 ?_
  refine .p rfl awake37_p ?_
  refine ⟨_, rfl, ?_⟩
  refine .p rfl qf ?_
  refine .p rfl ql ?_
  refine ⟨_, rfl, ?_⟩
  refine ⟨_, rfl, ?_⟩
  refine tappY' (i := ti91) rfl (by rw [eF]; show F.length * 32 ≤ _; omega) (by omega) ?_ (fun hne t1 e1 tk1 ht1 => ?_)
  · skip
    refine vc_loop [6, 7] (fun g vals st' => ∃ (k : Nat) (a : AV), k + g = L.length ∧ vals = [a, .i k] ∧ st'.heap[0]? = some [.sl .no 2 (fldL KN), .sl .no 2 (fldL F), .i sd] ∧ Acc 0 st'.tk 8 a (rlL (otherL sd (L.take k)))) L.length rfl ⟨0, _, by omega, rfl, rfl, .nil⟩ ?_
    rintro g vals st1 ⟨k, a, hk, rfl, h0, hA⟩
    have hok : (otherL sd (L.take k)).length ≤ k := by
      have h1 : (otherL sd (L.take k)).length ≤ (L.take k).length := List.length_filter_le _ _
      rw [List.length_take] at h1; omega
    have q5 := rules37_p KN F sd (otherL sd (L.take k)) (by omega) hkz (by omega) hfz (by omega) (fun r hr => hL r (List.mem_of_mem_take (List.mem_filter.1 hr).1))
    have hX := rules_other KN F sd (L.take k)
    generalize rulesW KN F sd (otherL sd (L.take k)) = Q at q5 hX
    obtain ⟨X, e⟩ := Q
    dsimp only at q5 hX
    have hro := rlL_len (otherL sd (L.take k))
    have hA0 := hA
    generalize hes : rlL (otherL sd (L.take k)) = es at hA hA0 hro q5
    cases hA
    all_goals
      refine cnd_split (fun hd => ?_) (fun hd => ?_)
      · have hd := of_decide_eq_true hd
        have k1 : k < L.length := by omega
        have ht : otherL sd (L.take (k + 1)) = otherL sd (L.take k) ++ (if L[k].sd ≠ sd then [L[k]] else []) := by
          unfold otherL
          rw [List.take_succ_eq_append_getElem k1, List.filter_append]
          congr 1
          by_cases h9 : L[k].sd ≠ sd
          · rw [if_pos h9, List.filter_cons, decide_eq_true h9]; rfl
          · rw [if_neg h9, List.filter_cons, decide_eq_false h9]; rfl
        refine .e (by kernel_rfl) ?_
        refine ⟨k, _, rfl, rlL_at k1, ?_⟩
        refine ⟨_, h0, ?_⟩
        refine cnd_split (fun h3 => ?_) (fun h3 => ?_)
        · rw [if_pos (bne_iff_ne.1 h3)] at ht
          refine ⟨k, _, rfl, rlL_at k1, ?_⟩
          refine Acc.app (n := 0) (i := ti29) hA0 (Nat.zero_le _) (List.cons_ne_nil _ _) ?_ ?_ (fun t9 e9 tk9 z0 z1 z2 z3 => ?_)
          · show (List.length _ + 1) * 112 ≤ _; omega
          · show List.length _ + 1 ≤ _; omega
          intro c hc
          rw [IntWalk.i64_in _ (by omega)] at hc
          obtain rfl : c = ((k + 1 : Nat) : Int) := by omega
          refine ⟨g - 1, by omega, k + 1, _, by omega, rfl, h0, ?_⟩
          rw [ht, show rlL (otherL sd (L.take k) ++ [L[k]]) = rlL (otherL sd (L.take k)) ++ [L[k].cs] by unfold rlL; rw [List.map_append]; rfl, hes]
          exact .own _ _ _ (Nat.zero_le _) z1
        · rw [if_neg (fun h => h (bne_eq_false_iff_eq.1 h3)), List.append_nil] at ht
          intro c hc
          rw [IntWalk.i64_in _ (by omega)] at hc
          obtain rfl : c = ((k + 1 : Nat) : Int) := by omega
          refine ⟨g - 1, by omega, k + 1, _, by omega, rfl, h0, ?_⟩
          rw [ht, hes]
          exact hA0
      · skip
        refine ⟨_, h0, ?_⟩
        refine ⟨_, h0, ?_⟩
        first
          | refine .p rfl q5 ?_
          | refine .w (args' := [.sl .no 2 (fldL KN), .sl .no 2 (fldL F), .i sd, .sl .no 8 []]) rfl ⟨.inl (.inl ⟨rfl, rfl⟩), .inl (.inl ⟨rfl, rfl⟩), .inl (.inl ⟨rfl, rfl⟩), .inr ⟨rfl, 8, rfl⟩, trivial⟩ q5 ?_
        refine ⟨_, h0, ?_⟩
        refine ⟨_, h0, ?_⟩
        refine .p rfl q6 ?_
        refine ⟨_, h0, ?_⟩
        refine .p rfl (same13_p F F (by omega) (by omega)) ?_
        refine cnd_split (fun _ => ?_) (fun h => absurd h (by rw [decide_eq_true rfl]; decide))
        refine ⟨_, h0, ?_⟩
        refine .w (args' := [.sl .no 2 (fldL KN), .sl .no 2 (fldL F), .sl .no 5 []]) rfl ⟨.inl (.inl ⟨rfl, rfl⟩), .inl (.inl ⟨rfl, rfl⟩), .inr ⟨rfl, 5, rfl⟩, trivial⟩ q7 ?_
        refine .p rfl (same13_p F F (by omega) (by omega)) ?_
        refine cnd_split (fun _ => ?_) (fun h => absurd h (by rw [decide_eq_true rfl]; decide))
        refine .w (args' := [.sl .no 2 (fldL F), .sl .no 5 []]) rfl ⟨.inl (.inl ⟨rfl, rfl⟩), .inr ⟨rfl, 5, rfl⟩, trivial⟩ q8 ?_
        rcases hX with ⟨he, hX⟩ | ⟨he, hX⟩
        · refine cnd_split (fun _ => ?_) (fun h => absurd (bne_eq_false_iff_eq.1 h) he)
          refine cnd_split (fun _ => ?_) (fun h => absurd (by rw [hX]; rfl) (beq_eq_false_iff_ne.1 h))
          rfl
        · refine cnd_split (fun h => absurd he (bne_iff_ne.1 h)) (fun _ => ?_)
          refine .p rfl (same13_p X F (by rw [hX]; omega) (by omega)) ?_
          exact retb (decide_eq_true hX)
  · skip
    refine vc_loop [6, 7] (fun g vals st' => ∃ (k : Nat) (a : AV), k + g = L.length ∧ vals = [a, .i k] ∧ st'.heap[0]? = some [.sl .no 2 (fldL KN), .sl .no 2 (fldL F), .i sd] ∧ Acc 0 st'.tk 8 a (rlL (otherL sd (L.take k)))) L.length rfl ⟨0, _, by omega, rfl, rfl, .nil⟩ ?_
    rintro g vals st1 ⟨k, a, hk, rfl, h0, hA⟩
    have hok : (otherL sd (L.take k)).length ≤ k := by
      have h1 : (otherL sd (L.take k)).length ≤ (L.take k).length := List.length_filter_le _ _
      rw [List.length_take] at h1; omega
    have q5 := rules37_p KN F sd (otherL sd (L.take k)) (by omega) hkz (by omega) hfz (by omega) (fun r hr => hL r (List.mem_of_mem_take (List.mem_filter.1 hr).1))
    have hX := rules_other KN F sd (L.take k)
    generalize rulesW KN F sd (otherL sd (L.take k)) = Q at q5 hX
    obtain ⟨X, e⟩ := Q
    dsimp only at q5 hX
    have hro := rlL_len (otherL sd (L.take k))
    have hA0 := hA
    generalize hes : rlL (otherL sd (L.take k)) = es at hA hA0 hro q5
    cases hA
    all_goals
      refine cnd_split (fun hd => ?_) (fun hd => ?_)
      · have hd := of_decide_eq_true hd
        have k1 : k < L.length := by omega
        have ht : otherL sd (L.take (k + 1)) = otherL sd (L.take k) ++ (if L[k].sd ≠ sd then [L[k]] else []) := by
          unfold otherL
          rw [List.take_succ_eq_append_getElem k1, List.filter_append]
          congr 1
          by_cases h9 : L[k].sd ≠ sd
          · rw [if_pos h9, List.filter_cons, decide_eq_true h9]; rfl
          · rw [if_neg h9, List.filter_cons, decide_eq_false h9]; rfl
        refine .e (by kernel_rfl) ?_
        refine ⟨k, _, rfl, rlL_at k1, ?_⟩
        refine ⟨_, h0, ?_⟩
        refine cnd_split (fun h3 => ?_) (fun h3 => ?_)
        · rw [if_pos (bne_iff_ne.1 h3)] at ht
          refine ⟨k, _, rfl, rlL_at k1, ?_⟩
          refine Acc.app (n := 0) (i := ti29) hA0 (Nat.zero_le _) (List.cons_ne_nil _ _) ?_ ?_ (fun t9 e9 tk9 z0 z1 z2 z3 => ?_)
          · show (List.length _ + 1) * 112 ≤ _; omega
          · show List.length _ + 1 ≤ _; omega
          intro c hc
          rw [IntWalk.i64_in _ (by omega)] at hc
          obtain rfl : c = ((k + 1 : Nat) : Int) := by omega
          refine ⟨g - 1, by omega, k + 1, _, by omega, rfl, h0, ?_⟩
          rw [ht, show rlL (otherL sd (L.take k) ++ [L[k]]) = rlL (otherL sd (L.take k)) ++ [L[k].cs] by unfold rlL; rw [List.map_append]; rfl, hes]
          exact .own _ _ _ (Nat.zero_le _) z1
        · rw [if_neg (fun h => h (bne_eq_false_iff_eq.1 h3)), List.append_nil] at ht
          intro c hc
          rw [IntWalk.i64_in _ (by omega)] at hc
          obtain rfl : c = ((k + 1 : Nat) : Int) := by omega
          refine ⟨g - 1, by omega, k + 1, _, by omega, rfl, h0, ?_⟩
          rw [ht, hes]
          exact hA0
      · skip
        refine ⟨_, h0, ?_⟩
        refine ⟨_, h0, ?_⟩
        first
          | refine .p rfl q5 ?_
          | refine .w (args' := [.sl .no 2 (fldL KN), .sl .no 2 (fldL F), .i sd, .sl .no 8 []]) rfl ⟨.inl (.inl ⟨rfl, rfl⟩), .inl (.inl ⟨rfl, rfl⟩), .inl (.inl ⟨rfl, rfl⟩), .inr ⟨rfl, 8, rfl⟩, trivial⟩ q5 ?_
        refine ⟨_, h0, ?_⟩
        refine ⟨_, h0, ?_⟩
        refine .p rfl q6 ?_
        refine ⟨_, h0, ?_⟩
        refine .p rfl (same13_p F F (by omega) (by omega)) ?_
        refine cnd_split (fun _ => ?_) (fun h => absurd h (by rw [decide_eq_true rfl]; decide))
        refine ⟨_, h0, ?_⟩
        refine .w (args' := [.sl .no 2 (fldL KN), .sl .no 2 (fldL F), .sl .no 5 []]) rfl ⟨.inl (.inl ⟨rfl, rfl⟩), .inl (.inl ⟨rfl, rfl⟩), .inr ⟨rfl, 5, rfl⟩, trivial⟩ q7 ?_
        refine .p rfl (same13_p F F (by omega) (by omega)) ?_
        refine cnd_split (fun _ => ?_) (fun h => absurd h (by rw [decide_eq_true rfl]; decide))
        refine .w (args' := [.sl .no 2 (fldL F), .sl .no 5 []]) rfl ⟨.inl (.inl ⟨rfl, rfl⟩), .inr ⟨rfl, 5, rfl⟩, trivial⟩ q8 ?_
        rcases hX with ⟨he, hX⟩ | ⟨he, hX⟩
        · refine cnd_split (fun _ => ?_) (fun h => absurd (bne_eq_false_iff_eq.1 h) he)
          refine cnd_split (fun _ => ?_) (fun h => absurd (by rw [hX]; rfl) (beq_eq_false_iff_ne.1 h))
          rfl
        · refine cnd_split (fun h => absurd he (bne_iff_ne.1 h)) (fun _ => ?_)
          refine .p rfl (same13_p X F (by rw [hX]; omega) (by omega)) ?_
          exact retb (decide_eq_true hX)
end
end Go.Proofs.YtookaenbpfpegaaGreatDoor
