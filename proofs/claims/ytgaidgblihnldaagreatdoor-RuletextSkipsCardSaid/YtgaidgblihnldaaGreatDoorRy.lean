/- A line of a rule, read by the program: what is given up is caught. No statement of its own. -/
import Derived.Test.YtgaidgblihnldaaGreatDoorRx
import Derived.Recover
set_option linter.unusedSimpArgs false
set_option linter.unusedVariables false
set_option maxRecDepth 100000
namespace Go.Proofs.YtgaidgblihnldaaGreatDoor
open Go.RowKit
theorem closure_idle (p q : Value) (w : World) : CallsD Tryz.prog 45 #[p, q] .returning w fun e u' w' => e = .returned (.tuple #[]) ∧ u' = .returning ∧ w' = w := by
  refine callsD_of_wpS Tryz.func45 rfl fun c₀ cs hu => ?_
  apply wpS_seq
  apply wpS_region
  simp [wpOpsS, go_sem, recoverD, hu, Tryz.ntmps45, Exit.thenS]
  apply wpS_seq
  apply wpS_region
  simp [wpOpsS, go_sem, Exit.thenS]
  refine wpS_cond (t := false) (by simp [Act.eval]) ?_
  simp only [Bool.false_eq_true, if_false]
  refine wpS_of_wp (wp_skip ?_)
  cases c₀
  simp_all [bodyPostS, results, Tryz.results45]
theorem FrAt.lits {base : Nat} {J : Nat → Nat → Prop} {st : St} {μ : Nat → Nat} {σ : Nat → Tkt} {w : World} (tm : Array Value) : FrAt base J st μ σ w (tm.toList.map AV.lit) tm := by
  refine ⟨by simp, fun i a v h1 h2 => ?_⟩
  simp only [List.getElem?_map, Option.map_eq_some_iff] at h1
  obtain ⟨x, hx, rfl⟩ := h1
  rw [Array.getElem?_toList, h2] at hx
  cases hx
  exact .lit _
def zc : List AV := [.i 0, .i 0, .s ⟨#[]⟩, .s ⟨#[]⟩, .i 0, .s ⟨#[]⟩, .s ⟨#[]⟩, .nilS]
theorem closure_catch {base : Nat} {J : Nat → Nat → Prop} {w0 : World} {st : St} {μ : Nat → Nat} {σ : Nat → Tkt} {w : World} (hok : Ok base J w0 st μ σ w) (h0 : st.heap[0]? = some zc) (h1 : st.heap[1]? = some [.i 0]) (er : Int) :
    CallsD Tryz.prog 45 #[.pointer (some ⟨μ 0, 0, none⟩), .pointer (some ⟨μ 1, 0, none⟩)] (.panicking (flt er)) w fun e u' w' => e = .returned (.tuple #[]) ∧ settle u' = .returning ∧
      ∃ μ' σ', Ok base J w0 ⟨(st.heap.set 0 zc).set 1 [.i er], st.tk⟩ μ' σ' w' ∧ Ext base J st μ σ w ⟨(st.heap.set 0 zc).set 1 [.i er], st.tk⟩ μ' σ' w' := by
  refine callsD_of_wpS Tryz.func45 rfl fun c₀ cs hu => ?_
  unfold flt at hu
  apply wpS_seq
  apply wpS_region
  simp [wpOpsS, go_sem, recoverD, hu, Tryz.ntmps45, Exit.thenS]
  apply wpS_seq
  apply wpS_region
  simp [wpOpsS, go_sem, Exit.thenS]
  refine wpS_cond (t := true) (by simp [Act.eval]) ?_
  simp only [if_true]
  have f0 : FrAt base J st μ σ w _ _ := FrAt.lits #[Value.pointer (some ⟨μ 0, 0, none⟩), Value.pointer (some ⟨μ 1, 0, none⟩), .iface 88 (.agg #[.int .i64 er]), .iface 88 (.agg #[.int .i64 er]), .iface 88 (.agg #[.int .i64 er]), .bool true, undef, undef, undef, undef]
  have f1 := f0.put (a := ⟨#[Value.pointer (some ⟨μ 0, 0, none⟩), Value.pointer (some ⟨μ 1, 0, none⟩), .iface 88 (.agg #[.int .i64 er]), .iface 88 (.agg #[.int .i64 er]), .iface 88 (.agg #[.int .i64 er]), .bool true, undef, undef, undef, undef], []⟩) (some 0) (.ptr 0 0 (lt_of h0))
  have f2 := f1.put (a := ⟨#[Value.pointer (some ⟨μ 0, 0, none⟩), Value.pointer (some ⟨μ 1, 0, none⟩), .iface 88 (.agg #[.int .i64 er]), .iface 88 (.agg #[.int .i64 er]), .iface 88 (.agg #[.int .i64 er]), .bool true, undef, undef, undef, undef], []⟩) (some 1) (.ptr 1 0 (lt_of h1))
  have f3 : FrAt base J st μ σ w [.ptr 0 0, .ptr 1 0, .lit (.iface 88 (.agg #[.int .i64 er])), .lit (.iface 88 (.agg #[.int .i64 er])), .lit (.iface 88 (.agg #[.int .i64 er])), .b true, .un, .un, .un, .un] _ := f2
  refine wpS_of_wp (wp_mono (vcY_sound (bv := false) (esc := fun _ => false) (D := []) T_ok mixed _ (fun e _ st' => e = .normal ∧ st' = ⟨(st.heap.set 0 zc).set 1 [.i er], st.tk⟩) _ st μ σ _ w ?_ hok f3 rfl) fun e a' w' hr => ?_)
  · refine .e (by kernel_rfl) ?_
    refine ⟨_, h0, ?_⟩
    refine ⟨_, st_ne (x := zc) (by decide) h1, ?_⟩
    exact ⟨rfl, rfl⟩
  · obtain ⟨fr', st', μ', σ', ⟨rfl, rfl⟩, q2, q3, q4, q5⟩ := hr
    refine ⟨q5, _, rfl, .tuple #[], by simp [results, Tryz.results45], rfl, rfl, μ', σ', q2, q3⟩
theorem frame_at {base : Nat} {J : Nat → Nat → Prop} {st : St} {μ : Nat → Nat} {σ : Nat → Tkt} {w : World} {fn : Func} {args : List AV} {vs : Array Value} (hl : args.length = vs.size) (ha : ∀ (j : Nat) a v, args[j]? = some a → vs[j]? = some v → At base J st μ σ w a v) :
    FrAt base J st μ σ w (frame fn args) (vs ++ Array.replicate (fn.ntmps - vs.size) undef) := by
  refine ⟨by simp [frame, hl], fun i a v h1 h2 => ?_⟩
  simp only [frame, List.getElem?_append, hl] at h1
  rw [Array.getElem?_append] at h2
  by_cases hi : i < vs.size
  · rw [if_pos hi] at h1 h2
    exact ha i a v h1 h2
  · rw [if_neg hi] at h1 h2
    rw [List.getElem?_replicate] at h1
    rw [Array.getElem?_replicate] at h2
    split at h1
    · split at h2
      · cases h1; cases h2; exact .lit _
      · rename_i q1 q2; exact absurd q1 q2
    · cases h1
/-- a result, said less of -/
def resV (r' r : AV) : Prop := argW r' r ∨ ∃ us vs, r' = .tup us ∧ r = .tup vs ∧ ArgsW us vs
theorem resV.at {base : Nat} {J : Nat → Nat → Prop} {w0 : World} {st : St} {μ : Nat → Nat} {σ : Nat → Tkt} {w : World} (hok : Ok base J w0 st μ σ w) {r' r : AV} {v : Value} (h : At base J st μ σ w r' v) (hR : resV r' r) : At base J ⟨[], []⟩ (fun _ => 0) (fun _ => ⟨0, 0, 0⟩) w r v := by
  have hi : ∀ g x, Im base J st μ σ g x → g < w.heap.size → Im base J ⟨[], []⟩ (fun _ => 0) (fun _ => ⟨0, 0, 0⟩) g x := fun g x hi _ => ⟨hi.1, fun p hp => by simp at hp, fun t e ht => by simp at ht⟩
  rcases hR with hR | ⟨us, vs, rfl, rfl, hR⟩
  · exact argW_at h hi hR
  · cases h with
    | tup cs zs e1 hr =>
      refine .tup _ zs (hR.length.symm.trans e1) fun j a u hja hju => ?_
      obtain ⟨b, hb, hbw⟩ := hR.get j a hja
      exact argW_at (hr j b u hb hju) hi hbw
theorem Ok.strip0 {base : Nat} {J : Nat → Nat → Prop} {w0 : World} {st : St} {μ : Nat → Nat} {σ : Nat → Tkt} {w : World} (hok : Ok base J w0 st μ σ w) : Ok base J w0 ⟨[], []⟩ (fun _ => 0) (fun _ => ⟨0, 0, 0⟩) w :=
  ⟨hok.bs, hok.below, fun p cs h => by simp at h, fun p q h => by simp at h, fun t e h => by simp at h⟩
theorem APure.ofG {P : Program} {f : FuncId} {args : List AV} {r0 : AV} (hd : r0.res = true) (h : ACalls P f args ⟨[], []⟩ fun r' _ => resV r' r0) : APure P f args r0 [] := by
  refine ⟨hd, h.1, fun J w vs hw hl ha => ?_⟩
  refine (h.2 w.heap.size J w (fun _ => 0) (fun _ => ⟨0, 0, 0⟩) w vs (Ok.none J _ _ w hw) hl ha).mono ?_
  rintro e w' ⟨v, r', st', μ', σ', rfl, hR, hok, hx, hat⟩
  exact ⟨v, _, rfl, hok.strip0, resV.at hok hat hR⟩
theorem res_cell {T : Tab} {a : Nat} {t : TypeId} {fr : Fr} {st : St} {K : AV → Prop} {i : TI} {p off : Nat} (hT : T t = some i) (hf : fr.getD a .un = .ptr p off) (h : ∃ cs, st.heap[p]? = some cs ∧ ldA i cs off K) : resOne T (.cell a t) fr st K := by
  simp only [resOne, hT, hf]
  exact h
theorem ld_all {i : TI} {cs : List AV} {K : AV → Prop} (h : isAggD i.desc = true) (hl : cs.length = i.size) (hK : K (.agg cs)) : ldA i cs 0 K := by
  unfold ldA
  rw [h]
  simp only
  rw [decide_eq_true (by omega)]
  rw [List.drop_zero, List.take_of_length_le (by omega)]
  exact listK_iff.2 hK
theorem parseP_p (s : ByteArray) (hs : s.size ≤ 100000) : APure Tryz.prog 19 [.s s] (.tup [(readRl s).1.av, .i (readRl s).2]) [] := by
  refine ⟨rfl, Tryz.call19, fun J w vs hw hl ha => ?_⟩
  refine calls_of_wp_defers Tryz.func19 rfl ?_
  refine wp_seq (wp_mono (vc_sound T_ok mixed _ (fun e fr st => e = .normal ∧ fr = [.s s, .un, .ptr 0 0, .ptr 1 0, .un, .un, .un, .un, .un, .un, .un, .un] ∧ st = ⟨[zc, [.i 0]], []⟩) (frame Tryz.f19 [.s s]) ⟨[], []⟩ (fun _ => 0) (fun _ => ⟨0, 0, 0⟩) _ w ⟨rfl, rfl, rfl⟩ (Ok.none J _ _ w hw) (frame_at hl ha) rfl) fun e a1 w1 hr => ?_)
  obtain ⟨fr', st', μ1, σ1, ⟨rfl, rfl, rfl⟩, ok1, ext1, hf1, hd1⟩ := hr
  have h2 : At w.heap.size J _ μ1 σ1 w1 (.ptr 0 0) (a1.eval (.tmp 2)) := hf1.ev (.tmp 2)
  have h3 : At w.heap.size J _ μ1 σ1 w1 (.ptr 1 0) (a1.eval (.tmp 3)) := hf1.ev (.tmp 3)
  generalize hv2 : a1.eval (.tmp 2) = v2 at h2
  generalize hv3 : a1.eval (.tmp 3) = v3 at h3
  cases h2
  cases h3
  refine wp_seq (wp_region_list ?_)
  have wn : ∀ (o : Oper) y, o.guard = none → Region.wanted o y = true := fun o y hg => by simp [Region.wanted, hg]
  obtain ⟨V, hV⟩ : ∃ V : Value, V = .func (.func 45) #[] #[.pointer (some ⟨μ1 0, 0, none⟩), .pointer (some ⟨μ1 1, 0, none⟩)] := ⟨_, rfl⟩
  have hsz : a1.tmps.size = 12 := hf1.1.symm
  have hv5 : (a1.put (some 5) V).eval (.tmp 5) = V := by
    simp [Act.eval, Act.put, Array.getD_eq_getD_getElem?, Array.getElem?_setIfInBounds, hsz]
  have r1 : ∀ o : Oper, o.op = .makeFunc (.func 45) #[] #[.tmp 2, .tmp 3] → (execOp a1.eval o).run Tryz.prog w1 = .ok (.value V) w1 := fun o ho => by simp [execOp, ho, Instr.makeFunc, hv2, hv3, hV]
  have r2 : ∀ o : Oper, o.op = .defer { callee := .value (.tmp 5), args := #[], argTypes := #[] } → (execOp (a1.put (some 5) V).eval o).run Tryz.prog w1 = .ok (.defer { target := .fn (.func 45) #[.pointer (some ⟨μ1 0, 0, none⟩), .pointer (some ⟨μ1 1, 0, none⟩)], args := #[] }) w1 := fun o ho => by
    simp [execOp, ho, resolve, hv5.trans hV, Deferred.ofValue]
  simp only [wpList]
  rw [if_pos (wn _ _ rfl)]
  refine .inl ?_
  unfold Oper.wp
  rw [r1 _ rfl]
  simp only [Oper.upon]
  rw [if_pos (wn _ _ rfl)]
  refine .inl ?_
  rw [r2 _ rfl]
  simp only [Oper.upon]
  show Code.wp _ _ _ _ _
  have hf2 : FrAt w.heap.size J _ μ1 σ1 w1 [.s s, .un, .ptr 0 0, .ptr 1 0, .un, .top, .un, .un, .un, .un, .un, .un] (a1.put (some 5) V).tmps := hf1.put (some 5) (.top V)
  have hde : (a1.put (some 5) V).defers = [] := by rw [Act.put_defers', hd1]
  refine wp_mono (vcY_sound (bv := false) (esc := fun _ => false) T_ok mixed _ (fun e fr st' => fr.getD 2 .un = .ptr 0 0 ∧ fr.getD 3 .un = .ptr 1 0 ∧
    ((e = .ret ∧ (readRl s).2 = 0 ∧ ∃ pc, pcI pc (readRl s).1.ps ∧ st'.heap[0]? = some [.i (readRl s).1.sd, .i (readRl s).1.gk, .s (readRl s).1.ga, .s (readRl s).1.gb, .i (readRl s).1.ac, .s (readRl s).1.nm, .s (readRl s).1.un, pc] ∧ st'.heap[1]? = some [.i 0]) ∨
      (∃ er, e = .panic (flt er) ∧ readRl s = (zeroR, er) ∧ st'.heap[0]? = some zc ∧ st'.heap[1]? = some [.i 0]))) _ ⟨[zc, [.i 0]], []⟩ μ1 σ1 _ w1 ?_ ok1 hf2 rfl) fun e a' w' hr => ?_
  · refine .s (new_a ?_)
    refine ⟨by show 2 < 3; decide, ?_⟩
    have hS : Sc ⟨[zc, [.i 0]] ++ [[.s s, .i 0]] ++ [[.ptr 2 0, .b false]], []⟩ 2 s 0 := ⟨rfl, Nat.zero_le _, by unfold maxLen; omega⟩
    refine .x (rule_x (rd := 3) (n := 0) hS hs rfl (by decide) (Nat.zero_le _) (fun x hx st' pc m hpc => ?_) (fun e he hne st' m => ?_))
    · have q0 : st'.heap[0]? = some zc := m.at' rfl (by omega)
      have q1 : st'.heap[1]? = some [.i 0] := m.at' rfl (by omega)
      have fin : ∀ st2 : St, st2.heap[0]? = some [.i x.sd, .i x.gk, .s x.ga, .s x.gb, .i x.ac, .s x.nm, .s x.un, pc] → st2.heap[1]? = some [.i 0] → (readRl s).2 = 0 ∧ ∃ pc, pcI pc (readRl s).1.ps ∧ st2.heap[0]? = some [.i (readRl s).1.sd, .i (readRl s).1.gk, .s (readRl s).1.ga, .s (readRl s).1.gb, .i (readRl s).1.ac, .s (readRl s).1.nm, .s (readRl s).1.un, pc] ∧ st2.heap[1]? = some [.i 0] := fun st2 z0 z1 => by
        rw [hx]
        exact ⟨rfl, pc, hpc, z0, z1⟩
      rcases hpc with rfl | ⟨rfl, hps⟩
      · refine ⟨_, q0, ?_⟩
        refine ⟨_, st_ne (by decide) q1, ?_⟩
        exact ⟨rfl, rfl, .inl ⟨rfl, fin _ (st_ne (by decide) (st_eq q0)) (st_eq (st_ne (by decide) q1))⟩⟩
      · refine ⟨_, q0, ?_⟩
        refine ⟨_, st_ne (by decide) q1, ?_⟩
        exact ⟨rfl, rfl, .inl ⟨rfl, fin _ (st_ne (by decide) (st_eq q0)) (st_eq (st_ne (by decide) q1))⟩⟩
    · exact ⟨rfl, rfl, .inr ⟨e, rfl, he, m.at' rfl (by omega), m.at' rfl (by omega)⟩⟩
  · obtain ⟨fr', st', μ', σ', ⟨g2, g3, hcase⟩, ok', ext', hf', hd'⟩ := hr
    have hd' : a'.defers = [{ target := .fn (.func 45) #[.pointer (some ⟨μ1 0, 0, none⟩), .pointer (some ⟨μ1 1, 0, none⟩)], args := #[] }] := hd'.trans (by rw [hde]; rfl)
    have hinv : ∀ w : World, (invoke (.fn (.func 45) #[.pointer (some ⟨μ1 0, 0, none⟩), .pointer (some ⟨μ1 1, 0, none⟩)]) #[]).run Tryz.prog w = .ok (.enter 45 #[.pointer (some ⟨μ1 0, 0, none⟩), .pointer (some ⟨μ1 1, 0, none⟩)]) w := fun w => by
      simp [invoke, Tryz.call45]
    have m0 : μ' 0 = μ1 0 := ext'.mu 0 (by show 0 < 2; decide)
    have m1 : μ' 1 = μ1 1 := ext'.mu 1 (by show 1 < 2; decide)
    have res : ∀ (st2 : St) (μ2 : Nat → Nat) (σ2 : Nat → Tkt) (w2 : World) (cs : List AV) (er : Int), Ok w.heap.size J w st2 μ2 σ2 w2 → FrAt w.heap.size J st2 μ2 σ2 w2 fr' a'.tmps → st2.heap[0]? = some cs → st2.heap[1]? = some [.i er] → cs.length = 8 → ArgsW [.agg cs, .i er] [(readRl s).1.av, .i (readRl s).2] →
        ∃ v, (results Tryz.f19 a'.tmps).run Tryz.prog w2 = .ok v w2 ∧ ∃ v' σ', Ending.returned v = .returned v' ∧ Ok w.heap.size J w ⟨[], []⟩ (fun _ => 0) σ' w2 ∧ At w.heap.size J ⟨[], []⟩ (fun _ => 0) σ' w2 (.tup [(readRl s).1.av, .i (readRl s).2]) v' := by
      intro st2 μ2 σ2 w2 cs er ok2 f2 h0 h1 hl8 hW
      obtain ⟨v, a, r1, r2, r3⟩ := res_sound (fn := Tryz.f19) (R := fun r _ => r = .tup [.agg cs, .i er]) T_ok ok2 f2 (by
        refine res_cell (i := ti29) rfl g2 ⟨cs, h0, ld_all rfl hl8 ?_⟩
        refine res_cell (i := ti32) rfl g3 ⟨_, h1, ?_⟩
        rfl)
      subst r2
      exact ⟨v, r1, v, _, rfl, ok2.strip0, resV.at ok2 r3 (.inr ⟨_, _, rfl, rfl, hW⟩)⟩
    rcases hcase with ⟨rfl, hz, pc, hpc, h0, h1⟩ | ⟨er, rfl, hz, h0, h1⟩
    · show Leaves _ _ _ _ a'.defers .returning _
      rw [hd']
      refine leaves_cons (by simp) (hinv w') ((closure_idle _ _ w').mono ?_)
      rintro e u' w2 ⟨rfl, rfl, rfl⟩
      refine res st' μ' σ' _ _ 0 ok' hf' h0 h1 rfl ⟨.inl (.inr ⟨_, _, rfl, rfl, .inl ⟨rfl, rfl⟩, .inl ⟨rfl, rfl⟩, .inl ⟨rfl, rfl⟩, .inl ⟨rfl, rfl⟩, .inl ⟨rfl, rfl⟩, .inl ⟨rfl, rfl⟩, .inl ⟨rfl, rfl⟩, hpc.w, trivial⟩), ?_, trivial⟩
      rw [hz]
      exact .inl (.inl ⟨rfl, rfl⟩)
    · show Leaves _ _ _ _ a'.defers (.panicking (flt er)) _
      rw [hd']
      have hc := closure_catch ok' h0 h1 er
      rw [m0, m1] at hc
      refine leaves_cons (by simp) (hinv w') (hc.mono ?_)
      rintro e u' w2 ⟨rfl, hset, μ2, σ2, ok2, ext2⟩
      show Leaves _ _ _ _ [] (settle u') _
      rw [hset]
      refine res _ μ2 σ2 _ zc er ok2 (hf'.ext ext2) (st_ne (by decide) (st_eq h0)) (st_eq (st_ne (by decide) h1)) rfl ?_
      rw [hz]
      exact ⟨.inl (.inr ⟨_, _, rfl, rfl, .inl ⟨rfl, rfl⟩, .inl ⟨rfl, rfl⟩, .inl ⟨rfl, rfl⟩, .inl ⟨rfl, rfl⟩, .inl ⟨rfl, rfl⟩, .inl ⟨rfl, rfl⟩, .inl ⟨rfl, rfl⟩, .inr ⟨rfl, 2, rfl⟩, trivial⟩), .inl (.inl ⟨rfl, rfl⟩), trivial⟩
end Go.Proofs.YtgaidgblihnldaaGreatDoor
