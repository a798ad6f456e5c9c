/- The laws of bags: BagOthers, BagNone. No statement of its own. -/
import Derived.Test.YtookaenbpfpegaaDoorBs
set_option linter.unusedSimpArgs false
set_option linter.unusedVariables false
set_option maxRecDepth 100000
namespace Go.Proofs.YtookaenbpfpegaaDoor
open Go.RowKit
theorem Mv.pre {n : Nat} {st st' : St} (m : Mv n (fun _ => False) st st') : Pre st st' := by
  refine ⟨st'.heap.drop st.heap.length, List.ext_getElem? fun q => ?_⟩
  have := m.len
  by_cases h : q < st.heap.length
  · rw [List.getElem?_append_left h]
    exact m.keep q h (fun e => e)
  · rw [List.getElem?_append_right (by omega), List.getElem?_drop]
    congr 1; omega
theorem stN {cs : List AV} {o n : Nat} {vs : List AV} {L : List AV → Prop} (h : o + n ≤ cs.length) (hL : L (setAll cs o vs)) : (match decide (o + n ≤ cs.length) with | true => listK (setAll cs o vs) L | false => False) := by
  rw [decide_eq_true h]
  exact listK_iff.2 hL
/-- what no name of these has -/
def goneP (n v : ByteArray) (f : Fld) : Bool := !ofB n f && !ofB v f
theorem gone_eq (n v : ByteArray) (l : List Fld) : withoutW v (withoutW n l) = l.filter (goneP n v) := by
  unfold withoutW
  rw [List.filter_filter]
  refine List.filter_congr fun f _ => ?_
  unfold goneP
  rw [Bool.and_comm]
theorem ofB_self (n v : ByteArray) : ofB n (n, v) = true := decide_eq_true rfl
theorem goneP_one {n v : ByteArray} {f : Fld} (h : ofB n f = true) : goneP n v f = false := by unfold goneP; rw [h]; rfl
theorem goneP_two {n v : ByteArray} {f : Fld} (h : ofB v f = true) : goneP n v f = false := by unfold goneP; rw [h, Bool.and_comm]; rfl
theorem gone_without (n v : ByteArray) (l : List Fld) : (withoutW n l).filter (goneP n v) = l.filter (goneP n v) := by
  unfold withoutW
  rw [List.filter_filter]
  refine List.filter_congr fun f _ => ?_
  unfold goneP
  cases ofB n f <;> simp
theorem gone_put (n v : ByteArray) : ∀ l : List Fld, (putW n v l).filter (goneP n v) = l.filter (goneP n v)
  | [] => by
    rw [putW, List.filter_cons, goneP_one (ofB_self n v)]; rfl
  | f :: r => by
    rw [putW]
    split
    · rename_i h
      rw [List.filter_cons, goneP_one (ofB_self n v), List.filter_cons, goneP_one h]
      exact gone_without n v r
    · rw [List.filter_cons, List.filter_cons, gone_put n v r]
theorem gone_ren (n v : ByteArray) (l : List Fld) : (renW n v l).filter (goneP n v) = l.filter (goneP n v) := by
  unfold renW
  induction l with
  | nil => rfl
  | cons f r ih =>
    rw [List.map_cons, List.filter_cons, List.filter_cons, ih]
    cases h : ofB n f with
    | true =>
      have e : renF n v f = (v, f.2) := if_pos h
      rw [e, goneP_two (ofB_self v f.2), goneP_one h]
      rfl
    | false =>
      have e : renF n v f = f := if_neg (by rw [h]; decide)
      rw [e]
theorem gone_set {n v : ByteArray} {l : List Fld} {i : Nat} (hi : i < l.length) (h : ofB n l[i] = true) (x : ByteArray) : (l.set i (l[i].1, x)).filter (goneP n v) = l.filter (goneP n v) := by
  have e1 : l = l.take i ++ l[i] :: l.drop (i + 1) := by rw [← List.drop_eq_getElem_cons hi, List.take_append_drop]
  have e2 : l.set i (l[i].1, x) = l.take i ++ (l[i].1, x) :: l.drop (i + 1) := by
    rw [List.set_eq_take_append_cons_drop, if_pos hi]
  have h2 : ofB n (l[i].1, x) = true := h
  rw [e2]
  conv => rhs; rw [e1]
  rw [List.filter_append, List.filter_append, List.filter_cons, List.filter_cons, goneP_one h, goneP_one h2]
  rfl
theorem gone_beh (n v : ByteArray) (l : List Fld) : (behW n v l).filter (goneP n v) = l.filter (goneP n v) := by
  by_cases h : ∃ i, IsLast n l i
  · obtain ⟨i, hi⟩ := h
    obtain ⟨h1, h2, _⟩ := id hi
    rw [behW_at hi h1]
    exact gone_set h1 h2 _
  · unfold behW
    rw [dif_neg h, List.filter_append, List.filter_cons, goneP_one (ofB_self n v)]
    simp
theorem gone_deed (kd : Nat) (n v : ByteArray) (l : List Fld) : withoutW v (withoutW n (deedW kd n v l)) = withoutW v (withoutW n l) := by
  rw [gone_eq, gone_eq]
  unfold deedW
  split
  · rw [List.filter_append, List.filter_cons, goneP_one (ofB_self n v)]; simp
  split
  · exact gone_put n v l
  split
  · rw [gone_eq, List.filter_filter]
    exact List.filter_congr fun f _ => Bool.and_self _
  split
  · exact gone_ren n v l
  · exact gone_beh n v l
section
variable {st : St} {R : AV → St → Prop} {b p cap : Nat} {r : Option Nat}
theorem listG_a (l : List Fld) (hl : l.length ≤ 1099511627776) (hb : HB st b r l) (h : ∀ a st', Mv 0 (fun _ => False) st st' → ((a = .nilS ∧ l = []) ∨ ((a = .sl .no 2 [] ∨ a = .sl .tight 2 []) ∧ l = []) ∨ ∃ p cap cs, a = .hs p 0 l.length cap 2 ∧ st.heap.length ≤ p ∧ st'.heap[p]? = some cs ∧ l.length * 2 ≤ cs.length) → R a st') : ACalls Tryd.prog 23 [.ptr b 0] st R := by
  have hmx : maxLen = 9223372036854775807 := rfl
  obtain ⟨a, hba, hR, hrb⟩ := hb
  have el := fldL_len l
  obtain ⟨es, hes⟩ : ∃ es, fldL l = es := ⟨_, rfl⟩
  rw [hes] at hR
  cases hR with
  | nil =>
    have hl0 : l = [] := by unfold fldL at hes; exact List.map_eq_nil_iff.1 hes
    refine ACalls.of_vc T_ok mixed Tryd.func23 rfl Tryd.call23 ?_
    refine ⟨_, hba, ?_⟩
    refine .s (.of_vc T_ok mixed Tryd.func39 rfl Tryd.call39 ?_)
    exact h _ _ (.refl (Nat.zero_le _)) (.inl ⟨rfl, hl0⟩)
  | tight =>
    have hl0 : l = [] := by unfold fldL at hes; exact List.map_eq_nil_iff.1 hes
    subst hl0
    refine ACalls.of_vc T_ok mixed Tryd.func23 rfl Tryd.call23 ?_
    refine ⟨_, hba, ?_⟩
    refine .p rfl (clone_p [] hl) ?_
    exact h _ _ (.refl (Nat.zero_le _)) (.inr (.inl ⟨.inl rfl, rfl⟩))
  | hs p cap _ hw =>
    obtain ⟨⟨zs, hp, hz⟩, he, hc⟩ := hw
    refine ACalls.of_vc T_ok mixed Tryd.func23 rfl Tryd.call23 ?_
    refine ⟨_, hba, ?_⟩
    refine .s (.of_vc T_ok mixed Tryd.func39 rfl Tryd.call39 ?_)
    refine ⟨_, _, hp, rows_seen he, ?_⟩
    rw [hes] at el
    have hfl : es.flatten.length = l.length * 2 := by rw [rows_len (fun e hm => (he e hm).1), el]
    refine ⟨fun e => ?_, fun _ => ⟨?_, ?_, .inr (fun x hx => ?_)⟩⟩
    · have : l = [] := List.eq_nil_of_length_eq_zero (by rw [← el, e]; rfl)
      exact h _ _ (.refl (Nat.zero_le _)) (.inr (.inl ⟨.inr rfl, this⟩))
    · show es.length * 32 ≤ _; omega
    · show es.length ≤ _; omega
    · have := h (.hs st.heap.length 0 es.length (es.length + x) 2) ⟨st.heap ++ [es.flatten ++ zerosL (TI.zero ti55) x], st.tk⟩ ((Mv.refl (Nat.zero_le _)).alloc _) (.inr (.inr ⟨st.heap.length, es.length + x, _, by rw [el], Nat.le_refl _, last_at _ _, by rw [List.length_append]; omega⟩))
      exact this
theorem tappY {i : TI} {tg : Tk} {ys : List (List AV)} {K : AV → St → Prop} (hz : i.zero.all Value.oneCell' = true) (hb : ys.length * i.bytes ≤ 140737488355328) (hm : ys.length ≤ maxLen) (h0 : K (.sl .tight i.size ys) st) (h1 : ys ≠ [] → ∀ t e tk', tk'[t]? = some e → K (.sl (.own t e) i.size ys) ⟨st.heap, tk'⟩) : vcApp i (.sl .tight i.size []) (.sl tg i.size ys) st K :=
  tapp hz hb hm (fun e => by subst e; exact h0) h1
attribute [local irreducible] vcApp
set_option maxHeartbeats 4000000 in
theorem bagOthers_p (fs : List Fld) (kd : Nat) (n v : ByteArray) (hf : ∀ f ∈ fs, f.1.size ≤ 1048576 ∧ f.2.size ≤ 1048576) (hn : n.size ≤ 1048576) (hv : v.size ≤ 1048576) :
    APure Tryd.prog 4 [.sl .no 2 (fldL fs), .agg [.int .u8 kd, .s n, .s v]] (.b true) [] := by
  have hmx : maxLen = 9223372036854775807 := rfl
  have h00 : ([[AV.int .u8 kd, .s n, .s v]] : List (List AV))[0]? = some [AV.int .u8 kd, .s n, .s v] := rfl
  have qf := few13_p fs
  have hm0 : (fs.take 20).length ≤ 20 := by rw [List.length_take]; omega
  have hsz0 : Sz 1048576 (fs.take 20) := fun f h => hf f (List.mem_of_mem_take h)
  obtain ⟨l, hl⟩ : ∃ l, l = fs.take 20 := ⟨_, rfl⟩
  rw [← hl] at hm0 hsz0 qf
  have el := fldL_len l
  have hszB : Sz 1000000000 l := fun f h => by have := hsz0 f h; omega
  have hz1 : ∀ f ∈ l, f.1.size ≤ 1099511627776 := fun f hf => by have := (hszB f hf).1; omega
  have hz3 : ∀ f ∈ withoutW n l, f.1.size ≤ 1099511627776 := fun f hf => hz1 f (List.mem_filter.1 hf).1
  have hdl := deedW_len kd n v l
  have hsz4 := deedW_sz (kd := kd) hsz0 hn hv (Nat.le_refl _)
  have hz4 : ∀ f ∈ deedW kd n v l, f.1.size ≤ 1099511627776 := fun f hf => by have := (hsz4 f hf).1; omega
  have hz5 : ∀ f ∈ withoutW n (deedW kd n v l), f.1.size ≤ 1099511627776 := fun f hf => hz4 f (List.mem_filter.1 hf).1
  have w1 := withoutW_len n l
  have w2 := withoutW_len v (withoutW n l)
  have w3 := withoutW_len n (deedW kd n v l)
  have w4 := withoutW_len v (withoutW n (deedW kd n v l))
  refine APure.of rfl ?_
  refine ACalls.of_vc T_ok mixed Tryd.func4 rfl Tryd.call4 ?_
  refine .p rfl awake13_p ?_
  refine .p rfl qf ?_
  refine tappY (i := ti55) rfl (by rw [el]; show l.length * 32 ≤ _; omega) (by omega) ?_ (fun hne t1 e1 tk1 ht1 => ?_)
  · have hRw : Rw (.sl .tight 2 (fldL l)) l := .inr (.inl rfl)
    refine .s (newV_a hRw (by omega) (fun b r st1 m1 hb1 hbl hbr => ?_))
    have h01 := m1.at' h00 (fun e => e)
    refine ⟨_, h01, ?_⟩
    refine .s (do_b kd n v _ l hRw (by omega) (by omega) (by omega) hszB hb1 (fun r2 st2 hb2 hs2 => ?_))
    have hb0 : b ≠ 0 := fun e => by subst e; exact absurd hbl (by show ¬ 1 ≤ 0; decide)
    have hr0 : some 0 ≠ r := fun e => by have := hbr 0 e.symm; exact absurd this (by show ¬ 1 ≤ 0; decide)
    have h02 := hs2.mv.at' h01 (fun e => e.elim (fun e => hb0 e.symm) hr0)
    refine .x (by kernel_rfl) ?_
    refine ⟨_, h02, ?_⟩
    refine .p rfl (without13_p n (by omega) l (by omega) hz1) ?_
    refine ⟨_, h02, ?_⟩
    refine .p rfl (without13_p v (by omega) (withoutW n l) (by omega) hz3) ?_
    refine .n (.one 0 (.one 2 (.one 3 (.one 5 (.one 6 (.one 1 (.one 4 (.one 7 (.one 8 .done))))))))) (by kernel_rfl) ?_
    refine ⟨_, h02, ?_⟩
    refine ⟨_, h02, ?_⟩
    refine .s (listV_a _ (by omega) hb2 (fun st3 m3 => ⟨m3.pre, ?_⟩))
    have hb3 := hb2.mv m3 (fun e => e) (fun _ _ e => e)
    have h03 := m3.at' h02 (fun e => e)
    refine .p rfl (without13_p n (by omega) (deedW kd n v l) (by omega) hz4) ?_
    refine .p rfl (without13_p v (by omega) (withoutW n (deedW kd n v l)) (by omega) hz5) ?_
    refine .p rfl (same13_p _ _ (by omega) (by omega)) ?_
    refine cnd_split (fun h => absurd h (by rw [decide_eq_true (gone_deed kd n v l).symm]; decide)) (fun _ => ?_)
    refine .p rfl qf ?_
    refine .p rfl (same13_p l l (by omega) (by omega)) ?_
    refine cnd_split (fun h => absurd h (by rw [decide_eq_true rfl]; decide)) (fun _ => ?_)
    refine .s (listG_a _ (by omega) hb3 (fun a8 st8 m8 ha8 => ?_))
    have hb8 := hb3.mv m8 (fun e => e) (fun _ _ e => e)
    have h08 := m8.at' h03 (fun e => e)
    rcases ha8 with ⟨rfl, _⟩ | ⟨rfl | rfl, _⟩ | ⟨p, cap, cs, rfl, hpl, hp8, hcs⟩
    · refine vc_loop [10] (fun g vals st' => vals = [.i 0] ∧ st' = st8) 0 rfl ⟨rfl, rfl⟩ ?_
      rintro g vals st' ⟨rfl, rfl⟩
      refine .s (newV_a hRw (by omega) (fun c rc st9 m9 hc9 hcl hcr => ?_))
      have hb9 := hb8.mv m9 (fun e => e) (fun _ _ e => e)
      refine ⟨_, m9.at' h08 (fun e => e), ?_⟩
      refine .s (do_b kd n v _ l hRw (by omega) (by omega) (by omega) hszB hc9 (fun rc2 st10 hc10 hs10 => ?_))
      have hbl8 := hb8.lt
      have hb10 := hb9.mv hs10.mv (fun e => e.elim (fun e => by omega) (fun e => by have := hcr b e.symm; omega)) (fun q hq e => by
        subst hq
        have := hb8.rlt
        exact e.elim (fun e => by omega) (fun e => by have := hcr q e.symm; omega))
      refine .s (listV_a _ (by omega) hb10 (fun st11 m11 => ?_))
      have hc11 := hc10.mv m11 (fun e => e) (fun _ _ e => e)
      refine .s (listV_a _ (by omega) hc11 (fun st12 m12 => ?_))
      refine .p rfl (same13_p _ _ (by omega) (by omega)) ?_
      exact retb (decide_eq_true rfl)
    · refine vc_loop [10] (fun g vals st' => vals = [.i 0] ∧ st' = st8) 0 rfl ⟨rfl, rfl⟩ ?_
      rintro g vals st' ⟨rfl, rfl⟩
      refine .s (newV_a hRw (by omega) (fun c rc st9 m9 hc9 hcl hcr => ?_))
      have hb9 := hb8.mv m9 (fun e => e) (fun _ _ e => e)
      refine ⟨_, m9.at' h08 (fun e => e), ?_⟩
      refine .s (do_b kd n v _ l hRw (by omega) (by omega) (by omega) hszB hc9 (fun rc2 st10 hc10 hs10 => ?_))
      have hbl8 := hb8.lt
      have hb10 := hb9.mv hs10.mv (fun e => e.elim (fun e => by omega) (fun e => by have := hcr b e.symm; omega)) (fun q hq e => by
        subst hq
        have := hb8.rlt
        exact e.elim (fun e => by omega) (fun e => by have := hcr q e.symm; omega))
      refine .s (listV_a _ (by omega) hb10 (fun st11 m11 => ?_))
      have hc11 := hc10.mv m11 (fun e => e) (fun _ _ e => e)
      refine .s (listV_a _ (by omega) hc11 (fun st12 m12 => ?_))
      refine .p rfl (same13_p _ _ (by omega) (by omega)) ?_
      exact retb (decide_eq_true rfl)
    · refine vc_loop [10] (fun g vals st' => vals = [.i 0] ∧ st' = st8) 0 rfl ⟨rfl, rfl⟩ ?_
      rintro g vals st' ⟨rfl, rfl⟩
      refine .s (newV_a hRw (by omega) (fun c rc st9 m9 hc9 hcl hcr => ?_))
      have hb9 := hb8.mv m9 (fun e => e) (fun _ _ e => e)
      refine ⟨_, m9.at' h08 (fun e => e), ?_⟩
      refine .s (do_b kd n v _ l hRw (by omega) (by omega) (by omega) hszB hc9 (fun rc2 st10 hc10 hs10 => ?_))
      have hbl8 := hb8.lt
      have hb10 := hb9.mv hs10.mv (fun e => e.elim (fun e => by omega) (fun e => by have := hcr b e.symm; omega)) (fun q hq e => by
        subst hq
        have := hb8.rlt
        exact e.elim (fun e => by omega) (fun e => by have := hcr q e.symm; omega))
      refine .s (listV_a _ (by omega) hb10 (fun st11 m11 => ?_))
      have hc11 := hc10.mv m11 (fun e => e) (fun _ _ e => e)
      refine .s (listV_a _ (by omega) hc11 (fun st12 m12 => ?_))
      refine .p rfl (same13_p _ _ (by omega) (by omega)) ?_
      exact retb (decide_eq_true rfl)
    · have hbl3 := hb3.lt
      have hr3 : ∀ q, r2 = some q → q < st3.heap.length := fun q e => by subst e; exact hb3.rlt
      have h3p : 0 < st3.heap.length := by omega
      refine vc_loop [10] (fun g vals st' => ∃ (k : Nat) (cs : List AV), k + g = (deedW kd n v l).length ∧ vals = [.i k] ∧ st'.heap[p]? = some cs ∧ (deedW kd n v l).length * 2 ≤ cs.length ∧ st'.heap[0]? = some [.int .u8 kd, .s n, .s v] ∧ HB st' b r2 (deedW kd n v l)) (deedW kd n v l).length rfl ⟨0, cs, by omega, rfl, hp8, hcs, h08, hb8⟩ ?_
      clear hb8 h08
      rintro g vals st9 ⟨k, cs, hk, rfl, hp8, hcs, h08, hb8⟩
      refine cnd_split (fun hd => ?_) (fun hd => ?_)
      · have hd := of_decide_eq_true hd
        refine ⟨k, rfl, by omega, ?_⟩
        refine ⟨_, hp8, stN (o := 0 + k * 2) (n := 2) (vs := [.s _, .s _]) (by omega) ?_⟩
        intro c hc
        rw [IntWalk.i64_in _ (by omega)] at hc
        obtain rfl : c = ((k + 1 : Nat) : Int) := by omega
        refine ⟨g - 1, by omega, k + 1, _, by omega, rfl, st_eq hp8, by show _ ≤ ((cs.set _ _).set _ _).length; rw [List.length_set, List.length_set]; exact hcs, st_ne (by omega) h08, ?_⟩
        exact hb8.mv ((Mv.refl (C := fun q => q = p) (Nat.zero_le _)).set (fun _ => rfl) _) (fun e => by omega) (fun q hq e => by have := hr3 q hq; omega)
      · skip
        refine .s (newV_a hRw (by omega) (fun c rc st9 m9 hc9 hcl hcr => ?_))
        have hb9 := hb8.mv m9 (fun e => e) (fun _ _ e => e)
        refine ⟨_, m9.at' h08 (fun e => e), ?_⟩
        refine .s (do_b kd n v _ l hRw (by omega) (by omega) (by omega) hszB hc9 (fun rc2 st10 hc10 hs10 => ?_))
        have hbl8 := hb8.lt
        have hb10 := hb9.mv hs10.mv (fun e => e.elim (fun e => by omega) (fun e => by have := hcr b e.symm; omega)) (fun q hq e => by
          subst hq
          have := hb8.rlt
          exact e.elim (fun e => by omega) (fun e => by have := hcr q e.symm; omega))
        refine .s (listV_a _ (by omega) hb10 (fun st11 m11 => ?_))
        have hc11 := hc10.mv m11 (fun e => e) (fun _ _ e => e)
        refine .s (listV_a _ (by omega) hc11 (fun st12 m12 => ?_))
        refine .p rfl (same13_p _ _ (by omega) (by omega)) ?_
        exact retb (decide_eq_true rfl)
  · have hRw : Rw (.sl (.own t1 e1) 2 (fldL l)) l := .inr (.inr ⟨t1, e1, rfl⟩)
    refine .s (newV_a hRw (by omega) (fun b r st1 m1 hb1 hbl hbr => ?_))
    have h01 := m1.at' h00 (fun e => e)
    refine ⟨_, h01, ?_⟩
    refine .s (do_b kd n v _ l hRw (by omega) (by omega) (by omega) hszB hb1 (fun r2 st2 hb2 hs2 => ?_))
    have hb0 : b ≠ 0 := fun e => by subst e; exact absurd hbl (by show ¬ 1 ≤ 0; decide)
    have hr0 : some 0 ≠ r := fun e => by have := hbr 0 e.symm; exact absurd this (by show ¬ 1 ≤ 0; decide)
    have h02 := hs2.mv.at' h01 (fun e => e.elim (fun e => hb0 e.symm) hr0)
    refine .x (by kernel_rfl) ?_
    refine ⟨_, h02, ?_⟩
    refine .p rfl (without13_p n (by omega) l (by omega) hz1) ?_
    refine ⟨_, h02, ?_⟩
    refine .p rfl (without13_p v (by omega) (withoutW n l) (by omega) hz3) ?_
    refine .n (.one 0 (.one 2 (.one 3 (.one 5 (.one 6 (.one 1 (.one 4 (.one 7 (.one 8 .done))))))))) (by kernel_rfl) ?_
    refine ⟨_, h02, ?_⟩
    refine ⟨_, h02, ?_⟩
    refine .s (listV_a _ (by omega) hb2 (fun st3 m3 => ⟨m3.pre, ?_⟩))
    have hb3 := hb2.mv m3 (fun e => e) (fun _ _ e => e)
    have h03 := m3.at' h02 (fun e => e)
    refine .p rfl (without13_p n (by omega) (deedW kd n v l) (by omega) hz4) ?_
    refine .p rfl (without13_p v (by omega) (withoutW n (deedW kd n v l)) (by omega) hz5) ?_
    refine .p rfl (same13_p _ _ (by omega) (by omega)) ?_
    refine cnd_split (fun h => absurd h (by rw [decide_eq_true (gone_deed kd n v l).symm]; decide)) (fun _ => ?_)
    refine .p rfl qf ?_
    refine .p rfl (same13_p l l (by omega) (by omega)) ?_
    refine cnd_split (fun h => absurd h (by rw [decide_eq_true rfl]; decide)) (fun _ => ?_)
    refine .s (listG_a _ (by omega) hb3 (fun a8 st8 m8 ha8 => ?_))
    have hb8 := hb3.mv m8 (fun e => e) (fun _ _ e => e)
    have h08 := m8.at' h03 (fun e => e)
    rcases ha8 with ⟨rfl, _⟩ | ⟨rfl | rfl, _⟩ | ⟨p, cap, cs, rfl, hpl, hp8, hcs⟩
    · refine vc_loop [10] (fun g vals st' => vals = [.i 0] ∧ st' = st8) 0 rfl ⟨rfl, rfl⟩ ?_
      rintro g vals st' ⟨rfl, rfl⟩
      refine .s (newV_a hRw (by omega) (fun c rc st9 m9 hc9 hcl hcr => ?_))
      have hb9 := hb8.mv m9 (fun e => e) (fun _ _ e => e)
      refine ⟨_, m9.at' h08 (fun e => e), ?_⟩
      refine .s (do_b kd n v _ l hRw (by omega) (by omega) (by omega) hszB hc9 (fun rc2 st10 hc10 hs10 => ?_))
      have hbl8 := hb8.lt
      have hb10 := hb9.mv hs10.mv (fun e => e.elim (fun e => by omega) (fun e => by have := hcr b e.symm; omega)) (fun q hq e => by
        subst hq
        have := hb8.rlt
        exact e.elim (fun e => by omega) (fun e => by have := hcr q e.symm; omega))
      refine .s (listV_a _ (by omega) hb10 (fun st11 m11 => ?_))
      have hc11 := hc10.mv m11 (fun e => e) (fun _ _ e => e)
      refine .s (listV_a _ (by omega) hc11 (fun st12 m12 => ?_))
      refine .p rfl (same13_p _ _ (by omega) (by omega)) ?_
      exact retb (decide_eq_true rfl)
    · refine vc_loop [10] (fun g vals st' => vals = [.i 0] ∧ st' = st8) 0 rfl ⟨rfl, rfl⟩ ?_
      rintro g vals st' ⟨rfl, rfl⟩
      refine .s (newV_a hRw (by omega) (fun c rc st9 m9 hc9 hcl hcr => ?_))
      have hb9 := hb8.mv m9 (fun e => e) (fun _ _ e => e)
      refine ⟨_, m9.at' h08 (fun e => e), ?_⟩
      refine .s (do_b kd n v _ l hRw (by omega) (by omega) (by omega) hszB hc9 (fun rc2 st10 hc10 hs10 => ?_))
      have hbl8 := hb8.lt
      have hb10 := hb9.mv hs10.mv (fun e => e.elim (fun e => by omega) (fun e => by have := hcr b e.symm; omega)) (fun q hq e => by
        subst hq
        have := hb8.rlt
        exact e.elim (fun e => by omega) (fun e => by have := hcr q e.symm; omega))
      refine .s (listV_a _ (by omega) hb10 (fun st11 m11 => ?_))
      have hc11 := hc10.mv m11 (fun e => e) (fun _ _ e => e)
      refine .s (listV_a _ (by omega) hc11 (fun st12 m12 => ?_))
      refine .p rfl (same13_p _ _ (by omega) (by omega)) ?_
      exact retb (decide_eq_true rfl)
    · refine vc_loop [10] (fun g vals st' => vals = [.i 0] ∧ st' = st8) 0 rfl ⟨rfl, rfl⟩ ?_
      rintro g vals st' ⟨rfl, rfl⟩
      refine .s (newV_a hRw (by omega) (fun c rc st9 m9 hc9 hcl hcr => ?_))
      have hb9 := hb8.mv m9 (fun e => e) (fun _ _ e => e)
      refine ⟨_, m9.at' h08 (fun e => e), ?_⟩
      refine .s (do_b kd n v _ l hRw (by omega) (by omega) (by omega) hszB hc9 (fun rc2 st10 hc10 hs10 => ?_))
      have hbl8 := hb8.lt
      have hb10 := hb9.mv hs10.mv (fun e => e.elim (fun e => by omega) (fun e => by have := hcr b e.symm; omega)) (fun q hq e => by
        subst hq
        have := hb8.rlt
        exact e.elim (fun e => by omega) (fun e => by have := hcr q e.symm; omega))
      refine .s (listV_a _ (by omega) hb10 (fun st11 m11 => ?_))
      have hc11 := hc10.mv m11 (fun e => e) (fun _ _ e => e)
      refine .s (listV_a _ (by omega) hc11 (fun st12 m12 => ?_))
      refine .p rfl (same13_p _ _ (by omega) (by omega)) ?_
      exact retb (decide_eq_true rfl)
    · have hbl3 := hb3.lt
      have hr3 : ∀ q, r2 = some q → q < st3.heap.length := fun q e => by subst e; exact hb3.rlt
      have h3p : 0 < st3.heap.length := by omega
      refine vc_loop [10] (fun g vals st' => ∃ (k : Nat) (cs : List AV), k + g = (deedW kd n v l).length ∧ vals = [.i k] ∧ st'.heap[p]? = some cs ∧ (deedW kd n v l).length * 2 ≤ cs.length ∧ st'.heap[0]? = some [.int .u8 kd, .s n, .s v] ∧ HB st' b r2 (deedW kd n v l)) (deedW kd n v l).length rfl ⟨0, cs, by omega, rfl, hp8, hcs, h08, hb8⟩ ?_
      clear hb8 h08
      rintro g vals st9 ⟨k, cs, hk, rfl, hp8, hcs, h08, hb8⟩
      refine cnd_split (fun hd => ?_) (fun hd => ?_)
      · have hd := of_decide_eq_true hd
        refine ⟨k, rfl, by omega, ?_⟩
        refine ⟨_, hp8, stN (o := 0 + k * 2) (n := 2) (vs := [.s _, .s _]) (by omega) ?_⟩
        intro c hc
        rw [IntWalk.i64_in _ (by omega)] at hc
        obtain rfl : c = ((k + 1 : Nat) : Int) := by omega
        refine ⟨g - 1, by omega, k + 1, _, by omega, rfl, st_eq hp8, by show _ ≤ ((cs.set _ _).set _ _).length; rw [List.length_set, List.length_set]; exact hcs, st_ne (by omega) h08, ?_⟩
        exact hb8.mv ((Mv.refl (C := fun q => q = p) (Nat.zero_le _)).set (fun _ => rfl) _) (fun e => by omega) (fun q hq e => by have := hr3 q hq; omega)
      · skip
        refine .s (newV_a hRw (by omega) (fun c rc st9 m9 hc9 hcl hcr => ?_))
        have hb9 := hb8.mv m9 (fun e => e) (fun _ _ e => e)
        refine ⟨_, m9.at' h08 (fun e => e), ?_⟩
        refine .s (do_b kd n v _ l hRw (by omega) (by omega) (by omega) hszB hc9 (fun rc2 st10 hc10 hs10 => ?_))
        have hbl8 := hb8.lt
        have hb10 := hb9.mv hs10.mv (fun e => e.elim (fun e => by omega) (fun e => by have := hcr b e.symm; omega)) (fun q hq e => by
          subst hq
          have := hb8.rlt
          exact e.elim (fun e => by omega) (fun e => by have := hcr q e.symm; omega))
        refine .s (listV_a _ (by omega) hb10 (fun st11 m11 => ?_))
        have hc11 := hc10.mv m11 (fun e => e) (fun _ _ e => e)
        refine .s (listV_a _ (by omega) hc11 (fun st12 m12 => ?_))
        refine .p rfl (same13_p _ _ (by omega) (by omega)) ?_
        exact retb (decide_eq_true rfl)
end
end Go.Proofs.YtookaenbpfpegaaDoor
