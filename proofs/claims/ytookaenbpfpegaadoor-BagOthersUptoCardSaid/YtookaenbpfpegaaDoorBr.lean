/- Deeds on bags, done by the program and in the document. No statement of its own. -/
import Derived.Test.YtookaenbpfpegaaDoorBj
import Derived.Test.YtookaenbpfpegaaDoorBq
set_option linter.unusedSimpArgs false
set_option linter.unusedVariables false
set_option maxRecDepth 100000
namespace Go.Proofs.YtookaenbpfpegaaDoor
open Go.RowKit
theorem appS_size (s : ByteArray) (l : List ByteArray) : (appW s l).size ≤ s.size + 2 + (joinC comS l).size := by
  unfold appW
  by_cases h0 : l = []
  · rw [if_pos h0]; omega
  · rw [if_neg h0]
    by_cases h1 : allI bcI s = true
    · rw [if_pos h1]; omega
    · rw [if_neg h1, joinC_cons h0, app_size, app_size]
      have := trimRC_size s spcS
      have h5 : comS.size = 2 := rfl
      omega
theorem same13_p (l m : List Fld) (h1 : l.length ≤ 1099511627776) (h2 : m.length ≤ 1099511627776) : APure Tryd.prog 15 [.sl .no 2 (fldL l), .sl .no 2 (fldL m)] (.b (decide (l = m))) [] := by
  have el := fldL_len l
  have em := fldL_len m
  refine APure.of rfl (ACalls.of_vc T_ok mixed Tryd.func15 rfl Tryd.call15 ?_)
  refine cnd_split (fun hd => ?_) (fun hd => ?_)
  · have hd : ¬ ((fldL l).length : Int) = (fldL m).length := by simpa using hd
    exact retb (decide_eq_false (fun e => by subst e; omega)).symm
  · have hd : ((fldL l).length : Int) = (fldL m).length := by simpa using hd
    refine vc_loop [5] (fun g vals st' => ∃ k : Nat, k + g = l.length ∧ vals = [.i k] ∧ ∀ j, j < k → l[j]? = m[j]?) l.length rfl ⟨0, by omega, rfl, fun j h => absurd h (by omega)⟩ ?_
    rintro g vals st' ⟨k, hk, rfl, ha⟩
    refine cnd_split (fun hd2 => ?_) (fun hd2 => ?_)
    · have hd2 := of_decide_eq_true hd2
      have k1 : k < l.length := by omega
      have k2 : k < m.length := by omega
      refine .e (by kernel_rfl) ?_
      refine ⟨k, _, rfl, fldL_at k1, ?_⟩
      refine ⟨k, _, rfl, fldL_at k2, ?_⟩
      refine ⟨by kernel_rfl, fun q hq => ?_⟩
      have hq : q = true ↔ l[k].1 = m[k].1 ∧ l[k].2 = m[k].2 ∧ True := hq
      cases q with
      | false =>
        refine retb (decide_eq_false (fun e => ?_)).symm
        subst e
        have := hq.2 ⟨rfl, rfl, trivial⟩
        cases this
      | true =>
        obtain ⟨e1, e2, _⟩ := hq.1 rfl
        intro c hc
        rw [IntWalk.i64_in _ (by omega)] at hc
        obtain rfl : c = ((k + 1 : Nat) : Int) := by omega
        refine ⟨g - 1, by omega, k + 1, by omega, rfl, fun j hj => ?_⟩
        by_cases hjk : j = k
        · subst hjk; rw [List.getElem?_eq_getElem k1, List.getElem?_eq_getElem k2]; exact congrArg some (Prod.ext e1 e2)
        · exact ha j (by omega)
    · have hd2 := of_decide_eq_false hd2
      refine retb (decide_eq_true (List.ext_getElem? fun j => ?_)).symm
      by_cases hj : j < k
      · exact ha j hj
      · rw [List.getElem?_eq_none (by omega), List.getElem?_eq_none (by omega)]
/-- no text of these is longer -/
def Sz (B : Nat) (l : List Fld) : Prop := ∀ f ∈ l, f.1.size ≤ B ∧ f.2.size ≤ B
noncomputable def deedW (kd : Nat) (n v : ByteArray) (l : List Fld) : List Fld :=
  if kd % 5 = 0 then l ++ [(n, v)] else if kd % 5 = 1 then putW n v l else if kd % 5 = 2 then withoutW v (withoutW n l) else if kd % 5 = 3 then renW n v l else behW n v l
theorem putW_mem {n v : ByteArray} : ∀ {l : List Fld} {f : Fld}, f ∈ putW n v l → f ∈ l ∨ f = (n, v)
  | [], f, h => .inr (List.mem_singleton.1 h)
  | g :: r, f, h => by
    rw [putW] at h
    split at h
    · rcases List.mem_cons.1 h with h | h
      · exact .inr h
      · exact .inl (List.mem_cons_of_mem _ (List.mem_filter.1 h).1)
    · rcases List.mem_cons.1 h with h | h
      · exact .inl (by rw [h]; exact List.mem_cons_self)
      · exact (putW_mem h).imp (List.mem_cons_of_mem _) id
theorem putW_len {n v : ByteArray} : ∀ (l : List Fld), (putW n v l).length ≤ l.length + 1
  | [] => Nat.le_refl _
  | g :: r => by
    rw [putW]
    split
    · have := withoutW_len n r
      simp; omega
    · have := putW_len (n := n) (v := v) r
      simp; omega
theorem behW_or (n v : ByteArray) (l : List Fld) : behW n v l = l ++ [(n, v)] ∨ ∃ i, ∃ hi : i < l.length, behW n v l = l.set i (l[i].1, appW l[i].2 [v]) := by
  by_cases h : ∃ i, IsLast n l i
  · obtain ⟨i, hi⟩ := h
    exact .inr ⟨i, hi.choose, behW_at hi hi.choose⟩
  · left
    unfold behW
    rw [dif_neg h]
theorem deedW_sz {B M kd : Nat} {n v : ByteArray} {l : List Fld} (h : Sz B l) (hn : n.size ≤ M) (hv : v.size ≤ M) (hB : M ≤ B) : Sz (B + M + 2) (deedW kd n v l) := by
  have hnv : ∀ f : Fld, f = (n, v) → f.1.size ≤ B + M + 2 ∧ f.2.size ≤ B + M + 2 := fun f e => by subst e; exact ⟨by show n.size ≤ _; omega, by show v.size ≤ _; omega⟩
  have hl : ∀ f : Fld, f ∈ l → f.1.size ≤ B + M + 2 ∧ f.2.size ≤ B + M + 2 := fun f e => by have := h f e; omega
  intro f hf
  unfold deedW at hf
  split at hf
  · rcases List.mem_append.1 hf with hf | hf
    · exact hl f hf
    · exact hnv f (List.mem_singleton.1 hf)
  split at hf
  · exact (putW_mem hf).elim (hl f) (hnv f)
  split at hf
  · exact hl f (List.mem_filter.1 (List.mem_filter.1 hf).1).1
  split at hf
  · obtain ⟨g, hg, rfl⟩ := List.mem_map.1 hf
    have := hl g hg
    unfold renF
    split
    · exact ⟨by show v.size ≤ _; omega, this.2⟩
    · exact this
  · rcases behW_or n v l with e | ⟨i, hi, e⟩
    · rw [e] at hf
      rcases List.mem_append.1 hf with hf | hf
      · exact hl f hf
      · exact hnv f (List.mem_singleton.1 hf)
    · rw [e] at hf
      rcases List.mem_or_eq_of_mem_set hf with hf | rfl
      · exact hl f hf
      · have h1 := h l[i] (List.getElem_mem hi)
        have h2 := appS_size l[i].2 [v]
        rw [joinC_one] at h2
        exact ⟨by show l[i].1.size ≤ _; omega, by show (appW l[i].2 [v]).size ≤ _; omega⟩
theorem deedW_len (kd : Nat) (n v : ByteArray) (l : List Fld) : (deedW kd n v l).length ≤ l.length + 1 := by
  unfold deedW
  split
  · simp
  split
  · exact putW_len l
  split
  · have h1 := withoutW_len n l
    have h2 := withoutW_len v (withoutW n l)
    omega
  split
  · unfold renW; rw [List.length_map]; omega
  · rcases behW_or n v l with e | ⟨i, hi, e⟩
    · rw [e]; simp
    · rw [e, List.length_set]; omega
theorem tapp {i : TI} {tg : Tk} {ys : List (List AV)} {st : St} {K : AV → St → Prop} (hz : i.zero.all Value.oneCell' = true) (hb : ys.length * i.bytes ≤ 140737488355328) (hm : ys.length ≤ maxLen) (h0 : ys = [] → K (.sl .tight i.size []) st) (h1 : ys ≠ [] → ∀ t e tk', tk'[t]? = some e → K (.sl (.own t e) i.size ys) ⟨st.heap, tk'⟩) : vcApp i (.sl .tight i.size []) (.sl tg i.size ys) st K := by
  unfold vcApp srcA
  simp only [decide_true, hz, Bool.and_self]
  refine ⟨fun e => h0 e, fun hne => ⟨by simpa using hb, by simpa using hm, .inl ?_⟩⟩
  have := h1 hne st.tk.length ([] ++ ys).length (st.tk ++ [([] ++ ys).length]) (by simp)
  simpa using this
theorem NmOk.two {n v : ByteArray} (h : n.size ≤ 1099511627776) (h2 : v.size ≤ 1099511627776) : NmOk [n, v] := by
  refine ⟨by show 2 ≤ 1099511627776; decide, fun x hx => ?_⟩
  rcases List.mem_cons.1 hx with rfl | hx
  · exact h
  · rw [List.mem_singleton.1 hx]; exact h2
theorem HB.tks {st : St} {b : Nat} {r : Option Nat} {l : List Fld} (h : HB st b r l) (tk : List Nat) : HB ⟨st.heap, tk⟩ b r l :=
  h.mv ((Mv.refl (C := fun _ => False) (Nat.zero_le _)).tks (Nat.zero_le _) (fun t h => by omega)) (fun e => e) (fun _ _ e => e)
/-- a row of fields, of whatever make -/
def Rw (a : AV) (l : List Fld) : Prop := a = .sl .no 2 (fldL l) ∨ a = .sl .tight 2 (fldL l) ∨ ∃ t e, a = .sl (.own t e) 2 (fldL l)
section
attribute [local irreducible] vcApp
variable {st : St} {R : AV → St → Prop} {b p cap : Nat} {r : Option Nat}
set_option maxHeartbeats 2000000 in
theorem do_a (kd : Nat) (n v : ByteArray) (a : AV) (l : List Fld) (ha : Rw a l) (hn : n.size ≤ 1000000000) (hv : v.size ≤ 1000000000) (hl : l.length ≤ 100000) (hz : Sz 1000000000 l) (hb : HB st b r l)
    (h : ∀ a' r' st', Rw a' (deedW kd n v l) → HB st' b r' (deedW kd n v l) → BgS st b r st' r' → R (.tup [a', .i 0]) st') : ACalls Tryd.prog 21 [.ptr b 0, a, .agg [.int .u8 kd, .s n, .s v]] st R := by
  have hmx : maxLen = 9223372036854775807 := rfl
  have el := fldL_len l
  have hz1 : ∀ f ∈ l, f.1.size ≤ 1099511627776 := fun f hf => by have := (hz f hf).1; omega
  have hz2 : ∀ f ∈ l, f.1.size ≤ 1099511627776 ∧ f.2.size ≤ 1099511627776 := fun f hf => by have := hz f hf; omega
  have hq : ∀ x, (st.heap ++ [x])[st.heap.length]? = some x := fun x => last_at _ _
  have hb1 : ∀ x, HB ⟨st.heap ++ [x], st.tk⟩ b r l := fun x => hb.mv ((Mv.refl (C := fun _ => False) (Nat.zero_le _)).alloc x) (fun e => e) (fun _ _ e => e)
  have hlb := hb.lt
  have keep : ∀ (x : List AV) st' r', BgS ⟨st.heap ++ [x], st.tk⟩ b r st' r' → st'.heap[st.heap.length]? = some x ∧ BgS st b r st' r' := fun x st' r' hs => by
    have hr : ∀ q, r = some q → q < st.heap.length := fun q e => by subst e; exact hb.rlt
    refine ⟨hs.mv.at' (last_at _ _) (fun e => e.elim (fun e => by omega) (fun e => by have := hr _ e.symm; omega)), ?_⟩
    have m0 : Mv 0 (fun _ => False) st ⟨st.heap ++ [x], st.tk⟩ := (Mv.refl (Nat.zero_le _)).alloc x
    exact (⟨m0.wide (fun _ _ h => h.elim), .inl rfl⟩ : BgS st b r ⟨st.heap ++ [x], st.tk⟩ r).trans hs
  have hmod : ((kd : Int)).tmod 5 = ((kd % 5 : Nat) : Int) := rfl
  have hlt : kd % 5 < 5 := Nat.mod_lt _ (by decide)
  rcases ha with rfl | rfl | ⟨t0, e0, rfl⟩
  all_goals
    refine ACalls.of_vc T_ok mixed Tryd.func21 rfl Tryd.call21 ?_
    refine ⟨_, hq _, ?_⟩
    refine ⟨by decide, ?_⟩
    refine cnd_split (fun h5 => ?_) (fun h5 => ?_)
    · have h5 : kd % 5 = 0 := by have := beq_iff_eq.1 h5; omega
      rw [show deedW kd n v _ = _ from if_pos h5] at h
      refine ⟨_, hq _, ?_⟩
      refine ⟨_, hq _, ?_⟩
      refine .s (addX_a _ [(n, v)] (by simp; omega) (List.cons_ne_nil _ _) (hb1 _) (fun r' st' hb' hs => ?_))
      obtain ⟨hq', hs'⟩ := keep _ _ _ hs
      refine .n (.one 0 (.one 1 (.one 3 (.one 4 (.one 5 (.one 6 (.one 7 (.one 8 (.one 2 (.one 9 (.one 10 .done))))))))))) (by kernel_rfl) ?_
      refine ⟨_, hq', ?_⟩
      refine ⟨_, hq', ?_⟩
      refine tapp (i := ti55) rfl (by rw [el]; show l.length * 32 ≤ _; omega) (by omega) (fun h0 => ?_) (fun hne t1 e1 tk1 ht1 => ?_)
      · have hl0 : l = [] := fldL_nil h0
        refine tapp (i := ti55) rfl (by show 1 * 32 ≤ _; decide) (by show 1 ≤ _; omega) (fun h0 => by cases h0) (fun _ t2 e2 tk2 ht2 => ?_)
        have hs2 : BgS st b r ⟨st'.heap, tk2⟩ r' := ⟨hs'.mv.tks (Nat.zero_le _) (fun t h => by omega), hs'.nw⟩
        exact h _ r' _ (.inr (.inr ⟨t2, e2, by rw [hl0]; rfl⟩)) (hb'.tks tk2) hs2
      · refine Acc.app (n := 0) (i := ti55) (.own t1 e1 _ (Nat.zero_le _) ht1) (Nat.zero_le _) (List.cons_ne_nil _ _) ?_ ?_ (fun t2 e2 tk2 z0 z1 z2 z3 => ?_)
        · show (List.length _ + 1) * 32 ≤ _; omega
        · show List.length _ + 1 ≤ _; omega
        have hs2 : BgS st b r ⟨st'.heap, tk2⟩ r' := ⟨hs'.mv.tks (Nat.zero_le _) (fun t h => by omega), hs'.nw⟩
        exact h _ r' _ (.inr (.inr ⟨t2, e2, by rw [← fldL_app]; rfl⟩)) (hb'.tks tk2) hs2
    have e5 := beq_eq_false_iff_ne.1 h5
    refine cnd_split (fun h6 => ?_) (fun h6 => ?_)
    · have h6 : kd % 5 = 1 := by have := beq_iff_eq.1 h6; omega
      rw [show deedW kd n v _ = putW n v _ by unfold deedW; rw [if_neg (by omega), if_pos h6]] at h
      refine ⟨_, hq _, ?_⟩
      refine ⟨_, hq _, ?_⟩
      refine .s (putX_a n v (by omega) _ (by omega) hz1 (hb1 _) (fun r' st' hb' hs => ?_))
      obtain ⟨hq', hs'⟩ := keep _ _ _ hs
      refine ⟨_, hq', ?_⟩
      refine ⟨_, hq', ?_⟩
      refine .p rfl (put13_p n v (by omega) _ (by omega) hz1) ?_
      exact h _ r' _ (.inl rfl) hb' hs'
    have e6 := beq_eq_false_iff_ne.1 h6
    refine cnd_split (fun h7 => ?_) (fun h7 => ?_)
    · have h7 : kd % 5 = 2 := by have := beq_iff_eq.1 h7; omega
      rw [show deedW kd n v _ = withoutW v (withoutW n _) by unfold deedW; rw [if_neg (by omega), if_neg (by omega), if_pos h7]] at h
      refine ⟨_, hq _, ?_⟩
      refine ⟨_, hq _, ?_⟩
      refine .s (removeX_a [n, v] (.two (by omega) (by omega)) _ (by omega) hz1 (hb1 _) (fun st' hb' hs => ?_))
      obtain ⟨hq', hs'⟩ := keep _ _ _ hs
      rw [keptW_two] at hb' ⊢
      have w1 := withoutW_len n l
      have w2 := withoutW_len v (withoutW n l)
      have hz3 : ∀ f ∈ withoutW n l, f.1.size ≤ 1099511627776 := fun f hf => hz1 f (List.mem_filter.1 hf).1
      refine .x (by kernel_rfl) ?_
      refine ⟨_, hq', ?_⟩
      refine .p rfl (without13_p n (by omega) l (by omega) hz1) ?_
      refine ⟨_, hq', ?_⟩
      refine .p rfl (without13_p v (by omega) _ (by omega) hz3) ?_
      intro c hc
      simp only [fldL_len] at hc
      rw [IntWalk.i64_in _ (by omega)] at hc
      subst hc
      refine cnd_split (fun h9 => absurd rfl (bne_iff_ne.1 h9)) (fun _ => ?_)
      exact h _ _ _ (.inl rfl) hb' hs'
    have e7 := beq_eq_false_iff_ne.1 h7
    refine cnd_split (fun h8 => ?_) (fun h8 => ?_)
    · have h8 : kd % 5 = 3 := by have := beq_iff_eq.1 h8; omega
      rw [show deedW kd n v _ = renW n v _ by unfold deedW; rw [if_neg (by omega), if_neg (by omega), if_neg (by omega), if_pos h8]] at h
      refine ⟨_, hq _, ?_⟩
      refine ⟨_, hq _, ?_⟩
      refine .s (renameX_a n v (by omega) _ (by omega) hz1 (hb1 _) (fun st' hb' hs => ?_))
      obtain ⟨hq', hs'⟩ := keep _ _ _ hs
      refine ⟨_, hq', ?_⟩
      refine .p rfl (vals13_p _ n (by omega) hz2 (by omega)) ?_
      refine ⟨_, hq', ?_⟩
      refine ⟨_, hq', ?_⟩
      refine .p rfl (rename13_p n v (by omega) _ (by omega) hz1) ?_
      refine cnd_split (fun h9 => by have h9 := bne_iff_ne.1 h9; rw [strL_len, ← cntW_vals] at h9; exact absurd rfl h9) (fun _ => ?_)
      exact h _ _ _ (.inl rfl) hb' hs'
    have e8 := beq_eq_false_iff_ne.1 h8
    refine cnd_split (fun h9 => ?_) (fun h9 => ?_)
    · rw [show deedW kd n v _ = behW n v _ by unfold deedW; rw [if_neg (by omega), if_neg (by omega), if_neg (by omega), if_neg (by omega)]] at h
      refine ⟨_, hq _, ?_⟩
      refine ⟨_, hq _, ?_⟩
      refine .s (behindX_a n v (by omega) (by omega) _ (by omega) hz2 (hb1 _) (fun r' st' hb' hs => ?_))
      obtain ⟨hq', hs'⟩ := keep _ _ _ hs
      refine ⟨_, hq', ?_⟩
      refine ⟨_, hq', ?_⟩
      refine .p rfl (behind13_p n v (by omega) (by omega) _ (by omega) hz2) ?_
      exact h _ r' _ (.inl rfl) hb' hs'
    · exfalso
      have e9 := beq_eq_false_iff_ne.1 h9
      omega
end
end Go.Proofs.YtookaenbpfpegaaDoor
