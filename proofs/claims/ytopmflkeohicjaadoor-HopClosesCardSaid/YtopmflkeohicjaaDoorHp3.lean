/- Fields of some names are deleted. No statement of its own. -/
import Derived.Test.YtopmflkeohicjaaDoorHp2
set_option maxRecDepth 100000
namespace Go.Proofs.YtopmflkeohicjaaDoor
open Go.RowKit
theorem upd_app (h : List (List AV)) (x y z : List AV) {q : Nat} {c : List AV} (hq : (h ++ [x])[q]? = some c) (hne : q ≠ h.length) : ((h ++ [y]).set h.length z)[q]? = some c := by
  rw [last_set]
  have hl := (List.getElem?_eq_some_iff.1 hq).1
  simp at hl
  rw [List.getElem?_append_left (by omega)] at hq ⊢
  exact hq
section
variable {st : St} {R : AV → St → Prop} {p q b cap : Nat}
set_option maxHeartbeats 2000000 in
theorem delete_a {tg : Tk} (names : List ByteArray) (hn : NmOk names) (l : List Fld) (zs : List AV) (hl : l.length ≤ 1099511627776) (hz : ∀ f ∈ l, f.1.size ≤ 1099511627776) (hc : l.length ≤ cap) (hp : st.heap[p]? = some (fl l ++ zs)) (hq : st.heap[q]? = some [.sl tg 1 (strL names)]) (hpq : q ≠ p)
    (h : ∀ st' zs', st.heap.length ≤ st'.heap.length → (∀ x, x < st.heap.length → x ≠ p → st'.heap[x]? = st.heap[x]?) → st'.heap[p]? = some (fl (keptW names l) ++ zs') → R (.hs p 0 (keptW names l).length cap 2) st') :
    ACalls Tryd.prog 112 [.hs p 0 l.length cap 2, .fn (.func 113) [] [.ptr q 0]] st R := by
  have hmx : maxLen = 9223372036854775807 := rfl
  refine ACalls.of_vc T_ok mixed Tryd.func112 rfl Tryd.call112 ?_
  refine .s (indexF_a names hn l zs hl hz hp hq fun v st1 hP hv => ?_)
  have keep1 : ∀ x, x < st.heap.length → x ≠ p → st1.heap[x]? = st.heap[x]? := fun x hx _ => by
    rw [List.getElem?_eq_getElem hx]
    exact hP.at' (List.getElem?_eq_getElem hx)
  rcases hv with ⟨rfl, hall⟩ | ⟨k, hk, rfl, hone, hbef⟩
  · have := h st1 zs hP.lenH keep1
    rw [keptW_all hall] at this
    exact this (hP.at' hp)
  · intro c hc1
    rw [IntWalk.i64_in _ (by omega)] at hc1
    obtain rfl : c = ((k + 1 : Nat) : Int) := by omega
    have hqlt := (List.getElem?_eq_some_iff.1 hq).1
    have kb : keptW names (l.take k) = l.take k := keptW_all fun i hi => by
      rw [List.length_take] at hi
      rw [List.getElem_take]
      exact hbef i (by omega) (by omega)
    have k0 := keptW_snoc names l k hk
    rw [if_pos hone, List.append_nil, kb] at k0
    refine vc_loop [5, 6] (fun g vals st' => ∃ (i j : Nat) (r : List Fld), j + g = l.length ∧ vals = [.i i, .i j] ∧ i < j ∧ r.length = l.length ∧ r.take i = keptW names (l.take j) ∧ r.drop j = l.drop j ∧ st'.heap[p]? = some (fl r ++ zs) ∧ st.heap.length ≤ st'.heap.length ∧ ∀ x, x < st.heap.length → x ≠ p → st'.heap[x]? = st.heap[x]?) (l.length - (k + 1)) rfl ⟨k, k + 1, l, by omega, rfl, by omega, rfl, k0.symm, rfl, hP.at' hp, hP.lenH, keep1⟩ ?_
    rintro g vals st2 ⟨i, j, r, hj, rfl, hij, hrl, hrt, hrd, hp2, hlen, hkeep⟩
    refine cnd_split (fun hd => ?_) (fun hd => ?_)
    · have hd := of_decide_eq_true hd
      have j1 : j < l.length := by omega
      have j2 : j < r.length := by omega
      have hrj : r[j] = l[j] := by
        have := congrArg (fun z => z[0]?) hrd
        simpa [j1, j2] using this
      have hq2 : st2.heap[q]? = some [.sl tg 1 (strL names)] := (hkeep q hqlt hpq).trans hq
      have hq2lt := (List.getElem?_eq_some_iff.1 hq2).1
      have hp2lt := (List.getElem?_eq_some_iff.1 hp2).1
      have sz := hz l[j] (List.getElem_mem j1)
      have hs := keptW_snoc names l j j1
      refine ⟨j, rfl, j1, ?_⟩
      refine ⟨_, hp2, ld_fld j2 ?_⟩
      rw [hrj]
      refine ⟨_, last_at _ _, ?_⟩
      refine ⟨_, last_upd _ _ _, ?_⟩
      refine .s (rm1_a names hn (by omega) (upd_app _ [] _ _ ((List.getElem?_append_left hq2lt).trans hq2) (by omega)) ?_)
      refine cnd_split (fun h3 => ?_) (fun h3 => ?_)
      · rw [Bool.not_eq_true'] at h3
        rw [if_neg (by rw [h3]; decide)] at hs
        refine ⟨_, (List.getElem?_append_left (by simp)).trans (last_upd _ _ _), ?_⟩
        refine ⟨i, rfl, by omega, ?_⟩
        refine ⟨_, (List.getElem?_append_left (by simp; omega)).trans (upd_app _ [] _ _ ((List.getElem?_append_left hp2lt).trans hp2) (by omega)), st_fld (by omega) ?_⟩
        intro c hc2
        rw [IntWalk.i64_in _ (by omega)] at hc2
        obtain rfl : c = ((i + 1 : Nat) : Int) := by omega
        intro c hc2
        rw [IntWalk.i64_in _ (by omega)] at hc2
        obtain rfl : c = ((j + 1 : Nat) : Int) := by omega
        refine ⟨g - 1, by omega, i + 1, j + 1, r.set i l[j], by omega, rfl, by omega, by rw [List.length_set]; exact hrl, ?_, ?_, ?_, ?_, fun x hx hxp => ?_⟩
        · rw [hs, ← hrt, List.take_succ_eq_append_getElem (by rw [List.length_set]; omega), List.getElem_set_self, List.take_set_of_le (Nat.le_refl _)]
        · rw [List.drop_set_of_lt (by omega), ← List.drop_drop, ← List.drop_drop, hrd]
        · exact List.getElem?_set_self (by simp; omega)
        · simp; omega
        · show (List.set _ _ _)[x]? = _
          rw [List.getElem?_set_ne (fun e => hxp e.symm), last_set, List.getElem?_append_left (by simp; omega), List.getElem?_append_left (by omega)]
          exact hkeep x hx hxp
      · rw [Bool.not_eq_false'] at h3
        rw [if_pos h3, List.append_nil] at hs
        intro c hc2
        rw [IntWalk.i64_in _ (by omega)] at hc2
        obtain rfl : c = ((j + 1 : Nat) : Int) := by omega
        refine ⟨g - 1, by omega, i, j + 1, r, by omega, rfl, by omega, hrl, by rw [hs, hrt], by rw [← List.drop_drop, ← List.drop_drop, hrd], ?_, ?_, fun x hx hxp => ?_⟩
        · exact (List.getElem?_append_left (by simp; omega)).trans (upd_app _ [] _ _ ((List.getElem?_append_left hp2lt).trans hp2) (by omega))
        · simp; omega
        · show (_ ++ _)[x]? = _
          rw [last_set, List.getElem?_append_left (by simp; omega), List.getElem?_append_left (by omega)]
          exact hkeep x hx hxp
    · have hd := of_decide_eq_false hd
      have hjl : j = l.length := by omega
      subst hjl
      rw [List.take_of_length_le (Nat.le_refl _)] at hrt
      have hi : i = (keptW names l).length := by rw [← hrt, List.length_take]; omega
      refine ⟨i, rfl, by omega, hc, fun lo hlo => ?_⟩
      obtain ⟨c1, zs', c2⟩ := clear_fl (r := r) (zs := zs) (i := i) (cap := cap) (lo := lo) (n := l.length - i) (by omega) (by omega) (by omega) hlo (TI.zero ti75) rfl
      refine ⟨_, hp2, c1, ?_⟩
      refine ⟨i, rfl, Nat.zero_le _, by omega, fun lo2 hlo2 => ?_⟩
      obtain rfl : lo2 = 0 := by
        rw [hlo2]
        split <;> rfl
      have hfin := h ⟨st2.heap.set p (setAll (fl r ++ zs) lo (zerosL (TI.zero ti75) (l.length - i))), st2.tk⟩ zs' (by simpa using hlen) (fun x hx hxp => (List.getElem?_set_ne (fun e => hxp e.symm)).trans (hkeep x hx hxp)) (by
        show (List.set _ _ _)[p]? = _
        rw [List.getElem?_set_self (List.getElem?_eq_some_iff.1 hp2).1, c2, hrt])
      rw [← hi] at hfin
      exact hfin
theorem deleteE_a (a : AV) (ha : a = .nilS ∨ a = .sl .tight 2 []) (f : AV) (hf : ∃ g us vs, f = .fn g us vs) (h : R a st) : ACalls Tryd.prog 112 [a, f] st R := by
  obtain ⟨g, us, vs, rfl⟩ := hf
  have key : ∀ a : AV, (a = .nilS ∨ a = .sl .tight 2 []) → ∀ R : AV → St → Prop, R (.i (-1)) st → ACalls Tryd.prog 108 [a, .fn g us vs] st R := by
    rintro a (rfl | rfl) R h
    · refine ACalls.of_vc T_ok mixed Tryd.func108 rfl Tryd.call108 ?_
      refine vc_loop [8] (fun g vals st' => vals = [.i 0] ∧ st' = st) 0 rfl ⟨rfl, rfl⟩ ?_
      rintro g vals st' ⟨rfl, rfl⟩
      exact h
    · refine ACalls.of_vc T_ok mixed Tryd.func108 rfl Tryd.call108 ?_
      refine vc_loop [8] (fun g vals st' => vals = [.i 0] ∧ st' = st) 0 rfl ⟨rfl, rfl⟩ ?_
      rintro g vals st' ⟨rfl, rfl⟩
      exact h
  rcases ha with rfl | rfl
  · refine ACalls.of_vc T_ok mixed Tryd.func112 rfl Tryd.call112 ?_
    refine .s (key _ (.inl rfl) _ ?_)
    exact h
  · refine ACalls.of_vc T_ok mixed Tryd.func112 rfl Tryd.call112 ?_
    refine .s (key _ (.inr rfl) _ ?_)
    exact h
/-- fields of some names are gone from a bag -/
theorem remove_a {tg : Tk} (names : List ByteArray) (hn : NmOk names) (l : List Fld) (hl : l.length ≤ 1099511627776) (hz : ∀ f ∈ l, f.1.size ≤ 1099511627776) (hb : HBag st b l)
    (h : ∀ st', HBag st' b (keptW names l) → R (.i ((l.length : Int) - (keptW names l).length)) st') :
    ACalls Tryd.prog 65 [.ptr b 0, .sl tg 1 (strL names)] st R := by
  have hmx : maxLen = 9223372036854775807 := rfl
  obtain ⟨a, hba, hR⟩ := hb
  have hblt := (List.getElem?_eq_some_iff.1 hba).1
  have hba1 : ∀ x, (st.heap ++ [x])[b]? = some [a] := fun x => (List.getElem?_append_left hblt).trans hba
  have kl : (keptW names l).length ≤ l.length := List.length_filter_le _ _
  cases hR with
  | nil =>
    refine ACalls.of_vc T_ok mixed Tryd.func65 rfl Tryd.call65 ?_
    refine ⟨_, hba1 _, ?_⟩
    refine ⟨_, hba1 _, ?_⟩
    refine .s (deleteE_a _ (.inl rfl) _ ⟨_, _, _, rfl⟩ ?_)
    refine ⟨_, hba1 _, ?_⟩
    refine ⟨_, List.getElem?_set_self (List.getElem?_eq_some_iff.1 (hba1 _)).1, ?_⟩
    intro c hc1
    rw [IntWalk.i64_in _ (by simp)] at hc1
    obtain rfl : c = 0 := by simpa using hc1
    refine h _ ?_
    exact ⟨_, List.getElem?_set_self (List.getElem?_eq_some_iff.1 (hba1 _)).1, .nil⟩
  | tight =>
    refine ACalls.of_vc T_ok mixed Tryd.func65 rfl Tryd.call65 ?_
    refine ⟨_, hba1 _, ?_⟩
    refine ⟨_, hba1 _, ?_⟩
    refine .s (deleteE_a _ (.inr rfl) _ ⟨_, _, _, rfl⟩ ?_)
    refine ⟨_, hba1 _, ?_⟩
    refine ⟨_, List.getElem?_set_self (List.getElem?_eq_some_iff.1 (hba1 _)).1, ?_⟩
    intro c hc1
    rw [IntWalk.i64_in _ (by simp)] at hc1
    obtain rfl : c = 0 := by simpa using hc1
    refine h _ ?_
    exact ⟨_, List.getElem?_set_self (List.getElem?_eq_some_iff.1 (hba1 _)).1, .tight⟩
  | hs p cap l zs hp hc hpb =>
    have hplt := (List.getElem?_eq_some_iff.1 hp).1
    refine ACalls.of_vc T_ok mixed Tryd.func65 rfl Tryd.call65 ?_
    refine ⟨_, hba1 _, ?_⟩
    refine ⟨_, hba1 _, ?_⟩
    refine .s (delete_a (st := ⟨st.heap ++ _, st.tk⟩) (q := st.heap.length) names hn l zs hl hz hc ((List.getElem?_append_left hplt).trans hp) (last_at _ _) (by omega) fun st' zs' hlen hkeep hp' => ?_)
    have hb' : st'.heap[b]? = some [.hs p 0 l.length cap 2] := (hkeep b (by simp; omega) (fun e => hpb e.symm)).trans (hba1 _)
    have hb'lt := (List.getElem?_eq_some_iff.1 hb').1
    refine ⟨_, hb', ?_⟩
    refine ⟨_, List.getElem?_set_self hb'lt, ?_⟩
    intro c hc1
    rw [IntWalk.i64_in _ (by omega)] at hc1
    subst hc1
    exact h _ ⟨_, List.getElem?_set_self hb'lt, .hs p cap (keptW names l) zs' ((List.getElem?_set_ne (fun e => hpb e.symm)).trans hp') (by omega) hpb⟩
/-- a bag's fields, copied -/
theorem listH_a (l : List Fld) (hl : l.length ≤ 1099511627776) (hb : HBag st b l) (h : ∀ a st', Gr st st' → (a = .nilS ∧ l = [] ∨ (∃ tg, a = .sl tg 2 (fldL l))) → R a st') : ACalls Tryd.prog 57 [.ptr b 0] st R := by
  have hmx : maxLen = 9223372036854775807 := rfl
  obtain ⟨a, hba, hR⟩ := hb
  cases hR with
  | nil =>
    refine ACalls.of_vc T_ok mixed Tryd.func57 rfl Tryd.call57 ?_
    refine ⟨_, hba, ?_⟩
    refine .s (.of_vc T_ok mixed Tryd.func102 rfl Tryd.call102 ?_)
    exact h _ _ (.refl _) (.inl ⟨rfl, rfl⟩)
  | tight =>
    refine ACalls.of_vc T_ok mixed Tryd.func57 rfl Tryd.call57 ?_
    refine ⟨_, hba, ?_⟩
    refine .p rfl (clone_p [] hl) ?_
    exact h _ _ (.refl _) (.inr ⟨_, rfl⟩)
  | hs p cap l zs hp hc hpb =>
    refine ACalls.of_vc T_ok mixed Tryd.func57 rfl Tryd.call57 ?_
    refine ⟨_, hba, ?_⟩
    refine .s (.of_vc T_ok mixed Tryd.func102 rfl Tryd.call102 ?_)
    have el := fldL_len l
    refine ⟨_, _, hp, fl_seen l zs, ?_⟩
    refine ⟨fun e => ?_, fun _ => ⟨?_, ?_, .inl ?_⟩⟩
    · have : l = [] := List.eq_nil_of_length_eq_zero (by rw [← el, e]; rfl)
      exact h _ _ (.refl _) (.inr ⟨.tight, by rw [e]; rfl⟩)
    · show (fldL l).length * 32 ≤ _; omega
    · show (fldL l).length ≤ _; omega
    · exact h _ _ ⟨⟨[], by simp⟩, by simp, fun t ht => List.getElem?_append_left ht⟩ (.inr ⟨_, rfl⟩)
end
end Go.Proofs.YtopmflkeohicjaaDoor
