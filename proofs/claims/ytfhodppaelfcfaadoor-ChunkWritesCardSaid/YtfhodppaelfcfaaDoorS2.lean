/- The scanner, over abstract values. No statement of its own. -/
import Derived.Test.YtfhodppaelfcfaaDoorS1
set_option maxRecDepth 100000
namespace Go.Proofs.YtfhodppaelfcfaaDoor
open Go.RowKit

theorem set_id {α : Type} {l : List α} {i : Nat} {v : α} (h : l[i]? = some v) : l.set i v = l := by
  apply List.ext_getElem?
  intro j
  by_cases e : i = j
  · subst e
    rw [List.getElem?_set_self (List.getElem?_eq_some_iff.1 h).1, h]
  · rw [List.getElem?_set_ne e]
theorem emp_iff (s : ByteArray) : s = ⟨#[]⟩ ↔ s.size = 0 := by
  constructor
  · intro h; rw [h]; rfl
  · intro h
    cases s with
    | mk d =>
      have : d.size = 0 := h
      rw [Array.eq_empty_of_size_eq_zero this]

/-- the scanner p of the text s at the place k -/
structure Sc (st : St) (p : Nat) (s : ByteArray) (k : Nat) : Prop where
  at' : st.heap[p]? = some [.s s, .i k]
  le : k ≤ s.size
  max : s.size ≤ maxLen
def St.sc (st : St) (p : Nat) (s : ByteArray) (k : Nat) : St := ⟨st.heap.set p [.s s, .i k], st.tk⟩

section
variable {st : St} {p k : Nat} {s : ByteArray} {R : AV → St → Prop}
theorem Sc.lt (h : Sc st p s k) : p < st.heap.length := (List.getElem?_eq_some_iff.1 h.at').1
theorem Sc.id (h : Sc st p s k) : st.sc p s k = st := by unfold St.sc; rw [set_id h.at']
theorem Sc.sc (h : Sc st p s k) {j : Nat} (hj : j ≤ s.size) : Sc (st.sc p s j) p s j := ⟨by rw [St.sc, List.getElem?_set_self h.lt], hj, h.max⟩
theorem St.sc_sc (st : St) (p : Nat) (s : ByteArray) (j i : Nat) : (st.sc p s j).sc p s i = st.sc p s i := by simp [St.sc, List.set_set]
theorem St.sc_len (st : St) (p : Nat) (s : ByteArray) (j : Nat) : (st.sc p s j).heap.length = st.heap.length := by simp [St.sc]
theorem St.sc_ne {st : St} {p q : Nat} {s : ByteArray} {j : Nat} (h : p ≠ q) : (st.sc p s j).heap[q]? = st.heap[q]? := List.getElem?_set_ne h

theorem new_a (hR : R (.ptr st.heap.length 0) ⟨st.heap ++ [[.s s, .i 0]], st.tk⟩) : ACalls Tryd.prog 63 [.s s] st R := by
  refine ACalls.of_vc T_ok mixed Tryd.func63 rfl Tryd.call63 ?_
  exact hR
theorem at_a (h : Sc st p s k) (hR : R (.i k) st) : ACalls Tryd.prog 111 [.ptr p 0] st R := by
  refine ACalls.of_vc T_ok mixed Tryd.func111 rfl Tryd.call111 ?_
  exact ⟨_, h.at', hR⟩
theorem rest_a (h : Sc st p s k) (hR : R (.s (s.extract k s.size)) st) : ACalls Tryd.prog 118 [.ptr p 0] st R := by
  refine ACalls.of_vc T_ok mixed Tryd.func118 rfl Tryd.call118 ?_
  refine .e (by kernel_rfl) ?_
  refine ⟨_, h.at', ?_⟩
  refine ⟨_, h.at', ?_⟩
  exact ⟨k, rfl, h.le, Nat.le_refl _, hR⟩
theorem ext_len (s : ByteArray) (a b : Nat) (h : b ≤ s.size) : (s.extract a b).size = b - a := by
  rw [ByteArray.size_extract]; omega
theorem end_a (h : Sc st p s k) (hR : R (.b (decide (s.size ≤ k))) st) : ACalls Tryd.prog 69 [.ptr p 0] st R := by
  refine ACalls.of_vc T_ok mixed Tryd.func69 rfl Tryd.call69 ?_
  refine .s (rest_a h ?_)
  intro t ht
  have h2 := ht.trans (emp_iff _)
  rw [ext_len _ _ _ (Nat.le_refl _)] at h2
  have : t = decide (s.size ≤ k) := by
    rw [Bool.eq_iff_iff, h2, decide_eq_true_eq]
    omega
  subst this
  exact hR
theorem peek_a (h : Sc st p s k) (h1 : ∀ hk : k < s.size, R (.tup [.u8 s[k], .b true]) st) (h2 : s.size ≤ k → R (.tup [.int .u8 0, .b false]) st) : ACalls Tryd.prog 112 [.ptr p 0] st R := by
  refine ACalls.of_vc T_ok mixed Tryd.func112 rfl Tryd.call112 ?_
  refine .s (end_a h ?_)
  refine cnd_split (fun hd => ?_) (fun hd => ?_)
  · exact h2 (of_decide_eq_true hd)
  · have hk := of_decide_eq_false hd
    refine .e (by kernel_rfl) ?_
    refine ⟨_, h.at', ?_⟩
    refine ⟨_, h.at', ?_⟩
    exact ⟨k, by omega, rfl, h1 (by omega)⟩
theorem byte_a (h : Sc st p s k) (b : Int) (hR : R (.b (atB s k b)) (st.sc p s (if atB s k b = true then k + 1 else k))) : ACalls Tryd.prog 67 [.ptr p 0, .int .u8 b] st R := by
  refine ACalls.of_vc T_ok mixed Tryd.func67 rfl Tryd.call67 ?_
  refine .s (peek_a h (fun hk => ?_) (fun hk => ?_))
  · rw [atB_lt hk] at hR
    refine cnd_split (fun hd => ?_) (fun hd => ?_)
    · rw [bne, Bool.not_eq_true'] at hd
      rw [hd, if_neg (by decide), h.id] at hR
      exact hR
    · rw [bne, Bool.not_eq_false'] at hd
      rw [hd, if_pos rfl] at hR
      refine ⟨_, h.at', ?_⟩
      intro c hc
      have hm := h.max
      unfold maxLen at hm
      rw [IntWalk.i64_in _ (by omega)] at hc
      subst hc
      exact ⟨_, h.at', hR⟩
  · rw [atB_ge hk, if_neg (by decide), h.id] at hR
    exact hR
theorem back_a (h : Sc st p s k) (i : Nat) (hi : i ≤ k) (hR : R (.b true) (st.sc p s i)) : ACalls Tryd.prog 177 [.ptr p 0, .i i] st R := by
  refine ACalls.of_vc T_ok mixed Tryd.func177 rfl Tryd.call177 ?_
  refine .s (at_a h ?_)
  refine cnd_split (fun hd => ?_) (fun hd => ?_)
  · have := of_decide_eq_true hd; omega
  · exact ⟨_, h.at', hR⟩

/-- a function of bytes -/
def ByteF (f : FuncId) (q : Int → Bool) : Prop := ∀ n : Int, 0 ≤ n → n ≤ 255 → APure Tryd.prog f [.int .u8 n] (.b (q n)) []
theorem while_a {f : FuncId} {q : Int → Bool} (hq : ByteF f q) (h : Sc st p s k) (hR : R (.s (s.extract k (k + tw q s k))) (st.sc p s (k + tw q s k))) : ACalls Tryd.prog 64 [.ptr p 0, .lit (.func (.func f) #[] #[])] st R := by
  have hm := h.max
  unfold maxLen at hm
  refine ACalls.of_vc T_ok mixed Tryd.func64 rfl Tryd.call64 ?_
  refine .s (at_a h ?_)
  refine vc_loop [] (fun g _ st' => ∃ m : Nat, k ≤ m ∧ m + g = s.size ∧ st' = st.sc p s m ∧ ∀ i (hi : i < s.size), k ≤ i → i < m → q (s[i].toNat : Int) = true) (s.size - k) rfl ⟨k, Nat.le_refl _, by have := h.le; omega, h.id.symm, fun i _ h1 h2 => absurd h2 (by omega)⟩ ?_
  rintro g vals _ ⟨m, hkm, hg, rfl, hall⟩
  have hs := h.sc (j := m) (by omega)
  have fin : ((hm' : m < s.size) → q (s[m].toNat : Int) = false) → R (.s (s.extract k m)) (st.sc p s m) := fun hlast => by
    rw [tw_at hall hkm (by omega) hlast] at hR
    exact hR
  refine .s (peek_a hs (fun hk => ?_) (fun hk => ?_))
  · refine .p rfl (hq _ (by omega) (by have := s[m].toNat_lt; omega)) ?_
    refine cnd_split (fun hd => ?_) (fun hd => ?_)
    · refine .e (by kernel_rfl) ?_
      refine ⟨_, hs.at', ?_⟩
      refine ⟨_, hs.at', ?_⟩
      refine ⟨m, rfl, k, rfl, by omega, by omega, ?_⟩
      exact fin fun _ => by simpa using hd
    · refine ⟨_, hs.at', ?_⟩
      intro c hc
      rw [IntWalk.i64_in _ (by omega)] at hc
      subst hc
      refine ⟨_, hs.at', ?_⟩
      refine ⟨g - 1, by omega, m + 1, by omega, by omega, St.sc_sc _ _ _ _ _, fun i hi h1 h2 => ?_⟩
      by_cases e : i = m
      · subst e; simpa using hd
      · exact hall i hi h1 (by omega)
  · refine .e (by kernel_rfl) ?_
    refine ⟨_, hs.at', ?_⟩
    refine ⟨_, hs.at', ?_⟩
    refine ⟨m, rfl, k, rfl, by omega, by omega, ?_⟩
    exact fin fun h => absurd h (by omega)
end
end Go.Proofs.YtfhodppaelfcfaaDoor
