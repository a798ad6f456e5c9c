/- Names among others; rows that are one's own variables. No statement of its own. -/
import Derived.Test.YtopmflkeohicjaaDoorPa1
set_option maxRecDepth 100000
namespace Go.Proofs.YtopmflkeohicjaaDoor
open Go.RowKit
theorem Pre.lenH {a b : St} (h : Pre a b) : a.heap.length ≤ b.heap.length := by
  obtain ⟨l, h⟩ := h
  rw [h, List.length_append]; omega
/-- is it a name of these, in any case? -/
def oneW (name : ByteArray) (names : List ByteArray) : Bool := names.any fun s => decide (foldB s = foldB name)
theorem oneW_true {name : ByteArray} {names : List ByteArray} {k : Nat} (hk : k < names.length) (h : decide (foldB names[k] = foldB name) = true) : oneW name names = true := List.any_eq_true.2 ⟨_, List.getElem_mem hk, h⟩
theorem oneW_false {name : ByteArray} {names : List ByteArray} (h : ∀ i (hi : i < names.length), decide (foldB names[i] = foldB name) = false) : oneW name names = false := List.any_eq_false.2 fun x hx => by
  obtain ⟨i, hi, rfl⟩ := List.getElem_of_mem hx
  rw [h i hi]; decide
structure NmOk (l : List ByteArray) : Prop where
  len : l.length ≤ 1099511627776
  size : ∀ x ∈ l, x.size ≤ 1099511627776
section
variable {st : St} {R : AV → St → Prop} {q : Nat}
theorem one1_a {s name : ByteArray} (hs : s.size ≤ maxLen) (hn : name.size ≤ maxLen) (hq : st.heap[q]? = some [.s name]) (h : R (.b (decide (foldB s = foldB name))) st) : ACalls Tryd.prog 149 [.s s, .ptr q 0] st R := by
  refine ACalls.of_vc T_ok mixed Tryd.func149 rfl Tryd.call149 ?_
  refine ⟨_, hq, ?_⟩
  refine .p rfl (sameO_p s name hs hn) ?_
  exact h
theorem indexS_a {tg : Tk} {name : ByteArray} (names : List ByteArray) (hl : NmOk names) (hn : name.size ≤ maxLen) (hq : st.heap[q]? = some [.s name]) (h : ∀ v : Int, decide (v ≥ 0) = oneW name names → R (.i v) st) :
    ACalls Tryd.prog 173 [.sl tg 1 (strL names), .fn (.func 149) [] [.ptr q 0]] st R := by
  have hmx : maxLen = 9223372036854775807 := rfl
  have el := strL_len names
  have hnl := hl.len
  refine ACalls.of_vc T_ok mixed Tryd.func173 rfl Tryd.call173 ?_
  refine vc_loop [8] (fun g vals st' => ∃ k : Nat, k + g = names.length ∧ vals = [.i k] ∧ st' = st ∧ ∀ i (hi : i < names.length), i < k → decide (foldB names[i] = foldB name) = false) names.length rfl ⟨0, by omega, rfl, rfl, fun i _ h => absurd h (by omega)⟩ ?_
  rintro g vals st' ⟨k, hk, rfl, rfl, hall⟩
  refine cnd_split (fun hd => ?_) (fun hd => ?_)
  · have hd := of_decide_eq_true hd
    have k1 : k < names.length := by omega
    have sz := hl.size names[k] (List.getElem_mem k1)
    refine ⟨k, _, rfl, strL_at k1, ?_⟩
    refine .s (one1_a (by omega) hn hq ?_)
    refine cnd_split (fun h2 => ?_) (fun h2 => ?_)
    · exact h k (by rw [oneW_true k1 h2]; exact decide_eq_true (by omega))
    · intro c hc
      rw [IntWalk.i64_in _ (by omega)] at hc
      obtain rfl : c = ((k + 1 : Nat) : Int) := by omega
      refine ⟨g - 1, by omega, k + 1, by omega, rfl, rfl, fun i hi hik => ?_⟩
      by_cases e : i = k
      · subst e; exact h2
      · exact hall i hi (by omega)
  · have hd := of_decide_eq_false hd
    exact h (-1) (by rw [oneW_false fun i hi => hall i hi (by omega)]; rfl)
end
theorem one_w (name : ByteArray) (names : List ByteArray) (hl : NmOk names) (hn : name.size ≤ maxLen) : APure Tryd.prog 114 [.s name, .sl .no 1 (strL names)] (.b (oneW name names)) [] := by
  refine APure.of rfl (ACalls.of_vc T_ok mixed Tryd.func114 rfl Tryd.call114 ?_)
  refine .s (.of_vc T_ok mixed Tryd.func148 rfl Tryd.call148 ?_)
  refine .s (indexS_a names hl hn rfl fun v hv => ?_)
  exact retb hv
def memB (l : List ByteArray) (t : ByteArray) : Bool := l.any fun x => decide (x = t)
theorem memB_true {l : List ByteArray} {t : ByteArray} (h : t ∈ l) : memB l t = true := List.any_eq_true.2 ⟨t, h, decide_eq_true rfl⟩
theorem memB_false {l : List ByteArray} {t : ByteArray} (h : t ∉ l) : memB l t = false := List.any_eq_false.2 fun x hx e => h (of_decide_eq_true e ▸ hx)
theorem first_mem : ∀ {l : List ByteArray} {t : ByteArray}, t ∈ l → ∃ (k : Nat) (hk : k < l.length), l[k] = t ∧ ∀ i (hi : i < l.length), i < k → l[i] ≠ t
  | x :: r, t, h => by
    by_cases e : x = t
    · exact ⟨0, by simp, e, fun i _ h => absurd h (by omega)⟩
    · obtain ⟨k, hk, h1, h2⟩ := first_mem (l := r) ((List.mem_cons.1 h).resolve_left (fun e' => e e'.symm))
      refine ⟨k + 1, by simp; omega, by simpa using h1, fun i hi hik => ?_⟩
      cases i with
      | zero => exact e
      | succ i => simpa using h2 i (by simpa using hi) (by omega)
/-- is a text among these? -/
theorem index_p (l : List ByteArray) (t : ByteArray) (hl : l.length ≤ 1099511627776) : ∃ v : Int, decide (v ≥ 0) = memB l t ∧ APure Tryd.prog 139 [.sl .no 1 (strL l), .s t] (.i v) [] := by
  have el := strL_len l
  have key : ∀ v : Int, (v = -1 ∧ t ∉ l) ∨ (∃ (k : Nat) (hk : k < l.length), v = k ∧ l[k] = t ∧ ∀ i (hi : i < l.length), i < k → l[i] ≠ t) → APure Tryd.prog 139 [.sl .no 1 (strL l), .s t] (.i v) [] := by
    intro v hv
    refine APure.of rfl (ACalls.of_vc T_ok mixed Tryd.func139 rfl Tryd.call139 ?_)
    refine vc_loop [8] (fun g vals st' => ∃ k : Nat, k + g = l.length ∧ vals = [.i k] ∧ ∀ i (hi : i < l.length), i < k → l[i] ≠ t) l.length rfl ⟨0, by omega, rfl, fun i _ h => absurd h (by omega)⟩ ?_
    rintro g vals st' ⟨k, hk, rfl, hall⟩
    refine cnd_split (fun hd => ?_) (fun hd => ?_)
    · have hd := of_decide_eq_true hd
      have k1 : k < l.length := by omega
      refine ⟨k, _, rfl, strL_at k1, ?_⟩
      intro b hb
      cases b with
      | true =>
        have e := hb.1 rfl
        rcases hv with ⟨_, hn⟩ | ⟨j, hj, rfl, hjt, hjn⟩
        · exact absurd (by rw [e]; exact List.getElem_mem k1) hn
        · have : k = j := by
            rcases Nat.lt_trichotomy k j with h | h | h
            · exact absurd e.symm (hjn k k1 h)
            · exact h
            · exact absurd hjt (hall j hj h)
          subst this
          rfl
      | false =>
        have hne : ¬ t = l[k] := fun e => by have := hb.2 e; cases this
        intro c hc
        rw [IntWalk.i64_in _ (by omega)] at hc
        obtain rfl : c = ((k + 1 : Nat) : Int) := by omega
        refine ⟨g - 1, by omega, k + 1, by omega, rfl, fun i hi hik => ?_⟩
        by_cases e : i = k
        · subst e; exact fun h => hne h.symm
        · exact hall i hi (by omega)
    · have hd := of_decide_eq_false hd
      rcases hv with ⟨rfl, _⟩ | ⟨j, hj, rfl, hjt, hjn⟩
      · rfl
      · exact absurd hjt (hall j hj (by omega))
  by_cases hm : t ∈ l
  · have := first_mem hm
    obtain ⟨k, hk, h1, h2⟩ := this
    exact ⟨k, by rw [memB_true hm]; exact decide_eq_true (by omega), key k (.inr ⟨k, hk, rfl, h1, h2⟩)⟩
  · exact ⟨-1, by rw [memB_false hm]; rfl, key (-1) (.inl ⟨rfl, hm⟩)⟩
theorem contains_p (l : List ByteArray) (t : ByteArray) (hl : l.length ≤ 1099511627776) : APure Tryd.prog 98 [.sl .no 1 (strL l), .s t] (.b (memB l t)) [] := by
  obtain ⟨v, hv, hp⟩ := index_p l t hl
  refine APure.of rfl (ACalls.of_vc T_ok mixed Tryd.func98 rfl Tryd.call98 ?_)
  refine .p rfl hp ?_
  exact retb hv
end Go.Proofs.YtopmflkeohicjaaDoor
