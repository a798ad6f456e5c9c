/- Bodies of a frame: the program's. No statement of its own. -/
import Derived.Test.YtookaenbpfpegaaDoorDo
set_option linter.unusedSimpArgs false
set_option linter.unusedVariables false
set_option maxRecDepth 100000
namespace Go.Proofs.YtookaenbpfpegaaDoor
open Go.RowKit
theorem runD_le {L : Nat} : ∀ (l : List UInt8) (d : Dc), (runD L d l).n ≤ l.length
  | [], d => Nat.le_refl _
  | b :: r, d => by
    have ih := runD_le (L := L) r (stepD L d b).1
    rw [runD]
    split
    · show 1 ≤ _; simp
    · show (runD L (stepD L d b).1 r).n + 1 ≤ _; simp; exact ih
def mayB (k n lim : Int) : Bool := decide ((1 ≤ k ∧ k ≤ 4) ∧ (0 ≤ n ∧ n ≤ 1099511627776) ∧ 0 ≤ lim ∧ lim ≤ 65536)
section
attribute [local irreducible] vcApp
variable {st : St} {p : Nat} {x : AV} {k n : Int} {R : AV → St → Prop}
theorem may21_p (k n lim : Int) : APure Tryd.prog 9 [.agg [.i k, .i n], .i lim] (.b (mayB k n lim)) [] := by
  obtain ⟨z, hz⟩ : ∃ z, mayB k n lim = z := ⟨_, rfl⟩
  have hq : z = true ↔ (1 ≤ k ∧ k ≤ 4) ∧ (0 ≤ n ∧ n ≤ 1099511627776) ∧ 0 ≤ lim ∧ lim ≤ 65536 := by rw [← hz]; unfold mayB; rw [decide_eq_true_eq]
  have hf : ¬ ((1 ≤ k ∧ k ≤ 4) ∧ (0 ≤ n ∧ n ≤ 1099511627776) ∧ 0 ≤ lim ∧ lim ≤ 65536) → false = z := fun h => by
    cases z with
    | false => rfl
    | true => exact absurd (hq.1 rfl) h
  rw [hz]
  refine APure.of rfl (ACalls.of_vc T_ok mixed Tryd.func9 rfl Tryd.call9 ?_)
  have h0 : ([[AV.i k, .i n]] : List (List AV))[0]? = some [.i k, .i n] := rfl
  refine ⟨_, h0, ?_⟩
  refine cnd_split (fun h1 => ?_) (fun h1 => retb (hf (by have := of_decide_eq_false h1; omega)))
  refine ⟨_, h0, ?_⟩
  refine cnd_split (fun h2 => ?_) (fun h2 => retb (hf (by have := of_decide_eq_false h2; omega)))
  refine ⟨_, h0, ?_⟩
  refine cnd_split (fun h3 => ?_) (fun h3 => retb (hf (by have := of_decide_eq_false h3; omega)))
  refine ⟨_, h0, ?_⟩
  refine cnd_split (fun h4 => ?_) (fun h4 => retb (hf (by have := of_decide_eq_false h4; omega)))
  refine cnd_split (fun h5 => ?_) (fun h5 => retb (hf (by have := of_decide_eq_false h5; omega)))
  have h1 := of_decide_eq_true h1
  have h2 := of_decide_eq_true h2
  have h3 := of_decide_eq_true h3
  have h4 := of_decide_eq_true h4
  have h5 := of_decide_eq_true h5
  refine retb ?_
  by_cases h6 : lim ≤ 65536
  · rw [decide_eq_true h6]; exact (hq.2 (by omega)).symm
  · rw [decide_eq_false h6]; exact hf (by omega)
/-- a body's variable, and its decoder's -/
structure BI (st : St) (p q : Nat) (k : Int) (n left L : Nat) (dn er : Bool) (d : Dc) (ln tr : AV) : Prop where
  h : st.heap[p]? = some [if k = 3 then .ptr q 0 else .nilP, .i k, .i n, .i left, .b dn, .b er]
  d : DI st q L d ln tr
  ne : p ≠ q
theorem newB21_a (k n lim : Int) (h1 : mayB k n lim = false → ∀ st', (∀ r, r < st.heap.length → st'.heap[r]? = st.heap[r]?) → R (.tup [.nilP, .i 1]) st')
    (h2 : mayB k n lim = true → ∀ st' p q (n' L : Nat), n = n' → lim = L → BI st' p q k n' n' L (decide (k = 1 ∨ k = 2 ∧ n = 0)) false Dc.new .nilS .nilS → st'.tk = st.tk → st.heap.length ≤ p → st.heap.length ≤ q → (∀ r, r < st.heap.length → st'.heap[r]? = st.heap[r]?) → R (.tup [.ptr p 0, .i 0]) st') :
    ACalls Tryd.prog 8 [.agg [.i k, .i n], .i lim] st R := by
  have hq : mayB k n lim = true ↔ (1 ≤ k ∧ k ≤ 4) ∧ (0 ≤ n ∧ n ≤ 1099511627776) ∧ 0 ≤ lim ∧ lim ≤ 65536 := by unfold mayB; rw [decide_eq_true_eq]
  have hf : ¬ ((1 ≤ k ∧ k ≤ 4) ∧ (0 ≤ n ∧ n ≤ 1099511627776) ∧ 0 ≤ lim ∧ lim ≤ 65536) → ∀ st', (∀ r, r < st.heap.length → st'.heap[r]? = st.heap[r]?) → R (.tup [.nilP, .i 1]) st' := fun h => h1 (by
    cases hm : mayB k n lim with
    | false => rfl
    | true => exact absurd (hq.1 hm) h)
  refine ACalls.of_vc T_ok mixed Tryd.func8 rfl Tryd.call8 ?_
  refine .s (newD_a lim (fun h => hf (by omega) _ (fun r hr => List.getElem?_append_left hr)) (fun L hL hL2 => ?_))
  have c0 : ((st.heap ++ [[AV.i k, .i n]]) ++ [dcC L Dc.new .nilS .nilS])[st.heap.length]? = some [.i k, .i n] := ap (last_at _ _)
  refine ⟨_, c0, ?_⟩
  refine cnd_split (fun h => hf (by have := of_decide_eq_true h; omega) _ (fun r hr => (List.getElem?_append_left (by simp; omega)).trans (List.getElem?_append_left hr))) (fun b1 => ?_)
  refine ⟨_, c0, ?_⟩
  refine cnd_split (fun h => hf (by have := of_decide_eq_true h; omega) _ (fun r hr => (List.getElem?_append_left (by simp; omega)).trans (List.getElem?_append_left hr))) (fun b2 => ?_)
  refine ⟨_, c0, ?_⟩
  refine cnd_split (fun h => hf (by have := of_decide_eq_true h; omega) _ (fun r hr => (List.getElem?_append_left (by simp; omega)).trans (List.getElem?_append_left hr))) (fun b3 => ?_)
  refine ⟨_, c0, ?_⟩
  refine cnd_split (fun h => hf (by have := of_decide_eq_true h; omega) _ (fun r hr => (List.getElem?_append_left (by simp; omega)).trans (List.getElem?_append_left hr))) (fun b4 => ?_)
  have b1 := of_decide_eq_false b1
  have b2 := of_decide_eq_false b2
  have b3 := of_decide_eq_false b3
  have b4 := of_decide_eq_false b4
  obtain ⟨n', rfl⟩ := Int.eq_ofNat_of_zero_le (show 0 ≤ n by omega)
  have h2 := h2 (hq.2 (by omega))
  refine ⟨_, c0, ?_⟩
  refine ⟨_, c0, ?_⟩
  have c1 := fun (z : List AV) => ap (x := z) c0
  have hl1 : st.heap.length < ((st.heap ++ [[AV.i k, AV.i n']]) ++ [dcC L Dc.new .nilS .nilS]).length := by simp
  have hl2 : (st.heap ++ [[AV.i k, AV.i n']]).length < ((st.heap ++ [[AV.i k, AV.i n']]) ++ [dcC L Dc.new .nilS .nilS]).length := by simp
  have hl3 : st.heap.length ≤ (st.heap ++ [[AV.i k, AV.i n']]).length := by simp
  have hbody := fun (z w : List AV) => st_eq (x := w) (last_at ((st.heap ++ [[AV.i k, AV.i n']]) ++ [dcC L Dc.new .nilS .nilS]) z)
  have hdec : ∀ (z w : List AV), DI ⟨(((st.heap ++ [[AV.i k, AV.i n']]) ++ [dcC L Dc.new .nilS .nilS]) ++ [z]).set ((st.heap ++ [[AV.i k, AV.i n']]) ++ [dcC L Dc.new .nilS .nilS]).length w, st.tk⟩ (st.heap ++ [[AV.i k, AV.i n']]).length L Dc.new .nilS .nilS := fun z w =>
    ⟨st_ne (by omega) (ap (last_at _ _)), .nil, .nil, fun t h => (by cases h), fun t h => (by cases h)⟩
  have hkp : ∀ (z w : List AV) r, r < st.heap.length → ((((st.heap ++ [[AV.i k, AV.i n']]) ++ [dcC L Dc.new .nilS .nilS]) ++ [z]).set ((st.heap ++ [[AV.i k, AV.i n']]) ++ [dcC L Dc.new .nilS .nilS]).length w)[r]? = st.heap[r]? := fun z w r hr => by
    rw [List.getElem?_set_ne (by omega), List.getElem?_append_left (by omega), List.getElem?_append_left (by omega), List.getElem?_append_left (by omega)]
  obtain rfl | rfl | rfl | rfl : k = 1 ∨ k = 2 ∨ k = 3 ∨ k = 4 := by omega
  · refine ⟨_, c1 _, ?_⟩
    refine ⟨_, c1 _, ?_⟩
    refine ⟨_, last_at _ _, ?_⟩
    exact h2 _ _ _ n' L rfl hL ⟨hbody _ _, hdec _ _, Nat.ne_of_gt hl2⟩ rfl (Nat.le_of_lt hl1) hl3 (hkp _ _)
  · refine ⟨_, c1 _, ?_⟩
    refine ⟨_, c1 _, ?_⟩
    refine ⟨_, c1 _, ?_⟩
    refine ⟨_, c1 _, ?_⟩
    refine ⟨_, last_at _ _, ?_⟩
    have hdn : decide ((2 : Int) = 1 ∨ (2 : Int) = 2 ∧ (n' : Int) = 0) = ((n' : Int) == 0) := by
      rw [Bool.eq_iff_iff, decide_eq_true_eq, beq_iff_eq]; omega
    rw [hdn] at h2
    exact h2 _ _ _ n' L rfl hL ⟨hbody _ _, hdec _ _, Nat.ne_of_gt hl2⟩ rfl (Nat.le_of_lt hl1) hl3 (hkp _ _)
  · refine ⟨_, c1 _, ?_⟩
    refine ⟨_, last_at _ _, ?_⟩
    have c2 := fun (z w : List AV) => st_ne (m := ((st.heap ++ [[AV.i 3, AV.i n']]) ++ [dcC L Dc.new .nilS .nilS]).length) (x := w) (by omega) (c1 z)
    refine ⟨_, c2 _ _, ?_⟩
    refine ⟨_, c2 _ _, ?_⟩
    refine ⟨_, st_eq (last_at _ _), ?_⟩
    have h2 := h2 _ _ _ n' L rfl hL ⟨hbody [.nilP, .i 3, .i n', .i n', .b false, .b false] _, hdec _ _, Nat.ne_of_gt hl2⟩ rfl (Nat.le_of_lt hl1) hl3 (hkp _ _)
    rw [← List.set_set (a := [.ptr (st.heap ++ [[AV.i 3, AV.i n']]).length 0, .i 3, .i n', .i n', .b false, .b false])] at h2
    exact h2
  · refine ⟨_, c1 _, ?_⟩
    refine ⟨_, c1 _, ?_⟩
    refine ⟨_, c1 _, ?_⟩
    refine ⟨_, last_at _ _, ?_⟩
    exact h2 _ _ _ n' L rfl hL ⟨hbody _ _, hdec _ _, Nat.ne_of_gt hl2⟩ rfl (Nat.le_of_lt hl1) hl3 (hkp _ _)
theorem feedB_nil {s : ByteArray} (hR : R (.tup [.i 0, .s ⟨#[]⟩, .b false, .i 5]) st) : ACalls Tryd.prog 13 [.nilP, .s s] st R := by
  refine ACalls.of_vc T_ok mixed Tryd.func13 rfl Tryd.call13 ?_
  exact hR
theorem endB_nil (hR : R (.tup [.b false, .i 5]) st) : ACalls Tryd.prog 17 [.nilP] st R := by
  refine ACalls.of_vc T_ok mixed Tryd.func17 rfl Tryd.call17 ?_
  exact hR
theorem doneB_nil (hR : R (.b false) st) : ACalls Tryd.prog 10 [.nilP] st R := by
  refine ACalls.of_vc T_ok mixed Tryd.func10 rfl Tryd.call10 ?_
  exact hR
theorem keptB_nil (hR : R (.i 0) st) : ACalls Tryd.prog 14 [.nilP] st R := by
  refine ACalls.of_vc T_ok mixed Tryd.func14 rfl Tryd.call14 ?_
  exact hR
theorem trlB_nil (hR : R .nilS st) : ACalls Tryd.prog 16 [.nilP] st R := by
  refine ACalls.of_vc T_ok mixed Tryd.func16 rfl Tryd.call16 ?_
  exact hR
variable {left : Nat} {dn er : Bool}
theorem doneB_a (hx : x = .nilP ∨ ∃ q, x = .ptr q 0) (h : st.heap[p]? = some [x, .i k, .i n, .i left, .b dn, .b er]) (hR : R (.b dn) st) : ACalls Tryd.prog 10 [.ptr p 0] st R := by
  rcases hx with rfl | ⟨q, rfl⟩
  all_goals
    refine ACalls.of_vc T_ok mixed Tryd.func10 rfl Tryd.call10 ?_
    refine ⟨_, h, ?_⟩
    exact hR
theorem feedB_done {s : ByteArray} (hx : x = .nilP ∨ ∃ q, x = .ptr q 0) (h : st.heap[p]? = some [x, .i k, .i n, .i left, .b true, .b er]) (hR : R (.tup [.i 0, .s ⟨#[]⟩, .b false, .i 8]) st) : ACalls Tryd.prog 13 [.ptr p 0, .s s] st R := by
  rcases hx with rfl | ⟨q, rfl⟩
  all_goals
    refine ACalls.of_vc T_ok mixed Tryd.func13 rfl Tryd.call13 ?_
    refine ⟨_, h, ?_⟩
    exact hR
theorem feedB_len (s : ByteArray) (hl : left ≤ 1099511627776) (hs : s.size ≤ 70000000000000) (h : st.heap[p]? = some [.nilP, .i 2, .i n, .i left, .b false, .b false])
    (hR : ∀ m, m = min s.size left → R (.tup [.i m, .s (s.extract 0 m), .b (decide (left - m = 0)), .i 0]) ⟨st.heap.set p [.nilP, .i 2, .i n, .i (left - m : Nat), .b (decide (left - m = 0)), .b false], st.tk⟩) : ACalls Tryd.prog 13 [.ptr p 0, .s s] st R := by
  obtain ⟨m, hm⟩ : ∃ m, m = min s.size left := ⟨_, rfl⟩
  have hR := hR m hm
  have hmi : ((fun a b : Int => if b < a then b else a) (s.size : Int) (left : Int)) = (m : Int) := by
    dsimp only
    split <;> omega
  have hz : decide (left - m = 0) = (((left - m : Nat) : Int) == 0) := by
    rw [Bool.eq_iff_iff, decide_eq_true_eq, beq_iff_eq]; omega
  rw [hz, ← List.set_set (a := [.nilP, .i 2, .i n, .i (left - m : Nat), .b false, .b false])] at hR
  refine ACalls.of_vc T_ok mixed Tryd.func13 rfl Tryd.call13 ?_
  refine ⟨_, h, ?_⟩
  refine ⟨_, h, ?_⟩
  refine ⟨_, h, ?_⟩
  refine ⟨_, h, ?_⟩
  refine ⟨_, h, ?_⟩
  intro c hc
  have hc := hc.trans (congrArg (fun z : Int => IntKind.i64.wrap ((left : Int) - z)) hmi)
  rw [IntWalk.i64_in _ (by omega)] at hc
  obtain rfl : c = ((left - m : Nat) : Int) := by omega
  refine ⟨_, h, ?_⟩
  refine ⟨_, st_eq h, ?_⟩
  refine ⟨_, st_eq h, ?_⟩
  refine .e (by kernel_rfl) ?_
  refine ⟨m, hmi, Nat.zero_le _, by omega, ?_⟩
  refine ⟨_, st_eq (st_eq h), ?_⟩
  rw [← hmi] at hR
  exact hR
theorem feedB_close (s : ByteArray) (hs : s.size ≤ 70000000000000) (h : st.heap[p]? = some [.nilP, .i 4, .i n, .i left, .b false, .b false])
    (hR : R (.tup [.i s.size, .s (s.extract 0 s.size), .b false, .i 0]) st) : ACalls Tryd.prog 13 [.ptr p 0, .s s] st R := by
  refine ACalls.of_vc T_ok mixed Tryd.func13 rfl Tryd.call13 ?_
  refine ⟨_, h, ?_⟩
  refine ⟨_, h, ?_⟩
  refine ⟨_, h, ?_⟩
  refine .e (by kernel_rfl) ?_
  refine ⟨s.size, rfl, Nat.zero_le _, Nat.le_refl _, ?_⟩
  refine ⟨_, h, ?_⟩
  exact hR
theorem endB_close (h : st.heap[p]? = some [.nilP, .i 4, .i n, .i left, .b dn, .b er])
    (hR : R (.tup [.b true, .i 0]) ⟨st.heap.set p [.nilP, .i 4, .i n, .i left, .b true, .b er], st.tk⟩) : ACalls Tryd.prog 17 [.ptr p 0] st R := by
  refine ACalls.of_vc T_ok mixed Tryd.func17 rfl Tryd.call17 ?_
  refine ⟨_, h, ?_⟩
  refine ⟨_, h, ?_⟩
  exact hR
end
end Go.Proofs.YtookaenbpfpegaaDoor
