/- Bodies that go on, in a frame of their own: the writer, by the program and by the document. No statement of its own. -/
import Derived.Test.YthcjiflmhjagiaaGreatDoorEd
set_option linter.unusedSimpArgs false
set_option linter.unusedVariables false
set_option maxRecDepth 100000
namespace Go.Proofs.YthcjiflmhjagiaaGreatDoor
open Go.RowKit
section
attribute [local irreducible] vcApp
variable {st : St} {p e size : Nat} {k n left : Int} {dn : Bool} {x : AV} {R : AV → St → Prop}
theorem ready42_t (h : st.heap[p]? = some [x, .i k, .i n, .i left, .b true]) (hR : R (.i 8) st) : ACalls Tryz.prog 31 [.ptr p 0] st R := by
  refine ACalls.of_vc T_ok mixed Tryz.func31 rfl Tryz.call31 ?_
  refine ⟨_, h, ?_⟩
  exact hR
theorem ready42_f (h : st.heap[p]? = some [x, .i k, .i n, .i left, .b false]) (hR : R (.i 0) st) : ACalls Tryz.prog 31 [.ptr p 0] st R := by
  refine ACalls.of_vc T_ok mixed Tryz.func31 rfl Tryz.call31 ?_
  refine ⟨_, h, ?_⟩
  exact hR
theorem ready42_nil (hR : R (.i 5) st) : ACalls Tryz.prog 31 [.nilP] st R := by
  refine ACalls.of_vc T_ok mixed Tryz.func31 rfl Tryz.call31 ?_
  exact hR
theorem put42_nil {s : ByteArray} (hR : R (.tup [.s ⟨#[]⟩, .i 5]) st) : ACalls Tryz.prog 16 [.nilP, .s s] st R := by
  refine ACalls.of_vc T_ok mixed Tryz.func16 rfl Tryz.call16 ?_
  refine .s (ready42_nil ?_)
  exact hR
theorem put42_done {s : ByteArray} (h : st.heap[p]? = some [x, .i k, .i n, .i left, .b true]) (hR : R (.tup [.s ⟨#[]⟩, .i 8]) st) : ACalls Tryz.prog 16 [.ptr p 0, .s s] st R := by
  refine ACalls.of_vc T_ok mixed Tryz.func16 rfl Tryz.call16 ?_
  refine .s (ready42_t h ?_)
  exact hR
theorem end42_nil (hR : R (.tup [.s ⟨#[]⟩, .i 5]) st) : ACalls Tryz.prog 17 [.nilP, .nilS] st R := by
  refine ACalls.of_vc T_ok mixed Tryz.func17 rfl Tryz.call17 ?_
  refine .s (ready42_nil ?_)
  exact hR
/-- a text put, where there are no chunks -/
theorem put42_len {s : ByteArray} (hk : k = 1 ∨ k = 2) (h : st.heap[p]? = some [.nilP, .i k, .i n, .i left, .b false]) (hl : 0 ≤ left ∧ left < 9223372036854775808) (hs : s.size ≤ 1000000)
    (h1 : left < s.size → R (.tup [.s ⟨#[]⟩, .i 3]) st) (h2 : (s.size : Int) ≤ left → ∀ st', st'.heap[p]? = some [.nilP, .i k, .i n, .i (left - s.size), .b false] → Mv 0 (· = p) st st' → R (.tup [.s s, .i 0]) st') : ACalls Tryz.prog 16 [.ptr p 0, .s s] st R := by
  have m0 : ∀ y, Mv 0 (fun q => q = p) st ⟨st.heap.set p y, st.tk⟩ := fun y => (Mv.refl (C := fun q => q = p) (Nat.zero_le _)).set (fun _ => rfl) _
  rcases hk with rfl | rfl
  · refine ACalls.of_vc T_ok mixed Tryz.func16 rfl Tryz.call16 ?_
    refine .s (ready42_f h ?_)
    refine ⟨_, h, ?_⟩
    refine ⟨_, h, ?_⟩
    refine cnd_split (fun hd => ?_) (fun hd => ?_)
    · exact h1 (of_decide_eq_true hd)
    · have hd := of_decide_eq_false hd
      refine ⟨_, h, ?_⟩
      intro c hc
      rw [IntWalk.i64_in _ (by omega)] at hc
      subst hc
      refine ⟨_, h, ?_⟩
      exact h2 (by omega) _ (st_eq h) (m0 _)
  · refine ACalls.of_vc T_ok mixed Tryz.func16 rfl Tryz.call16 ?_
    refine .s (ready42_f h ?_)
    refine ⟨_, h, ?_⟩
    refine ⟨_, h, ?_⟩
    refine cnd_split (fun hd => ?_) (fun hd => ?_)
    · exact h1 (of_decide_eq_true hd)
    · have hd := of_decide_eq_false hd
      refine ⟨_, h, ?_⟩
      intro c hc
      rw [IntWalk.i64_in _ (by omega)] at hc
      subst hc
      refine ⟨_, h, ?_⟩
      exact h2 (by omega) _ (st_eq h) (m0 _)
theorem put42_close {s : ByteArray} (h : st.heap[p]? = some [x, .i 4, .i n, .i left, .b false]) (hR : R (.tup [.s s, .i 0]) st) : ACalls Tryz.prog 16 [.ptr p 0, .s s] st R := by
  refine ACalls.of_vc T_ok mixed Tryz.func16 rfl Tryz.call16 ?_
  refine .s (ready42_f h ?_)
  refine ⟨_, h, ?_⟩
  exact hR
theorem put42_chunk {s buf : ByteArray} (h : st.heap[p]? = some [(.ptr e 0), .i 3, .i n, .i left, .b false]) (h1 : 1 ≤ size) (h2 : size ≤ 65536) (hs : (buf ++ s).size ≤ 1000000) (he : st.heap[e]? = some [.i size, .s buf, .b false])
    (hR : ∀ st', Mv 0 (· = e) st st' → st'.heap[e]? = some [.i size, .s (restE size (buf ++ s)), .b false] → R (.tup [.s (putE size (buf ++ s)), .i 0]) st') : ACalls Tryz.prog 16 [.ptr p 0, .s s] st R := by
  refine ACalls.of_vc T_ok mixed Tryz.func16 rfl Tryz.call16 ?_
  refine .s (ready42_f h ?_)
  refine ⟨_, h, ?_⟩
  refine ⟨_, h, ?_⟩
  refine .s (put20_a s h1 h2 hs he (fun st2 m2 h3 => ?_))
  exact hR _ m2 h3
/-- the end, where there are no chunks -/
theorem end42_n {a : AV} (ha : a = .nilS ∨ ∃ es, a = .sl .no 2 es) (hk : k ≠ 3) (h : st.heap[p]? = some [.nilP, .i k, .i n, .i left, .b false]) (hR : ∀ st', st'.heap[p]? = some [.nilP, .i k, .i n, .i left, .b (decide (left ≤ 0))] → Mv 0 (· = p) st st' → R (.tup [.s ⟨#[]⟩, .i (if 0 < left then 6 else 0)]) st') : ACalls Tryz.prog 17 [.ptr p 0, a] st R := by
  have m0 : ∀ y, Mv 0 (fun q => q = p) st ⟨st.heap.set p y, st.tk⟩ := fun y => (Mv.refl (C := fun q => q = p) (Nat.zero_le _)).set (fun _ => rfl) _
  rcases ha with rfl | ⟨es, rfl⟩
  · refine ACalls.of_vc T_ok mixed Tryz.func17 rfl Tryz.call17 ?_
    refine .s (ready42_f h ?_)
    refine ⟨_, h, ?_⟩
    refine cnd_split (fun h3 => absurd (beq_iff_eq.1 h3) hk) (fun _ => ?_)
    refine ⟨_, h, ?_⟩
    refine cnd_split (fun hd => ?_) (fun hd => ?_)
    · have hd := of_decide_eq_true hd
      refine ⟨_, h, ?_⟩
      have := hR _ (by rw [decide_eq_false (by omega)]; exact st_eq h) (m0 _)
      rw [if_pos hd] at this
      exact this
    · have hd := of_decide_eq_false hd
      refine ⟨_, h, ?_⟩
      have := hR _ (by rw [decide_eq_true (by omega)]; exact st_eq h) (m0 _)
      rw [if_neg hd] at this
      exact this
  · refine ACalls.of_vc T_ok mixed Tryz.func17 rfl Tryz.call17 ?_
    refine .s (ready42_f h ?_)
    refine ⟨_, h, ?_⟩
    refine cnd_split (fun h3 => absurd (beq_iff_eq.1 h3) hk) (fun _ => ?_)
    refine ⟨_, h, ?_⟩
    refine cnd_split (fun hd => ?_) (fun hd => ?_)
    · have hd := of_decide_eq_true hd
      refine ⟨_, h, ?_⟩
      have := hR _ (by rw [decide_eq_false (by omega)]; exact st_eq h) (m0 _)
      rw [if_pos hd] at this
      exact this
    · have hd := of_decide_eq_false hd
      refine ⟨_, h, ?_⟩
      have := hR _ (by rw [decide_eq_true (by omega)]; exact st_eq h) (m0 _)
      rw [if_neg hd] at this
      exact this
theorem end42_c0 {buf : ByteArray} (hpe : p ≠ e) (h : st.heap[p]? = some [(.ptr e 0), .i 3, .i n, .i left, .b false]) (hb : buf.size ≤ 10000000) (he : st.heap[e]? = some [.i size, .s buf, .b false])
    (hR : ∀ st', Mv 0 (fun q => q = p ∨ q = e) st st' → st'.heap[p]? = some [(.ptr e 0), .i 3, .i n, .i left, .b true] → R (.tup [.s (pieceW buf ++ (lastW []).1), .i 0]) st') : ACalls Tryz.prog 17 [.ptr p 0, .nilS] st R := by
  refine ACalls.of_vc T_ok mixed Tryz.func17 rfl Tryz.call17 ?_
  refine .s (ready42_f h ?_)
  refine ⟨_, h, ?_⟩
  refine ⟨_, h, ?_⟩
  refine .s (end20_n hb he (fun st2 m2 h2 => ?_))
  have h3 := m2.at' h (fun e => hpe e)
  refine ⟨_, h3, ?_⟩
  exact hR _ ((m2.wide (fun q _ e => .inr e)).set (fun _ => .inl rfl) _) (st_eq h3)
theorem end42_c {buf : ByteArray} (l : List Fld) (hl : l.length ≤ 1000) (hz : ∀ f ∈ l, f.1.size ≤ 1100000 ∧ f.2.size ≤ 1100000) (hpe : p ≠ e) (h : st.heap[p]? = some [(.ptr e 0), .i 3, .i n, .i left, .b false]) (hb : buf.size ≤ 10000000) (he : st.heap[e]? = some [.i size, .s buf, .b false])
    (hR1 : (lastW l).2 ≠ 0 → ∀ st', R (.tup [.s ⟨#[]⟩, .i (lastW l).2]) st')
    (hR2 : (lastW l).2 = 0 → ∀ st', R (.tup [.s (pieceW buf ++ (lastW l).1), .i 0]) st') : ACalls Tryz.prog 17 [.ptr p 0, .sl .no 2 (fldL l)] st R := by
  refine ACalls.of_vc T_ok mixed Tryz.func17 rfl Tryz.call17 ?_
  refine .s (ready42_f h ?_)
  refine ⟨_, h, ?_⟩
  refine ⟨_, h, ?_⟩
  refine .s (end20_a l hl hz hb he (fun h1 => ?_) (fun h1 st2 m2 h2 => ?_))
  · refine ⟨_, h, ?_⟩
    exact hR1 h1 _
  · have h3 := m2.at' h (fun e => hpe e)
    refine ⟨_, h3, ?_⟩
    exact hR2 h1 _
/-- may there be such a writer? -/
def mayW (k n size : Int) : Bool := decide ((1 ≤ k ∧ k ≤ 4) ∧ 0 ≤ n ∧ 1 ≤ size ∧ size ≤ 65536)
theorem new42_k {size : Int} (h1 : mayW k n size = false → ∀ st', Mv 0 (fun _ => False) st st' → R (.tup [.nilP, .i 1]) st')
    (h2 : mayW k n size = true → ∀ st', Mv 0 (fun _ => False) st st' → ∀ e p left x, p ≠ e → st'.heap[p]? = some [x, .i k, .i n, .i left, .b false] → (k = 3 → x = .ptr e 0 ∧ st'.heap[e]? = some [.i size, .s ⟨#[]⟩, .b false]) → (k ≠ 3 → x = .nilP) → left = (if k = 2 then n else 0) → p < st'.heap.length → st.heap.length ≤ p → (k = 3 → st.heap.length ≤ e) → R (.tup [.ptr p 0, .i 0]) st') :
    ACalls Tryz.prog 14 [.agg [.i k, .i n], .i size] st R := by
  have mA : ∀ a, Mv 0 (fun _ => False) st ⟨st.heap ++ [a], st.tk⟩ := fun a => (Mv.refl (C := fun _ => False) (Nat.zero_le _)).alloc a
  have mB : ∀ a b, Mv 0 (fun _ => False) st ⟨st.heap ++ [a] ++ [b], st.tk⟩ := fun a b => (mA a).alloc b
  have mC : ∀ b c, Mv 0 (fun _ => False) st ⟨st.heap ++ [[AV.i k, AV.i n]] ++ [b] ++ [c], st.tk⟩ := fun b c => (mB _ b).alloc c
  have mD : ∀ b c d, Mv 0 (fun _ => False) st ⟨(st.heap ++ [[AV.i k, AV.i n]] ++ [b] ++ [c]).set (st.heap ++ [[AV.i k, AV.i n]] ++ [b]).length d, st.tk⟩ := fun b c d => (mC b c).set (fun h => by simp at h; omega) d
  refine ACalls.of_vc T_ok mixed Tryz.func14 rfl Tryz.call14 ?_
  refine .s (new20_a size (fun h => ?_) (fun h => ?_))
  · exact h1 (decide_eq_false (by omega)) _ (by first | exact (mA _) | exact (mB _ _))
  have r0 : ∀ cs : List AV, (st.heap ++ [[.i k, .i n]] ++ [cs])[st.heap.length]? = some [.i k, .i n] := fun cs => ap (last_at _ _)
  refine ⟨_, r0 _, ?_⟩
  refine cnd_split (fun h3 => ?_) (fun h3 => ?_)
  · have h3 := of_decide_eq_true h3
    exact h1 (decide_eq_false (by omega)) _ (by first | exact (mA _) | exact (mB _ _))
  have h3 := of_decide_eq_false h3
  refine ⟨_, r0 _, ?_⟩
  refine cnd_split (fun h4 => ?_) (fun h4 => ?_)
  · have h4 := of_decide_eq_true h4
    exact h1 (decide_eq_false (by omega)) _ (by first | exact (mA _) | exact (mB _ _))
  have h4 := of_decide_eq_false h4
  refine ⟨_, r0 _, ?_⟩
  refine cnd_split (fun h5 => ?_) (fun h5 => ?_)
  · have h5 := of_decide_eq_true h5
    exact h1 (decide_eq_false (by omega)) _ (by first | exact (mA _) | exact (mB _ _))
  have h5 := of_decide_eq_false h5
  have hm : mayW k n size = true := decide_eq_true (by omega)
  refine ⟨_, r0 _, ?_⟩
  have r1 : ∀ cs cs2 : List AV, (st.heap ++ [[.i k, .i n]] ++ [cs] ++ [cs2])[st.heap.length]? = some [.i k, .i n] := fun cs cs2 => ap (r0 cs)
  refine ⟨_, r1 _ _, ?_⟩
  refine cnd_split (fun h6 => ?_) (fun h6 => ?_)
  · have h6 : k = 3 := beq_iff_eq.1 h6
    refine ⟨_, last_at _ _, ?_⟩
    exact h2 hm _ (mD _ _ _) _ _ 0 _ (by simp) (st_eq (last_at _ _)) (fun _ => ⟨rfl, st_ne (by simp) (ap (last_at _ _))⟩) (fun h => absurd h6 h) (by rw [if_neg (by omega)]) (by simp) (by simp) (fun _ => by simp)
  · have h6 : k ≠ 3 := beq_eq_false_iff_ne.1 h6
    refine cnd_split (fun h7 => ?_) (fun h7 => ?_)
    · have h7 : k = 2 := beq_iff_eq.1 h7
      refine ⟨_, r1 _ _, ?_⟩
      refine ⟨_, last_at _ _, ?_⟩
      exact h2 hm _ (mD _ _ _) 0 _ n _ (by simp) (st_eq (last_at _ _)) (fun h => absurd h h6) (fun _ => rfl) (by rw [if_pos h7]) (by simp) (by simp) (fun h => absurd h h6)
    · have h7 : k ≠ 2 := beq_eq_false_iff_ne.1 h7
      exact h2 hm _ (mC _ _) 0 _ 0 _ (by simp) (last_at _ _) (fun h => absurd h h6) (fun _ => rfl) (by rw [if_neg h7]) (by simp) (by simp) (fun h => absurd h h6)
theorem new42_a {size : Int} (h1 : mayW k n size = false → ∀ st', R (.tup [.nilP, .i 1]) st')
    (h2 : mayW k n size = true → ∀ st' e p left x, p ≠ e → st'.heap[p]? = some [x, .i k, .i n, .i left, .b false] → (k = 3 → x = .ptr e 0 ∧ st'.heap[e]? = some [.i size, .s ⟨#[]⟩, .b false]) → (k ≠ 3 → x = .nilP) → left = (if k = 2 then n else 0) → p < st'.heap.length → R (.tup [.ptr p 0, .i 0]) st') :
    ACalls Tryz.prog 14 [.agg [.i k, .i n], .i size] st R :=
  new42_k (fun hf st' _ => h1 hf st') (fun hf st' _ e p left x a1 a2 a3 a4 a5 a6 _ _ => h2 hf st' e p left x a1 a2 a3 a4 a5 a6)
end
def outW (k n m : Int) : Int × Int := if k = 1 ∨ k = 2 then (k, n) else if m = 1 then (3, 0) else (4, 0)
theorem out42_p (k n m : Int) : APure Tryz.prog 30 [.agg [.i k, .i n], .i m] (.agg [.i (outW k n m).1, .i (outW k n m).2]) [] := by
  have hO : outW k n m = if k = 1 ∨ k = 2 then (k, n) else if m = 1 then (3, 0) else (4, 0) := rfl
  generalize outW k n m = o at hO
  refine APure.of rfl (ACalls.of_vc T_ok mixed Tryz.func30 rfl Tryz.call30 ?_)
  refine ⟨_, rfl, ?_⟩
  refine cnd_split (fun h => ?_) (fun h => ?_)
  · rw [if_pos (.inl (show k = 1 from beq_iff_eq.1 h))] at hO
    subst hO
    refine ⟨_, rfl, ?_⟩
    refine ⟨_, rfl, ?_⟩
    exact ⟨_, rfl, rfl⟩
  have h : k ≠ 1 := beq_eq_false_iff_ne.1 h
  refine ⟨_, rfl, ?_⟩
  refine cnd_split (fun h2 => ?_) (fun h2 => ?_)
  · rw [if_pos (.inr (show k = 2 from beq_iff_eq.1 h2))] at hO
    subst hO
    refine ⟨_, rfl, ?_⟩
    refine ⟨_, rfl, ?_⟩
    exact ⟨_, rfl, rfl⟩
  have h2 : k ≠ 2 := beq_eq_false_iff_ne.1 h2
  rw [if_neg (fun h3 => h3.elim h h2)] at hO
  refine cnd_split (fun h3 => ?_) (fun h3 => ?_)
  · rw [if_pos (show m = 1 from beq_iff_eq.1 h3)] at hO
    subst hO
    refine ⟨_, rfl, ?_⟩
    exact ⟨_, rfl, rfl⟩
  · rw [if_neg (show m ≠ 1 from beq_eq_false_iff_ne.1 h3)] at hO
    subst hO
    refine ⟨_, rfl, ?_⟩
    exact ⟨_, rfl, rfl⟩
def partW (k : Int) (size : Nat) (s : ByteArray) : ByteArray := if k = 3 then putE size s else s
def wholeW (k n : Int) (size : Nat) (s : ByteArray) (l : List Fld) : ByteArray × Int :=
  if k ≠ 3 then (if k = 2 ∧ (s.size : Int) < n then (⟨#[]⟩, 6) else (s, 0)) else if (lastW l).2 ≠ 0 then (⟨#[]⟩, (lastW l).2) else (putE size s ++ (pieceW (restE size s) ++ (lastW l).1), 0)
theorem may42_p (k n size : Int) : APure Tryz.prog 15 [.agg [.i k, .i n], .i size] (.b (mayW k n size)) [] := by
  have hO : mayW k n size = decide ((1 ≤ k ∧ k ≤ 4) ∧ 0 ≤ n ∧ 1 ≤ size ∧ size ≤ 65536) := rfl
  generalize mayW k n size = o at hO
  refine APure.of rfl (ACalls.of_vc T_ok mixed Tryz.func15 rfl Tryz.call15 ?_)
  refine ⟨_, rfl, ?_⟩
  refine cnd_split (fun h => ?_) (fun h => retb (by rw [hO, decide_eq_false (by have := of_decide_eq_false h; omega)]))
  have h := of_decide_eq_true h
  refine ⟨_, rfl, ?_⟩
  refine cnd_split (fun h2 => ?_) (fun h2 => retb (by rw [hO, decide_eq_false (by have := of_decide_eq_false h2; omega)]))
  have h2 := of_decide_eq_true h2
  refine ⟨_, rfl, ?_⟩
  refine cnd_split (fun h3 => ?_) (fun h3 => retb (by rw [hO, decide_eq_false (by have := of_decide_eq_false h3; omega)]))
  have h3 := of_decide_eq_true h3
  refine cnd_split (fun h4 => ?_) (fun h4 => retb (by rw [hO, decide_eq_false (by have := of_decide_eq_false h4; omega)]))
  have h4 := of_decide_eq_true h4
  exact retb (by
    rw [hO]
    by_cases h5 : size ≤ 65536
    · rw [decide_eq_true h5, decide_eq_true (by omega)]
    · rw [decide_eq_false h5, decide_eq_false (by omega)])
end Go.Proofs.YthcjiflmhjagiaaGreatDoor
