/- Lists behind commas: the program's splitter, over abstract values. No statement of its own. -/
import Derived.Test.YtopmflkeohicjaaDoorS4
import Derived.Test.YtopmflkeohicjaaDoorS5
set_option maxRecDepth 100000
namespace Go.Proofs.YtopmflkeohicjaaDoor
open Go.RowKit
theorem atB_iff {s : ByteArray} {k : Nat} {b : Int} : atB s k b = true → k < s.size := fun e => Decidable.byContradiction fun hc => by rw [atB_ge (by omega)] at e; cases e
/-- a comment, from behind its opening on: where it ends -/
def cmtW (s : ByteArray) (k n : Nat) : Option Nat :=
  if n = 0 then some k
  else if _h : k < s.size then
    if atB s k 40 = true then cmtW s (k + 1) (n + 1)
    else if atB s k 41 = true then cmtW s (k + 1) (n - 1)
    else if atB s k 92 = true then cmtW s (if k + 1 < s.size then k + 2 else k + 1) n
    else cmtW s (k + 1) n
  else none
termination_by s.size - k
decreasing_by all_goals first | omega | (split <;> omega)
theorem cmtW_le (s : ByteArray) : ∀ (z k n j : Nat), s.size - k ≤ z → k ≤ s.size → cmtW s k n = some j → k ≤ j ∧ j ≤ s.size := by
  intro z
  induction z with
  | zero =>
    intro k n j hz hk h
    unfold cmtW at h
    split at h
    · cases h; omega
    · split at h
      · omega
      · cases h
  | succ z ih =>
    intro k n j hz hk h
    unfold cmtW at h
    split at h
    · cases h; omega
    · split at h
      · split at h
        · have := ih _ _ _ (by omega) (by omega) h; omega
        · split at h
          · have := ih _ _ _ (by omega) (by omega) h; omega
          · split at h
            · by_cases e : k + 1 < s.size
              · rw [if_pos e] at h; have := ih _ _ _ (by omega) (by omega) h; omega
              · rw [if_neg e] at h; have := ih _ _ _ (by omega) (by omega) h; omega
            · have := ih _ _ _ (by omega) (by omega) h; omega
      · cases h
def stepW (s : ByteArray) (k : Nat) : Option Nat :=
  if atB s k 44 = true then some (k + 1) else if atB s k 40 = true then cmtW s (k + 1) 1 else if atB s k 34 = true then (frontS s k).map (·.2) else some (k + 1)
theorem stepW_lt {s : ByteArray} {k j : Nat} (hk : k < s.size) (h : stepW s k = some j) : k < j ∧ j ≤ s.size := by
  unfold stepW at h
  split at h
  · cases h; omega
  · split at h
    · have := cmtW_le s _ _ _ _ (Nat.le_refl _) (by omega) h; omega
    · split at h
      · rename_i hq
        unfold frontS at h
        rw [if_pos hq] at h
        cases hf : frontW s (k + 1) [] with
        | none => rw [hf] at h; cases h
        | some x =>
          rw [hf] at h
          obtain ⟨v, i⟩ := x
          cases h
          have := frontW_le _ _ _ _ _ rfl hf
          simp only
          omega
      · cases h; omega
def spcS : ByteArray := ⟨#[32, 9]⟩
def endW (s : ByteArray) (b i : Nat) (out : List ByteArray) : List ByteArray := if (trimC (s.extract b i) spcS).size = 0 then out else out ++ [trimC (s.extract b i) spcS]
def splW (s : ByteArray) (k b : Nat) (out : List ByteArray) : Option (List ByteArray) :=
  if _h : k < s.size then
    match _h2 : stepW s k with
    | none => none
    | some j => if atB s k 44 = true then splW s j j (endW s b k out) else splW s j b out
  else some (endW s b s.size out)
termination_by s.size - k
decreasing_by all_goals (have := stepW_lt _h _h2; omega)
theorem splW_none {s : ByteArray} {k b : Nat} {out : List ByteArray} (hk : k < s.size) (h : stepW s k = none) : splW s k b out = none := by
  rw [splW, dif_pos hk]; split
  · rfl
  · rename_i h2; rw [h] at h2; cases h2
theorem splW_some {s : ByteArray} {k b j : Nat} {out : List ByteArray} (hk : k < s.size) (h : stepW s k = some j) : splW s k b out = if atB s k 44 = true then splW s j j (endW s b k out) else splW s j b out := by
  rw [splW, dif_pos hk]; split
  · rename_i h2; rw [h] at h2; cases h2
  · rename_i h2; rw [h] at h2; cases h2; rfl
theorem splW_end {s : ByteArray} {k b : Nat} {out : List ByteArray} (hk : ¬ k < s.size) : splW s k b out = some (endW s b s.size out) := by
  rw [splW, dif_neg hk]
def splitW (s : ByteArray) : Option (List ByteArray) := splW s 0 0 []

section
variable {st : St} {p k rb n b : Nat} {s : ByteArray} {R : AV → St → Prop} {a : AV} {out : List ByteArray}
set_option maxHeartbeats 1000000 in
theorem comment_a (h : Sc st p s k) (hr : st.heap[rb]? = some [.ptr p 0, a, .i b, .s s]) (hne : rb ≠ p) (hn : n ≤ st.tk.length) (hk1 : 1 ≤ k)
    (h1 : cmtW s k 1 = none → ∀ st', Mv n (· = p) st st' → R (.b false) st') (h2 : ∀ j, cmtW s k 1 = some j → ∀ st', Mv n (· = p) st st' → st'.tk = st.tk → Sc st' p s j → R (.b true) st') :
    ACalls Tryd.prog 183 [.ptr rb 0] st R := by
  have hmx := h.max
  unfold maxLen at hmx
  refine ACalls.of_vc T_ok mixed Tryd.func183 rfl Tryd.call183 ?_
  refine vc_loop [3] (fun g vals st' => ∃ j m, vals = [.i (m : Nat)] ∧ st' = st.sc p s j ∧ k ≤ j ∧ j + g = s.size ∧ m ≤ j ∧ cmtW s j m = cmtW s k 1) (s.size - k) rfl ⟨k, 1, rfl, h.id.symm, Nat.le_refl _, by have := h.le; omega, by omega, rfl⟩ ?_
  rintro g vals _ ⟨j, m, rfl, rfl, hkj, hg, hmj, hW⟩
  have hs := h.sc (j := j) (by omega)
  have r0 : ∀ i, (st.sc p s i).heap[rb]? = some [.ptr p 0, a, .i b, .s s] := fun i => (St.sc_ne (fun e => hne e.symm)).trans hr
  have m0 : ∀ i, Mv n (· = p) st (st.sc p s i) := fun i => (Mv.refl (C := (· = p)) hn).sc (p := p) (fun _ => rfl) s i
  refine cnd_split (fun hd => ?_) (fun hd => ?_)
  · have hd := of_decide_eq_true hd
    refine ⟨_, r0 j, ?_⟩
    refine .s (peek_a hs (fun hk => ?_) (fun hk => ?_))
    · refine ⟨_, r0 j, ?_⟩
      refine .s (byte_a hs _ ?_)
      have hat : atB s j (s[j].toNat : Int) = true := by rw [atB_lt hk]; simp
      have e40 := atB_lt hk 40
      have e41 := atB_lt hk 41
      have e92 := atB_lt hk 92
      rw [cmtW, if_neg (by omega), dif_pos hk, e40, e41, e92] at hW
      rw [hat, if_pos rfl, St.sc_sc]
      have hs1 := h.sc (j := j + 1) (by omega)
      refine cnd_split (fun hd40 => ?_) (fun hd40 => ?_)
      · rw [if_pos hd40] at hW
        intro c hc
        rw [IntWalk.i64_in _ (by omega)] at hc
        subst hc
        exact ⟨g - 1, by omega, j + 1, m + 1, rfl, rfl, by omega, by omega, by omega, hW⟩
      · rw [if_neg (by rw [show ((s[j].toNat : Int) == 40) = false from hd40]; decide)] at hW
        refine cnd_split (fun hd41 => ?_) (fun hd41 => ?_)
        · rw [if_pos hd41] at hW
          intro c hc
          rw [IntWalk.i64_in _ (by omega)] at hc
          subst hc
          exact ⟨g - 1, by omega, j + 1, m - 1, by rw [Int.ofNat_sub (by omega)]; rfl, rfl, by omega, by omega, by omega, hW⟩
        · rw [if_neg (by rw [show ((s[j].toNat : Int) == 41) = false from hd41]; decide)] at hW
          refine cnd_split (fun hd92 => ?_) (fun hd92 => ?_)
          · rw [if_pos hd92] at hW
            refine ⟨_, r0 (j + 1), ?_⟩
            refine .s (peek_a hs1 (fun hk1 => ?_) (fun hk1 => ?_))
            · rw [if_pos hk1] at hW
              refine ⟨_, r0 (j + 1), ?_⟩
              refine .s (byte_a hs1 _ ?_)
              have hat1 : atB s (j + 1) (s[j + 1].toNat : Int) = true := by rw [atB_lt hk1]; simp
              rw [hat1, if_pos rfl, St.sc_sc]
              exact ⟨g - 2, by omega, j + 2, m, rfl, rfl, by omega, by omega, by omega, hW⟩
            · rw [if_neg (by omega)] at hW
              exact ⟨g - 1, by omega, j + 1, m, rfl, rfl, by omega, by omega, by omega, hW⟩
          · rw [if_neg (by rw [show ((s[j].toNat : Int) == 92) = false from hd92]; decide)] at hW
            exact ⟨g - 1, by omega, j + 1, m, rfl, rfl, by omega, by omega, by omega, hW⟩
    · rw [cmtW, if_neg (by omega), dif_neg (by omega)] at hW
      exact h1 hW.symm _ (m0 j)
  · have hd := of_decide_eq_false hd
    rw [cmtW, if_pos (by omega)] at hW
    exact h2 j hW.symm _ (m0 j) rfl hs
attribute [local irreducible] vcApp
theorem split_end (h : Sc st p s k) (hr : st.heap[rb]? = some [.ptr p 0, a, .i b, .s s]) (hne : rb ≠ p) (hn : n ≤ st.tk.length) (hA : Acc n st.tk 1 a (strL out)) (i : Nat) (hb : b ≤ i) (hi : i ≤ s.size) (ho : out.length ≤ 1099511627776)
    (h2 : ∀ st' a', Mv n (· = rb) st st' → Sc st' p s k → st'.heap[rb]? = some [.ptr p 0, a', .i k, .s s] → Acc n st'.tk 1 a' (strL (endW s b i out)) → R (.tup []) st') :
    ACalls Tryd.prog 163 [.ptr rb 0, .i i] st R := by
  refine ACalls.of_vc T_ok mixed Tryd.func163 rfl Tryd.call163 ?_
  refine .x (by kernel_rfl) ?_
  refine ⟨_, hr, ?_⟩
  refine ⟨_, hr, ?_⟩
  refine ⟨i, rfl, b, rfl, hb, hi, ?_⟩
  have hm := h.max
  refine .p rfl (trim_p _ spcS (by rw [ext_len _ _ _ hi]; omega) (by decide) rfl) ?_
  intro t ht
  have h0 := ht.trans (emp_iff _)
  have hrl : rb < st.heap.length := (List.getElem?_eq_some_iff.1 hr).1
  have hmx : maxLen = 9223372036854775807 := rfl
  have r1 : ∀ cs : List AV, (st.heap.set rb cs)[rb]? = some cs := fun cs => List.getElem?_set_self hrl
  have key : ∀ (a' : AV) (tk' : List Nat), n ≤ tk'.length → (∀ t, t < n → tk'[t]? = st.tk[t]?) → Acc n tk' 1 a' (strL (endW s b i out)) →
      R (.tup []) ⟨(st.heap.set rb [.ptr p 0, a', .i b, .s s]).set rb [.ptr p 0, a', .i k, .s s], tk'⟩ := fun a' tk' q1 q2 q3 => by
    refine h2 _ a' ?_ ⟨?_, h.le, h.max⟩ ?_ q3
    · exact (((Mv.refl (C := (· = rb)) hn).tks q1 q2).set (p := rb) (fun _ => rfl) _).set (p := rb) (fun _ => rfl) _
    · exact (List.getElem?_set_ne hne).trans ((List.getElem?_set_ne hne).trans h.at')
    · exact List.getElem?_set_self (by simpa using hrl)
  refine cnd_split (fun hd => ?_) (fun hd => ?_)
  · subst hd
    have hz : ¬ (trimC (s.extract b i) spcS).size = 0 := fun e => by cases h0.2 e
    have he : endW s b i out = out ++ [trimC (s.extract b i) spcS] := if_neg hz
    refine ⟨_, hr, ?_⟩
    have hl := strL_len out
    refine Acc.app (i := ti9) hA hn (List.cons_ne_nil _ _) ?_ ?_ (fun t e tk' q0 q1 q2 q3 => ?_)
    · show ((strL out).length + 1) * 16 ≤ _; omega
    · show (strL out).length + 1 ≤ _; omega
    refine ⟨_, hr, ?_⟩
    refine ⟨_, r1 _, ?_⟩
    refine .s (at_a ⟨(List.getElem?_set_ne hne).trans h.at', h.le, h.max⟩ ?_)
    refine ⟨_, r1 _, ?_⟩
    refine key _ tk' q2 q3 ?_
    rw [he, ← strL_app]
    exact .own _ _ _ q0 q1
  · subst hd
    have hz : (trimC (s.extract b i) spcS).size = 0 := h0.1 rfl
    have he : endW s b i out = out := if_pos hz
    have := key a st.tk hn (fun _ _ => rfl) (by rw [he]; exact hA)
    rw [set_id hr] at this
    clear key h2
    generalize strL out = es at hA
    cases hA with
    | nil =>
      refine ⟨_, hr, ?_⟩
      refine .s (at_a h ?_)
      exact ⟨_, hr, this⟩
    | own t e q1 q2 =>
      refine ⟨_, hr, ?_⟩
      refine .s (at_a h ?_)
      exact ⟨_, hr, this⟩
theorem split_step (h : Sc st p s k) (hk : k < s.size) (hr : st.heap[rb]? = some [.ptr p 0, a, .i b, .s s]) (hne : rb ≠ p) (hA : Acc 0 st.tk 1 a (strL out)) (hb : b ≤ k) (ho : out.length ≤ 1099511627776) (hsz : s.size ≤ 1099511627776)
    (h1 : stepW s k = none → ∀ st', R (.b false) st')
    (h2 : ∀ j, stepW s k = some j → ∀ st' a', Sc st' p s j → st'.heap[rb]? = some [.ptr p 0, a', .i (if atB s k 44 = true then j else b), .s s] → Acc 0 st'.tk 1 a' (strL (if atB s k 44 = true then endW s b k out else out)) → R (.b true) st') :
    ACalls Tryd.prog 162 [.ptr rb 0] st R := by
  have hW : stepW s k = if atB s k 44 = true then some (k + 1) else if atB s k 40 = true then cmtW s (k + 1) 1 else if atB s k 34 = true then (frontS s k).map (·.2) else some (k + 1) := rfl
  have r1 : ∀ i, (st.sc p s i).heap[rb]? = some [.ptr p 0, a, .i b, .s s] := fun i => (St.sc_ne (fun e => hne e.symm)).trans hr
  refine ACalls.of_vc T_ok mixed Tryd.func162 rfl Tryd.call162 ?_
  refine ⟨_, hr, ?_⟩
  refine .s (at_a h ?_)
  refine ⟨_, hr, ?_⟩
  refine .s (byte_a h 44 ?_)
  refine cnd_split (fun h44 => ?_) (fun h44 => ?_)
  · rw [if_pos h44]
    rw [if_pos h44] at hW
    refine .s (split_end (h.sc (by omega)) (r1 _) hne (Nat.zero_le _) hA k hb (by omega) ho (fun st' a' m q1 q2 q3 => ?_))
    exact h2 _ hW st' a' q1 (by rw [if_pos h44]; exact q2) (by rw [if_pos h44]; exact q3)
  · have n44 : ¬ atB s k 44 = true := by rw [h44]; decide
    rw [if_neg n44, h.id]
    rw [if_neg n44] at hW
    refine ⟨_, hr, ?_⟩
    refine .s (byte_a h 40 ?_)
    refine cnd_split (fun h40 => ?_) (fun h40 => ?_)
    · rw [if_pos h40]
      rw [if_pos h40] at hW
      refine .s (comment_a (n := 0) (h.sc (by omega)) (r1 _) hne (Nat.zero_le _) (by omega) (fun hx st' m => ?_) (fun j hx st' m htk hs => ?_))
      · exact h1 (hW.trans hx) _
      · exact h2 j (hW.trans hx) st' a hs (by rw [if_neg n44]; exact m.at' (r1 _) hne) (by rw [if_neg n44, htk]; exact hA)
    · have n40 : ¬ atB s k 40 = true := by rw [h40]; decide
      rw [if_neg n40, h.id]
      rw [if_neg n40] at hW
      refine ⟨_, hr, ?_⟩
      refine .s (peek_a h (fun _ => ?_) (fun hx => absurd hx (by omega)))
      have e34 := atB_lt hk 34
      refine cnd_split (fun h34 => ?_) (fun h34 => ?_)
      · rw [if_pos (by rw [e34]; exact h34)] at hW
        refine ⟨_, hr, ?_⟩
        refine .s (read_a (n := st.tk.length) h (Nat.le_refl _) (by omega) (fun hx st' m hs => ?_) (fun v j hx st' m hs => ?_))
        · rw [hx] at hW
          exact h1 hW _
        · rw [hx] at hW
          refine h2 j hW st' a hs (by rw [if_neg n44]; exact m.at' hr hne) ?_
          rw [if_neg n44]
          generalize strL out = es at *
          cases hA with
          | nil => exact .nil
          | own t e es q1 q2 => exact .own _ _ _ q1 ((m.tk t (List.getElem?_eq_some_iff.1 q2).1).trans q2)
      · rw [if_neg (by rw [e34]; rw [show ((s[k].toNat : Int) == 34) = false from h34]; decide)] at hW
        refine ⟨_, hr, ?_⟩
        refine .s (byte_a h _ ?_)
        have hat : atB s k (s[k].toNat : Int) = true := by rw [atB_lt hk]; simp
        rw [if_pos hat]
        exact h2 _ hW _ a (h.sc (by omega)) (by rw [if_neg n44]; exact r1 _) (by rw [if_neg n44]; exact hA)
def splR (s : ByteArray) : AV := match splitW s with
  | some l => .tup [.sl .no 1 (strL l), .i 0]
  | none => .tup [.nilS, .i 2]
theorem endW_len (s : ByteArray) (b i : Nat) (out : List ByteArray) : (endW s b i out).length ≤ out.length + 1 := by
  unfold endW; split <;> simp
theorem split_p (s : ByteArray) (hs : s.size ≤ 1099511627776) : APure Tryd.prog 140 [.s s] (splR s) [] := by
  have hmx : maxLen = 9223372036854775807 := rfl
  refine APure.ofW (by unfold splR; split <;> rfl) ?_
  refine ACalls.of_vc T_ok mixed Tryd.func140 rfl Tryd.call140 ?_
  refine .s (new_a ?_)
  refine ⟨Nat.zero_lt_one, ?_⟩
  refine vc_loop [] (fun g vals st' => ∃ k b out a, k + g = s.size ∧ Sc st' 0 s k ∧ st'.heap[1]? = some [.ptr 0 0, a, .i (b : Nat), .s s] ∧ Acc 0 st'.tk 1 a (strL out) ∧ splW s k b out = splitW s ∧ b ≤ k ∧ out.length ≤ b) s.size rfl ⟨0, 0, [], .nilS, by omega, ⟨rfl, by omega, by omega⟩, rfl, .nil, rfl, Nat.le_refl _, by simp⟩ ?_
  rintro g vals st' ⟨k, b, out, a, hg, hsc, hr, hA, hW, hb, ho⟩
  refine ⟨_, hr, ?_⟩
  refine .s (end_a hsc ?_)
  refine cnd_split (fun hd => ?_) (fun hd => ?_)
  · have hk : k < s.size := by simpa using hd
    refine .s (split_step (rb := 1) hsc hk hr Nat.one_ne_zero hA hb (by omega) hs (fun hx st2 => ?_) (fun j hx st2 a2 hs2 hr2 hA2 => ?_))
    · rw [splW_none hk hx] at hW
      unfold splR
      rw [← hW]
      exact .inl rfl
    · have hl := stepW_lt hk hx
      rw [splW_some hk hx] at hW
      have he := endW_len s b k out
      by_cases h44 : atB s k 44 = true
      · rw [if_pos h44] at hW hr2 hA2
        exact ⟨s.size - j, by omega, j, j, _, a2, by omega, hs2, hr2, hA2, hW, Nat.le_refl _, by omega⟩
      · rw [if_neg h44] at hW hr2 hA2
        exact ⟨s.size - j, by omega, j, b, _, a2, by omega, hs2, hr2, hA2, hW, by omega, by omega⟩
  · have hk : ¬ k < s.size := by simpa using hd
    rw [splW_end hk] at hW
    refine .s (split_end (n := 0) (rb := 1) hsc hr Nat.one_ne_zero (Nat.zero_le _) hA s.size (by omega) (Nat.le_refl _) (by omega) (fun st2 a2 m q1 q2 q3 => ?_))
    refine ⟨_, q2, ?_⟩
    unfold splR
    rw [← hW]
    generalize endW s b s.size out = l at *
    generalize hes : strL l = es at q3
    cases q3 with
    | nil => exact .inr (.inr ⟨[.i 0], 1, rfl, by simp only; rw [hes]; rfl⟩)
    | own t e es w1 w2 => exact .inl (by simp only; rw [hes]; rfl)
end
end Go.Proofs.YtopmflkeohicjaaDoor
