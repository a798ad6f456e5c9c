/- Quoted texts, over abstract values. No statement of its own. -/
import Derived.Test.YtfhodppaelfcfaaDoorS2
set_option maxRecDepth 100000
namespace Go.Proofs.YtfhodppaelfcfaaDoor
open Go.RowKit

/-- what a call keeps of the state: the variables but for C, the tickets below n -/
structure Mv (n : Nat) (C : Nat → Prop) (st st' : St) : Prop where
  len : st.heap.length ≤ st'.heap.length
  keep : ∀ q, q < st.heap.length → ¬ C q → st'.heap[q]? = st.heap[q]?
  tl : n ≤ st'.tk.length
  tk : ∀ t, t < n → st'.tk[t]? = st.tk[t]?
theorem Mv.refl {n : Nat} {C : Nat → Prop} {st : St} (h : n ≤ st.tk.length) : Mv n C st st := ⟨Nat.le_refl _, fun _ _ _ => rfl, h, fun _ _ => rfl⟩
theorem Mv.trans {n : Nat} {C D : Nat → Prop} {a b c : St} (h : Mv n C a b) (g : Mv n D b c) (hd : ∀ q, q < a.heap.length → D q → C q) : Mv n C a c :=
  ⟨Nat.le_trans h.len g.len, fun q hq hc => (g.keep q (Nat.lt_of_lt_of_le hq h.len) (fun d => hc (hd q hq d))).trans (h.keep q hq hc), g.tl, fun t ht => (g.tk t ht).trans (h.tk t ht)⟩
theorem Mv.mono {n m : Nat} {C : Nat → Prop} {a b : St} (h : Mv n C a b) (hm : m ≤ n) : Mv m C a b := ⟨h.len, h.keep, Nat.le_trans hm h.tl, fun t ht => h.tk t (by omega)⟩
theorem Mv.wide {n : Nat} {C D : Nat → Prop} {a b : St} (h : Mv n C a b) (hd : ∀ q, q < a.heap.length → C q → D q) : Mv n D a b := ⟨h.len, fun q hq hc => h.keep q hq (fun d => hc (hd q hq d)), h.tl, h.tk⟩
theorem Mv.set {n : Nat} {C : Nat → Prop} {a b : St} (h : Mv n C a b) {p : Nat} (hp : p < a.heap.length → C p) (cs : List AV) : Mv n C a ⟨b.heap.set p cs, b.tk⟩ :=
  ⟨by simpa using h.len, fun q hq hc => (List.getElem?_set_ne (fun e => by subst e; exact hc (hp hq))).trans (h.keep q hq hc), h.tl, h.tk⟩
theorem Mv.alloc {n : Nat} {C : Nat → Prop} {a b : St} (h : Mv n C a b) (cs : List AV) : Mv n C a ⟨b.heap ++ [cs], b.tk⟩ :=
  ⟨by have := h.len; simp; omega, fun q hq hc => (List.getElem?_append_left (Nat.lt_of_lt_of_le hq h.len)).trans (h.keep q hq hc), h.tl, h.tk⟩
theorem Mv.sc {n : Nat} {C : Nat → Prop} {a b : St} (h : Mv n C a b) {p : Nat} (hp : p < a.heap.length → C p) (s : ByteArray) (j : Nat) : Mv n C a (b.sc p s j) := h.set hp _
theorem Mv.tks {n : Nat} {C : Nat → Prop} {a b : St} (h : Mv n C a b) {tk : List Nat} (h1 : n ≤ tk.length) (h2 : ∀ t, t < n → tk[t]? = b.tk[t]?) : Mv n C a ⟨b.heap, tk⟩ := ⟨h.len, h.keep, h1, fun t ht => (h2 t ht).trans (h.tk t ht)⟩
theorem Mv.at' {n : Nat} {C : Nat → Prop} {a b : St} (h : Mv n C a b) {q : Nat} {cs : List AV} (hq : a.heap[q]? = some cs) (hc : ¬ C q) : b.heap[q]? = some cs := (h.keep q (List.getElem?_eq_some_iff.1 hq).1 hc).trans hq
theorem Sc.mv {n : Nat} {C : Nat → Prop} {a b : St} {p k : Nat} {s : ByteArray} (h : Sc a p s k) (m : Mv n C a b) (hc : ¬ C p) : Sc b p s k := ⟨m.at' h.at' hc, h.le, h.max⟩

/-- a row that is being built; n: tickets below are others' -/
inductive Acc (n : Nat) (tk : List Nat) (sz : Nat) : AV → List (List AV) → Prop
  | nil : Acc n tk sz .nilS []
  | own (t e : Nat) (es : List (List AV)) (hn : n ≤ t) (ht : tk[t]? = some e) : Acc n tk sz (.sl (.own t e) sz es) es
theorem Acc.app {n : Nat} {st : St} {i : TI} {a : AV} {es ys : List (List AV)} {tg : Tk} {K : AV → St → Prop} (h : Acc n st.tk i.size a es) (hn : n ≤ st.tk.length) (hy : ys ≠ []) (hb : (es.length + ys.length) * i.bytes ≤ 140737488355328) (hm : es.length + ys.length ≤ maxLen)
    (hK : ∀ t e tk', n ≤ t → tk'[t]? = some e → n ≤ tk'.length → (∀ t, t < n → tk'[t]? = st.tk[t]?) → K (.sl (.own t e) i.size (es ++ ys)) ⟨st.heap, tk'⟩) : vcApp i a (.sl tg i.size ys) st K := by
  unfold vcApp srcA
  simp only [decide_true]
  cases h with
  | nil =>
    refine ⟨fun e => absurd e hy, fun _ => ⟨by simpa using hb, by simpa using hm, .inl ?_⟩⟩
    refine hK _ _ _ hn (by simp) (by simp; omega) (fun t ht => ?_)
    rw [List.getElem?_append_left (by omega)]
  | own t e es h1 h2 =>
    simp only [decide_true]
    have hlt := (List.getElem?_eq_some_iff.1 h2).1
    refine ⟨h2, hb, hm, hK _ _ _ h1 (by rw [List.getElem?_set_self hlt]) (by simpa using hn) (fun t' ht' => ?_)⟩
    rw [List.getElem?_set_ne (by omega)]

def u8L (l : List UInt8) : List (List AV) := l.map fun b => [AV.u8 b]
theorem u8L_app (l : List UInt8) (b : UInt8) : u8L l ++ [[.u8 b]] = u8L (l ++ [b]) := by simp [u8L]
theorem u8L_len (l : List UInt8) : (u8L l).length = l.length := by simp [u8L]

attribute [local irreducible] vcApp
section
variable {st : St} {p k rb n : Nat} {s : ByteArray} {R : AV → St → Prop} {a : AV} {acc : List UInt8}
set_option maxHeartbeats 1000000 in
theorem next_a (h : Sc st p s k) (hr : st.heap[rb]? = some [.ptr p 0, a]) (ha : Acc n st.tk 1 a (u8L acc)) (hn : n ≤ st.tk.length) (hne : rb ≠ p) (hac : acc.length < 140737488355328)
    (h1 : nxt s k = none → ∀ st', Mv n (fun q => q = p ∨ q = rb) st st' → (∃ j, k ≤ j ∧ Sc st' p s j) → st'.heap[rb]? = some [.ptr p 0, a] → R (.b false) st')
    (h2 : ∀ b j, nxt s k = some (b, j) → ∀ st' a', Mv n (fun q => q = p ∨ q = rb) st st' → Sc st' p s j → st'.heap[rb]? = some [.ptr p 0, a'] → Acc n st'.tk 1 a' (u8L (acc ++ [b])) → R (.b true) st') :
    ACalls Tryd.prog 176 [.ptr rb 0] st R := by
  have hmx : maxLen = 9223372036854775807 := rfl
  have hN : nxt s k = match s.data.toList[if atB s k 92 = true then k + 1 else k]? with | some b => if valI (b.toNat : Int) = true then some (b, (if atB s k 92 = true then k + 1 else k) + 1) else none | none => none := rfl
  refine ACalls.of_vc T_ok mixed Tryd.func176 rfl Tryd.call176 ?_
  refine ⟨_, hr, ?_⟩
  refine .s (byte_a h 92 ?_)
  have hj0 : (if atB s k 92 = true then k + 1 else k) ≤ s.size := by
    split
    · rename_i e
      have : k < s.size := Decidable.byContradiction fun hc => by rw [atB_ge (by omega)] at e; cases e
      omega
    · exact h.le
  have hk0 : k ≤ (if atB s k 92 = true then k + 1 else k) := by split <;> omega
  generalize (if atB s k 92 = true then k + 1 else k) = j at *
  have hs := h.sc hj0
  have m1 : Mv n (fun q => q = p ∨ q = rb) st (st.sc p s j) := (Mv.refl hn).sc (fun _ => .inl rfl) s j
  have r1 : (st.sc p s j).heap[rb]? = some [.ptr p 0, a] := (St.sc_ne (fun e => hne e.symm)).trans hr
  refine ⟨_, r1, ?_⟩
  refine .s (peek_a hs (fun hk => ?_) (fun hk => ?_))
  · rw [at_lt hk] at hN
    simp only at hN
    refine .p rfl (isValue_p _) ?_
    refine cnd_split (fun hd => ?_) (fun hd => ?_)
    · rw [Bool.not_eq_true'] at hd
      rw [hd] at hN
      exact h1 hN _ m1 ⟨j, hk0, hs⟩ r1
    · rw [Bool.not_eq_false'] at hd
      rw [hd, if_pos rfl] at hN
      refine ⟨_, r1, ?_⟩
      have hl := u8L_len acc
      refine Acc.app (i := ti5) ha hn (List.cons_ne_nil _ _) ?_ ?_ (fun t e tk' q0 q1 q2 q3 => ?_)
      · show ((u8L acc).length + 1) * 1 ≤ _; omega
      · show (u8L acc).length + 1 ≤ _; omega
      have m2 := m1.tks q2 q3
      refine ⟨_, r1, ?_⟩
      have hrl : rb < (st.sc p s j).heap.length := (List.getElem?_eq_some_iff.1 r1).1
      have hp2 : ∀ (cs : List AV), ((st.sc p s j).heap.set rb cs)[p]? = (st.sc p s j).heap[p]? := fun cs => List.getElem?_set_ne hne
      have m3 := m2.set (p := rb) (fun _ => .inr rfl) [.ptr p 0, .sl (.own t e) 1 (u8L acc ++ [[.u8 s[j]]])]
      have hs3 : Sc ⟨(st.sc p s j).heap.set rb [.ptr p 0, .sl (.own t e) 1 (u8L acc ++ [[.u8 s[j]]])], tk'⟩ p s j := ⟨(hp2 _).trans hs.at', hj0, h.max⟩
      have r3 : ((st.sc p s j).heap.set rb [.ptr p 0, .sl (.own t e) 1 (u8L acc ++ [[.u8 s[j]]])])[rb]? = some [.ptr p 0, .sl (.own t e) 1 (u8L acc ++ [[.u8 s[j]]])] := List.getElem?_set_self hrl
      refine ⟨_, r3, ?_⟩
      refine .s (byte_a hs3 _ ?_)
      have hat : atB s j (s[j].toNat : Int) = true := by rw [atB_lt hk]; simp
      rw [hat, if_pos rfl]
      exact h2 _ _ hN _ _ (m3.sc (fun _ => .inl rfl) s (j + 1)) (hs3.sc (by omega)) ((St.sc_ne (fun e => hne e.symm)).trans r3) (by rw [← u8L_app]; exact .own _ _ _ q0 q1)
  · rw [List.getElem?_eq_none (by rw [blen]; exact hk)] at hN
    exact h1 hN _ m1 ⟨j, hk0, hs⟩ r1
theorem emp_app : (⟨#[]⟩ : ByteArray) = .empty := rfl
set_option maxHeartbeats 1000000 in
theorem read_a (h : Sc st p s k) (hn : n ≤ st.tk.length) (hm : s.size < 140737488355328)
    (h1 : frontS s k = none → ∀ st', Mv n (· = p) st st' → Sc st' p s k → R (.tup [.s ⟨#[]⟩, .b false]) st')
    (h2 : ∀ v j, frontS s k = some (v, j) → ∀ st', Mv n (· = p) st st' → Sc st' p s j → R (.tup [.s ⟨v.toArray⟩, .b true]) st') :
    ACalls Tryd.prog 157 [.ptr p 0] st R := by
  have hlt := h.lt
  have hF : frontS s k = if atB s k 34 = true then frontW s (k + 1) [] else none := rfl
  refine ACalls.of_vc T_ok mixed Tryd.func157 rfl Tryd.call157 ?_
  refine .s (at_a h ?_)
  have m0 : Mv n (fun q => q = p ∨ q = st.heap.length) st ⟨st.heap ++ [[.ptr p 0, .nilS]], st.tk⟩ := (Mv.refl hn).alloc _
  have hs0 : Sc ⟨st.heap ++ [[.ptr p 0, .nilS]], st.tk⟩ p s k := ⟨(List.getElem?_append_left hlt).trans h.at', h.le, h.max⟩
  have r0 : (st.heap ++ [[.ptr p 0, .nilS]])[st.heap.length]? = some [.ptr p 0, .nilS] := by simp
  have hne : st.heap.length ≠ p := by omega
  have hfin : ∀ st', Mv n (fun q => q = p ∨ q = st.heap.length) st st' → Mv n (· = p) st st' := fun st' m => m.wide fun q hq e => e.resolve_right (by omega)
  have ne : ∀ {a b : St} {j : Nat}, a.heap[st.heap.length]? = b.heap[st.heap.length]? → (a.sc p s j).heap[st.heap.length]? = b.heap[st.heap.length]? := fun e => (St.sc_ne (fun e => hne e.symm)).trans e
  refine ⟨hlt, ?_⟩
  refine ⟨_, r0, ?_⟩
  refine .s (byte_a hs0 34 ?_)
  refine vc_loop [6] (fun g vals st' => Mv n (fun q => q = p ∨ q = st.heap.length) st st' ∧ ∃ a acc j, st'.heap[st.heap.length]? = some [.ptr p 0, a] ∧ Sc st' p s j ∧
    ((vals = [.b true] ∧ j + g = s.size + 1 ∧ k ≤ j ∧ acc.length ≤ j ∧ frontW s j acc = frontS s k ∧ Acc n st'.tk 1 a (u8L acc)) ∨ (vals = [.b false] ∧ g = 0 ∧ k ≤ j ∧ frontS s k = none)))
    (if atB s k 34 = true then s.size - k else 0) rfl ⟨m0.sc (fun _ => .inl rfl) s _, .nilS, [], _, ne rfl |>.trans r0, hs0.sc (j := if atB s k 34 = true then k + 1 else k) ?_, ?_⟩ ?_
  · split
    · rename_i e
      have : k < s.size := Decidable.byContradiction fun hc => by rw [atB_ge (by omega)] at e; cases e
      omega
    · exact h.le
  · by_cases e : atB s k 34 = true
    · have : k < s.size := Decidable.byContradiction fun hc => by rw [atB_ge (by omega)] at e; cases e
      rw [if_pos e] at hF
      rw [if_pos e, if_pos e]
      exact .inl ⟨by rw [e]; rfl, by omega, by omega, Nat.zero_le _, hF.symm, .nil⟩
    · rw [if_neg e] at hF
      rw [if_neg e, if_neg e]
      exact .inr ⟨by rw [Bool.not_eq_true] at e; rw [e]; rfl, rfl, Nat.le_refl _, hF⟩
  rintro g vals st' ⟨m1, a, acc, j, r1, hs1, ⟨rfl, hg, hkj, hac, hW, hA⟩ | ⟨rfl, rfl, hkj, hF0⟩⟩
  · refine ⟨_, r1, ?_⟩
    refine .s (byte_a hs1 34 ?_)
    have hjs := hs1.le
    refine cnd_split (fun hd => ?_) (fun hd => ?_)
    · rw [Bool.not_eq_true'] at hd
      rw [hd, if_neg (by decide), hs1.id]
      refine .s (next_a hs1 r1 hA m1.tl hne (by omega) (fun hx st2 m2 ⟨j2, hj2, hs2⟩ r2 => ?_) (fun b j2 hx st2 a2 m2 hs2 r2 hA2 => ?_))
      · rw [frontW_none acc hd hx] at hW
        refine ⟨0, by omega, m1.trans m2 (fun q _ e => e), a, [], j2, r2, hs2, .inr ⟨rfl, rfl, by omega, hW.symm⟩⟩
      · rw [frontW_some acc hd hx] at hW
        have := nxt_lt hx
        exact ⟨s.size + 1 - j2, by omega, m1.trans m2 (fun q _ e => e), a2, acc ++ [b], j2, r2, hs2, .inl ⟨rfl, by omega, by omega, by simp; omega, hW, hA2⟩⟩
    · rw [Bool.not_eq_false'] at hd
      rw [hd, if_pos rfl]
      rw [frontW_end acc hd] at hW
      have hlt2 : j < s.size := Decidable.byContradiction fun hc => by rw [atB_ge (by omega)] at hd; cases hd
      have r3 : (st'.sc p s (j + 1)).heap[st.heap.length]? = some [.ptr p 0, a] := (St.sc_ne (fun e => hne e.symm)).trans r1
      refine ⟨_, r3, ?_⟩
      have fin := h2 _ _ hW.symm _ (hfin _ (m1.sc (fun _ => .inl rfl) s (j + 1))) (hs1.sc (by omega))
      generalize hes : u8L acc = es at hA
      cases hA with
      | nil =>
        have : acc = [] := by simpa [u8L] using hes
        subst this
        exact fin
      | own t e es q1 q2 =>
        subst hes
        exact ⟨⟨acc.toArray⟩, rfl, fin⟩
  · refine ⟨_, r1, ?_⟩
    refine .s (back_a hs1 k hkj ?_)
    exact h1 hF0 _ (hfin _ (m1.sc (fun _ => .inl rfl) s k)) (hs1.sc h.le)
end
end Go.Proofs.YtfhodppaelfcfaaDoor
