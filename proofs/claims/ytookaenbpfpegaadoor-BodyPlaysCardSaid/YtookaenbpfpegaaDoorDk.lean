/- The decoder of bodies in chunks: the program's. No statement of its own. -/
import Derived.Test.YtookaenbpfpegaaDoorDq
import Derived.Test.YtookaenbpfpegaaDoorFp
set_option linter.unusedSimpArgs false
set_option linter.unusedVariables false
set_option maxRecDepth 100000
namespace Go.Proofs.YtookaenbpfpegaaDoor
open Go.RowKit
def tkt : AV → Option Nat
  | .sl (.own t _) _ _ => some t
  | _ => none
abbrev dcC (L : Nat) (d : Dc) (ln tr : AV) : List AV := [.i L, .i d.a, ln, .i d.left, .i d.sum, .i d.spent, tr]
structure DI (st : St) (p L : Nat) (d : Dc) (ln tr : AV) : Prop where
  h : st.heap[p]? = some [.i L, .i d.a, ln, .i d.left, .i d.sum, .i d.spent, tr]
  l : Acc 0 st.tk 1 ln (u8L d.line)
  t : Acc 0 st.tk 2 tr (fldL d.tr)
  ne : ∀ t, tkt ln = some t → tkt tr ≠ some t
  nz : ∀ t, tkt ln = some t → d.line ≠ []
/-- what a deed at a decoder keeps -/
structure Kp (p : Nat) (ln tr ln' tr' : AV) (st st' : St) : Prop where
  len : st.heap.length ≤ st'.heap.length
  heap : ∀ q, q < st.heap.length → q ≠ p → st'.heap[q]? = st.heap[q]?
  tkl : st.tk.length ≤ st'.tk.length
  tk : ∀ t, t < st.tk.length → tkt ln ≠ some t → tkt tr ≠ some t → st'.tk[t]? = st.tk[t]?
  nl : ∀ t, tkt ln' = some t → tkt ln = some t ∨ st.tk.length ≤ t
  nt : ∀ t, tkt tr' = some t → tkt tr = some t ∨ st.tk.length ≤ t
section
variable {p L : Nat} {ln tr l1 t1 l2 t2 : AV} {st s1 s2 : St} {d : Dc}
theorem Kp.refl (p : Nat) (ln tr : AV) (st : St) : Kp p ln tr ln tr st st := ⟨Nat.le_refl _, fun _ _ _ => rfl, Nat.le_refl _, fun _ _ _ _ => rfl, fun _ h => .inl h, fun _ h => .inl h⟩
theorem Kp.trans (a : Kp p ln tr l1 t1 st s1) (b : Kp p l1 t1 l2 t2 s1 s2) : Kp p ln tr l2 t2 st s2 :=
  ⟨Nat.le_trans a.len b.len, fun q h1 h2 => (b.heap q (Nat.lt_of_lt_of_le h1 a.len) h2).trans (a.heap q h1 h2), Nat.le_trans a.tkl b.tkl,
   fun t h1 h2 h3 => (b.tk t (Nat.lt_of_lt_of_le h1 a.tkl) (fun e => (a.nl t e).elim h2 (fun e => by omega)) (fun e => (a.nt t e).elim h3 (fun e => by omega))).trans (a.tk t h1 h2 h3),
   fun t h => (b.nl t h).elim (fun h => a.nl t h) (fun h => .inr (Nat.le_trans a.tkl h)), fun t h => (b.nt t h).elim (fun h => a.nt t h) (fun h => .inr (Nat.le_trans a.tkl h))⟩
theorem Kp.setp (a : Kp p ln tr l1 t1 st s1) (c : List AV) : Kp p ln tr l1 t1 st ⟨s1.heap.set p c, s1.tk⟩ :=
  ⟨by rw [List.length_set]; exact a.len, fun q h1 h2 => (List.getElem?_set_ne (Ne.symm h2)).trans (a.heap q h1 h2), a.tkl, a.tk, a.nl, a.nt⟩
theorem Kp.alloc (a : Kp p ln tr l1 t1 st s1) (c : List AV) : Kp p ln tr l1 t1 st ⟨s1.heap ++ [c], s1.tk⟩ :=
  ⟨by rw [List.length_append]; exact Nat.le_trans a.len (Nat.le_add_right _ _), fun q h1 h2 => (List.getElem?_append_left (Nat.lt_of_lt_of_le h1 a.len)).trans (a.heap q h1 h2), a.tkl, a.tk, a.nl, a.nt⟩
theorem Kp.setn (a : Kp p ln tr l1 t1 st s1) {q : Nat} (hq : st.heap.length ≤ q) (c : List AV) : Kp p ln tr l1 t1 st ⟨s1.heap.set q c, s1.tk⟩ :=
  ⟨by rw [List.length_set]; exact a.len, fun r h1 h2 => (List.getElem?_set_ne (by omega)).trans (a.heap r h1 h2), a.tkl, a.tk, a.nl, a.nt⟩
theorem Kp.nilL (a : Kp p ln tr l1 t1 st s1) : Kp p ln tr .nilS t1 st s1 := ⟨a.len, a.heap, a.tkl, a.tk, fun _ h => (by cases h), a.nt⟩
theorem DI.lt (h : DI st p L d ln tr) : p < st.heap.length := lt_of h.h
theorem DI.tkl (h : DI st p L d ln tr) {t : Nat} (ht : tkt ln = some t) : t < st.tk.length := by
  have := h.l
  generalize u8L d.line = es at this
  cases this with
  | nil => cases ht
  | own t' e es hn hk => cases ht; exact (List.getElem?_eq_some_iff.1 hk).1
theorem DI.tkt' (h : DI st p L d ln tr) {t : Nat} (ht : tkt tr = some t) : t < st.tk.length := by
  have := h.t
  generalize fldL d.tr = es at this
  cases this with
  | nil => cases ht
  | own t' e es hn hk => cases ht; exact (List.getElem?_eq_some_iff.1 hk).1
theorem DI.lnF (h : DI st p L d ln tr) : ln = .nilS ∨ ∃ t e es, ln = .sl (.own t e) 1 es := by
  have := h.l
  generalize u8L d.line = es at this
  cases this with
  | nil => exact .inl rfl
  | own t e es hn ht => exact .inr ⟨_, _, _, rfl⟩
theorem DI.trF (h : DI st p L d ln tr) : tr = .nilS ∨ ∃ t e es, tr = .sl (.own t e) 2 es := by
  have := h.t
  generalize fldL d.tr = es at this
  cases this with
  | nil => exact .inl rfl
  | own t e es hn ht => exact .inr ⟨_, _, _, rfl⟩
theorem Acc.keep {tk tk' : List Nat} {sz : Nat} {a : AV} {es : List (List AV)} (h : Acc 0 tk sz a es) (hk : ∀ t, tkt a = some t → tk'[t]? = tk[t]?) : Acc 0 tk' sz a es := by
  cases h with
  | nil => exact .nil
  | own t e es hn ht => exact .own t e es hn ((hk t rfl).trans ht)
/-- other cells, the rows as they were -/
theorem DI.set (h : DI st p L d ln tr) {d' : Dc} (e1 : d'.line = d.line) (e2 : d'.tr = d.tr) : DI ⟨st.heap.set p (dcC L d' ln tr), st.tk⟩ p L d' ln tr :=
  ⟨st_eq h.h, by rw [e1]; exact h.l, by rw [e2]; exact h.t, h.ne, by rw [e1]; exact h.nz⟩
theorem Acc.appK {i : TI} {a : AV} {es ys : List (List AV)} {tg : Tk} {K : AV → St → Prop} (h : Acc 0 st.tk i.size a es) (hy : ys ≠ []) (hb : (es.length + ys.length) * i.bytes ≤ 140737488355328) (hm : es.length + ys.length ≤ maxLen)
    (hK : ∀ t e tk', tk'[t]? = some e → st.tk.length ≤ tk'.length → (tkt a = some t ∨ (tkt a = none ∧ t = st.tk.length)) → (∀ q, q < st.tk.length → q ≠ t → tk'[q]? = st.tk[q]?) → K (.sl (.own t e) i.size (es ++ ys)) ⟨st.heap, tk'⟩) : vcApp i a (.sl tg i.size ys) st K := by
  unfold vcApp srcA
  simp only [decide_true]
  cases h with
  | nil =>
    refine ⟨fun e => absurd e hy, fun _ => ⟨by simpa using hb, by simpa using hm, .inl ?_⟩⟩
    refine hK _ _ _ (by simp) (by simp) (.inr ⟨rfl, rfl⟩) (fun t ht _ => ?_)
    rw [List.getElem?_append_left (by omega)]
  | own t e es h1 h2 =>
    simp only [decide_true]
    have hlt := (List.getElem?_eq_some_iff.1 h2).1
    refine ⟨h2, hb, hm, hK _ _ _ (by rw [List.getElem?_set_self hlt]) (by simp) (.inl rfl) (fun t' _ ht' => ?_)⟩
    rw [List.getElem?_set_ne (Ne.symm ht')]
theorem Acc.appS {i : TI} {a : AV} {l : List UInt8} {s : ByteArray} {K : AV → St → Prop} (hi : i.size = 1) (hbt : i.bytes = 1) (h : Acc 0 st.tk 1 a (u8L l)) (hb : l.length + s.size ≤ 140737488355328)
    (hK0 : s.size = 0 → tkt a = none → K a st)
    (hK : ∀ t e tk', tk'[t]? = some e → st.tk.length ≤ tk'.length → (tkt a = some t ∨ (tkt a = none ∧ t = st.tk.length)) → (∀ q, q < st.tk.length → q ≠ t → tk'[q]? = st.tk[q]?) → K (.sl (.own t e) 1 (u8L (l ++ s.data.toList))) ⟨st.heap, tk'⟩) : vcApp i a (.s s) st K := by
  have hmx : maxLen = 9223372036854775807 := rfl
  have e1 : u8L (l ++ s.data.toList) = u8L l ++ u8L s.data.toList := by simp [u8L]
  have hsl := blen s
  have hul := u8L_len s.data.toList
  have hll := u8L_len l
  rw [e1] at hK
  unfold vcApp srcA
  rw [hi, hbt]
  simp only [decide_true]
  have hq : (s.data.toList.map fun b => [AV.u8 b]) = u8L s.data.toList := rfl
  rw [hq]
  generalize u8L s.data.toList = ys at *
  generalize u8L l = es at *
  cases h with
  | nil =>
    refine ⟨fun e => hK0 (by rw [e] at hul; simp at hul; omega) rfl, fun hy => ⟨by omega, by omega, .inl ?_⟩⟩
    refine hK _ _ _ (by simp) (by simp) (.inr ⟨rfl, rfl⟩) (fun t ht _ => ?_)
    rw [List.getElem?_append_left (by omega)]
  | own t e es h1 h2 =>
    have hlt := (List.getElem?_eq_some_iff.1 h2).1
    refine ⟨h2, by omega, by omega, hK _ _ _ (by rw [List.getElem?_set_self hlt]) (by simp) (.inl rfl) (fun t' _ ht' => ?_)⟩
    rw [List.getElem?_set_ne (Ne.symm ht')]
end
theorem valH_nn {n : Int} (h0 : 0 ≤ n) (h1 : n < 256) (h : hexI n = true) : 0 ≤ worthI n := by
  have := (by decide +kernel : ∀ m : Nat, m < 256 → hexI (m : Int) = true → 0 ≤ worthI (m : Int)) n.toNat (by omega)
  rw [Int.toNat_of_nonneg h0] at this
  exact this h
theorem readH_bnd (s : ByteArray) : 0 ≤ (readH s mostB).1 ∧ (readH s mostB).1 ≤ 1099511627776 := by
  unfold readH
  split
  · exact ⟨by decide, by decide⟩
  · rename_i h
    have ha : allI hexI s = true := by
      cases hx : allI hexI s with
      | true => rfl
      | false => exact absurd (.inr hx) h
    have hw : ∀ b ∈ s.data.toList, 0 ≤ worthI (b.toNat : Int) := fun b hb => valH_nn (by omega) (by have := b.toNat_lt; omega) (List.all_eq_true.1 ha b hb)
    have := rdL_val 16 mostB (by decide) s.data.toList 0 hw (Nat.zero_le _)
    have e : rdL 16 mostB s.data.toList 0 = rdL ((16 : Nat) : Int) (mostB : Nat) s.data.toList ((0 : Nat) : Int) := rfl
    rw [e, this]
    have hm : mostB = 1099511627776 := rfl
    split
    · exact ⟨by decide, by decide⟩
    · show (0 : Int) ≤ (Nat.cast _) ∧ (Nat.cast _ : Int) ≤ _
      omega
theorem parseC_bnd (s : ByteArray) : 0 ≤ (parseC s).1 ∧ (parseC s).1 ≤ 1099511627776 := by
  unfold parseC
  dsimp only
  split
  · exact ⟨by decide, by decide⟩
  · split
    · exact ⟨Int.le_refl _, by show (0 : Int) ≤ _; decide⟩
    · split
      · exact ⟨Int.le_refl _, by show (0 : Int) ≤ _; decide⟩
      · exact readH_bnd _
/-- what stays so -/
structure Dc.In (L : Nat) (d : Dc) : Prop where
  a : d.a ≤ 3
  left : d.left ≤ 1099511627776
  one : d.a = 1 → 1 ≤ d.left
  two : d.a = 2 → d.left = 1 ∨ d.left = 2
  sum : d.sum ≤ 1099511627776
  spent : d.spent ≤ L + 2
  line : d.line.length ≤ 4098
  tr : d.tr.length ≤ 100
section
attribute [local irreducible] vcApp
variable {st : St} {p L : Nat} {d : Dc} {ln tr : AV} {R : AV → St → Prop}
theorem data_a (hD : DI st p L d ln tr) (hI : d.In L) (ha : d.a = 1) (s : ByteArray) (hs : s.size ≤ 9000000000000000000) (hR : ∀ k st', k = min d.left s.size → Kp p ln tr ln tr st st' → DI st' p L (d.took k) ln tr → R (.s (s.extract 0 k)) st') : ACalls Tryd.prog 71 [.ptr p 0, .s s] st R := by
  have h1 := hI.one ha
  have h2 := hI.left
  obtain ⟨k, hk⟩ : ∃ k, k = min d.left s.size := ⟨_, rfl⟩
  have hR := hR k
  have fin : ∀ {K : List (List AV)}, K = st.heap.set p (dcC L (d.took k) ln tr) → R (.s (s.extract 0 k)) ⟨K, st.tk⟩ := fun {K} e => by
    subst e
    refine hR _ hk ((Kp.refl _ _ _ _).setp _) (hD.set ?_ ?_) <;> (unfold Dc.took; split <;> rfl)
  have hlF := hD.lnF
  have htF := hD.trF
  rcases hlF with rfl | ⟨t0, e0, es0, rfl⟩ <;> rcases htF with rfl | ⟨t1, e1, es1, rfl⟩
  all_goals
    refine ACalls.of_vc T_ok mixed Tryd.func71 rfl Tryd.call71 ?_
    refine ⟨_, hD.h, ?_⟩
    refine ⟨_, hD.h, ?_⟩
    have hm : ((fun a b : Int => if b < a then b else a) (d.left : Int) (s.size : Int)) = (k : Int) := by
      dsimp only
      split <;> omega
    intro c hc
    have hc := hc.trans (congrArg (fun z : Int => IntKind.i64.wrap ((d.left : Int) - z)) hm)
    rw [IntWalk.i64_in _ (by omega)] at hc
    obtain rfl : c = ((d.left - k : Nat) : Int) := by omega
    refine ⟨_, hD.h, ?_⟩
    refine ⟨_, st_eq hD.h, ?_⟩
    refine cnd_split (fun h => ?_) (fun h => ?_)
    · have h : ((d.left - k : Nat) : Int) = 0 := beq_iff_eq.1 h
      refine ⟨_, st_eq hD.h, ?_⟩
      refine ⟨_, st_eq (st_eq hD.h), ?_⟩
      refine ⟨k, hm, Nat.zero_le _, by omega, ?_⟩
      refine fin ?_
      rw [List.set_set, List.set_set]
      unfold Dc.took
      rw [if_pos (by omega)]
      first | done | rfl
    · have h : ((d.left - k : Nat) : Int) ≠ 0 := beq_eq_false_iff_ne.1 h
      refine ⟨k, hm, Nat.zero_le _, by omega, ?_⟩
      refine fin ?_
      unfold Dc.took
      rw [if_neg (by omega)]
theorem ended_a (hD : DI st p L d ln tr) (hI : d.In L) (ha : d.a = 2) (b : UInt8) (hR : ∀ st', Kp p ln tr ln tr st st' → DI st' p L (stepD L d b).1 ln tr → R (.i (stepD L d b).2.2.2) st') : ACalls Tryd.prog 72 [.ptr p 0, .u8 b] st R := by
  have h2 := hI.two ha
  have hS : stepD L d b = if b ≠ (if d.left = 1 then 10 else 13) then (d, [], false, 31) else (if d.left = 1 then { d with a := 0, left := 0 } else { d with left := d.left - 1 }, [], false, 0) := by
    unfold stepD
    rw [if_neg (by omega), if_pos ha]
  have hb : ∀ n : Nat, n < 256 → (((b.toNat : Int) != (n : Int)) = true ↔ b ≠ UInt8.ofNat n) := fun n hn => by
    rw [bne_iff_ne]
    constructor
    · intro h e
      subst e
      exact h (by rw [UInt8.toNat_ofNat']; omega)
    · intro h e
      exact h (UInt8.toNat_inj.1 (by rw [UInt8.toNat_ofNat']; omega))
  have hb10 : ((b.toNat : Int) != 10) = true ↔ b ≠ 10 := hb 10 (by decide)
  have hb13 : ((b.toNat : Int) != 13) = true ↔ b ≠ 13 := hb 13 (by decide)
  generalize stepD L d b = Z at hS hR
  have fin : ∀ {K : List (List AV)} (d' : Dc) (v : Int), Z = (d', [], false, v) → d'.line = d.line → d'.tr = d.tr → K = st.heap.set p (dcC L d' ln tr) → R (.i v) ⟨K, st.tk⟩ := fun {K} d' v e e1 e2 eK => by
    subst e eK
    exact hR _ ((Kp.refl _ _ _ _).setp _) (hD.set e1 e2)
  have hlF := hD.lnF
  have htF := hD.trF
  rcases hlF with rfl | ⟨t0, e0, es0, rfl⟩ <;> rcases htF with rfl | ⟨t1, e1, es1, rfl⟩
  all_goals
    refine ACalls.of_vc T_ok mixed Tryd.func72 rfl Tryd.call72 ?_
    refine ⟨_, hD.h, ?_⟩
    refine cnd_split (fun h1 => ?_) (fun h1 => ?_)
    · have h1 : (d.left : Int) = 1 := beq_iff_eq.1 h1
      rw [if_pos (by omega : d.left = 1), if_pos (by omega : d.left = 1)] at hS
      refine cnd_split (fun h => ?_) (fun h => ?_)
      · rw [if_pos (hb10.1 h)] at hS
        subst hS
        exact hR _ (Kp.refl _ _ _ _) hD
      · rw [if_neg (fun h' => by rw [hb10.2 h'] at h; cases h)] at hS
        refine ⟨_, hD.h, ?_⟩
        intro c hc
        rw [IntWalk.i64_in _ (by omega)] at hc
        obtain rfl : c = ((0 : Nat) : Int) := by omega
        refine ⟨_, hD.h, ?_⟩
        refine ⟨_, st_eq hD.h, ?_⟩
        refine ⟨_, st_eq hD.h, ?_⟩
        exact fin _ _ hS rfl rfl (by first | rfl | (rw [List.set_set]; done) | (rw [List.set_set]; rfl) | (rw [List.set_set, List.set_set]; done) | (rw [List.set_set, List.set_set]; rfl) | (rw [List.set_set, List.set_set, List.set_set]; done) | (rw [List.set_set, List.set_set, List.set_set]; rfl))
    · have h1 : (d.left : Int) ≠ 1 := beq_eq_false_iff_ne.1 h1
      rw [if_neg (by omega : ¬ d.left = 1), if_neg (by omega : ¬ d.left = 1)] at hS
      refine cnd_split (fun h => ?_) (fun h => ?_)
      · rw [if_pos (hb13.1 h)] at hS
        subst hS
        exact hR _ (Kp.refl _ _ _ _) hD
      · rw [if_neg (fun h' => by rw [hb13.2 h'] at h; cases h)] at hS
        refine ⟨_, hD.h, ?_⟩
        intro c hc
        rw [IntWalk.i64_in _ (by omega)] at hc
        obtain rfl : c = ((d.left - 1 : Nat) : Int) := by omega
        refine ⟨_, hD.h, ?_⟩
        refine ⟨_, st_eq hD.h, ?_⟩
        refine cnd_split (fun h => ?_) (fun h => ?_)
        · have h : ((d.left - 1 : Nat) : Int) = 0 := beq_iff_eq.1 h
          omega
        · exact fin _ _ hS rfl rfl (by first | rfl | (rw [List.set_set]; done) | (rw [List.set_set]; rfl) | (rw [List.set_set, List.set_set]; done) | (rw [List.set_set, List.set_set]; rfl) | (rw [List.set_set, List.set_set, List.set_set]; done) | (rw [List.set_set, List.set_set, List.set_set]; rfl))
theorem size_a (hD : DI st p L d ln tr) (hI : d.In L) (s : ByteArray) (hs : s.size ≤ 1000000) (hR : ∀ st', Kp p ln tr ln tr st st' → DI st' p L (sizeD d s).1 ln tr → R (.i (sizeD d s).2) st') : ACalls Tryd.prog 96 [.ptr p 0, .s s] st R := by
  have q := parse18_p s (by omega)
  have hb := parseC_bnd s
  have hS := (rfl : sizeD d s = _)
  rw [show sizeD d s = if (parseC s).2.2 ≠ 0 then (d, (parseC s).2.2) else if (mostB : Int) - d.sum < (parseC s).1 then (d, 7) else if (parseC s).1 = 0 then ({ d with a := 3 }, 0) else ({ d with a := 1, left := (parseC s).1.toNat, sum := d.sum + (parseC s).1.toNat }, 0) from rfl] at hS
  have hsz : sizeD d s = if (parseC s).2.2 ≠ 0 then (d, (parseC s).2.2) else if (mostB : Int) - d.sum < (parseC s).1 then (d, 7) else if (parseC s).1 = 0 then ({ d with a := 3 }, 0) else ({ d with a := 1, left := (parseC s).1.toNat, sum := d.sum + (parseC s).1.toNat }, 0) := rfl
  clear hS
  generalize sizeD d s = Z at hsz hR
  have hm : (mostB : Int) = 1099511627776 := rfl
  rw [hm] at hsz
  have h5 := hI.sum
  have fin : ∀ {K : List (List AV)} (d' : Dc) (v : Int), Z = (d', v) → d'.line = d.line → d'.tr = d.tr → K = st.heap.set p (dcC L d' ln tr) → R (.i v) ⟨K, st.tk⟩ := fun {K} d' v e e1 e2 eK => by
    subst e eK
    exact hR _ ((Kp.refl _ _ _ _).setp _) (hD.set e1 e2)
  obtain ⟨n, hn⟩ : ∃ n : Nat, (parseC s).1 = (n : Int) := ⟨(parseC s).1.toNat, by omega⟩
  rw [hn] at q hb hsz
  generalize (parseC s).2.1 = at' at q
  generalize (parseC s).2.2 = e at q hsz
  have hlF := hD.lnF
  have htF := hD.trF
  rcases hlF with rfl | ⟨t0, e0, es0, rfl⟩ <;> rcases htF with rfl | ⟨t1, e1, es1, rfl⟩
  all_goals
    refine ACalls.of_vc T_ok mixed Tryd.func96 rfl Tryd.call96 ?_
    refine .p rfl q ?_
    refine cnd_split (fun h => ?_) (fun h => ?_)
    · rw [if_pos (bne_iff_ne.1 h)] at hsz
      subst hsz
      exact hR _ (Kp.refl _ _ _ _) hD
    have h : e = 0 := bne_eq_false_iff_eq.1 h
    rw [if_neg (fun h' => h' h)] at hsz
    refine ⟨_, hD.h, ?_⟩
    intro c hc
    rw [IntWalk.i64_in _ (by omega)] at hc
    subst hc
    refine cnd_split (fun h => ?_) (fun h => ?_)
    · have h := of_decide_eq_true h
      rw [if_pos (by omega)] at hsz
      subst hsz
      exact hR _ (Kp.refl _ _ _ _) hD
    have h := of_decide_eq_false h
    rw [if_neg (by omega)] at hsz
    refine cnd_split (fun h0 => ?_) (fun h0 => ?_)
    · have h0 : (n : Int) = 0 := beq_iff_eq.1 h0
      rw [if_pos h0] at hsz
      refine ⟨_, hD.h, ?_⟩
      exact fin _ _ hsz rfl rfl (by first | rfl | (rw [List.set_set]; done) | (rw [List.set_set]; rfl) | (rw [List.set_set, List.set_set]; done) | (rw [List.set_set, List.set_set]; rfl) | (rw [List.set_set, List.set_set, List.set_set]; done) | (rw [List.set_set, List.set_set, List.set_set]; rfl))
    have h0 : (n : Int) ≠ 0 := beq_eq_false_iff_ne.1 h0
    rw [if_neg h0, Int.toNat_natCast] at hsz
    refine ⟨_, hD.h, ?_⟩
    refine ⟨_, st_eq hD.h, ?_⟩
    refine ⟨_, st_eq (st_eq hD.h), ?_⟩
    intro c hc
    rw [IntWalk.i64_in _ (by omega)] at hc
    obtain rfl : c = ((d.sum + n : Nat) : Int) := by omega
    refine ⟨_, st_eq (st_eq hD.h), ?_⟩
    exact fin _ _ hsz rfl rfl (by first | rfl | (rw [List.set_set]; done) | (rw [List.set_set]; rfl) | (rw [List.set_set, List.set_set]; done) | (rw [List.set_set, List.set_set]; rfl) | (rw [List.set_set, List.set_set, List.set_set]; done) | (rw [List.set_set, List.set_set, List.set_set]; rfl))
end
end Go.Proofs.YtookaenbpfpegaaDoor
