/- The classes of bytes and the scanner, over abstract values. No statement of its own. -/
import Derived.Test.YthnmbfiandpedaaGreatDoorHTab
import Derived.Test.YthnmbfiandpedaaGreatDoorHPl
import Derived.Test.YthnmbfiandpedaaGreatDoorHShelf
import Derived.Shelf.Strings.SlTrimAscii
set_option linter.unusedSimpArgs false
set_option linter.unusedVariables false
set_option maxRecDepth 100000
namespace Go.Proofs.YthnmbfiandpedaaGreatDoor
open Go.RowKit
theorem mixed : Tryz.prog.follows .mixedOrders = true := by kernel_rfl

theorem retb {x y : Bool} (h : x = y) : (AV.b x).stripR = AV.b y := by rw [h]; rfl
theorem reti {k : IntKind} {x y : Int} (h : x = y) : (AV.int k x).stripR = AV.int k y := by rw [h]; rfl
/-- an older contract over plain values -/
theorem APure.of_lits {P : Program} {f : FuncId} (vs : Array Value) {v : Value} {r : AV} (hr : r = .lit v ∨ ∃ us : List Value, v = .tuple us.toArray ∧ r = .tup (us.map AV.lit)) (hd : r.datR = true) (hcall : ∀ zs w, (callFunc f zs).run P w = .ok (.enter f zs) w)
    (h : ∀ w, LaidW w → Calls P f vs w fun e w' => e = .returned v ∧ Below w.heap.size w w') : APure P f (vs.toList.map AV.lit) r [] := by
  refine ⟨AV.res_of_datR hd, hcall, fun J w zs hw hl ha => ?_⟩
  have has : zs = vs := by
    apply Array.ext
    · simpa using hl.symm
    · intro i h1 h2
      have := ha i (.lit vs[i]) zs[i] (by simp [h2]) (by simp [h1])
      exact this.of_lit
  subst has
  refine (h w (hw w (.refl _ _))).mono ?_
  rintro e w' ⟨rfl, hb⟩
  refine ⟨v, fun _ => ⟨0, 0, 0⟩, rfl, ⟨⟨Nat.le_refl _, hw⟩, hb, fun p cs h => by simp at h, fun p q h => by simp at h, fun t e h => by simp at h⟩, ?_⟩
  rcases hr with rfl | ⟨us, rfl, rfl⟩
  · exact .lit _
  · refine .tup _ _ (by simp) (fun j a u h1 h2 => ?_)
    simp only [List.getElem?_map, Option.map_eq_some_iff] at h1
    obtain ⟨x, hx, rfl⟩ := h1
    simp [hx] at h2
    subst h2
    exact .lit _

theorem isDigit_p (n : Int) : APure Tryz.prog 115 [.int .u8 n] (.b (digI n)) [] := by
  refine APure.of rfl (ACalls.of_vc T_ok mixed Tryz.func115 rfl Tryz.call115 ?_)
  unfold digI
  refine cnd_split (fun h => ?_) (fun h => ?_)
  · exact retb (by rw [show decide (48 ≤ n) = true from h]; rfl)
  · exact retb (by rw [show decide (48 ≤ n) = false from h]; rfl)
theorem lower_p (n : Int) (h0 : 0 ≤ n) (h1 : n ≤ 255) : APure Tryz.prog 200 [.int .u8 n] (.int .u8 (lowI n)) [] := by
  refine APure.of rfl (ACalls.of_vc T_ok mixed Tryz.func200 rfl Tryz.call200 ?_)
  unfold lowI
  refine cnd_split (fun h => ?_) (fun h => ?_)
  · refine cnd_split (fun h2 => ?_) (fun h2 => ?_)
    · intro c hc
      have h := of_decide_eq_true h
      have h2 := of_decide_eq_true h2
      exact reti (by rw [if_pos ⟨by omega, by omega⟩, hc]; exact IntWalk.u8_in _ (by omega))
    · have h2 := of_decide_eq_false h2
      exact reti (by rw [if_neg (by omega)])
  · have h := of_decide_eq_false h
    exact reti (by rw [if_neg (by omega)])
theorem isAlpha_p (n : Int) (h0 : 0 ≤ n) (h1 : n ≤ 255) : APure Tryz.prog 143 [.int .u8 n] (.b (alpI n)) [] := by
  refine APure.of rfl (ACalls.of_vc T_ok mixed Tryz.func143 rfl Tryz.call143 ?_)
  unfold alpI
  refine .p rfl (lower_p n h0 h1) ?_
  refine cnd_split (fun h => ?_) (fun h => ?_)
  · refine .p rfl (lower_p n h0 h1) ?_
    exact retb (by rw [show decide (97 ≤ lowI n) = true from h]; rfl)
  · exact retb (by rw [show decide (97 ≤ lowI n) = false from h]; rfl)
theorem isBlank_p (n : Int) : APure Tryz.prog 91 [.int .u8 n] (.b (blkI n)) [] := by
  refine APure.of rfl (ACalls.of_vc T_ok mixed Tryz.func91 rfl Tryz.call91 ?_)
  unfold blkI
  refine cnd_split (fun h => ?_) (fun h => ?_)
  · exact retb (by rw [show (n == 32) = true from h]; rfl)
  · exact retb (by rw [show (n == 32) = false from h]; rfl)
theorem isVisible_p (n : Int) : APure Tryz.prog 90 [.int .u8 n] (.b (visI n)) [] := by
  refine APure.of rfl (ACalls.of_vc T_ok mixed Tryz.func90 rfl Tryz.call90 ?_)
  unfold visI
  refine cnd_split (fun h => ?_) (fun h => ?_)
  · exact retb (by rw [show decide (32 < n) = true from h]; rfl)
  · exact retb (by rw [show decide (32 < n) = false from h]; rfl)
theorem isValue_p (n : Int) : APure Tryz.prog 55 [.int .u8 n] (.b (valI n)) [] := by
  refine APure.of rfl (ACalls.of_vc T_ok mixed Tryz.func55 rfl Tryz.call55 ?_)
  unfold valI
  refine .p rfl (isVisible_p n) ?_
  refine cnd_split (fun h => ?_) (fun h => ?_)
  · exact retb (by rw [h]; rfl)
  · rw [h]
    refine .p rfl (isBlank_p n) ?_
    refine cnd_split (fun h => ?_) (fun h => ?_)
    · exact retb (by rw [h]; rfl)
    · exact retb (by rw [h]; rfl)
theorem indexByte_p (s : ByteArray) (c : Int) : APure Tryz.prog 201 [.s s, .int .u8 c] (.i (Lib.indexByte s.data.toList c.toNat.toUInt8)) [] := by
  refine APure.of_lits #[.string s, .int .u8 c] (.inl rfl) rfl Tryz.call201 fun w _ => (Tryz.strings_IndexByte s c w).mono ?_
  rintro e w' ⟨rfl, rfl⟩
  exact ⟨rfl, .refl _ _⟩

theorem set_id {α : Type} {l : List α} {i : Nat} {v : α} (h : l[i]? = some v) : l.set i v = l := by
  apply List.ext_getElem?
  intro j
  by_cases e : i = j
  · subst e
    rw [List.getElem?_set_self (List.getElem?_eq_some_iff.1 h).1, h]
  · rw [List.getElem?_set_ne e]
theorem emp_iff (s : ByteArray) : s = ⟨#[]⟩ ↔ s.size = 0 := by
  constructor
  · intro h; rw [h]; rfl
  · intro h
    cases s with
    | mk d =>
      have : d.size = 0 := h
      rw [Array.eq_empty_of_size_eq_zero this]

/-- the scanner p of the text s at the place k -/
structure Sc (st : St) (p : Nat) (s : ByteArray) (k : Nat) : Prop where
  at' : st.heap[p]? = some [.s s, .i k]
  le : k ≤ s.size
  max : s.size ≤ maxLen
def St.sc (st : St) (p : Nat) (s : ByteArray) (k : Nat) : St := ⟨st.heap.set p [.s s, .i k], st.tk⟩

section
variable {st : St} {p k : Nat} {s : ByteArray} {R : AV → St → Prop}
theorem Sc.lt (h : Sc st p s k) : p < st.heap.length := (List.getElem?_eq_some_iff.1 h.at').1
theorem Sc.id (h : Sc st p s k) : st.sc p s k = st := by unfold St.sc; rw [set_id h.at']
theorem Sc.sc (h : Sc st p s k) {j : Nat} (hj : j ≤ s.size) : Sc (st.sc p s j) p s j := ⟨by rw [St.sc, List.getElem?_set_self h.lt], hj, h.max⟩
theorem St.sc_sc (st : St) (p : Nat) (s : ByteArray) (j i : Nat) : (st.sc p s j).sc p s i = st.sc p s i := by simp [St.sc, List.set_set]
theorem St.sc_ne {st : St} {p q : Nat} {s : ByteArray} {j : Nat} (h : p ≠ q) : (st.sc p s j).heap[q]? = st.heap[q]? := List.getElem?_set_ne h

theorem new_a (hR : R (.ptr st.heap.length 0) ⟨st.heap ++ [[.s s, .i 0]], st.tk⟩) : ACalls Tryz.prog 82 [.s s] st R := by
  refine ACalls.of_vc T_ok mixed Tryz.func82 rfl Tryz.call82 ?_
  exact hR
theorem at_a (h : Sc st p s k) (hR : R (.i k) st) : ACalls Tryz.prog 161 [.ptr p 0] st R := by
  refine ACalls.of_vc T_ok mixed Tryz.func161 rfl Tryz.call161 ?_
  exact ⟨_, h.at', hR⟩
theorem rest_a (h : Sc st p s k) (hR : R (.s (s.extract k s.size)) st) : ACalls Tryz.prog 86 [.ptr p 0] st R := by
  refine ACalls.of_vc T_ok mixed Tryz.func86 rfl Tryz.call86 ?_
  refine .e (by kernel_rfl) ?_
  refine ⟨_, h.at', ?_⟩
  refine ⟨_, h.at', ?_⟩
  exact ⟨k, rfl, h.le, Nat.le_refl _, hR⟩
theorem ext_len (s : ByteArray) (a b : Nat) (h : b ≤ s.size) : (s.extract a b).size = b - a := by
  rw [ByteArray.size_extract]; omega
theorem end_a (h : Sc st p s k) (hR : R (.b (decide (s.size ≤ k))) st) : ACalls Tryz.prog 113 [.ptr p 0] st R := by
  refine ACalls.of_vc T_ok mixed Tryz.func113 rfl Tryz.call113 ?_
  refine .s (rest_a h ?_)
  intro t ht
  have h2 := ht.trans (emp_iff _)
  rw [ext_len _ _ _ (Nat.le_refl _)] at h2
  have : t = decide (s.size ≤ k) := by
    rw [Bool.eq_iff_iff, h2, decide_eq_true_eq]
    omega
  subst this
  exact hR
theorem peek_a (h : Sc st p s k) (h1 : ∀ hk : k < s.size, R (.tup [.u8 s[k], .b true]) st) (h2 : s.size ≤ k → R (.tup [.int .u8 0, .b false]) st) : ACalls Tryz.prog 140 [.ptr p 0] st R := by
  refine ACalls.of_vc T_ok mixed Tryz.func140 rfl Tryz.call140 ?_
  refine .s (end_a h ?_)
  refine cnd_split (fun hd => ?_) (fun hd => ?_)
  · exact h2 (of_decide_eq_true hd)
  · have hk := of_decide_eq_false hd
    refine .e (by kernel_rfl) ?_
    refine ⟨_, h.at', ?_⟩
    refine ⟨_, h.at', ?_⟩
    exact ⟨k, by omega, rfl, h1 (by omega)⟩
theorem byte_a (h : Sc st p s k) (b : Int) (hR : R (.b (atB s k b)) (st.sc p s (if atB s k b = true then k + 1 else k))) : ACalls Tryz.prog 85 [.ptr p 0, .int .u8 b] st R := by
  refine ACalls.of_vc T_ok mixed Tryz.func85 rfl Tryz.call85 ?_
  refine .s (peek_a h (fun hk => ?_) (fun hk => ?_))
  · rw [atB_lt hk] at hR
    refine cnd_split (fun hd => ?_) (fun hd => ?_)
    · rw [bne, Bool.not_eq_true'] at hd
      rw [hd, if_neg (by decide), h.id] at hR
      exact hR
    · rw [bne, Bool.not_eq_false'] at hd
      rw [hd, if_pos rfl] at hR
      refine ⟨_, h.at', ?_⟩
      intro c hc
      have hm := h.max
      unfold maxLen at hm
      rw [IntWalk.i64_in _ (by omega)] at hc
      subst hc
      exact ⟨_, h.at', hR⟩
  · rw [atB_ge hk, if_neg (by decide), h.id] at hR
    exact hR
theorem back_a (h : Sc st p s k) (i : Nat) (hi : i ≤ k) (hR : R (.b true) (st.sc p s i)) : ACalls Tryz.prog 400 [.ptr p 0, .i i] st R := by
  refine ACalls.of_vc T_ok mixed Tryz.func400 rfl Tryz.call400 ?_
  refine .s (at_a h ?_)
  refine cnd_split (fun hd => ?_) (fun hd => ?_)
  · have := of_decide_eq_true hd; omega
  · exact ⟨_, h.at', hR⟩

/-- a function of bytes -/
def ByteF (f : FuncId) (q : Int → Bool) : Prop := ∀ n : Int, 0 ≤ n → n ≤ 255 → APure Tryz.prog f [.int .u8 n] (.b (q n)) []
theorem while_a {f : FuncId} {q : Int → Bool} (hq : ByteF f q) (h : Sc st p s k) (hR : R (.s (s.extract k (k + tw q s k))) (st.sc p s (k + tw q s k))) : ACalls Tryz.prog 109 [.ptr p 0, .lit (.func (.func f) #[] #[])] st R := by
  have hm := h.max
  unfold maxLen at hm
  refine ACalls.of_vc T_ok mixed Tryz.func109 rfl Tryz.call109 ?_
  refine .s (at_a h ?_)
  refine vc_loop [] (fun g _ st' => ∃ m : Nat, k ≤ m ∧ m + g = s.size ∧ st' = st.sc p s m ∧ ∀ i (hi : i < s.size), k ≤ i → i < m → q (s[i].toNat : Int) = true) (s.size - k) rfl ⟨k, Nat.le_refl _, by have := h.le; omega, h.id.symm, fun i _ h1 h2 => absurd h2 (by omega)⟩ ?_
  rintro g vals _ ⟨m, hkm, hg, rfl, hall⟩
  have hs := h.sc (j := m) (by omega)
  have fin : ((hm' : m < s.size) → q (s[m].toNat : Int) = false) → R (.s (s.extract k m)) (st.sc p s m) := fun hlast => by
    rw [tw_at hall hkm (by omega) hlast] at hR
    exact hR
  refine .s (peek_a hs (fun hk => ?_) (fun hk => ?_))
  · refine .p rfl (hq _ (by omega) (by have := s[m].toNat_lt; omega)) ?_
    refine cnd_split (fun hd => ?_) (fun hd => ?_)
    · refine .e (by kernel_rfl) ?_
      refine ⟨_, hs.at', ?_⟩
      refine ⟨_, hs.at', ?_⟩
      refine ⟨m, rfl, k, rfl, by omega, by omega, ?_⟩
      exact fin fun _ => by simpa using hd
    · refine ⟨_, hs.at', ?_⟩
      intro c hc
      rw [IntWalk.i64_in _ (by omega)] at hc
      subst hc
      refine ⟨_, hs.at', ?_⟩
      refine ⟨g - 1, by omega, m + 1, by omega, by omega, St.sc_sc _ _ _ _ _, fun i hi h1 h2 => ?_⟩
      by_cases e : i = m
      · subst e; simpa using hd
      · exact hall i hi h1 (by omega)
  · refine .e (by kernel_rfl) ?_
    refine ⟨_, hs.at', ?_⟩
    refine ⟨_, hs.at', ?_⟩
    refine ⟨m, rfl, k, rfl, by omega, by omega, ?_⟩
    exact fin fun h => absurd h (by omega)
end
theorem info_set : (Tryz.prog.info? 185).map (fun i => (i.zero, i.size)) = some (some (.agg (Array.replicate 256 (.bool false))), 256) := by kernel_rfl
def trimC (s cs : ByteArray) : ByteArray := ⟨(Lib.trimS s.data.toList cs.data.toList).toArray⟩
def asciiL (cs : ByteArray) : Bool := cs.data.toList.all fun b => decide (b.toNat < 128)
theorem trim_p (s cs : ByteArray) (hs : s.size ≤ maxLen) (hc : cs.size < 100) (ha : asciiL cs = true) : APure Tryz.prog 56 [.s s, .s cs] (.s (trimC s cs)) [] :=
  APure.of_lits #[.string s, .string cs] (.inl rfl) rfl Tryz.call56 fun w _ => (Any.strings_Trim_laid Tryz.lays160 info_set s cs w (by unfold maxLen at hs; omega) (by omega) (ascii_of_all ha))
/-- texts in a row -/
def strL (l : List ByteArray) : List (List AV) := l.map fun s => [AV.s s]
theorem strL_len (l : List ByteArray) : (strL l).length = l.length := by simp [strL]
theorem strL_at {l : List ByteArray} {j : Nat} (h : j < l.length) : (strL l)[j]? = some [.s l[j]] := by simp [strL, h]
theorem strL_app (l : List ByteArray) (s : ByteArray) : strL l ++ [[.s s]] = strL (l ++ [s]) := by simp [strL]
def joinC (sep : ByteArray) (l : List ByteArray) : ByteArray := ⟨(Lib.join (l.map (·.data.toList)) sep.data.toList).toArray⟩
/-- nil is an empty row too -/
theorem APure.nil {P : Program} {f : FuncId} {args : List AV} (sz : Nat) (h : APure P f args .nilS []) : APure P f args (.sl .no sz []) [] := by
  refine ⟨rfl, h.2.1, fun J w vs hw hl ha => (h.2.2 J w vs hw hl ha).mono ?_⟩
  rintro e w' ⟨v, σ', he, hok, hat⟩
  refine ⟨v, σ', he, hok, ?_⟩
  cases hat
  exact .sl0 sz none 0 (Nat.zero_le _)

def resW (r' r : AV) : Prop := r'.stripR = r ∨ (∃ sz, r' = .nilS ∧ r = .sl .no sz []) ∨ ∃ vs sz, r' = .tup (.nilS :: vs) ∧ r = .tup (.sl .no sz [] :: vs.map AV.strip)
theorem ACalls.toPure {P : Program} {f : FuncId} {args : List AV} {r0 : AV} (hd : r0.datR = true) (h : ACalls P f args ⟨[], []⟩ fun r' _ => resW r' r0) : APure P f args r0 [] := by
  refine ⟨AV.res_of_datR hd, h.1, fun J w vs hw hl ha => ?_⟩
  refine (h.2 w.heap.size J w (fun _ => 0) (fun _ => ⟨0, 0, 0⟩) w vs (Ok.none J _ _ w hw) hl ha).mono ?_
  rintro e w' ⟨v, r', st', μ', σ', rfl, hR, hok, hx, hat⟩
  refine ⟨v, fun _ => ⟨0, 0, 0⟩, rfl, ⟨hok.bs, hok.below, fun p cs h => by simp at h, fun p q h => by simp at h, fun t e h => by simp at h⟩, ?_⟩
  have hi : ∀ g x, Im w.heap.size J st' μ' σ' g x → g < w'.heap.size → Im w.heap.size J ⟨[], []⟩ (fun _ => 0) (fun _ => ⟨0, 0, 0⟩) g x := fun g x hi _ => ⟨hi.1, fun p hp => by simp at hp, fun t e ht => by simp at ht⟩
  have std : r'.stripR = r0 → At w.heap.size J ⟨[], []⟩ (fun _ => 0) (fun _ => ⟨0, 0, 0⟩) w' r0 v := by
    rintro rfl
    cases r' with
    | tup cs =>
      cases hat with
      | tup cs us e1 hr =>
        refine .tup _ us (by simpa using e1) fun j a u h1 h2 => ?_
        have hda := List.all_eq_true.1 hd a (List.mem_of_getElem? h1)
        simp only [List.getElem?_map, Option.map_eq_some_iff] at h1
        obtain ⟨b, hb, rfl⟩ := h1
        exact (hr j b u hb h2).strip.dat hi hda
    | sl t sz es => exact hat.strip.dat hi hd
    | _ => exact hat.strip.dat hi hd
  rcases hR with hR | ⟨sz, rfl, rfl⟩ | ⟨vs, sz, rfl, rfl⟩
  · exact std hR
  · cases hat
    exact .sl0 sz none 0 (Nat.zero_le _)
  · cases hat with
    | tup cs us e1 hr =>
      refine .tup _ us (by simpa using e1) fun j x u hx hu => ?_
      cases j with
      | zero =>
        simp at hx
        subst hx
        rw [(hr 0 _ u rfl hu).of_lit]
        exact .sl0 sz none 0 (Nat.zero_le _)
      | succ j =>
        have hda := List.all_eq_true.1 hd x (List.mem_of_getElem? hx)
        simp only [List.getElem?_cons_succ, List.getElem?_map, Option.map_eq_some_iff] at hx
        obtain ⟨b, hb, rfl⟩ := hx
        exact (hr (j + 1) b u (by simpa using hb) hu).strip.dat hi hda
theorem APure.ofW {P : Program} {f : FuncId} {args : List AV} {r : AV} (hd : r.datR = true) (h : ACalls P f args ⟨[], []⟩ fun r' _ => resW r' r) : APure P f args r [] := h.toPure hd
theorem sjoin_p (sep : ByteArray) (l : List ByteArray) (hl : l.length ≤ 140737488355328) (hm : (joinC sep l).size ≤ 140737488355328) : APure Tryz.prog 59 [.sl .no 1 (strL l), .s sep] (.s (joinC sep l)) [] := by
  refine ⟨rfl, Tryz.call59, fun J w vs hw hlen ha => ?_⟩
  have hv : vs = #[vs.getD 0 undef, .string sep] := by
    apply Array.ext
    · simpa using hlen.symm
    · intro i h1 h2
      have h2' : i < 2 := by simpa using h2
      match i, h2' with
      | 0, _ => simp [Array.getD, h1]
      | 1, _ =>
        have := (ha 1 _ vs[1] rfl (by simp [h1])).of_lit
        rw [this]; rfl
  have h0 : 0 < vs.size := by rw [← hlen]; simp
  have a0 := ha 0 _ vs[0] rfl (by simp [h0])
  rw [hv]
  rw [show vs.getD 0 undef = vs[0] by simp [Array.getD, h0]]
  generalize vs[0] = v at a0
  have fin : Calls Tryz.prog 59 #[v, .string sep] w fun e w' => e = .returned (.string (joinC sep l)) ∧ Below w.heap.size w w' := by
    generalize hes : strL l = es at a0
    cases a0 with
    | sl0 sz a cap hm' =>
      have : l = [] := by simpa [strL] using hes
      subst this
      exact (Tryz.strings_Join_none a cap sep w).mono fun e w' ⟨h1, h2⟩ => ⟨h1, h2 ▸ Below.refl _ _⟩
    | sl t sz es g o cap us hs hn hm' hc hr ht1 ht2 =>
      subst hes
      rw [strL_len]
      have cell : ∀ (j : Nat) x, l[j]? = some x → w.cell? ⟨g, o + j, none⟩ = some (.string x) := fun j x hx => by
        obtain ⟨hj, rfl⟩ := List.getElem?_eq_some_iff.1 hx
        have q1 := (hc j _ 0 _ (strL_at hj) rfl).2
        have q2 := (hr j _ 0 _ (strL_at hj) rfl).of_lit
        rw [q2] at q1
        simpa using q1
      cases l with
      | nil => exact (Tryz.strings_Join_none _ cap sep w).mono fun e w' ⟨h1, h2⟩ => ⟨h1, h2 ▸ Below.refl _ _⟩
      | cons x r =>
        have hb : g < w.heap.size := World.block_lt_of_cell? w ⟨g, o + 0, none⟩ (cell 0 x rfl)
        exact Tryz.strings_Join g o cap (x :: r) sep w cell hb hl (by rw [← strL_len]; exact hn) (by
          have : (joinC sep (x :: r)).size = (Lib.join ((x :: r).map (·.data.toList)) sep.data.toList).length := by
            unfold joinC; show (Array.size _) = _; rw [List.size_toArray]
          omega)
  refine fin.mono ?_
  rintro e w' ⟨rfl, hb⟩
  exact ⟨_, fun _ => ⟨0, 0, 0⟩, rfl, ⟨⟨Nat.le_refl _, hw⟩, hb, fun p cs h => by simp at h, fun p q h => by simp at h, fun t e h => by simp at h⟩, .lit _⟩
theorem qjoin_p (sep : ByteArray) (l : List ByteArray) (hl : l.length ≤ 140737488355328) (hm : (joinC sep l).size ≤ 140737488355328) : APure Tryz.prog 35 [.s sep, .sl .no 1 (strL l)] (.s (joinC sep l)) [] := by
  refine APure.of rfl (ACalls.of_vc T_ok mixed Tryz.func35 rfl Tryz.call35 ?_)
  exact .p rfl (sjoin_p sep l hl hm) rfl
theorem app_size (a b : ByteArray) : (a ++ b).size = a.size + b.size := by
  rw [ByteArray.size_append]
/-- what a call keeps of the state: the variables but for C, the tickets below n -/
structure Mv (n : Nat) (C : Nat → Prop) (st st' : St) : Prop where
  len : st.heap.length ≤ st'.heap.length
  keep : ∀ q, q < st.heap.length → ¬ C q → st'.heap[q]? = st.heap[q]?
  tl : n ≤ st'.tk.length
  tk : ∀ t, t < n → st'.tk[t]? = st.tk[t]?
theorem Mv.refl {n : Nat} {C : Nat → Prop} {st : St} (h : n ≤ st.tk.length) : Mv n C st st := ⟨Nat.le_refl _, fun _ _ _ => rfl, h, fun _ _ => rfl⟩
theorem Mv.trans {n : Nat} {C D : Nat → Prop} {a b c : St} (h : Mv n C a b) (g : Mv n D b c) (hd : ∀ q, q < a.heap.length → D q → C q) : Mv n C a c :=
  ⟨Nat.le_trans h.len g.len, fun q hq hc => (g.keep q (Nat.lt_of_lt_of_le hq h.len) (fun d => hc (hd q hq d))).trans (h.keep q hq hc), g.tl, fun t ht => (g.tk t ht).trans (h.tk t ht)⟩
theorem Mv.mono {n m : Nat} {C : Nat → Prop} {a b : St} (h : Mv n C a b) (hm : m ≤ n) : Mv m C a b := ⟨h.len, h.keep, Nat.le_trans hm h.tl, fun t ht => h.tk t (by omega)⟩
theorem Mv.wide {n : Nat} {C D : Nat → Prop} {a b : St} (h : Mv n C a b) (hd : ∀ q, q < a.heap.length → C q → D q) : Mv n D a b := ⟨h.len, fun q hq hc => h.keep q hq (fun d => hc (hd q hq d)), h.tl, h.tk⟩
theorem Mv.set {n : Nat} {C : Nat → Prop} {a b : St} (h : Mv n C a b) {p : Nat} (hp : p < a.heap.length → C p) (cs : List AV) : Mv n C a ⟨b.heap.set p cs, b.tk⟩ :=
  ⟨by simpa using h.len, fun q hq hc => (List.getElem?_set_ne (fun e => by subst e; exact hc (hp hq))).trans (h.keep q hq hc), h.tl, h.tk⟩
theorem Mv.alloc {n : Nat} {C : Nat → Prop} {a b : St} (h : Mv n C a b) (cs : List AV) : Mv n C a ⟨b.heap ++ [cs], b.tk⟩ :=
  ⟨by have := h.len; simp; omega, fun q hq hc => (List.getElem?_append_left (Nat.lt_of_lt_of_le hq h.len)).trans (h.keep q hq hc), h.tl, h.tk⟩
theorem Mv.sc {n : Nat} {C : Nat → Prop} {a b : St} (h : Mv n C a b) {p : Nat} (hp : p < a.heap.length → C p) (s : ByteArray) (j : Nat) : Mv n C a (b.sc p s j) := h.set hp _
theorem Mv.tks {n : Nat} {C : Nat → Prop} {a b : St} (h : Mv n C a b) {tk : List Nat} (h1 : n ≤ tk.length) (h2 : ∀ t, t < n → tk[t]? = b.tk[t]?) : Mv n C a ⟨b.heap, tk⟩ := ⟨h.len, h.keep, h1, fun t ht => (h2 t ht).trans (h.tk t ht)⟩
theorem Mv.at' {n : Nat} {C : Nat → Prop} {a b : St} (h : Mv n C a b) {q : Nat} {cs : List AV} (hq : a.heap[q]? = some cs) (hc : ¬ C q) : b.heap[q]? = some cs := (h.keep q (List.getElem?_eq_some_iff.1 hq).1 hc).trans hq
theorem Sc.mv {n : Nat} {C : Nat → Prop} {a b : St} {p k : Nat} {s : ByteArray} (h : Sc a p s k) (m : Mv n C a b) (hc : ¬ C p) : Sc b p s k := ⟨m.at' h.at' hc, h.le, h.max⟩

/-- a row that is being built; n: tickets below are others' -/
inductive Acc (n : Nat) (tk : List Nat) (sz : Nat) : AV → List (List AV) → Prop
  | nil : Acc n tk sz .nilS []
  | own (t e : Nat) (es : List (List AV)) (hn : n ≤ t) (ht : tk[t]? = some e) : Acc n tk sz (.sl (.own t e) sz es) es
theorem Acc.app {n : Nat} {st : St} {i : TI} {a : AV} {es ys : List (List AV)} {tg : Tk} {K : AV → St → Prop} (h : Acc n st.tk i.size a es) (hn : n ≤ st.tk.length) (hy : ys ≠ []) (hb : (es.length + ys.length) * i.bytes ≤ 140737488355328) (hm : es.length + ys.length ≤ maxLen)
    (hK : ∀ t e tk', n ≤ t → tk'[t]? = some e → n ≤ tk'.length → (∀ t, t < n → tk'[t]? = st.tk[t]?) → K (.sl (.own t e) i.size (es ++ ys)) ⟨st.heap, tk'⟩) : vcApp i a (.sl tg i.size ys) st K := by
  unfold vcApp srcA
  simp only [decide_true]
  cases h with
  | nil =>
    refine ⟨fun e => absurd e hy, fun _ => ⟨by simpa using hb, by simpa using hm, .inl ?_⟩⟩
    refine hK _ _ _ hn (by simp) (by simp; omega) (fun t ht => ?_)
    rw [List.getElem?_append_left (by omega)]
  | own t e es h1 h2 =>
    simp only [decide_true]
    have hlt := (List.getElem?_eq_some_iff.1 h2).1
    refine ⟨h2, hb, hm, hK _ _ _ h1 (by rw [List.getElem?_set_self hlt]) (by simpa using hn) (fun t' ht' => ?_)⟩
    rw [List.getElem?_set_ne (by omega)]

def u8L (l : List UInt8) : List (List AV) := l.map fun b => [AV.u8 b]
theorem u8L_app (l : List UInt8) (b : UInt8) : u8L l ++ [[.u8 b]] = u8L (l ++ [b]) := by simp [u8L]
theorem u8L_len (l : List UInt8) : (u8L l).length = l.length := by simp [u8L]

attribute [local irreducible] vcApp
section
variable {st : St} {p k rb n : Nat} {s : ByteArray} {R : AV → St → Prop} {a : AV} {acc : List UInt8}
set_option maxHeartbeats 1000000 in
theorem next_a (h : Sc st p s k) (hr : st.heap[rb]? = some [.ptr p 0, a]) (ha : Acc n st.tk 1 a (u8L acc)) (hn : n ≤ st.tk.length) (hne : rb ≠ p) (hac : acc.length < 140737488355328)
    (h1 : nxt s k = none → ∀ st', Mv n (fun q => q = p ∨ q = rb) st st' → (∃ j, k ≤ j ∧ Sc st' p s j) → st'.heap[rb]? = some [.ptr p 0, a] → R (.b false) st')
    (h2 : ∀ b j, nxt s k = some (b, j) → ∀ st' a', Mv n (fun q => q = p ∨ q = rb) st st' → Sc st' p s j → st'.heap[rb]? = some [.ptr p 0, a'] → Acc n st'.tk 1 a' (u8L (acc ++ [b])) → R (.b true) st') :
    ACalls Tryz.prog 399 [.ptr rb 0] st R := by
  have hmx : maxLen = 9223372036854775807 := rfl
  have hN : nxt s k = match s.data.toList[if atB s k 92 = true then k + 1 else k]? with | some b => if valI (b.toNat : Int) = true then some (b, (if atB s k 92 = true then k + 1 else k) + 1) else none | none => none := rfl
  refine ACalls.of_vc T_ok mixed Tryz.func399 rfl Tryz.call399 ?_
  refine ⟨_, hr, ?_⟩
  refine .s (byte_a h 92 ?_)
  have hj0 : (if atB s k 92 = true then k + 1 else k) ≤ s.size := by
    split
    · rename_i e
      have : k < s.size := Decidable.byContradiction fun hc => by rw [atB_ge (by omega)] at e; cases e
      omega
    · exact h.le
  have hk0 : k ≤ (if atB s k 92 = true then k + 1 else k) := by split <;> omega
  generalize (if atB s k 92 = true then k + 1 else k) = j at *
  have hs := h.sc hj0
  have m1 : Mv n (fun q => q = p ∨ q = rb) st (st.sc p s j) := (Mv.refl hn).sc (fun _ => .inl rfl) s j
  have r1 : (st.sc p s j).heap[rb]? = some [.ptr p 0, a] := (St.sc_ne (fun e => hne e.symm)).trans hr
  refine ⟨_, r1, ?_⟩
  refine .s (peek_a hs (fun hk => ?_) (fun hk => ?_))
  · rw [at_lt hk] at hN
    simp only at hN
    refine .p rfl (isValue_p _) ?_
    refine cnd_split (fun hd => ?_) (fun hd => ?_)
    · rw [Bool.not_eq_true'] at hd
      rw [hd] at hN
      exact h1 hN _ m1 ⟨j, hk0, hs⟩ r1
    · rw [Bool.not_eq_false'] at hd
      rw [hd, if_pos rfl] at hN
      refine ⟨_, r1, ?_⟩
      have hl := u8L_len acc
      refine Acc.app (i := ti5) ha hn (List.cons_ne_nil _ _) ?_ ?_ (fun t e tk' q0 q1 q2 q3 => ?_)
      · show ((u8L acc).length + 1) * 1 ≤ _; omega
      · show (u8L acc).length + 1 ≤ _; omega
      have m2 := m1.tks q2 q3
      refine ⟨_, r1, ?_⟩
      have hrl : rb < (st.sc p s j).heap.length := (List.getElem?_eq_some_iff.1 r1).1
      have hp2 : ∀ (cs : List AV), ((st.sc p s j).heap.set rb cs)[p]? = (st.sc p s j).heap[p]? := fun cs => List.getElem?_set_ne hne
      have m3 := m2.set (p := rb) (fun _ => .inr rfl) [.ptr p 0, .sl (.own t e) 1 (u8L acc ++ [[.u8 s[j]]])]
      have hs3 : Sc ⟨(st.sc p s j).heap.set rb [.ptr p 0, .sl (.own t e) 1 (u8L acc ++ [[.u8 s[j]]])], tk'⟩ p s j := ⟨(hp2 _).trans hs.at', hj0, h.max⟩
      have r3 : ((st.sc p s j).heap.set rb [.ptr p 0, .sl (.own t e) 1 (u8L acc ++ [[.u8 s[j]]])])[rb]? = some [.ptr p 0, .sl (.own t e) 1 (u8L acc ++ [[.u8 s[j]]])] := List.getElem?_set_self hrl
      refine ⟨_, r3, ?_⟩
      refine .s (byte_a hs3 _ ?_)
      have hat : atB s j (s[j].toNat : Int) = true := by rw [atB_lt hk]; simp
      rw [hat, if_pos rfl]
      exact h2 _ _ hN _ _ (m3.sc (fun _ => .inl rfl) s (j + 1)) (hs3.sc (by omega)) ((St.sc_ne (fun e => hne e.symm)).trans r3) (by rw [← u8L_app]; exact .own _ _ _ q0 q1)
  · rw [List.getElem?_eq_none (by rw [blen]; exact hk)] at hN
    exact h1 hN _ m1 ⟨j, hk0, hs⟩ r1
set_option maxHeartbeats 1000000 in
theorem read_a (h : Sc st p s k) (hn : n ≤ st.tk.length) (hm : s.size < 140737488355328)
    (h1 : frontS s k = none → ∀ st', Mv n (· = p) st st' → Sc st' p s k → R (.tup [.s ⟨#[]⟩, .b false]) st')
    (h2 : ∀ v j, frontS s k = some (v, j) → ∀ st', Mv n (· = p) st st' → Sc st' p s j → R (.tup [.s ⟨v.toArray⟩, .b true]) st') :
    ACalls Tryz.prog 379 [.ptr p 0] st R := by
  have hlt := h.lt
  have hF : frontS s k = if atB s k 34 = true then frontW s (k + 1) [] else none := rfl
  refine ACalls.of_vc T_ok mixed Tryz.func379 rfl Tryz.call379 ?_
  refine .s (at_a h ?_)
  have m0 : Mv n (fun q => q = p ∨ q = st.heap.length) st ⟨st.heap ++ [[.ptr p 0, .nilS]], st.tk⟩ := (Mv.refl hn).alloc _
  have hs0 : Sc ⟨st.heap ++ [[.ptr p 0, .nilS]], st.tk⟩ p s k := ⟨(List.getElem?_append_left hlt).trans h.at', h.le, h.max⟩
  have r0 : (st.heap ++ [[.ptr p 0, .nilS]])[st.heap.length]? = some [.ptr p 0, .nilS] := by simp
  have hne : st.heap.length ≠ p := by omega
  have hfin : ∀ st', Mv n (fun q => q = p ∨ q = st.heap.length) st st' → Mv n (· = p) st st' := fun st' m => m.wide fun q hq e => e.resolve_right (by omega)
  have ne : ∀ {a b : St} {j : Nat}, a.heap[st.heap.length]? = b.heap[st.heap.length]? → (a.sc p s j).heap[st.heap.length]? = b.heap[st.heap.length]? := fun e => (St.sc_ne (fun e => hne e.symm)).trans e
  refine ⟨hlt, ?_⟩
  refine ⟨_, r0, ?_⟩
  refine .s (byte_a hs0 34 ?_)
  refine vc_loop [6] (fun g vals st' => Mv n (fun q => q = p ∨ q = st.heap.length) st st' ∧ ∃ a acc j, st'.heap[st.heap.length]? = some [.ptr p 0, a] ∧ Sc st' p s j ∧
    ((vals = [.b true] ∧ j + g = s.size + 1 ∧ k ≤ j ∧ acc.length ≤ j ∧ frontW s j acc = frontS s k ∧ Acc n st'.tk 1 a (u8L acc)) ∨ (vals = [.b false] ∧ g = 0 ∧ k ≤ j ∧ frontS s k = none)))
    (if atB s k 34 = true then s.size - k else 0) rfl ⟨m0.sc (fun _ => .inl rfl) s _, .nilS, [], _, ne rfl |>.trans r0, hs0.sc (j := if atB s k 34 = true then k + 1 else k) ?_, ?_⟩ ?_
  · split
    · rename_i e
      have : k < s.size := Decidable.byContradiction fun hc => by rw [atB_ge (by omega)] at e; cases e
      omega
    · exact h.le
  · by_cases e : atB s k 34 = true
    · have : k < s.size := Decidable.byContradiction fun hc => by rw [atB_ge (by omega)] at e; cases e
      rw [if_pos e] at hF
      rw [if_pos e, if_pos e]
      exact .inl ⟨by rw [e]; rfl, by omega, by omega, Nat.zero_le _, hF.symm, .nil⟩
    · rw [if_neg e] at hF
      rw [if_neg e, if_neg e]
      exact .inr ⟨by rw [Bool.not_eq_true] at e; rw [e]; rfl, rfl, Nat.le_refl _, hF⟩
  rintro g vals st' ⟨m1, a, acc, j, r1, hs1, ⟨rfl, hg, hkj, hac, hW, hA⟩ | ⟨rfl, rfl, hkj, hF0⟩⟩
  · refine ⟨_, r1, ?_⟩
    refine .s (byte_a hs1 34 ?_)
    have hjs := hs1.le
    refine cnd_split (fun hd => ?_) (fun hd => ?_)
    · rw [Bool.not_eq_true'] at hd
      rw [hd, if_neg (by decide), hs1.id]
      refine .s (next_a hs1 r1 hA m1.tl hne (by omega) (fun hx st2 m2 ⟨j2, hj2, hs2⟩ r2 => ?_) (fun b j2 hx st2 a2 m2 hs2 r2 hA2 => ?_))
      · rw [frontW_none acc hd hx] at hW
        refine ⟨0, by omega, m1.trans m2 (fun q _ e => e), a, [], j2, r2, hs2, .inr ⟨rfl, rfl, by omega, hW.symm⟩⟩
      · rw [frontW_some acc hd hx] at hW
        have := nxt_lt hx
        exact ⟨s.size + 1 - j2, by omega, m1.trans m2 (fun q _ e => e), a2, acc ++ [b], j2, r2, hs2, .inl ⟨rfl, by omega, by omega, by simp; omega, hW, hA2⟩⟩
    · rw [Bool.not_eq_false'] at hd
      rw [hd, if_pos rfl]
      rw [frontW_end acc hd] at hW
      have hlt2 : j < s.size := Decidable.byContradiction fun hc => by rw [atB_ge (by omega)] at hd; cases hd
      have r3 : (st'.sc p s (j + 1)).heap[st.heap.length]? = some [.ptr p 0, a] := (St.sc_ne (fun e => hne e.symm)).trans r1
      refine ⟨_, r3, ?_⟩
      have fin := h2 _ _ hW.symm _ (hfin _ (m1.sc (fun _ => .inl rfl) s (j + 1))) (hs1.sc (by omega))
      generalize hes : u8L acc = es at hA
      cases hA with
      | nil =>
        have : acc = [] := by simpa [u8L] using hes
        subst this
        exact fin
      | own t e es q1 q2 =>
        subst hes
        exact ⟨⟨acc.toArray⟩, rfl, fin⟩
  · refine ⟨_, r1, ?_⟩
    refine .s (back_a hs1 k hkj ?_)
    exact h1 hF0 _ (hfin _ (m1.sc (fun _ => .inl rfl) s k)) (hs1.sc h.le)
end
theorem atB_iff {s : ByteArray} {k : Nat} {b : Int} : atB s k b = true → k < s.size := fun e => Decidable.byContradiction fun hc => by rw [atB_ge (by omega)] at e; cases e
/-- a comment, from behind its opening on: where it ends -/
def cmtW (s : ByteArray) (k n : Nat) : Option Nat :=
  if n = 0 then some k
  else if _h : k < s.size then
    if atB s k 40 = true then cmtW s (k + 1) (n + 1)
    else if atB s k 41 = true then cmtW s (k + 1) (n - 1)
    else if atB s k 92 = true then cmtW s (if k + 1 < s.size then k + 2 else k + 1) n
    else cmtW s (k + 1) n
  else none
termination_by s.size - k
decreasing_by all_goals first | omega | (split <;> omega)
theorem cmtW_le (s : ByteArray) : ∀ (z k n j : Nat), s.size - k ≤ z → k ≤ s.size → cmtW s k n = some j → k ≤ j ∧ j ≤ s.size := by
  intro z
  induction z with
  | zero =>
    intro k n j hz hk h
    unfold cmtW at h
    split at h
    · cases h; omega
    · split at h
      · omega
      · cases h
  | succ z ih =>
    intro k n j hz hk h
    unfold cmtW at h
    split at h
    · cases h; omega
    · split at h
      · split at h
        · have := ih _ _ _ (by omega) (by omega) h; omega
        · split at h
          · have := ih _ _ _ (by omega) (by omega) h; omega
          · split at h
            · by_cases e : k + 1 < s.size
              · rw [if_pos e] at h; have := ih _ _ _ (by omega) (by omega) h; omega
              · rw [if_neg e] at h; have := ih _ _ _ (by omega) (by omega) h; omega
            · have := ih _ _ _ (by omega) (by omega) h; omega
      · cases h
def stepW (s : ByteArray) (k : Nat) : Option Nat :=
  if atB s k 44 = true then some (k + 1) else if atB s k 40 = true then cmtW s (k + 1) 1 else if atB s k 34 = true then (frontS s k).map (·.2) else some (k + 1)
theorem stepW_lt {s : ByteArray} {k j : Nat} (hk : k < s.size) (h : stepW s k = some j) : k < j ∧ j ≤ s.size := by
  unfold stepW at h
  split at h
  · cases h; omega
  · split at h
    · have := cmtW_le s _ _ _ _ (Nat.le_refl _) (by omega) h; omega
    · split at h
      · rename_i hq
        unfold frontS at h
        rw [if_pos hq] at h
        cases hf : frontW s (k + 1) [] with
        | none => rw [hf] at h; cases h
        | some x =>
          rw [hf] at h
          obtain ⟨v, i⟩ := x
          cases h
          have := frontW_le _ _ _ _ _ rfl hf
          simp only
          omega
      · cases h; omega
def spcS : ByteArray := ⟨#[32, 9]⟩
def endW (s : ByteArray) (b i : Nat) (out : List ByteArray) : List ByteArray := if (trimC (s.extract b i) spcS).size = 0 then out else out ++ [trimC (s.extract b i) spcS]
def splW (s : ByteArray) (k b : Nat) (out : List ByteArray) : Option (List ByteArray) :=
  if _h : k < s.size then
    match _h2 : stepW s k with
    | none => none
    | some j => if atB s k 44 = true then splW s j j (endW s b k out) else splW s j b out
  else some (endW s b s.size out)
termination_by s.size - k
decreasing_by all_goals (have := stepW_lt _h _h2; omega)
theorem splW_none {s : ByteArray} {k b : Nat} {out : List ByteArray} (hk : k < s.size) (h : stepW s k = none) : splW s k b out = none := by
  rw [splW, dif_pos hk]; split
  · rfl
  · rename_i h2; rw [h] at h2; cases h2
theorem splW_some {s : ByteArray} {k b j : Nat} {out : List ByteArray} (hk : k < s.size) (h : stepW s k = some j) : splW s k b out = if atB s k 44 = true then splW s j j (endW s b k out) else splW s j b out := by
  rw [splW, dif_pos hk]; split
  · rename_i h2; rw [h] at h2; cases h2
  · rename_i h2; rw [h] at h2; cases h2; rfl
theorem splW_end {s : ByteArray} {k b : Nat} {out : List ByteArray} (hk : ¬ k < s.size) : splW s k b out = some (endW s b s.size out) := by
  rw [splW, dif_neg hk]
def splitW (s : ByteArray) : Option (List ByteArray) := splW s 0 0 []

section
variable {st : St} {p k rb n b : Nat} {s : ByteArray} {R : AV → St → Prop} {a : AV} {out : List ByteArray}
set_option maxHeartbeats 1000000 in
theorem comment_a (h : Sc st p s k) (hr : st.heap[rb]? = some [.ptr p 0, a, .i b, .s s]) (hne : rb ≠ p) (hn : n ≤ st.tk.length) (hk1 : 1 ≤ k)
    (h1 : cmtW s k 1 = none → ∀ st', Mv n (· = p) st st' → R (.b false) st') (h2 : ∀ j, cmtW s k 1 = some j → ∀ st', Mv n (· = p) st st' → st'.tk = st.tk → Sc st' p s j → R (.b true) st') :
    ACalls Tryz.prog 378 [.ptr rb 0] st R := by
  have hmx := h.max
  unfold maxLen at hmx
  refine ACalls.of_vc T_ok mixed Tryz.func378 rfl Tryz.call378 ?_
  refine vc_loop [3] (fun g vals st' => ∃ j m, vals = [.i (m : Nat)] ∧ st' = st.sc p s j ∧ k ≤ j ∧ j + g = s.size ∧ m ≤ j ∧ cmtW s j m = cmtW s k 1) (s.size - k) rfl ⟨k, 1, rfl, h.id.symm, Nat.le_refl _, by have := h.le; omega, by omega, rfl⟩ ?_
  rintro g vals _ ⟨j, m, rfl, rfl, hkj, hg, hmj, hW⟩
  have hs := h.sc (j := j) (by omega)
  have r0 : ∀ i, (st.sc p s i).heap[rb]? = some [.ptr p 0, a, .i b, .s s] := fun i => (St.sc_ne (fun e => hne e.symm)).trans hr
  have m0 : ∀ i, Mv n (· = p) st (st.sc p s i) := fun i => (Mv.refl (C := (· = p)) hn).sc (p := p) (fun _ => rfl) s i
  refine cnd_split (fun hd => ?_) (fun hd => ?_)
  · have hd := of_decide_eq_true hd
    refine ⟨_, r0 j, ?_⟩
    refine .s (peek_a hs (fun hk => ?_) (fun hk => ?_))
    · refine ⟨_, r0 j, ?_⟩
      refine .s (byte_a hs _ ?_)
      have hat : atB s j (s[j].toNat : Int) = true := by rw [atB_lt hk]; simp
      have e40 := atB_lt hk 40
      have e41 := atB_lt hk 41
      have e92 := atB_lt hk 92
      rw [cmtW, if_neg (by omega), dif_pos hk, e40, e41, e92] at hW
      rw [hat, if_pos rfl, St.sc_sc]
      have hs1 := h.sc (j := j + 1) (by omega)
      refine cnd_split (fun hd40 => ?_) (fun hd40 => ?_)
      · rw [if_pos hd40] at hW
        intro c hc
        rw [IntWalk.i64_in _ (by omega)] at hc
        subst hc
        exact ⟨g - 1, by omega, j + 1, m + 1, rfl, rfl, by omega, by omega, by omega, hW⟩
      · rw [if_neg (by rw [show ((s[j].toNat : Int) == 40) = false from hd40]; decide)] at hW
        refine cnd_split (fun hd41 => ?_) (fun hd41 => ?_)
        · rw [if_pos hd41] at hW
          intro c hc
          rw [IntWalk.i64_in _ (by omega)] at hc
          subst hc
          exact ⟨g - 1, by omega, j + 1, m - 1, by rw [Int.ofNat_sub (by omega)]; rfl, rfl, by omega, by omega, by omega, hW⟩
        · rw [if_neg (by rw [show ((s[j].toNat : Int) == 41) = false from hd41]; decide)] at hW
          refine cnd_split (fun hd92 => ?_) (fun hd92 => ?_)
          · rw [if_pos hd92] at hW
            refine ⟨_, r0 (j + 1), ?_⟩
            refine .s (peek_a hs1 (fun hk1 => ?_) (fun hk1 => ?_))
            · rw [if_pos hk1] at hW
              refine ⟨_, r0 (j + 1), ?_⟩
              refine .s (byte_a hs1 _ ?_)
              have hat1 : atB s (j + 1) (s[j + 1].toNat : Int) = true := by rw [atB_lt hk1]; simp
              rw [hat1, if_pos rfl, St.sc_sc]
              exact ⟨g - 2, by omega, j + 2, m, rfl, rfl, by omega, by omega, by omega, hW⟩
            · rw [if_neg (by omega)] at hW
              exact ⟨g - 1, by omega, j + 1, m, rfl, rfl, by omega, by omega, by omega, hW⟩
          · rw [if_neg (by rw [show ((s[j].toNat : Int) == 92) = false from hd92]; decide)] at hW
            exact ⟨g - 1, by omega, j + 1, m, rfl, rfl, by omega, by omega, by omega, hW⟩
    · rw [cmtW, if_neg (by omega), dif_neg (by omega)] at hW
      exact h1 hW.symm _ (m0 j)
  · have hd := of_decide_eq_false hd
    rw [cmtW, if_pos (by omega)] at hW
    exact h2 j hW.symm _ (m0 j) rfl hs
theorem split_end (h : Sc st p s k) (hr : st.heap[rb]? = some [.ptr p 0, a, .i b, .s s]) (hne : rb ≠ p) (hn : n ≤ st.tk.length) (hA : Acc n st.tk 1 a (strL out)) (i : Nat) (hb : b ≤ i) (hi : i ≤ s.size) (ho : out.length ≤ 1099511627776)
    (h2 : ∀ st' a', Mv n (· = rb) st st' → Sc st' p s k → st'.heap[rb]? = some [.ptr p 0, a', .i k, .s s] → Acc n st'.tk 1 a' (strL (endW s b i out)) → R (.tup []) st') :
    ACalls Tryz.prog 354 [.ptr rb 0, .i i] st R := by
  refine ACalls.of_vc T_ok mixed Tryz.func354 rfl Tryz.call354 ?_
  refine .x (by kernel_rfl) ?_
  refine ⟨_, hr, ?_⟩
  refine ⟨_, hr, ?_⟩
  refine ⟨i, rfl, b, rfl, hb, hi, ?_⟩
  have hm := h.max
  refine .p rfl (trim_p _ spcS (by rw [ext_len _ _ _ hi]; omega) (by decide) rfl) ?_
  intro t ht
  have h0 := ht.trans (emp_iff _)
  have hrl : rb < st.heap.length := (List.getElem?_eq_some_iff.1 hr).1
  have hmx : maxLen = 9223372036854775807 := rfl
  have r1 : ∀ cs : List AV, (st.heap.set rb cs)[rb]? = some cs := fun cs => List.getElem?_set_self hrl
  have key : ∀ (a' : AV) (tk' : List Nat), n ≤ tk'.length → (∀ t, t < n → tk'[t]? = st.tk[t]?) → Acc n tk' 1 a' (strL (endW s b i out)) →
      R (.tup []) ⟨(st.heap.set rb [.ptr p 0, a', .i b, .s s]).set rb [.ptr p 0, a', .i k, .s s], tk'⟩ := fun a' tk' q1 q2 q3 => by
    refine h2 _ a' ?_ ⟨?_, h.le, h.max⟩ ?_ q3
    · exact (((Mv.refl (C := (· = rb)) hn).tks q1 q2).set (p := rb) (fun _ => rfl) _).set (p := rb) (fun _ => rfl) _
    · exact (List.getElem?_set_ne hne).trans ((List.getElem?_set_ne hne).trans h.at')
    · exact List.getElem?_set_self (by simpa using hrl)
  refine cnd_split (fun hd => ?_) (fun hd => ?_)
  · subst hd
    have hz : ¬ (trimC (s.extract b i) spcS).size = 0 := fun e => by cases h0.2 e
    have he : endW s b i out = out ++ [trimC (s.extract b i) spcS] := if_neg hz
    refine ⟨_, hr, ?_⟩
    have hl := strL_len out
    refine Acc.app (i := ti9) hA hn (List.cons_ne_nil _ _) ?_ ?_ (fun t e tk' q0 q1 q2 q3 => ?_)
    · show ((strL out).length + 1) * 16 ≤ _; omega
    · show (strL out).length + 1 ≤ _; omega
    refine ⟨_, hr, ?_⟩
    refine ⟨_, r1 _, ?_⟩
    refine .s (at_a ⟨(List.getElem?_set_ne hne).trans h.at', h.le, h.max⟩ ?_)
    refine ⟨_, r1 _, ?_⟩
    refine key _ tk' q2 q3 ?_
    rw [he, ← strL_app]
    exact .own _ _ _ q0 q1
  · subst hd
    have hz : (trimC (s.extract b i) spcS).size = 0 := h0.1 rfl
    have he : endW s b i out = out := if_pos hz
    have := key a st.tk hn (fun _ _ => rfl) (by rw [he]; exact hA)
    rw [set_id hr] at this
    clear key h2
    generalize strL out = es at hA
    cases hA with
    | nil =>
      refine ⟨_, hr, ?_⟩
      refine .s (at_a h ?_)
      exact ⟨_, hr, this⟩
    | own t e q1 q2 =>
      refine ⟨_, hr, ?_⟩
      refine .s (at_a h ?_)
      exact ⟨_, hr, this⟩
theorem split_step (h : Sc st p s k) (hk : k < s.size) (hr : st.heap[rb]? = some [.ptr p 0, a, .i b, .s s]) (hne : rb ≠ p) (hA : Acc 0 st.tk 1 a (strL out)) (hb : b ≤ k) (ho : out.length ≤ 1099511627776) (hsz : s.size ≤ 1099511627776)
    (h1 : stepW s k = none → ∀ st', R (.b false) st')
    (h2 : ∀ j, stepW s k = some j → ∀ st' a', Sc st' p s j → st'.heap[rb]? = some [.ptr p 0, a', .i (if atB s k 44 = true then j else b), .s s] → Acc 0 st'.tk 1 a' (strL (if atB s k 44 = true then endW s b k out else out)) → R (.b true) st') :
    ACalls Tryz.prog 353 [.ptr rb 0] st R := by
  have hW : stepW s k = if atB s k 44 = true then some (k + 1) else if atB s k 40 = true then cmtW s (k + 1) 1 else if atB s k 34 = true then (frontS s k).map (·.2) else some (k + 1) := rfl
  have r1 : ∀ i, (st.sc p s i).heap[rb]? = some [.ptr p 0, a, .i b, .s s] := fun i => (St.sc_ne (fun e => hne e.symm)).trans hr
  refine ACalls.of_vc T_ok mixed Tryz.func353 rfl Tryz.call353 ?_
  refine ⟨_, hr, ?_⟩
  refine .s (at_a h ?_)
  refine ⟨_, hr, ?_⟩
  refine .s (byte_a h 44 ?_)
  refine cnd_split (fun h44 => ?_) (fun h44 => ?_)
  · rw [if_pos h44]
    rw [if_pos h44] at hW
    refine .s (split_end (h.sc (by omega)) (r1 _) hne (Nat.zero_le _) hA k hb (by omega) ho (fun st' a' m q1 q2 q3 => ?_))
    exact h2 _ hW st' a' q1 (by rw [if_pos h44]; exact q2) (by rw [if_pos h44]; exact q3)
  · have n44 : ¬ atB s k 44 = true := by rw [h44]; decide
    rw [if_neg n44, h.id]
    rw [if_neg n44] at hW
    refine ⟨_, hr, ?_⟩
    refine .s (byte_a h 40 ?_)
    refine cnd_split (fun h40 => ?_) (fun h40 => ?_)
    · rw [if_pos h40]
      rw [if_pos h40] at hW
      refine .s (comment_a (n := 0) (h.sc (by omega)) (r1 _) hne (Nat.zero_le _) (by omega) (fun hx st' m => ?_) (fun j hx st' m htk hs => ?_))
      · exact h1 (hW.trans hx) _
      · exact h2 j (hW.trans hx) st' a hs (by rw [if_neg n44]; exact m.at' (r1 _) hne) (by rw [if_neg n44, htk]; exact hA)
    · have n40 : ¬ atB s k 40 = true := by rw [h40]; decide
      rw [if_neg n40, h.id]
      rw [if_neg n40] at hW
      refine ⟨_, hr, ?_⟩
      refine .s (peek_a h (fun _ => ?_) (fun hx => absurd hx (by omega)))
      have e34 := atB_lt hk 34
      refine cnd_split (fun h34 => ?_) (fun h34 => ?_)
      · rw [if_pos (by rw [e34]; exact h34)] at hW
        refine ⟨_, hr, ?_⟩
        refine .s (read_a (n := st.tk.length) h (Nat.le_refl _) (by omega) (fun hx st' m hs => ?_) (fun v j hx st' m hs => ?_))
        · rw [hx] at hW
          exact h1 hW _
        · rw [hx] at hW
          refine h2 j hW st' a hs (by rw [if_neg n44]; exact m.at' hr hne) ?_
          rw [if_neg n44]
          generalize strL out = es at *
          cases hA with
          | nil => exact .nil
          | own t e es q1 q2 => exact .own _ _ _ q1 ((m.tk t (List.getElem?_eq_some_iff.1 q2).1).trans q2)
      · rw [if_neg (by rw [e34]; rw [show ((s[k].toNat : Int) == 34) = false from h34]; decide)] at hW
        refine ⟨_, hr, ?_⟩
        refine .s (byte_a h _ ?_)
        have hat : atB s k (s[k].toNat : Int) = true := by rw [atB_lt hk]; simp
        rw [if_pos hat]
        exact h2 _ hW _ a (h.sc (by omega)) (by rw [if_neg n44]; exact r1 _) (by rw [if_neg n44]; exact hA)
def splR (s : ByteArray) : AV := match splitW s with
  | some l => .tup [.sl .no 1 (strL l), .i 0]
  | none => .tup [.nilS, .i 2]
theorem endW_len (s : ByteArray) (b i : Nat) (out : List ByteArray) : (endW s b i out).length ≤ out.length + 1 := by
  unfold endW; split <;> simp
theorem split_p (s : ByteArray) (hs : s.size ≤ 1099511627776) : APure Tryz.prog 333 [.s s] (splR s) [] := by
  have hmx : maxLen = 9223372036854775807 := rfl
  refine APure.ofW (by unfold splR; split <;> rfl) ?_
  refine ACalls.of_vc T_ok mixed Tryz.func333 rfl Tryz.call333 ?_
  refine .s (new_a ?_)
  refine ⟨Nat.zero_lt_one, ?_⟩
  refine vc_loop [] (fun g vals st' => ∃ k b out a, k + g = s.size ∧ Sc st' 0 s k ∧ st'.heap[1]? = some [.ptr 0 0, a, .i (b : Nat), .s s] ∧ Acc 0 st'.tk 1 a (strL out) ∧ splW s k b out = splitW s ∧ b ≤ k ∧ out.length ≤ b) s.size rfl ⟨0, 0, [], .nilS, by omega, ⟨rfl, by omega, by omega⟩, rfl, .nil, rfl, Nat.le_refl _, by simp⟩ ?_
  rintro g vals st' ⟨k, b, out, a, hg, hsc, hr, hA, hW, hb, ho⟩
  refine ⟨_, hr, ?_⟩
  refine .s (end_a hsc ?_)
  refine cnd_split (fun hd => ?_) (fun hd => ?_)
  · have hk : k < s.size := by simpa using hd
    refine .s (split_step (rb := 1) hsc hk hr Nat.one_ne_zero hA hb (by omega) hs (fun hx st2 => ?_) (fun j hx st2 a2 hs2 hr2 hA2 => ?_))
    · rw [splW_none hk hx] at hW
      unfold splR
      rw [← hW]
      exact .inl rfl
    · have hl := stepW_lt hk hx
      rw [splW_some hk hx] at hW
      have he := endW_len s b k out
      by_cases h44 : atB s k 44 = true
      · rw [if_pos h44] at hW hr2 hA2
        exact ⟨s.size - j, by omega, j, j, _, a2, by omega, hs2, hr2, hA2, hW, Nat.le_refl _, by omega⟩
      · rw [if_neg h44] at hW hr2 hA2
        exact ⟨s.size - j, by omega, j, b, _, a2, by omega, hs2, hr2, hA2, hW, by omega, by omega⟩
  · have hk : ¬ k < s.size := by simpa using hd
    rw [splW_end hk] at hW
    refine .s (split_end (n := 0) (rb := 1) hsc hr Nat.one_ne_zero (Nat.zero_le _) hA s.size (by omega) (Nat.le_refl _) (by omega) (fun st2 a2 m q1 q2 q3 => ?_))
    refine ⟨_, q2, ?_⟩
    unfold splR
    rw [← hW]
    generalize endW s b s.size out = l at *
    generalize hes : strL l = es at q3
    cases q3 with
    | nil => exact .inr (.inr ⟨[.i 0], 1, rfl, by simp only; rw [hes]; rfl⟩)
    | own t e es w1 w2 => exact .inl (by simp only; rw [hes]; rfl)
end
end Go.Proofs.YthnmbfiandpedaaGreatDoor
