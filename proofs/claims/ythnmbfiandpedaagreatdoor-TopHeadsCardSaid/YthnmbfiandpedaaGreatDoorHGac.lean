/- Heads that come piece by piece: the program's, walked. No statement of its own. -/
import Derived.Test.YthnmbfiandpedaaGreatDoorHGha
import Derived.Test.YthnmbfiandpedaaGreatDoorHGca
set_option linter.unusedSimpArgs false
set_option linter.unusedVariables false
set_option maxRecDepth 100000
namespace Go.Proofs.YthnmbfiandpedaaGreatDoor
open Go.RowKit
theorem Mv.putp {n p : Nat} {a b : St} (m : Mv n (· = p) a b) (c : List AV) : Mv n (· = p) a ⟨b.heap.set p c, b.tk⟩ := m.set (C := (· = p)) (fun _ => rfl) c
theorem Mv.put {n : Nat} {a b : St} (m : Mv n (fun _ => False) a b) (p : Nat) (c : List AV) : Mv n (· = p) a ⟨b.heap.set p c, b.tk⟩ := (m.wide (D := (· = p)) fun _ _ e => e.elim).putp c
/-- an accumulator's cells -/
abbrev acC (kind lim : Int) (buf : AV) (fr : Int) (took : Bool) (bad : Int) (wh : Bool) (x : HX) (gf : AV) : List AV := [.i kind, .i lim, buf, .i fr, .b took, .i bad, .b wh, .i x.kind, .s x.method, .s x.target, .i x.code, .s x.reason, .i x.minor, gf]
abbrev stXk (kind : Int) (s : ByteArray) : HX := (startA kind s).1
abbrev stEk (kind : Int) (s : ByteArray) : Int := (startA kind s).2
abbrev mstK (kind : Int) (lim : Nat) (m : MS HX) (b : UInt8) : MR HX := mstep (stXk kind) (stEk kind) wholeA lim m b
abbrev mrnK (kind : Int) (lim : Nat) (m : MS HX) (l : List UInt8) : Nat × MR HX := mrun (stXk kind) (stEk kind) wholeA lim m l
structure AI (st : St) (p : Nat) (kind : Int) (lim : Nat) (took : Bool) (m : MS HX) (buf : List UInt8) (ln : AV) : Prop where
  h : st.heap[p]? = some (acC kind lim ln ((buf.length - m.cur.length : Nat) : Int) took 0 false .zero .nilS)
  l : Acc 0 st.tk 1 ln (u8L buf)
  i : MInv (stXk kind) (stEk kind) m buf
  k : kind = 1 ∨ kind = 2
  n : buf.length ≤ lim
theorem linesT_last : ∀ (ls : List (List UInt8)) (l0 : List UInt8), (l0 ++ 13 :: 10 :: linesT ls).getLast? = some 10
  | [], l0 => by simp [linesT]
  | l :: ls, l0 => by
    have := linesT_last ls (l0 ++ 13 :: 10 :: l)
    rw [linesT_cons]
    simpa using this
theorem MInv.pre {kind : Int} {m : MS HX} {buf : List UInt8} (h : MInv (stXk kind) (stEk kind) m buf) : ∃ pre, buf = pre ++ m.cur ∧ (m.hd = none → pre = []) ∧ (m.hd ≠ none → 0 < pre.length) ∧ pre.getLast? ≠ some 13 := by
  obtain ⟨_, _, h⟩ := h
  cases hh : m.hd with
  | none =>
    rw [hh] at h
    exact ⟨[], h, fun _ => rfl, fun e => absurd rfl e, by simp⟩
  | some xf =>
    obtain ⟨x, fs⟩ := xf
    rw [hh] at h
    obtain ⟨l0, ls, h, _⟩ := h
    exact ⟨_, h, fun e => (by cases e), fun _ => (by simp; omega), by rw [linesT_last]; decide⟩
theorem MInv.last {kind : Int} {m : MS HX} {buf : List UInt8} (h : MInv (stXk kind) (stEk kind) m buf) : decide (buf.getLast? = some 13) = decide (m.cur.getLast? = some 13) := by
  obtain ⟨pre, h1, _, _, h4⟩ := h.pre
  rw [Bool.eq_iff_iff, decide_eq_true_eq, decide_eq_true_eq, h1]
  cases hc : m.cur with
  | nil =>
    rw [List.append_nil]
    exact ⟨fun e => absurd e h4, fun e => (by cases e)⟩
  | cons c r => rw [List.getLast?_append, List.getLast?_cons, Option.some_or]
theorem lastU {l : List UInt8} (h : 0 < l.length) : ((l[l.length - 1]'(by omega)).toNat == (13 : Int)) = decide (l.getLast? = some 13) := by
  rw [List.getLast?_eq_getElem?, List.getElem?_eq_getElem (by omega)]
  rw [Bool.eq_iff_iff, beq_iff_eq, decide_eq_true_eq, Option.some.injEq]
  exact ⟨fun h => UInt8.toNat_inj.1 (by show _ = 13; omega), fun h => by rw [h]; rfl⟩
theorem is10 (b : UInt8) : ((b.toNat : Int) == 10) = decide (b = 10) := by
  rw [Bool.eq_iff_iff, beq_iff_eq, decide_eq_true_eq]
  exact ⟨fun h => UInt8.toNat_inj.1 (by show _ = 10; omega), fun h => by rw [h]; rfl⟩
theorem u8L_at {l : List UInt8} {k : Nat} (hk : k < l.length) : (u8L l)[k]? = some [.u8 l[k]] := by
  unfold u8L
  rw [List.getElem?_map, List.getElem?_eq_getElem hk]
  rfl
theorem u8L_cut (l : List UInt8) (a b : Nat) : ((u8L l).drop a).take b = u8L ((l.drop a).take b) := by
  unfold u8L
  rw [List.map_take, List.map_drop]
section
attribute [local irreducible] vcApp
variable {st : St} {p : Nat} {R : AV → St → Prop} {kind : Int} {lim : Nat} {took : Bool}
theorem bareA_a {t e : Nat} {es : List (List AV)} {fr : Int} {x : HX} {gf : AV} (l : List UInt8) (b : UInt8) (hl : l.length < 1000000000) (he : es = u8L (l ++ [b]))
    (h : st.heap[p]? = some (acC kind lim (.sl (.own t e) 1 es) fr took 0 false x gf)) (bb : Bool) (hbb : bb = (decide (b = 10) != decide (l.getLast? = some 13))) (hR : R (.b bb) st) : ACalls Tryz.prog 30 [.ptr p 0] st R := by
  subst hbb
  have hel : es.length = l.length + 1 := by rw [he, u8L_len, List.length_append]; rfl
  have hb : (l ++ [b])[l.length]'(by simp) = b := by simp
  have h10 := is10 b
  have hat : es[l.length]? = some [.u8 b] := by rw [he, u8L_at (by simp), hb]
  refine ACalls.of_vc T_ok mixed Tryz.func30 rfl Tryz.call30 ?_
  refine ⟨_, h, ?_⟩
  refine cnd_split (fun h1 => ?_) (fun h1 => ?_)
  · have h1 := of_decide_eq_true h1
    have hpos : 0 < l.length := by omega
    have e2 : (l ++ [b])[l.length - 1]'(by simp; omega) = l[l.length - 1] := List.getElem_append_left (by omega)
    have hat2 : es[l.length - 1]? = some [.u8 l[l.length - 1]] := by
      have := u8L_at (l := l ++ [b]) (k := l.length - 1) (by simp; omega)
      rw [e2, ← he] at this
      exact this
    have e3 := lastU hpos
    refine ⟨_, h, ?_⟩
    intro c hc
    rw [IntWalk.i64_in _ (by omega)] at hc
    obtain rfl : c = ((l.length - 1 : Nat) : Int) := by omega
    refine ⟨l.length - 1, _, rfl, hat2, ?_⟩
    refine ⟨_, h, ?_⟩
    intro c hc
    rw [IntWalk.i64_in _ (by omega)] at hc
    obtain rfl : c = ((l.length : Nat) : Int) := by omega
    refine ⟨l.length, _, rfl, hat, ?_⟩
    rw [← h10, ← e3] at hR
    exact hR
  · have h1 := of_decide_eq_false h1
    have h0 : l = [] := List.eq_nil_of_length_eq_zero (by omega)
    refine ⟨_, h, ?_⟩
    intro c hc
    rw [IntWalk.i64_in _ (by omega)] at hc
    obtain rfl : c = ((l.length : Nat) : Int) := by omega
    refine ⟨l.length, _, rfl, hat, ?_⟩
    rw [← h10, h0] at hR
    exact hR
/-- the first line -/
theorem line1_a {row : AV} {n : Nat} (s : ByteArray) (hs : s.size ≤ 1000000) (hrow : ∃ t e es, row = .sl (.own t e) 1 es ∧ es.length = n)
    (h : st.heap[p]? = some (acC kind lim row 0 took 0 false .zero .nilS))
    (hR : R (.tup [.b false, .i (startA kind s).2]) ⟨st.heap.set p (acC kind lim row n took 0 false .zero .nilS), st.tk⟩) : ACalls Tryz.prog 31 [.ptr p 0, .s s] st R := by
  obtain ⟨t, e, es, rfl, rfl⟩ := hrow
  have q := start_p kind s (by omega)
  generalize startA kind s = D at q hR
  obtain ⟨y, e0⟩ := D
  refine ACalls.of_vc T_ok mixed Tryz.func31 rfl Tryz.call31 ?_
  refine ⟨_, h, ?_⟩
  refine ⟨_, h, ?_⟩
  refine .p rfl q ?_
  refine ⟨_, h, ?_⟩
  refine ⟨_, h, ?_⟩
  exact hR
/-- a field's line -/
theorem line2_a {row : AV} {n k : Nat} (s : ByteArray) (hs : s.size ≤ 1000000) (h0 : s.size ≠ 0) (hk : 0 < k) (hrow : ∃ t e es, row = .sl (.own t e) 1 es ∧ es.length = n)
    (h : st.heap[p]? = some (acC kind lim row k took 0 false .zero .nilS))
    (hR : R (.tup [.b false, .i (parseF s).2]) ⟨st.heap.set p (acC kind lim row n took 0 false .zero .nilS), st.tk⟩) : ACalls Tryz.prog 31 [.ptr p 0, .s s] st R := by
  obtain ⟨t, e, es, rfl, rfl⟩ := hrow
  have q := fparse_p s hs
  generalize parseF s = D at q hR
  obtain ⟨⟨f, g⟩, e0⟩ := D
  refine ACalls.of_vc T_ok mixed Tryz.func31 rfl Tryz.call31 ?_
  refine ⟨_, h, ?_⟩
  refine cnd_split (fun h1 => absurd (by simpa using h1) (by omega : ¬ k = 0)) (fun h1 => ?_)
  intro u hu
  cases u with
  | false => exact absurd ((emp_iff s).1 (hu.1 rfl)) h0
  | true =>
  refine .p rfl q ?_
  refine ⟨_, h, ?_⟩
  refine ⟨_, h, ?_⟩
  exact hR
/-- the last line -/
theorem line3_a {row : AV} {k : Nat} {l0 : List UInt8} {ls : List (List UInt8)} {x : HX} {fs : List Fld} (hk : 0 < k) (hrow : ∃ t e, row = .sl (.own t e) 1 (u8L (HdT l0 ls))) (h0 : cleanL l0) (hst : startA kind (bOf l0) = (x, 0)) (hf : fldsOk ls fs)
    (hlen : (HdT l0 ls).length ≤ lim) (hlim : lim ≤ 65536) (h : st.heap[p]? = some (acC kind lim row k took 0 false .zero .nilS))
    (hR : wholeA x fs = 0 → ∀ gf st', RowH gf fs → Mv 0 (· = p) st st' → st'.heap[p]? = some (acC kind lim row k took 0 false x gf) → R (.tup [.b true, .i 0]) st')
    (hE : wholeA x fs ≠ 0 → ∀ st', Mv 0 (· = p) st st' → st'.heap[p]? = some (acC kind lim row k took 0 false .zero .nilS) → R (.tup [.b false, .i (wholeA x fs)]) st') : ACalls Tryz.prog 31 [.ptr p 0, .s ⟨#[]⟩] st R := by
  obtain ⟨t, e, rfl⟩ := hrow
  refine ACalls.of_vc T_ok mixed Tryz.func31 rfl Tryz.call31 ?_
  refine ⟨_, h, ?_⟩
  refine cnd_split (fun h1 => absurd (by simpa using h1) (by omega : ¬ k = 0)) (fun h1 => ?_)
  intro u hu
  have hu : u = false ↔ (⟨#[]⟩ : ByteArray) = ⟨#[]⟩ := hu
  cases u with
  | true =>
    have := hu.2 rfl
    cases this
  | false =>
  refine .n (pln [0, 2, 4, 6, 8, 10, 12, 14, 16, 18, 20, 22, 24, 26, 29, 30, 32, 34, 36, 38, 40, 42]) (by kernel_rfl) ?_
  refine ⟨_, h, ?_⟩
  refine ⟨_, h, ?_⟩
  refine ⟨bOf (HdT l0 ls), rfl, ?_⟩
  refine ⟨_, h, ?_⟩
  refine .s (hparse_a h0 hst hf lim hlen hlim (fun hw gf st' hg m => ?_) (fun hw st' m => ?_))
  · have h' := m.at' h (fun e => e)
    rcases hg with ⟨rfl, hfs⟩ | rfl | rfl | ⟨t2, e2, rfl⟩
    · refine ⟨_, h', ?_⟩
      exact hR hw _ _ (.inl ⟨rfl, hfs⟩) (m.put p _) (st_eq h')
    · refine ⟨_, h', ?_⟩
      exact hR hw _ _ (.inr (.inl rfl)) (m.put p _) (st_eq h')
    · refine ⟨_, h', ?_⟩
      exact hR hw _ _ (.inr (.inr (.inl rfl))) (m.put p _) (st_eq h')
    · refine ⟨_, h', ?_⟩
      exact hR hw _ _ (.inr (.inr (.inr ⟨_, _, rfl⟩))) (m.put p _) (st_eq h')
  · have h' := m.at' h (fun e => e)
    have hw' : (wholeA x fs == 0) = false := beq_eq_false_iff_ne.2 hw
    have hE := hE hw
    generalize wholeA x fs = W at hw' hE ⊢
    refine ⟨_, h', ?_⟩
    show R (.tup [.b (W == 0), .i W]) _
    rw [hw']
    exact hE _ (m.put p _) (st_eq h')
end
end Go.Proofs.YthnmbfiandpedaaGreatDoor
/- Heads that come piece by piece: the program's, fed. No statement of its own. -/
set_option linter.unusedSimpArgs false
set_option linter.unusedVariables false
set_option maxRecDepth 100000
namespace Go.Proofs.YthnmbfiandpedaaGreatDoor
open Go.RowKit
def lnF (a : AV) : Prop := a = .nilS ∨ ∃ t e es, a = .sl (.own t e) 1 es
theorem lnF_of {n : Nat} {tk : List Nat} {a : AV} {es : List (List AV)} (h : Acc n tk 1 a es) : lnF a := by
  cases h with
  | nil => exact .inl rfl
  | own t e es hn ht => exact .inr ⟨_, _, _, rfl⟩
section
attribute [local irreducible] vcApp
variable {st : St} {p : Nat} {R : AV → St → Prop} {kind : Int} {lim : Nat} {took : Bool} {m : MS HX} {buf : List UInt8} {ln : AV}
set_option maxHeartbeats 4000000 in
theorem take_a (hI : AI st p kind lim took m buf ln) (b : UInt8) (hlim : lim ≤ 65536)
    (hgo : ∀ m', mstK kind lim m b = .go m' → ∀ st' ln', AI st' p kind lim took m' (buf ++ [b]) ln' → Mv 0 (· = p) st st' → R (.tup [.b false, .i 0]) st')
    (hbad : ∀ e, mstK kind lim m b = .bad e → e ≠ 0 → ∀ st' ln' fr, lnF ln' → st'.heap[p]? = some (acC kind lim ln' fr took 0 false .zero .nilS) → Mv 0 (· = p) st st' → R (.tup [.b false, .i e]) st')
    (hwh : ∀ x fs, mstK kind lim m b = .whole x fs → ∀ st' ln' fr row, lnF ln' → RowH row fs → st'.heap[p]? = some (acC kind lim ln' fr took 0 false x row) → Mv 0 (· = p) st st' → R (.tup [.b true, .i 0]) st') :
    ACalls Tryz.prog 14 [.ptr p 0, .u8 b] st R := by
  have hmx : maxLen = 9223372036854775807 := rfl
  have hn := hI.n
  have hn2 := hI.i.1
  obtain ⟨pre, hpre, hp1, hp2, hp3⟩ := hI.i.pre
  have hpl := congrArg List.length hpre
  rw [List.length_append] at hpl
  have hlast := hI.i.last
  have hi := mstep_inv (stXk kind) (stEk kind) wholeA (lim := lim) (b := b) hI.i
  have hwi := hi.2
  have hgi := hi.1
  have hZ : mstK kind lim m b = if lim ≤ m.n then .bad 3
    else if decide (b = 10) ≠ decide (m.cur.getLast? = some 13) then .bad 24
    else if b ≠ 10 then .go ⟨m.hd, m.cur ++ [b], m.n + 1⟩
    else mline (stXk kind) (stEk kind) wholeA m.hd m.cur.dropLast (m.n + 1) := rfl
  obtain ⟨Z, hZe⟩ : ∃ Z, Z = mstK kind lim m b := ⟨_, rfl⟩
  rw [← hZe] at hZ hgo hbad hwh
  have hgZ : ∀ m', Z = .go m' → MInv (stXk kind) (stEk kind) m' (buf ++ [b]) := fun m' e => hgi m' (hZe.symm.trans e)
  have hwi : ∀ x fs, Z = .whole x fs → HdOk (stXk kind) (stEk kind) wholeA (buf ++ [b]) x fs := fun x fs e => hwi x fs (hZe.symm.trans e)
  clear hi hgi hZe
  obtain ⟨bb, hbb⟩ : ∃ bb, bb = (decide (b = 10) != decide (buf.getLast? = some 13)) := ⟨_, rfl⟩
  have hb2 := hbb
  rw [hlast] at hb2
  have hA := hI.l
  have hel := u8L_len buf
  have hsn := u8L_app buf b
  have hel2 : (u8L (buf ++ [b])).length = buf.length + 1 := by rw [u8L_len, List.length_append]; rfl
  obtain ⟨F, hF⟩ : ∃ F, F = buf.length - m.cur.length := ⟨_, rfl⟩
  have hIh := hI.h
  rw [← hF] at hIh
  generalize hes : u8L buf = es at hA hel hsn
  have hA0 := hA
  have h00 : ([] : List (List AV)).length = 0 := rfl
  cases hA with
  | nil =>
    refine ACalls.of_vc T_ok mixed Tryz.func14 rfl Tryz.call14 ?_
    refine .e (by kernel_rfl) ?_
    refine ⟨_, hIh, ?_⟩
    refine ⟨_, hIh, ?_⟩
    refine cnd_split (fun h => ?_) (fun h => ?_)
    · have h := of_decide_eq_true h
      rw [if_pos (by omega)] at hZ
      exact hbad 3 hZ (by decide) _ _ _ (lnF_of hA0) hIh (.refl (Nat.zero_le _))
    have h := of_decide_eq_false h
    rw [if_neg (by omega)] at hZ
    refine ⟨_, hIh, ?_⟩
    refine Acc.appK (i := ti5) hA0 (List.cons_ne_nil _ _) ?_ ?_ (fun t e tk' q0 q1 q2 q3 => ?_)
    · show (List.length _ + 1) * 1 ≤ _; omega
    · show List.length _ + 1 ≤ _; omega
    refine ⟨_, hIh, ?_⟩
    have hst : (st.heap.set p (acC kind lim (.sl (.own t e) 1 (([] : List (List AV)) ++ [[.u8 b]])) F took 0 false .zero .nilS))[p]? = some (acC kind lim (.sl (.own t e) 1 (u8L (buf ++ [b]))) F took 0 false .zero .nilS) := by rw [← hsn]; exact st_eq hIh
    have hac : Acc 0 tk' 1 (.sl (.own t e) 1 (u8L (buf ++ [b]))) (u8L (buf ++ [b])) := .own _ _ _ (Nat.zero_le _) q0
    have m1 : Mv 0 (· = p) st ⟨st.heap.set p (acC kind lim (.sl (.own t e) 1 (([] : List (List AV)) ++ [[.u8 b]])) F took 0 false .zero .nilS), tk'⟩ := ((Mv.refl (Nat.zero_le _)).putp _).tks (Nat.zero_le _) (fun t ht => absurd ht (Nat.not_lt_zero _))
    refine .s (bareA_a buf b (by omega) rfl hst bb hbb ?_)
    cases bb with
    | true =>
      rw [if_pos (bne_iff_ne.1 hb2.symm)] at hZ
      exact hbad 24 hZ (by decide) _ _ _ (.inr ⟨_, _, _, rfl⟩) hst m1
    | false =>
    have hbe := bne_eq_false_iff_eq.1 hb2.symm
    rw [if_neg (fun h => h hbe)] at hZ
    refine cnd_split (fun h10 => ?_) (fun h10 => ?_)
    · have h10 : b ≠ 10 := fun e => by subst e; cases h10
      rw [if_pos h10] at hZ
      refine hgo _ hZ _ _ ⟨?_, hac, hgZ _ hZ, hI.k, by rw [List.length_append]; show _ + 1 ≤ _; omega⟩ m1
      have e : (buf ++ [b]).length - (m.cur ++ [b]).length = F := by simp only [List.length_append, List.length_singleton]; omega
      show _ = some (acC kind lim _ (((buf ++ [b]).length - (m.cur ++ [b]).length : Nat) : Int) took 0 false .zero .nilS)
      rw [e]
      exact hst
    have h10 : b = 10 := UInt8.toNat_inj.1 (by have := bne_eq_false_iff_eq.1 h10; show _ = 10; omega)
    rw [if_neg (fun h => h h10)] at hZ
    rw [h10, decide_eq_true rfl] at hbe
    have hc13 : m.cur.getLast? = some 13 := of_decide_eq_true hbe.symm
    have hcp : 0 < m.cur.length := by
      cases hc : m.cur with
      | nil => rw [hc] at hc13; cases hc13
      | cons _ _ => simp
    refine .n (pln [0, 2, 4, 6, 8, 10, 12, 14, 16, 18, 20, 22, 24, 26, 28, 30, 32, 35, 36, 38, 40, 42]) (by kernel_rfl) ?_
    refine ⟨_, hst, ?_⟩
    refine ⟨_, hst, ?_⟩
    refine ⟨_, hst, ?_⟩
    intro c hc
    rw [IntWalk.i64_in _ (by omega)] at hc
    obtain rfl : c = ((buf.length - 1 : Nat) : Int) := by omega
    refine ⟨buf.length - 1, rfl, F, rfl, by omega, by omega, ?_⟩
    refine ⟨bOf m.cur.dropLast, ?_, ?_⟩
    · rw [u8L_cut, bOf_l]
      show u8L _ = u8L _
      congr 1
      have e1 : buf.length - 1 - F = m.cur.length - 1 := by omega
      rw [e1, hpre, List.append_assoc, List.drop_left' (by omega), List.take_append_of_le_length (by omega), List.dropLast_eq_take]
    have hcs : (bOf m.cur.dropLast).size ≤ 1000000 := by show m.cur.dropLast.length ≤ _; rw [List.length_dropLast]; omega
    have hB : (buf ++ [b]).length = buf.length + 1 := by rw [List.length_append]; rfl
    have hsz : (bOf m.cur.dropLast).size = m.cur.dropLast.length := rfl
    obtain ⟨hd, cur, n⟩ := m
    dsimp only at hZ hc13 hcp hsz hcs hp1 hp2 hpre hF hpl hn2
    cases hd with
    | none =>
      have hF0 : F = 0 := by rw [hp1 rfl] at hpl; simp at hpl; omega
      have hst0 : (st.heap.set p (acC kind lim (.sl (.own t e) 1 (([] : List (List AV)) ++ [[.u8 b]])) F took 0 false .zero .nilS))[p]? = some (acC kind lim (.sl (.own t e) 1 (u8L (buf ++ [b]))) 0 took 0 false .zero .nilS) := by
        have := hst
        rw [hF0] at this ⊢
        exact this
      refine .s (line1_a _ hcs ⟨_, _, _, rfl, hel2⟩ hst0 ?_)
      unfold mline at hZ
      dsimp only at hZ
      by_cases he : (startA kind (bOf cur.dropLast)).2 = 0
      · rw [if_pos he] at hZ
        show R (.tup [.b false, .i (startA kind (bOf cur.dropLast)).2]) _
        rw [he]
        refine hgo _ hZ _ _ ⟨?_, hac, hgZ _ hZ, hI.k, by omega⟩ (m1.putp _)
        show _ = some (acC kind lim _ (((buf ++ [b]).length - 0 : Nat) : Int) took 0 false .zero .nilS)
        rw [hB]
        exact st_eq hst0
      · rw [if_neg he] at hZ
        exact hbad _ hZ he _ _ _ (.inr ⟨_, _, _, rfl⟩) (st_eq hst0) (m1.putp _)
    | some xf =>
      obtain ⟨x, fs⟩ := xf
      have hF1 : 0 < F := by have := hp2 (by simp); omega
      unfold mline at hZ
      dsimp only at hZ
      by_cases hl : cur.dropLast = []
      · rw [if_pos hl] at hZ
        have hcur : cur = [13] := by
          obtain ⟨ys, hys⟩ := List.getLast?_eq_some_iff.1 hc13
          rw [hys, List.dropLast_concat] at hl
          rw [hys, hl]
          rfl
        obtain ⟨_, _, hmi⟩ := hI.i
        dsimp only at hmi
        obtain ⟨l0, ls, hbuf, w1, w2, w3, w4⟩ := hmi
        have hHd : buf ++ [b] = HdT l0 ls := by rw [hbuf, hcur, h10]; simp [HdT]
        have hst3 := hst
        rw [hHd] at hst3
        rw [hl]
        refine .s (line3_a (lim := lim) hF1 ⟨_, _, rfl⟩ w1 (Prod.ext w3.symm w2) w4 (by rw [← hHd]; omega) hlim hst3 (fun hw gf st' hg m2 h2 => ?_) (fun hw st' m2 h2 => ?_))
        · rw [if_pos hw] at hZ
          exact hwh _ _ hZ _ _ _ _ (.inr ⟨_, _, _, rfl⟩) hg h2 (m1.trans m2 fun _ _ e => e)
        · rw [if_neg hw] at hZ
          exact hbad _ hZ hw _ _ _ (.inr ⟨_, _, _, rfl⟩) h2 (m1.trans m2 fun _ _ e => e)
      · rw [if_neg hl] at hZ
        refine .s (line2_a _ hcs (by rw [hsz]; exact fun e => hl (List.eq_nil_of_length_eq_zero e)) hF1 ⟨_, _, _, rfl, hel2⟩ hst ?_)
        by_cases he : (parseF (bOf cur.dropLast)).2 = 0
        · rw [if_pos he] at hZ
          show R (.tup [.b false, .i (parseF (bOf cur.dropLast)).2]) _
          rw [he]
          refine hgo _ hZ _ _ ⟨?_, hac, hgZ _ hZ, hI.k, by omega⟩ (m1.putp _)
          show _ = some (acC kind lim _ (((buf ++ [b]).length - 0 : Nat) : Int) took 0 false .zero .nilS)
          rw [hB]
          exact st_eq hst
        · rw [if_neg he] at hZ
          exact hbad _ hZ he _ _ _ (.inr ⟨_, _, _, rfl⟩) (st_eq hst) (m1.putp _)
  | own t0 e0 es hn0 ht0 =>
    refine ACalls.of_vc T_ok mixed Tryz.func14 rfl Tryz.call14 ?_
    refine .e (by kernel_rfl) ?_
    refine ⟨_, hIh, ?_⟩
    refine ⟨_, hIh, ?_⟩
    refine cnd_split (fun h => ?_) (fun h => ?_)
    · have h := of_decide_eq_true h
      rw [if_pos (by omega)] at hZ
      exact hbad 3 hZ (by decide) _ _ _ (lnF_of hA0) hIh (.refl (Nat.zero_le _))
    have h := of_decide_eq_false h
    rw [if_neg (by omega)] at hZ
    refine ⟨_, hIh, ?_⟩
    refine Acc.appK (i := ti5) hA0 (List.cons_ne_nil _ _) ?_ ?_ (fun t e tk' q0 q1 q2 q3 => ?_)
    · show (List.length _ + 1) * 1 ≤ _; omega
    · show List.length _ + 1 ≤ _; omega
    refine ⟨_, hIh, ?_⟩
    have hst : (st.heap.set p (acC kind lim (.sl (.own t e) 1 (es ++ [[.u8 b]])) F took 0 false .zero .nilS))[p]? = some (acC kind lim (.sl (.own t e) 1 (u8L (buf ++ [b]))) F took 0 false .zero .nilS) := by rw [← hsn]; exact st_eq hIh
    have hac : Acc 0 tk' 1 (.sl (.own t e) 1 (u8L (buf ++ [b]))) (u8L (buf ++ [b])) := .own _ _ _ (Nat.zero_le _) q0
    have m1 : Mv 0 (· = p) st ⟨st.heap.set p (acC kind lim (.sl (.own t e) 1 (es ++ [[.u8 b]])) F took 0 false .zero .nilS), tk'⟩ := ((Mv.refl (Nat.zero_le _)).putp _).tks (Nat.zero_le _) (fun t ht => absurd ht (Nat.not_lt_zero _))
    refine .s (bareA_a buf b (by omega) rfl hst bb hbb ?_)
    cases bb with
    | true =>
      rw [if_pos (bne_iff_ne.1 hb2.symm)] at hZ
      exact hbad 24 hZ (by decide) _ _ _ (.inr ⟨_, _, _, rfl⟩) hst m1
    | false =>
    have hbe := bne_eq_false_iff_eq.1 hb2.symm
    rw [if_neg (fun h => h hbe)] at hZ
    refine cnd_split (fun h10 => ?_) (fun h10 => ?_)
    · have h10 : b ≠ 10 := fun e => by subst e; cases h10
      rw [if_pos h10] at hZ
      refine hgo _ hZ _ _ ⟨?_, hac, hgZ _ hZ, hI.k, by rw [List.length_append]; show _ + 1 ≤ _; omega⟩ m1
      have e : (buf ++ [b]).length - (m.cur ++ [b]).length = F := by simp only [List.length_append, List.length_singleton]; omega
      show _ = some (acC kind lim _ (((buf ++ [b]).length - (m.cur ++ [b]).length : Nat) : Int) took 0 false .zero .nilS)
      rw [e]
      exact hst
    have h10 : b = 10 := UInt8.toNat_inj.1 (by have := bne_eq_false_iff_eq.1 h10; show _ = 10; omega)
    rw [if_neg (fun h => h h10)] at hZ
    rw [h10, decide_eq_true rfl] at hbe
    have hc13 : m.cur.getLast? = some 13 := of_decide_eq_true hbe.symm
    have hcp : 0 < m.cur.length := by
      cases hc : m.cur with
      | nil => rw [hc] at hc13; cases hc13
      | cons _ _ => simp
    refine .n (pln [0, 2, 4, 6, 8, 10, 12, 14, 16, 18, 20, 22, 24, 26, 28, 30, 32, 35, 36, 38, 40, 42]) (by kernel_rfl) ?_
    refine ⟨_, hst, ?_⟩
    refine ⟨_, hst, ?_⟩
    refine ⟨_, hst, ?_⟩
    intro c hc
    rw [IntWalk.i64_in _ (by omega)] at hc
    obtain rfl : c = ((buf.length - 1 : Nat) : Int) := by omega
    refine ⟨buf.length - 1, rfl, F, rfl, by omega, by omega, ?_⟩
    refine ⟨bOf m.cur.dropLast, ?_, ?_⟩
    · rw [u8L_cut, bOf_l]
      show u8L _ = u8L _
      congr 1
      have e1 : buf.length - 1 - F = m.cur.length - 1 := by omega
      rw [e1, hpre, List.append_assoc, List.drop_left' (by omega), List.take_append_of_le_length (by omega), List.dropLast_eq_take]
    have hcs : (bOf m.cur.dropLast).size ≤ 1000000 := by show m.cur.dropLast.length ≤ _; rw [List.length_dropLast]; omega
    have hB : (buf ++ [b]).length = buf.length + 1 := by rw [List.length_append]; rfl
    have hsz : (bOf m.cur.dropLast).size = m.cur.dropLast.length := rfl
    obtain ⟨hd, cur, n⟩ := m
    dsimp only at hZ hc13 hcp hsz hcs hp1 hp2 hpre hF hpl hn2
    cases hd with
    | none =>
      have hF0 : F = 0 := by rw [hp1 rfl] at hpl; simp at hpl; omega
      have hst0 : (st.heap.set p (acC kind lim (.sl (.own t e) 1 (es ++ [[.u8 b]])) F took 0 false .zero .nilS))[p]? = some (acC kind lim (.sl (.own t e) 1 (u8L (buf ++ [b]))) 0 took 0 false .zero .nilS) := by
        have := hst
        rw [hF0] at this ⊢
        exact this
      refine .s (line1_a _ hcs ⟨_, _, _, rfl, hel2⟩ hst0 ?_)
      unfold mline at hZ
      dsimp only at hZ
      by_cases he : (startA kind (bOf cur.dropLast)).2 = 0
      · rw [if_pos he] at hZ
        show R (.tup [.b false, .i (startA kind (bOf cur.dropLast)).2]) _
        rw [he]
        refine hgo _ hZ _ _ ⟨?_, hac, hgZ _ hZ, hI.k, by omega⟩ (m1.putp _)
        show _ = some (acC kind lim _ (((buf ++ [b]).length - 0 : Nat) : Int) took 0 false .zero .nilS)
        rw [hB]
        exact st_eq hst0
      · rw [if_neg he] at hZ
        exact hbad _ hZ he _ _ _ (.inr ⟨_, _, _, rfl⟩) (st_eq hst0) (m1.putp _)
    | some xf =>
      obtain ⟨x, fs⟩ := xf
      have hF1 : 0 < F := by have := hp2 (by simp); omega
      unfold mline at hZ
      dsimp only at hZ
      by_cases hl : cur.dropLast = []
      · rw [if_pos hl] at hZ
        have hcur : cur = [13] := by
          obtain ⟨ys, hys⟩ := List.getLast?_eq_some_iff.1 hc13
          rw [hys, List.dropLast_concat] at hl
          rw [hys, hl]
          rfl
        obtain ⟨_, _, hmi⟩ := hI.i
        dsimp only at hmi
        obtain ⟨l0, ls, hbuf, w1, w2, w3, w4⟩ := hmi
        have hHd : buf ++ [b] = HdT l0 ls := by rw [hbuf, hcur, h10]; simp [HdT]
        have hst3 := hst
        rw [hHd] at hst3
        rw [hl]
        refine .s (line3_a (lim := lim) hF1 ⟨_, _, rfl⟩ w1 (Prod.ext w3.symm w2) w4 (by rw [← hHd]; omega) hlim hst3 (fun hw gf st' hg m2 h2 => ?_) (fun hw st' m2 h2 => ?_))
        · rw [if_pos hw] at hZ
          exact hwh _ _ hZ _ _ _ _ (.inr ⟨_, _, _, rfl⟩) hg h2 (m1.trans m2 fun _ _ e => e)
        · rw [if_neg hw] at hZ
          exact hbad _ hZ hw _ _ _ (.inr ⟨_, _, _, rfl⟩) h2 (m1.trans m2 fun _ _ e => e)
      · rw [if_neg hl] at hZ
        refine .s (line2_a _ hcs (by rw [hsz]; exact fun e => hl (List.eq_nil_of_length_eq_zero e)) hF1 ⟨_, _, _, rfl, hel2⟩ hst ?_)
        by_cases he : (parseF (bOf cur.dropLast)).2 = 0
        · rw [if_pos he] at hZ
          show R (.tup [.b false, .i (parseF (bOf cur.dropLast)).2]) _
          rw [he]
          refine hgo _ hZ _ _ ⟨?_, hac, hgZ _ hZ, hI.k, by omega⟩ (m1.putp _)
          show _ = some (acC kind lim _ (((buf ++ [b]).length - 0 : Nat) : Int) took 0 false .zero .nilS)
          rw [hB]
          exact st_eq hst
        · rw [if_neg he] at hZ
          exact hbad _ hZ he _ _ _ (.inr ⟨_, _, _, rfl⟩) (st_eq hst) (m1.putp _)
end
end Go.Proofs.YthnmbfiandpedaaGreatDoor
/- Heads that come piece by piece: made, fed, asked. No statement of its own. -/
set_option linter.unusedSimpArgs false
set_option linter.unusedVariables false
set_option maxRecDepth 100000
namespace Go.Proofs.YthnmbfiandpedaaGreatDoor
open Go.RowKit
section
attribute [local irreducible] vcApp
variable {st : St} {p : Nat} {R : AV → St → Prop} {kind : Int} {lim : Nat} {took : Bool} {m : MS HX} {buf : List UInt8} {ln : AV}
theorem AI.setT (h : AI st p kind lim took m buf ln) (b : Bool) : AI ⟨st.heap.set p (acC kind lim ln ((buf.length - m.cur.length : Nat) : Int) b 0 false .zero .nilS), st.tk⟩ p kind lim b m buf ln :=
  ⟨st_eq h.h, h.l, h.i, h.k, h.n⟩
theorem mrn_go {m m' : MS HX} {b : UInt8} {r : List UInt8} (h : mstK kind lim m b = .go m') : mrnK kind lim m (b :: r) = ((mrnK kind lim m' r).1 + 1, (mrnK kind lim m' r).2) := by
  have h : mstep (stXk kind) (stEk kind) wholeA lim m b = .go m' := h
  show mrun _ _ _ _ _ _ = _
  rw [mrun_cons, h]
theorem mrn_bad {m : MS HX} {b : UInt8} {r : List UInt8} {e : Int} (h : mstK kind lim m b = .bad e) : mrnK kind lim m (b :: r) = (1, .bad e) := by
  have h : mstep (stXk kind) (stEk kind) wholeA lim m b = .bad e := h
  show mrun _ _ _ _ _ _ = _
  rw [mrun_cons, h]
theorem mrn_whole {m : MS HX} {b : UInt8} {r : List UInt8} {x : HX} {fs : List Fld} (h : mstK kind lim m b = .whole x fs) : mrnK kind lim m (b :: r) = (1, .whole x fs) := by
  have h : mstep (stXk kind) (stEk kind) wholeA lim m b = .whole x fs := h
  show mrun _ _ _ _ _ _ = _
  rw [mrun_cons, h]
set_option maxHeartbeats 8000000 in
theorem feedA_a (hI : AI st p kind lim took m buf ln) (s : ByteArray) (hs : s.size ≤ 1000000000) (hlim : lim ≤ 65536) (z : Nat × MR HX) (hz : mrnK kind lim m s.data.toList = z)
    (hgo : ∀ m', z.2 = .go m' → ∀ st' ln', AI st' p kind lim (took || decide (0 < s.size)) m' (buf ++ s.data.toList) ln' → Mv 0 (· = p) st st' → R (.tup [.i s.size, .b false, .i 0]) st')
    (hbad : ∀ e, z.2 = .bad e → e ≠ 0 → ∀ st' fr, st'.heap[p]? = some (acC kind lim .nilS fr true e false .zero .nilS) → Mv 0 (· = p) st st' → R (.tup [.i z.1, .b false, .i e]) st')
    (hwh : ∀ x fs, z.2 = .whole x fs → ∀ st' fr row, RowH row fs → st'.heap[p]? = some (acC kind lim .nilS fr true 0 true x row) → Mv 0 (· = p) st st' → R (.tup [.i z.1, .b true, .i 0]) st') :
    ACalls Tryz.prog 6 [.ptr p 0, .s s] st R := by
  have hmx : maxLen = 9223372036854775807 := rfl
  have hsl := blen s
  have hIh := hI.h
  have hA0 : AI st p kind lim (took || decide (0 < 0)) m (buf ++ s.data.toList.take 0) ln := by
    rw [List.take_zero, List.append_nil, show (took || decide (0 < 0)) = took by simp]
    exact hI
  have hz0 : z = ((mrnK kind lim m (s.data.toList.drop 0)).1 + 0, (mrnK kind lim m (s.data.toList.drop 0)).2) := by
    rw [List.drop_zero, hz]
    rfl
  have hlf := lnF_of hI.l
  rcases hlf with rfl | ⟨t7, e7, es7, rfl⟩
  all_goals
    refine ACalls.of_vc T_ok mixed Tryz.func6 rfl Tryz.call6 ?_
    refine ⟨_, hIh, ?_⟩
    refine ⟨_, hIh, ?_⟩
    refine vc_loop [25] (fun g vals st' => ∃ (k : Nat) (m' : MS HX) (ln' : AV), k + g = s.size ∧ vals = [.i k] ∧ AI st' p kind lim (took || decide (0 < k)) m' (buf ++ s.data.toList.take k) ln' ∧ Mv 0 (· = p) st st' ∧ z = ((mrnK kind lim m' (s.data.toList.drop k)).1 + k, (mrnK kind lim m' (s.data.toList.drop k)).2)) s.size rfl ⟨0, m, _, by omega, rfl, hA0, .refl (Nat.zero_le _), hz0⟩ ?_
    rintro g vals st1 ⟨k, m', ln', hk, rfl, hI1, m1, hr⟩
    have hI2 := hI1.setT true
    have m2 := m1.putp (acC kind lim ln' (((buf ++ s.data.toList.take k).length - m'.cur.length : Nat) : Int) true 0 false .zero .nilS)
    have h1 := hI1.h
    rcases lnF_of hI1.l with rfl | ⟨t7, e7, es7, rfl⟩
    all_goals
      refine cnd_split (fun hd => ?_) (fun hd => ?_)
      · have hd := of_decide_eq_true hd
        have k1 : k < s.size := by omega
        have k2 : k < s.data.toList.length := by omega
        have hdr : s.data.toList.drop k = s[k] :: s.data.toList.drop (k + 1) := List.drop_eq_getElem_cons k2
        rw [hdr] at hr
        refine ⟨_, h1, ?_⟩
        refine ⟨k, k1, rfl, ?_⟩
        refine .s (take_a hI2 s[k] hlim (fun m3 hm st2 ln2 hI3 m4 => ?_) (fun e hm he st2 ln2 fr hl h2 m4 => ?_) (fun x fs hm st2 ln2 fr row hl hrow h2 m4 => ?_))
        · rw [mrn_go hm] at hr
          have e1 : (took || decide (0 < k + 1)) = true := by simp
          have e2 : buf ++ s.data.toList.take (k + 1) = buf ++ s.data.toList.take k ++ [s[k]] := by rw [List.take_succ_eq_append_getElem k2, List.append_assoc]; rfl
          have h3 := hI3.h
          have hA3 : ∀ H : List (List AV), H[p]? = some (acC kind lim ln2 (((buf ++ s.data.toList.take k ++ [s[k]]).length - m3.cur.length : Nat) : Int) true 0 false .zero .nilS) → AI ⟨H, st2.tk⟩ p kind lim (took || decide (0 < k + 1)) m3 (buf ++ s.data.toList.take (k + 1)) ln2 := fun H hH => by
            rw [e1, e2]
            exact ⟨hH, hI3.l, hI3.i, hI3.k, hI3.n⟩
          rcases lnF_of hI3.l with rfl | ⟨t9, e9, es9, rfl⟩
          all_goals
            refine ⟨_, h3, ?_⟩
            refine ⟨_, st_eq h3, ?_⟩
            refine ⟨_, st_eq (st_eq h3), ?_⟩
            refine ⟨_, st_eq (st_eq h3), ?_⟩
            intro c hc
            rw [IntWalk.i64_in _ (by omega)] at hc
            obtain rfl : c = ((k + 1 : Nat) : Int) := by omega
            refine ⟨g - 1, by omega, k + 1, m3, _, by omega, rfl, hA3 _ (st_eq (st_eq h3)), ((m2.trans m4 fun _ _ e => e).putp _).putp _, ?_⟩
            rw [hr]
            simp only [Prod.mk.injEq, and_true]
            omega
        · rw [mrn_bad hm] at hr
          have hr : z = (k + 1, .bad e) := hr.trans (by show (1 + k, MR.bad e) = _; rw [Nat.add_comm])
          subst hr
          rcases hl with rfl | ⟨t9, e9, es9, rfl⟩
          all_goals
            refine ⟨_, h2, ?_⟩
            refine ⟨_, st_eq h2, ?_⟩
            refine ⟨_, st_eq (st_eq h2), ?_⟩
            refine ⟨_, st_eq (st_eq h2), ?_⟩
            refine cnd_split (fun h => ?_) (fun h => absurd (bne_eq_false_iff_eq.1 h) he)
            refine ⟨_, st_eq (st_eq h2), ?_⟩
            refine .e (by kernel_rfl) ?_
            intro c hc
            rw [IntWalk.i64_in _ (by omega)] at hc
            obtain rfl : c = ((k + 1 : Nat) : Int) := by omega
            refine ⟨_, st_eq (st_eq (st_eq h2)), ?_⟩
            refine ⟨_, st_eq (st_eq (st_eq h2)), ?_⟩
            exact hbad e rfl he _ _ (st_eq (st_eq (st_eq h2))) ((((m2.trans m4 fun _ _ e => e).putp _).putp _).putp _)
        · rw [mrn_whole hm] at hr
          have hr : z = (k + 1, .whole x fs) := hr.trans (by show (1 + k, MR.whole x fs) = _; rw [Nat.add_comm])
          subst hr
          have hrow0 := hrow
          rcases hl with rfl | ⟨t9, e9, es9, rfl⟩ <;> rcases hrow with ⟨rfl, hfs⟩ | rfl | rfl | ⟨t8, e8, rfl⟩
          all_goals
            refine ⟨_, h2, ?_⟩
            refine ⟨_, st_eq h2, ?_⟩
            refine ⟨_, st_eq (st_eq h2), ?_⟩
            refine ⟨_, st_eq (st_eq h2), ?_⟩
            refine .e (by kernel_rfl) ?_
            intro c hc
            rw [IntWalk.i64_in _ (by omega)] at hc
            obtain rfl : c = ((k + 1 : Nat) : Int) := by omega
            refine ⟨_, st_eq (st_eq (st_eq h2)), ?_⟩
            refine ⟨_, st_eq (st_eq (st_eq h2)), ?_⟩
            exact hwh x fs rfl _ _ _ hrow0 (st_eq (st_eq (st_eq h2))) ((((m2.trans m4 fun _ _ e => e).putp _).putp _).putp _)
      · have hd := of_decide_eq_false hd
        obtain rfl : k = s.size := by omega
        have e3 : s.data.toList.take s.size = s.data.toList := List.take_of_length_le (by omega)
        rw [List.drop_of_length_le (by omega)] at hr
        rw [e3] at hI1
        subst hr
        exact hgo m' rfl _ _ hI1 m1
end
end Go.Proofs.YthnmbfiandpedaaGreatDoor
/- Heads that come piece by piece: made, and asked for what came; texts without blanks; heads compared. No statement of its own. -/
set_option linter.unusedSimpArgs false
set_option linter.unusedVariables false
set_option maxRecDepth 100000
namespace Go.Proofs.YthnmbfiandpedaaGreatDoor
open Go.RowKit
section
attribute [local irreducible] Int.decLt
variable {st : St} {p : Nat} {R : AV → St → Prop} {kind : Int} {lim : Nat}
theorem AI.zero {H : List (List AV)} {tk : List Nat} (hk : kind = 1 ∨ kind = 2) (h : H[p]? = some (acC kind lim .nilS 0 false 0 false .zero .nilS)) : AI ⟨H, tk⟩ p kind lim false ⟨none, [], 0⟩ [] .nilS :=
  ⟨h, .nil, ⟨rfl, .inl fun c hc => (by cases hc), rfl⟩, hk, Nat.zero_le _⟩
theorem newA_a (hl : lim ≤ 65536) (h1 : ¬(kind = 1 ∨ kind = 2) → R (.tup [.lit (.pointer none), .i 1]) st)
    (h2 : (kind = 1 ∨ kind = 2) → R (.tup [.ptr st.heap.length 0, .i 0]) ⟨st.heap ++ [acC kind lim .nilS 0 false 0 false .zero .nilS], st.tk⟩) : ACalls Tryz.prog 5 [.i kind, .i lim] st R := by
  by_cases hk : kind = 1 ∨ kind = 2
  · have h2 := h2 hk
    rcases hk with rfl | rfl
    all_goals
      refine ACalls.of_vc T_ok mixed Tryz.func5 rfl Tryz.call5 ?_
      repeat (refine cnd_split (fun h => absurd (of_decide_eq_true h) (by omega)) (fun _ => ?_))
      exact h2
  · have h1 := h1 hk
    have k1 : (kind != 1) = true := bne_iff_ne.2 fun e => hk (.inl e)
    have k2 : (kind != 2) = true := bne_iff_ne.2 fun e => hk (.inr e)
    refine ACalls.of_vc T_ok mixed Tryz.func5 rfl Tryz.call5 ?_
    repeat (first | refine cnd_split (fun h => ?_) (fun h => absurd (k1.symm.trans h) (by simp)) | refine cnd_split (fun h => ?_) (fun h => absurd (k2.symm.trans h) (by simp)))
    exact h1
end
theorem mv_head (st : St) (a b c d e : List AV) (tk : List Nat) : Mv 0 (fun _ => False) st ⟨((((st.heap ++ [a]) ++ [b]).set (st.heap ++ [a]).length c).set (st.heap ++ [a]).length d).set st.heap.length e, tk⟩ := by
  have h : (st.heap ++ [a]).length < st.heap.length → False := fun h => by rw [List.length_append] at h; omega
  exact ((((((Mv.refl (Nat.zero_le _)).alloc a).alloc b).set h c).set h d).set (fun h => absurd h (Nat.lt_irrefl _)) e).tks (Nat.zero_le _) (fun t ht => absurd ht (Nat.not_lt_zero _))
theorem tappN {i : TI} {st : St} {K : AV → St → Prop} (hz : i.zero.all Value.oneCell' = true) (h : K (.sl .tight i.size []) st) : vcApp i (.sl .tight i.size []) .nilS st K := by
  unfold vcApp srcA
  simp only [decide_true, hz, Bool.and_self]
  exact ⟨fun _ => h, fun e => absurd rfl e⟩
section
attribute [local irreducible] vcApp
variable {st : St} {p : Nat} {R : AV → St → Prop} {kind : Int} {lim : Nat}
theorem headA_no {took : Bool} {fr bad : Int} {buf : AV} {x : HX} {gf : AV} (hb : lnF buf) (hg : ∃ fs, RowH gf fs) (h : st.heap[p]? = some (acC kind lim buf fr took bad false x gf)) (hR : ∀ st', R (.tup [hxA .zero .nilS, .b false]) st') : ACalls Tryz.prog 7 [.ptr p 0] st R := by
  obtain ⟨fs, hg⟩ := hg
  rcases hb with rfl | ⟨t, e, es, rfl⟩ <;> rcases hg with ⟨rfl, _⟩ | rfl | rfl | ⟨t8, e8, rfl⟩
  all_goals
    refine ACalls.of_vc T_ok mixed Tryz.func7 rfl Tryz.call7 ?_
    refine ⟨_, ap h, ?_⟩
    refine ⟨_, last_at _ _, ?_⟩
    refine ⟨_, last_upd _ _ _, ?_⟩
    exact hR _
theorem headA_yes {took : Bool} {fr bad : Int} {x : HX} {gf : AV} {fs : List Fld} (hg : RowH gf fs) (hl : fs.length ≤ 100000) (h : st.heap[p]? = some (acC kind lim .nilS fr took bad true x gf)) (hR : ∀ st' tg, Mv 0 (fun _ => False) st st' → R (.tup [hxA x (.sl tg 2 (fldL fs)), .b true]) st') : ACalls Tryz.prog 7 [.ptr p 0] st R := by
  have hmx : maxLen = 9223372036854775807 := rfl
  have el := fldL_len fs
  have hlt := lt_of h
  have hne : ∀ x : List AV, (st.heap ++ [x]).length ≠ st.heap.length := fun x => by simp
  rcases hg with ⟨rfl, hfs⟩ | rfl | rfl | ⟨t8, e8, rfl⟩
  all_goals
    refine ACalls.of_vc T_ok mixed Tryz.func7 rfl Tryz.call7 ?_
    refine ⟨_, ap h, ?_⟩
    refine ⟨_, ap h, ?_⟩
    refine ⟨_, last_at _ _, ?_⟩
    refine ⟨_, last_upd _ _ _, ?_⟩
  · refine tappN (i := ti73) rfl ?_
    refine ⟨_, last_upd _ _ _, ?_⟩
    refine ⟨_, st_eq (last_upd _ _ _), ?_⟩
    refine ⟨_, st_ne (hne _) (st_ne (hne _) (ap (last_at _ _))), ?_⟩
    refine ⟨_, st_eq (st_ne (hne _) (st_ne (hne _) (ap (last_at _ _)))), ?_⟩
    subst hfs
    exact hR _ .tight (mv_head _ _ _ _ _ _ _)
  all_goals
    refine tapp (i := ti73) rfl (by show List.length _ * 32 ≤ _; omega) (by omega) (fun h0 => ?_) (fun h0 t e tk' q0 => ?_)
    · skip
      refine ⟨_, last_upd _ _ _, ?_⟩
      refine ⟨_, st_eq (last_upd _ _ _), ?_⟩
      refine ⟨_, st_ne (hne _) (st_ne (hne _) (ap (last_at _ _))), ?_⟩
      refine ⟨_, st_eq (st_ne (hne _) (st_ne (hne _) (ap (last_at _ _)))), ?_⟩
      rw [h0] at hR
      exact hR _ .tight (mv_head _ _ _ _ _ _ _)
    · skip
      refine ⟨_, last_upd _ _ _, ?_⟩
      refine ⟨_, st_eq (last_upd _ _ _), ?_⟩
      refine ⟨_, st_ne (hne _) (st_ne (hne _) (ap (last_at _ _))), ?_⟩
      refine ⟨_, st_eq (st_ne (hne _) (st_ne (hne _) (ap (last_at _ _)))), ?_⟩
      exact hR _ (.own t e) (mv_head _ _ _ _ _ _ _)
theorem bareT_p (s : ByteArray) (hs : s.size ≤ 1000000000) : APure Tryz.prog 10 [.s s] (.s (bOf (bareL s.data.toList))) [] := by
  have hmx : maxLen = 9223372036854775807 := rfl
  have hsl := blen s
  refine APure.of rfl ?_
  refine ACalls.of_vc T_ok mixed Tryz.func10 rfl Tryz.call10 ?_
  refine vc_loop [3, 4] (fun g vals st' => ∃ (k : Nat) (a : AV), k + g = s.size ∧ vals = [a, .i k] ∧ Acc 0 st'.tk 1 a (u8L (bareL (s.data.toList.take k)))) s.size rfl ⟨0, .nilS, by omega, rfl, .nil⟩ ?_
  rintro g vals st1 ⟨k, a, hk, rfl, hA⟩
  have hbl := List.length_filter_le (fun b => !(b == 32 || b == 9)) (s.data.toList.take k)
  rw [List.length_take] at hbl
  have hbl : (bareL (s.data.toList.take k)).length ≤ _ := hbl
  have hel := u8L_len (bareL (s.data.toList.take k))
  have hA0 := hA
  have hsn : ∀ h : k < s.size, ¬ (s[k] = 32 ∨ s[k] = 9) → u8L (bareL (s.data.toList.take k)) ++ [[.u8 s[k]]] = u8L (bareL (s.data.toList.take (k + 1))) := fun h hne => by
    rw [List.take_succ_eq_append_getElem (by omega), bareL_app]
    have e : bareL [s.data.toList[k]] = [s[k]] := by
      show List.filter _ [s[k]] = _
      rw [List.filter_cons_of_pos]
      · rfl
      · simpa using hne
    rw [e, u8L_app]
  have hss : ∀ h : k < s.size, (s[k] = 32 ∨ s[k] = 9) → bareL (s.data.toList.take (k + 1)) = bareL (s.data.toList.take k) := fun h hne => by
    rw [List.take_succ_eq_append_getElem (by omega), bareL_app]
    have e : bareL [s.data.toList[k]] = [] := by
      show List.filter _ [s[k]] = _
      rw [List.filter_cons_of_neg]
      · rfl
      · rcases hne with e | e <;> rw [e] <;> decide
    rw [e, List.append_nil]
  have hfin : k = s.size → bareL (s.data.toList.take k) = bareL s.data.toList := fun e => by rw [List.take_of_length_le (by omega)]
  have hsz : (bareL s.data.toList).length ≤ s.size := by
    have := List.length_filter_le (fun b => !(b == 32 || b == 9)) s.data.toList
    rw [hsl] at this
    exact this
  have h00 : ([] : List (List AV)).length = 0 := rfl
  have hall : bareL (s.data.toList.take k) = [] → a = .nilS → True := fun _ _ => trivial
  generalize hes : u8L (bareL (s.data.toList.take k)) = es at hA hA0 hsn hel
  cases hA with
  | nil =>
    refine cnd_split (fun hd => ?_) (fun hd => ?_)
    · have hd := of_decide_eq_true hd
      have k1 : k < s.size := by omega
      have i32 : ((s[k].toNat : Int) != 32) = true ↔ s[k] ≠ 32 := by
        rw [bne_iff_ne]
        exact ⟨fun h e => h (by rw [e]; rfl), fun h e => h (UInt8.toNat_inj.1 (by show _ = 32; omega))⟩
      have i9 : ((s[k].toNat : Int) != 9) = true ↔ s[k] ≠ 9 := by
        rw [bne_iff_ne]
        exact ⟨fun h e => h (by rw [e]; rfl), fun h e => h (UInt8.toNat_inj.1 (by show _ = 9; omega))⟩
      have skip : (s[k] = 32 ∨ s[k] = 9) → Acc 0 st1.tk 1 _ (u8L (bareL (s.data.toList.take (k + 1)))) := fun h => by
        rw [hss k1 h, hes]
        exact hA0
      refine ⟨k, k1, rfl, ?_⟩
      refine cnd_split (fun h32 => ?_) (fun h32 => ?_)
      · have h32 := i32.1 h32
        refine ⟨k, k1, rfl, ?_⟩
        refine cnd_split (fun h9 => ?_) (fun h9 => ?_)
        · have h9 := i9.1 h9
          refine ⟨k, k1, rfl, ?_⟩
          refine Acc.appK (i := ti5) hA0 (List.cons_ne_nil _ _) ?_ ?_ (fun t e tk' q0 q1 q2 q3 => ?_)
          · show (List.length _ + 1) * 1 ≤ _; omega
          · show List.length _ + 1 ≤ _; omega
          intro c hc
          rw [IntWalk.i64_in _ (by omega)] at hc
          obtain rfl : c = ((k + 1 : Nat) : Int) := by omega
          refine ⟨g - 1, by omega, k + 1, _, by omega, rfl, ?_⟩
          rw [← hsn k1 (fun h => h.elim h32 h9)]
          exact .own _ _ _ (Nat.zero_le _) q0
        · have h9 : s[k] = 9 := Decidable.byContradiction fun e => by rw [i9.2 e] at h9; cases h9
          intro c hc
          rw [IntWalk.i64_in _ (by omega)] at hc
          obtain rfl : c = ((k + 1 : Nat) : Int) := by omega
          exact ⟨g - 1, by omega, k + 1, _, by omega, rfl, skip (.inr h9)⟩
      · have h32 : s[k] = 32 := Decidable.byContradiction fun e => by rw [i32.2 e] at h32; cases h32
        intro c hc
        rw [IntWalk.i64_in _ (by omega)] at hc
        obtain rfl : c = ((k + 1 : Nat) : Int) := by omega
        exact ⟨g - 1, by omega, k + 1, _, by omega, rfl, skip (.inl h32)⟩
    · have hd := of_decide_eq_false hd
      have hk := hfin (by omega)
      rw [hk] at hes
      first
        | (refine ⟨bOf (bareL s.data.toList), by rw [bOf_l]; exact hes.symm, ?_⟩; rfl)
        | (have hb : bareL s.data.toList = [] := List.eq_nil_of_length_eq_zero (by rw [← u8L_len, hes]; rfl)
           rw [hb]
           rfl)
  | own t0 e0 es hn0 ht0 =>
    refine cnd_split (fun hd => ?_) (fun hd => ?_)
    · have hd := of_decide_eq_true hd
      have k1 : k < s.size := by omega
      have i32 : ((s[k].toNat : Int) != 32) = true ↔ s[k] ≠ 32 := by
        rw [bne_iff_ne]
        exact ⟨fun h e => h (by rw [e]; rfl), fun h e => h (UInt8.toNat_inj.1 (by show _ = 32; omega))⟩
      have i9 : ((s[k].toNat : Int) != 9) = true ↔ s[k] ≠ 9 := by
        rw [bne_iff_ne]
        exact ⟨fun h e => h (by rw [e]; rfl), fun h e => h (UInt8.toNat_inj.1 (by show _ = 9; omega))⟩
      have skip : (s[k] = 32 ∨ s[k] = 9) → Acc 0 st1.tk 1 _ (u8L (bareL (s.data.toList.take (k + 1)))) := fun h => by
        rw [hss k1 h, hes]
        exact hA0
      refine ⟨k, k1, rfl, ?_⟩
      refine cnd_split (fun h32 => ?_) (fun h32 => ?_)
      · have h32 := i32.1 h32
        refine ⟨k, k1, rfl, ?_⟩
        refine cnd_split (fun h9 => ?_) (fun h9 => ?_)
        · have h9 := i9.1 h9
          refine ⟨k, k1, rfl, ?_⟩
          refine Acc.appK (i := ti5) hA0 (List.cons_ne_nil _ _) ?_ ?_ (fun t e tk' q0 q1 q2 q3 => ?_)
          · show (List.length _ + 1) * 1 ≤ _; omega
          · show List.length _ + 1 ≤ _; omega
          intro c hc
          rw [IntWalk.i64_in _ (by omega)] at hc
          obtain rfl : c = ((k + 1 : Nat) : Int) := by omega
          refine ⟨g - 1, by omega, k + 1, _, by omega, rfl, ?_⟩
          rw [← hsn k1 (fun h => h.elim h32 h9)]
          exact .own _ _ _ (Nat.zero_le _) q0
        · have h9 : s[k] = 9 := Decidable.byContradiction fun e => by rw [i9.2 e] at h9; cases h9
          intro c hc
          rw [IntWalk.i64_in _ (by omega)] at hc
          obtain rfl : c = ((k + 1 : Nat) : Int) := by omega
          exact ⟨g - 1, by omega, k + 1, _, by omega, rfl, skip (.inr h9)⟩
      · have h32 : s[k] = 32 := Decidable.byContradiction fun e => by rw [i32.2 e] at h32; cases h32
        intro c hc
        rw [IntWalk.i64_in _ (by omega)] at hc
        obtain rfl : c = ((k + 1 : Nat) : Int) := by omega
        exact ⟨g - 1, by omega, k + 1, _, by omega, rfl, skip (.inl h32)⟩
    · have hd := of_decide_eq_false hd
      have hk := hfin (by omega)
      rw [hk] at hes
      first
        | (refine ⟨bOf (bareL s.data.toList), by rw [bOf_l]; exact hes.symm, ?_⟩; rfl)
        | (have hb : bareL s.data.toList = [] := List.eq_nil_of_length_eq_zero (by rw [← u8L_len, hes]; rfl)
           rw [hb]
           rfl)
end
end Go.Proofs.YthnmbfiandpedaaGreatDoor
