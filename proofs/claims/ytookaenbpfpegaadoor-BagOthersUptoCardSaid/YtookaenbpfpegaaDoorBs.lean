/- The laws of bags: BagPlays, BagNone. No statement of its own. -/
import Derived.Test.YtookaenbpfpegaaDoorBr
import Derived.Test.YtookaenbpfpegaaDoorWk
set_option linter.unusedSimpArgs false
set_option linter.unusedVariables false
set_option maxRecDepth 100000
namespace Go.Proofs.YtookaenbpfpegaaDoor
open Go.RowKit
theorem Rp.stripR {w : World} {I : Nat → Nat → Prop} {hl : Nat} {μ : Nat → Nat} {tk : List Nat} {σ : Nat → Tkt} {a : AV} {v : Value} (h : Rp w I hl μ tk σ a v) : Rp w I hl μ tk σ a.stripR v := by
  cases a with
  | tup vs =>
    cases h with
    | tup cs zs e1 hr =>
      refine .tup _ zs (by rw [List.length_map]; exact e1) fun j a u hja hju => ?_
      rw [List.getElem?_map, Option.map_eq_some_iff] at hja
      obtain ⟨b, hb, rfl⟩ := hja
      exact (hr j b u hb hju).strip
  | _ => exact h.strip
theorem ACalls.bare {P : Program} {f : FuncId} {args : List AV} {st : St} {R : AV → St → Prop} (h : ACalls P f args st fun r st' => R r.stripR st') : ACalls P f args st R := by
  refine ⟨h.1, fun base J w0 μ σ w vs hok hl ha => (h.2 base J w0 μ σ w vs hok hl ha).mono ?_⟩
  rintro e w' ⟨v, r, st', μ', σ', rfl, hR, hok', hx, hat⟩
  exact ⟨v, _, st', μ', σ', rfl, hR, hok', hx, hat.stripR⟩
theorem ACalls.bareN {P : Program} {f : FuncId} {args : List AV} {st : St} {R : AV → St → Prop} (h : ACalls P f args st fun r st' => R r.stripR st' ∨ (r = .nilS ∧ ∃ sz, R (.sl .no sz []) st')) : ACalls P f args st R := by
  refine ⟨h.1, fun base J w0 μ σ w vs hok hl ha => (h.2 base J w0 μ σ w vs hok hl ha).mono ?_⟩
  rintro e w' ⟨v, r, st', μ', σ', rfl, hR, hok', hx, hat⟩
  rcases hR with hR | ⟨rfl, sz, hR⟩
  · exact ⟨v, _, st', μ', σ', rfl, hR, hok', hx, hat.stripR⟩
  · refine ⟨v, _, st', μ', σ', rfl, hR, hok', hx, ?_⟩
    rw [hat.of_lit]
    exact .sl0 sz none 0 (Nat.zero_le _)
theorem few13_p (l : List Fld) : APure Tryd.prog 19 [.sl .no 2 (fldL l)] (.sl .no 2 (fldL (l.take 20))) [] := by
  have el := fldL_len l
  have hmin := minI_at (fldL l).length 20
  refine APure.of rfl (ACalls.of_vc T_ok mixed Tryd.func19 rfl Tryd.call19 ?_)
  refine ⟨_, hmin, Nat.zero_le _, by split <;> omega, ?_⟩
  show (AV.sl .no 2 ((((fldL l).drop 0).take ((if 20 < (fldL l).length then 20 else (fldL l).length) - 0)))).stripR = _
  rw [List.drop_zero, Nat.sub_zero, el]
  have e : (fldL l).take (if 20 < l.length then 20 else l.length) = fldL (l.take 20) := by
    unfold fldL
    rw [← List.map_take]
    congr 1
    split
    · rfl
    · rw [List.take_of_length_le (Nat.le_refl _), List.take_of_length_le (by omega)]
  rw [e]
  rfl
theorem Rw.argV {a : AV} {l : List Fld} (h : Rw a l) : argV a (.sl .no 2 (fldL l)) := by
  rcases h with rfl | rfl | ⟨t, e, rfl⟩
  · exact .inl rfl
  · exact .inr (.inl rfl)
  · exact .inr (.inl rfl)
/-- values, of whatever make -/
def Vw (a : AV) (l : List ByteArray) : Prop := (a = .nilS ∧ l = []) ∨ ∃ t e, a = .sl (.own t e) 1 (strL l)
section
variable {st : St} {R : AV → St → Prop} {b p cap : Nat} {r : Option Nat}
theorem newV_a {a : AV} {l : List Fld} (ha : Rw a l) (hl : l.length ≤ 1099511627776) (h : ∀ b r st', Mv 0 (fun _ => False) st st' → HB st' b r l → st.heap.length ≤ b → (∀ p, r = some p → st.heap.length ≤ p) → R (.ptr b 0) st') : ACalls Tryd.prog 20 [a] st R :=
  ACalls.weak (args' := [.sl .no 2 (fldL l)]) ⟨ha.argV, trivial⟩ (newX_a l hl h)
theorem do_b (kd : Nat) (n v : ByteArray) (a : AV) (l : List Fld) (ha : Rw a l) (hn : n.size ≤ 1000000000) (hv : v.size ≤ 1000000000) (hl : l.length ≤ 100000) (hz : Sz 1000000000 l) (hb : HB st b r l)
    (h : ∀ r' st', HB st' b r' (deedW kd n v l) → BgS st b r st' r' → R (.tup [.sl .no 2 (fldL (deedW kd n v l)), .i 0]) st') : ACalls Tryd.prog 21 [.ptr b 0, a, .agg [.int .u8 kd, .s n, .s v]] st R := by
  refine ACalls.bare (do_a kd n v a l ha hn hv hl hz hb fun a' r' st' ha' hb' hs => ?_)
  have := h r' st' hb' hs
  rcases ha' with rfl | rfl | ⟨t, e, rfl⟩
  · exact this
  · exact this
  · exact this
theorem listV_a (l : List Fld) (hl : l.length ≤ 1099511627776) (hb : HB st b r l) (h : ∀ st', Mv 0 (fun _ => False) st st' → R (.sl .no 2 (fldL l)) st') : ACalls Tryd.prog 23 [.ptr b 0] st R := by
  refine ACalls.bareN (listX_a l hl hb fun a st' m ha => ?_)
  have := h st' m
  rcases ha with ⟨rfl, rfl⟩ | ⟨tg, rfl⟩
  · exact .inr ⟨rfl, 2, this⟩
  · exact .inl this
attribute [local irreducible] vcApp
set_option maxHeartbeats 1000000 in
theorem valuesX_a (l : List Fld) (name : ByteArray) (hl : l.length ≤ 1000000) (hz : ∀ f ∈ l, f.1.size ≤ 1099511627776) (hn : name.size ≤ 1099511627776) (hb : HB st b r l)
    (h : ∀ a st', Mv 0 (fun _ => False) st st' → Vw a (valsW name l) → R a st') : ACalls Tryd.prog 28 [.ptr b 0, .s name] st R := by
  have hmx : maxLen = 9223372036854775807 := rfl
  have el := fldL_len l
  have main : ∀ (tg : Tk) st1, Mv 0 (fun _ => False) st st1 → True := fun _ _ _ => trivial
  refine ACalls.of_vc T_ok mixed Tryd.func28 rfl Tryd.call28 ?_
  refine .s (listX_a l (by omega) hb (fun a st1 m ha => ?_))
  rcases ha with ⟨rfl, rfl⟩ | ⟨tg, rfl⟩
  · refine vc_loop [5, 11] (fun g vals st' => vals = [.nilS, .i 0] ∧ Mv 0 (fun _ => False) st st') 0 rfl ⟨rfl, m⟩ ?_
    rintro g vals st' ⟨rfl, m'⟩
    exact h _ _ m' (.inl ⟨rfl, rfl⟩)
  · refine vc_loop [5, 11] (fun g vals st' => ∃ (k : Nat) (a : AV), k + g = l.length ∧ vals = [a, .i k] ∧ Mv 0 (fun _ => False) st st' ∧ Acc 0 st'.tk 1 a (strL (valsW name (l.take k)))) l.length rfl ⟨0, _, by omega, rfl, m, .nil⟩ ?_
    rintro g vals st' ⟨k, a, hk, rfl, m', hA⟩
    have hml := m'.len
    have hvl := valsW_len name (l.take k)
    rw [List.length_take] at hvl
    have hsl := strL_len (valsW name (l.take k))
    have hA0 := hA
    have hnil : strL (valsW name (l.take k)) = [] → valsW name (l.take k) = [] := fun e => List.eq_nil_of_length_eq_zero (by rw [← hsl, e]; rfl)
    generalize hes : strL (valsW name (l.take k)) = es at hA hsl hA0 hnil
    cases hA
    all_goals
      refine cnd_split (fun hd => ?_) (fun hd => ?_)
      · have hd := of_decide_eq_true hd
        have k1 : k < l.length := by omega
        have sz := hz l[k] (List.getElem_mem k1)
        have hs := valsW_snoc name l k k1
        refine ⟨k, _, rfl, fldL_at k1, ?_⟩
        refine ⟨_, last_at _ _, ?_⟩
        refine ⟨_, last_upd _ _ _, ?_⟩
        refine .p rfl (sameO_p l[k].1 name (by omega) (by omega)) ?_
        refine cnd_split (fun h3 => ?_) (fun h3 => ?_)
        · rw [if_pos h3] at hs
          refine ⟨_, last_upd _ _ _, ?_⟩
          refine Acc.app (n := 0) (i := ti9) hA0 (Nat.zero_le _) (List.cons_ne_nil _ _) ?_ ?_ (fun t9 e9 tk9 z0 z1 z2 z3 => ?_)
          · show (List.length _ + 1) * 16 ≤ _; omega
          · show List.length _ + 1 ≤ _; omega
          intro c hc
          rw [IntWalk.i64_in _ (by omega)] at hc
          obtain rfl : c = ((k + 1 : Nat) : Int) := by omega
          refine ⟨g - 1, by omega, k + 1, _, by omega, rfl, ((m'.alloc _).set (fun e => by omega) _).tks (Nat.zero_le _) (fun t h => by omega), ?_⟩
          rw [hs, ← strL_app, hes]
          exact .own _ _ _ (Nat.zero_le _) z1
        · rw [if_neg (by rw [h3]; decide), List.append_nil] at hs
          intro c hc
          rw [IntWalk.i64_in _ (by omega)] at hc
          obtain rfl : c = ((k + 1 : Nat) : Int) := by omega
          refine ⟨g - 1, by omega, k + 1, _, by omega, rfl, ((m'.alloc _).set (fun e => by omega) _), ?_⟩
          rw [hs, hes]
          exact hA0
      · have hd := of_decide_eq_false hd
        have ht : l.take k = l := List.take_of_length_le (by omega)
        rw [ht] at hes hnil
        refine h _ _ m' ?_
        first
          | exact .inl ⟨rfl, hnil rfl⟩
          | exact .inr ⟨_, _, by rw [hes]⟩
theorem valuesV_a (l : List Fld) (name : ByteArray) (hl : l.length ≤ 1000000) (hz : ∀ f ∈ l, f.1.size ≤ 1099511627776) (hn : name.size ≤ 1099511627776) (hb : HB st b r l)
    (h : ∀ st', Mv 0 (fun _ => False) st st' → R (.sl .no 1 (strL (valsW name l))) st') : ACalls Tryd.prog 28 [.ptr b 0, .s name] st R := by
  refine ACalls.bareN (valuesX_a l name hl hz hn hb fun a st' m ha => ?_)
  have := h st' m
  rcases ha with ⟨rfl, e⟩ | ⟨t, e, rfl⟩
  · rw [e] at this
    exact .inr ⟨rfl, 1, this⟩
  · exact .inl this
theorem getX_a (l : List Fld) (name : ByteArray) (hl : l.length ≤ 1000000) (hz : ∀ f ∈ l, f.1.size ≤ 1099511627776) (hn : name.size ≤ 1099511627776) (hb : HB st b r l)
    (h : ∀ st' x ok, Mv 0 (fun _ => False) st st' → ((ok = false ∧ x = ⟨#[]⟩ ∧ valsW name l = []) ∨ (ok = true ∧ ∃ q, valsW name l = x :: q)) → R (.tup [.s x, .b ok]) st') : ACalls Tryd.prog 25 [.ptr b 0, .s name] st R := by
  refine ACalls.of_vc T_ok mixed Tryd.func25 rfl Tryd.call25 ?_
  refine .s (valuesX_a l name hl hz hn hb (fun a st1 m ha => ?_))
  rcases ha with ⟨rfl, e⟩ | ⟨t, e, rfl⟩
  · exact h _ _ _ m (.inl ⟨rfl, rfl, e⟩)
  · obtain ⟨V, hV⟩ : ∃ V, V = valsW name l := ⟨_, rfl⟩
    rw [← hV] at h ⊢
    have eV := strL_len V
    refine cnd_split (fun h9 => ?_) (fun h9 => ?_)
    · have h9 := beq_iff_eq.1 h9
      exact h _ _ _ m (.inl ⟨rfl, rfl, List.eq_nil_of_length_eq_zero (by omega)⟩)
    · have h9 := beq_eq_false_iff_ne.1 h9
      have v0 : 0 < V.length := by omega
      refine ⟨0, _, rfl, strL_at v0, ?_⟩
      exact h _ _ _ m (.inr ⟨rfl, V.drop 1, by rw [← List.drop_eq_getElem_cons v0]; rfl⟩)
end
theorem aw13 : putW ⟨#[65]⟩ ⟨#[57]⟩ [(⟨#[97]⟩, ⟨#[49]⟩), (⟨#[66]⟩, ⟨#[50]⟩), (⟨#[65]⟩, ⟨#[51]⟩)] = [(⟨#[65]⟩, ⟨#[57]⟩), (⟨#[66]⟩, ⟨#[50]⟩)] := by decide +kernel
theorem awake13_p : APure Tryd.prog 18 [] (.b true) [] := by
  refine APure.of rfl ?_
  refine ACalls.of_vc T_ok mixed Tryd.func18 rfl Tryd.call18 ?_
  refine .s (newV_a (a := .sl .tight 2 (fldL [(⟨#[97]⟩, ⟨#[49]⟩), (⟨#[66]⟩, ⟨#[50]⟩), (⟨#[65]⟩, ⟨#[51]⟩)])) (.inr (.inl rfl)) (by show 3 ≤ _; decide) (fun b r st' m hb _ _ => ?_))
  refine .s (putX_a ⟨#[65]⟩ ⟨#[57]⟩ (by decide) _ (by show 3 ≤ _; decide) (by decide) hb (fun r' st1 hb1 hs => ?_))
  rw [aw13] at hb1
  refine .s (listV_a _ (by show 2 ≤ _; decide) hb1 (fun st2 m2 => ?_))
  refine .p rfl (same13_p [(⟨#[65]⟩, ⟨#[57]⟩), (⟨#[66]⟩, ⟨#[50]⟩)] [(⟨#[65]⟩, ⟨#[57]⟩), (⟨#[66]⟩, ⟨#[50]⟩)] (by show 2 ≤ _; decide) (by show 2 ≤ _; decide)) ?_
  exact retb (decide_eq_true rfl)
abbrev Deed := Nat × ByteArray × ByteArray
def deedL (l : List Deed) : List (List AV) := l.map fun d => [AV.int .u8 (d.1 : Int), AV.s d.2.1, AV.s d.2.2]
theorem deedL_len (l : List Deed) : (deedL l).length = l.length := by simp [deedL]
theorem deedL_at {l : List Deed} {j : Nat} (h : j < l.length) : (deedL l)[j]? = some [AV.int .u8 (l[j].1 : Int), AV.s l[j].2.1, AV.s l[j].2.2] := by simp [deedL, h]
set_option maxHeartbeats 2000000 in
theorem bagPlays_p (fs : List Fld) (l : List Deed) (name : ByteArray) (hf : ∀ f ∈ fs, f.1.size ≤ 1048576 ∧ f.2.size ≤ 1048576) (hd : ∀ d ∈ l, d.2.1.size ≤ 1048576 ∧ d.2.2.size ≤ 1048576) (hn : name.size ≤ 1048576) :
    APure Tryd.prog 5 [.sl .no 2 (fldL fs), .sl .no 3 (deedL l), .s name] (.b true) [] := by
  have hmx : maxLen = 9223372036854775807 := rfl
  have eD := deedL_len l
  have hm0 : (fs.take 20).length ≤ 20 := by rw [List.length_take]; omega
  have hsz0 : Sz 1048576 (fs.take 20) := fun f h => hf f (List.mem_of_mem_take h)
  refine APure.of rfl ?_
  refine ACalls.of_vc T_ok mixed Tryd.func5 rfl Tryd.call5 ?_
  refine .p rfl awake13_p ?_
  refine .p rfl (few13_p fs) ?_
  refine .s (newX_a (fs.take 20) (by omega) (fun b r st1 m1 hb _ _ => ?_))
  refine vc_loop [8, 9] (fun g vals st' => ∃ (k : Nat) (m : List Fld) (r : Option Nat), k + g = l.length ∧ k ≤ 30 ∧ vals = [.sl .no 2 (fldL m), .i k] ∧ HB st' b r m ∧ m.length ≤ 20 + k ∧ Sz (1048576 + k * 1048578) m) l.length rfl ⟨0, _, r, by omega, by omega, rfl, hb, by omega, hsz0⟩ ?_
  rintro g vals st2 ⟨k, m, r2, hk, hk30, rfl, hb2, hml, hsz⟩
  have hszB : Sz 1000000000 m := fun f h => by have := hsz f h; omega
  have hz1 : ∀ f ∈ m, f.1.size ≤ 1099511627776 := fun f hf => by have := (hszB f hf).1; omega
  have hz2 : ∀ f ∈ m, f.1.size ≤ 1099511627776 ∧ f.2.size ≤ 1099511627776 := fun f hf => by have := hszB f hf; omega
  refine cnd_split (fun hd1 => ?_) (fun hd1 => ?_)
  · have hd1 := of_decide_eq_true hd1
    refine cnd_split (fun hd2 => ?_) (fun hd2 => ?_)
    · have hd2 : (k : Int) < 30 := of_decide_eq_true hd2
      have k1 : k < l.length := by omega
      have hdk := hd l[k] (List.getElem_mem k1)
      refine ⟨k, _, rfl, deedL_at k1, ?_⟩
      refine .s (do_b l[k].1 l[k].2.1 l[k].2.2 _ m (.inl rfl) (by omega) (by omega) (by omega) hszB hb2 (fun r3 st3 hb3 hs3 => ?_))
      have hlen := deedW_len l[k].1 l[k].2.1 l[k].2.2 m
      have hsz3 := deedW_sz (kd := l[k].1) hsz hdk.1 hdk.2 (by omega)
      generalize deedW l[k].1 l[k].2.1 l[k].2.2 m = m3 at *
      refine .s (listV_a m3 (by omega) hb3 (fun st4 m4 => ?_))
      have hb4 := hb3.mv m4 (fun e => e) (fun _ _ e => e)
      refine .p rfl (same13_p m3 m3 (by omega) (by omega)) ?_
      refine cnd_split (fun h => absurd h (by rw [decide_eq_true rfl]; decide)) (fun _ => ?_)
      refine .s (lenX_a m3 (by omega) hb4 (fun st5 m5 => ?_))
      refine cnd_split (fun h => by have h := bne_iff_ne.1 h; rw [fldL_len] at h; exact absurd rfl h) (fun _ => ?_)
      intro c hc
      rw [IntWalk.i64_in _ (by omega)] at hc
      obtain rfl : c = ((k + 1 : Nat) : Int) := by omega
      exact ⟨g - 1, by omega, k + 1, m3, r3, by omega, by omega, rfl, hb4.mv m5 (fun e => e) (fun _ _ e => e), by omega, fun f h => by have := hsz3 f h; omega⟩
    · skip
      refine .s (getX_a m name (by omega) hz1 (by omega) hb2 (fun st6 x ok m6 hok => ?_))
      have hb6 := hb2.mv m6 (fun e => e) (fun _ _ e => e)
      refine .p rfl (vals13_p m name (by omega) hz2 (by omega)) ?_
      refine .s (valuesV_a m name (by omega) hz1 (by omega) hb6 (fun st7 m7 => ?_))
      have hvl := valsW_len name m
      obtain ⟨V, hV⟩ : ∃ V, V = valsW name m := ⟨_, rfl⟩
      rw [← hV] at hok hvl ⊢
      have eV := strL_len V
      refine .p rfl (same6_p V V (by omega) (by omega)) ?_
      refine cnd_split (fun _ => ?_) (fun h => absurd h (by rw [decide_eq_true rfl]; decide))
      rcases hok with ⟨rfl, rfl, hn⟩ | ⟨rfl, q, hn⟩
      · refine cnd_split (fun _ => ?_) (fun h => ?_)
        · intro t ht
          obtain rfl : t = true := ht.2 rfl
          rfl
        · exfalso
          rw [hn] at h
          exact absurd h (by decide)
      · have v0 : 0 < V.length := by rw [hn]; exact Nat.succ_pos _
        refine cnd_split (fun _ => ?_) (fun h => ?_)
        · refine ⟨0, _, rfl, strL_at v0, ?_⟩
          intro t ht
          obtain rfl : t = true := ht.2 (by
            have : V[0]? = some x := by rw [hn]; rfl
            rw [List.getElem?_eq_getElem v0] at this
            exact (Option.some.inj this).symm)
          rfl
        · exfalso
          have h : (true == decide (((strL V).length : Int) > 0)) = false := h
          rw [decide_eq_true (by omega)] at h
          cases h
  · skip
    refine .s (getX_a m name (by omega) hz1 (by omega) hb2 (fun st6 x ok m6 hok => ?_))
    have hb6 := hb2.mv m6 (fun e => e) (fun _ _ e => e)
    refine .p rfl (vals13_p m name (by omega) hz2 (by omega)) ?_
    refine .s (valuesV_a m name (by omega) hz1 (by omega) hb6 (fun st7 m7 => ?_))
    have hvl := valsW_len name m
    obtain ⟨V, hV⟩ : ∃ V, V = valsW name m := ⟨_, rfl⟩
    rw [← hV] at hok hvl ⊢
    have eV := strL_len V
    refine .p rfl (same6_p V V (by omega) (by omega)) ?_
    refine cnd_split (fun _ => ?_) (fun h => absurd h (by rw [decide_eq_true rfl]; decide))
    rcases hok with ⟨rfl, rfl, hn⟩ | ⟨rfl, q, hn⟩
    · refine cnd_split (fun _ => ?_) (fun h => ?_)
      · intro t ht
        obtain rfl : t = true := ht.2 rfl
        rfl
      · exfalso
        rw [hn] at h
        exact absurd h (by decide)
    · have v0 : 0 < V.length := by rw [hn]; exact Nat.succ_pos _
      refine cnd_split (fun _ => ?_) (fun h => ?_)
      · refine ⟨0, _, rfl, strL_at v0, ?_⟩
        intro t ht
        obtain rfl : t = true := ht.2 (by
          have : V[0]? = some x := by rw [hn]; rfl
          rw [List.getElem?_eq_getElem v0] at this
          exact (Option.some.inj this).symm)
        rfl
      · exfalso
        have h : (true == decide (((strL V).length : Int) > 0)) = false := h
        rw [decide_eq_true (by omega)] at h
        cases h
end Go.Proofs.YtookaenbpfpegaaDoor
