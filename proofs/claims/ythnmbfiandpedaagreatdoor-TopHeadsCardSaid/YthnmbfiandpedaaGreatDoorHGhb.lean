/- A pure function's result where it is a row that was written in place; rows of elements as a variable's cells, read, written, appended to. No statement of its own. -/
import Derived.Test.YthnmbfiandpedaaGreatDoorHSa
import Derived.Test.YthnmbfiandpedaaGreatDoorHGsb
set_option linter.unusedSimpArgs false
set_option linter.unusedVariables false
set_option maxRecDepth 100000
namespace Go.Proofs.YthnmbfiandpedaaGreatDoor
open Go.RowKit
def resC (st : St) (a' a : AV) : Prop := (a'.strip = a ∧ a.dat = true) ∨ (a' = .nilS ∧ ∃ sz, a = .sl .no sz []) ∨ ∃ p lo n cap sz cs es, a' = .hs p lo n cap sz ∧ st.heap[p]? = some cs ∧ Seen cs lo n sz es ∧ a = .sl .no sz es
def resCs (st : St) : List AV → List AV → Prop
  | [], [] => True
  | a' :: r', a :: r => resC st a' a ∧ resCs st r' r
  | _, _ => False
theorem resC.dat {st : St} {a : AV} (h : a.dat = true) (h2 : a.strip = a) : resC st a a := .inl ⟨h2, h⟩
theorem AV.dat_of_flat {a : AV} (h : a.flat = true) : a.dat = true := by
  cases a with
  | agg cs => cases h
  | _ => exact h
section
variable {base : Nat} {J : Nat → Nat → Prop} {w0 : World} {st : St} {μ : Nat → Nat} {σ : Nat → Tkt} {w w' : World} {P : Program}
theorem resC.at (hok : Ok base J w0 st μ σ w) {a' a : AV} {v : Value} (h : At base J st μ σ w a' v) (hc : resC st a' a) : At base J ⟨[], []⟩ (fun _ => 0) (fun _ => ⟨0, 0, 0⟩) w a v := by
  have hi : ∀ g x, Im base J st μ σ g x → g < w.heap.size → Im base J ⟨[], []⟩ (fun _ => 0) (fun _ => ⟨0, 0, 0⟩) g x := fun g x hi _ => ⟨hi.1, fun p hp => by simp at hp, fun t e ht => by simp at ht⟩
  rcases hc with ⟨rfl, hd⟩ | ⟨rfl, sz, rfl⟩ | ⟨p, lo, n, cap, sz, cs, es, rfl, hcs, hseen, rfl⟩
  · exact h.strip.dat hi hd
  · rw [h.of_lit]
    exact .sl0 sz none 0 (Nat.zero_le _)
  · cases h with
    | hs _ _ _ _ _ hp hnc hm =>
      obtain rfl := hseen.len
      obtain ⟨us, hrow, hcell⟩ := hseen.row hok hcs
      have hrow' : Row base J ⟨[], []⟩ (fun _ => 0) (fun _ => ⟨0, 0, 0⟩) w sz es us := ⟨hrow.len, hrow.el, fun k e j a he ha => by
        obtain ⟨u, h1, h2⟩ := hrow.at' k e j a he ha
        exact ⟨u, h1, h2.dat hi (AV.dat_of_flat (List.all_eq_true.1 (hrow.el k e he).2 a (List.mem_of_getElem? ha)))⟩⟩
      have hb := (hok.mu_lt hp).1
      exact hrow'.sl .no (μ p) lo cap hnc hm (fun j u hu => ⟨⟨fun hlt => by omega, fun q hq => by simp at hq, fun t e ht => by simp at ht⟩, hcell j u hu⟩) (fun h => by cases h) (fun i e h => by cases h)
theorem resCs.at (hok : Ok base J w0 st μ σ w) : ∀ {us vs : List AV}, resCs st us vs → us.length = vs.length ∧ ∀ (j : Nat) a v, vs[j]? = some a → (∀ b, us[j]? = some b → At base J st μ σ w b v) → At base J ⟨[], []⟩ (fun _ => 0) (fun _ => ⟨0, 0, 0⟩) w a v
  | [], [], _ => ⟨rfl, fun j a v h => by simp at h⟩
  | b :: us, a :: vs, h => by
    obtain ⟨h1, h2⟩ := h
    obtain ⟨i1, i2⟩ := resCs.at hok h2
    refine ⟨by simp [i1], fun j x v hx hu => ?_⟩
    cases j with
    | zero =>
      simp at hx
      subst hx
      exact resC.at hok (hu b rfl) h1
    | succ j => exact i2 j x v (by simpa using hx) (fun b hb => hu b (by simpa using hb))
  | [], _ :: _, h => h.elim
  | _ :: _, [], h => h.elim
end

section
variable {sz : Nat} {es ys : List (List AV)} {zs : List AV}
theorem rows_len (h : ∀ e ∈ es, e.length = sz) : es.flatten.length = es.length * sz := flat_len fun k e he => h e (List.mem_of_getElem? he)
theorem rows_at (h : ∀ e ∈ es, e.length = sz) {k j : Nat} (hk : k < es.length) (hj : j < sz) : (es.flatten ++ zs)[k * sz + j]? = es[k][j]? := by
  have hl := rows_len h
  have := lt_mul (sz := sz) hk hj
  rw [List.getElem?_append_left (by omega)]
  exact flat_get (fun k e he => h e (List.mem_of_getElem? he)) k j _ (List.getElem?_eq_getElem hk) hj
theorem rows_seen (h : ∀ e ∈ es, e.length = sz ∧ e.all AV.flat = true) : Seen (es.flatten ++ zs) 0 es.length sz es := by
  refine ⟨rfl, fun k e he => h e (List.mem_of_getElem? he), fun k e j a he ha => ?_⟩
  have hk := (List.getElem?_eq_some_iff.1 he).1
  have hj := (List.getElem?_eq_some_iff.1 ha).1
  have hl := (h e (List.mem_of_getElem? he)).1
  rw [Nat.zero_add, rows_at (fun e he => (h e he).1) hk (by omega)]
  rw [List.getElem?_eq_getElem hk] at he
  cases he
  exact ha
theorem rows_app (h : ∀ e ∈ es, e.length = sz) (hy : ∀ e ∈ ys, e.length = sz) (hz : ys.length * sz ≤ zs.length) : setAll (es.flatten ++ zs) (0 + es.length * sz) ys.flatten = (es ++ ys).flatten ++ zs.drop (ys.length * sz) := by
  have hl := rows_len h
  have hl2 := rows_len hy
  apply List.ext_getElem?
  intro q
  rw [setAll_get _ _ _ _ (by rw [List.length_append]; omega), List.flatten_append, List.append_assoc]
  by_cases h1 : q < es.length * sz
  · rw [if_neg (by omega), List.getElem?_append_left (by omega), List.getElem?_append_left (by omega)]
  · by_cases h2 : q < es.length * sz + ys.length * sz
    · rw [if_pos (by omega), List.getElem?_append_right (by omega), List.getElem?_append_left (by omega), hl, Nat.zero_add]
    · rw [if_neg (by omega), List.getElem?_append_right (by omega), List.getElem?_append_right (by omega), List.getElem?_append_right (by omega), List.getElem?_drop, hl, hl2]
      congr 1
      omega
end

theorem st1 {cs : List AV} {o n : Nat} {v : AV} {L : List AV → Prop} (hn : n = 1) (h : o + 1 ≤ cs.length) (hL : L (cs.set o v)) : (match decide (o + n ≤ cs.length) with | true => listK (setAll cs o [v]) L | false => False) := by
  subst hn
  rw [decide_eq_true h]
  exact listK_iff.2 hL
/-- a variable whose cells are these elements, and others behind -/
structure RwS (st : St) (p cap sz : Nat) (es : List (List AV)) : Prop where
  ex : ∃ zs, st.heap[p]? = some (es.flatten ++ zs) ∧ es.length * sz + zs.length = cap * sz
  el : ∀ e ∈ es, e.length = sz ∧ e.all AV.flat = true
  hn : es.length ≤ cap
inductive HR (st : St) (sz : Nat) : AV → Option Nat → List (List AV) → Prop
  | nil : HR st sz .nilS none []
  | tight : HR st sz (.sl .tight sz []) none []
  | hs (p cap : Nat) (es : List (List AV)) (h : RwS st p cap sz es) : HR st sz (.hs p 0 es.length cap sz) (some p) es
theorem RwS.mv {n : Nat} {C : Nat → Prop} {a b : St} {p cap sz : Nat} {es : List (List AV)} (h : RwS a p cap sz es) (m : Mv n C a b) (hc : ¬ C p) : RwS b p cap sz es := by
  obtain ⟨⟨zs, h1, h2⟩, h3, h4⟩ := h
  exact ⟨⟨zs, m.at' h1 hc, h2⟩, h3, h4⟩
theorem RwS.keep {a b : St} {p cap sz : Nat} {es : List (List AV)} (h : RwS a p cap sz es) (m : ∀ cs, a.heap[p]? = some cs → b.heap[p]? = some cs) : RwS b p cap sz es := by
  obtain ⟨⟨zs, h1, h2⟩, h3, h4⟩ := h
  exact ⟨⟨zs, m _ h1, h2⟩, h3, h4⟩
theorem HR.mv {n : Nat} {C : Nat → Prop} {a b : St} {x : AV} {r : Option Nat} {sz : Nat} {es : List (List AV)} (h : HR a sz x r es) (m : Mv n C a b) (hc : ∀ p, r = some p → ¬ C p) : HR b sz x r es := by
  cases h with
  | nil => exact .nil
  | tight => exact .tight
  | hs p cap es h => exact .hs _ _ _ (h.mv m (hc p rfl))
theorem HR.keep {a b : St} {x : AV} {r : Option Nat} {sz : Nat} {es : List (List AV)} (h : HR a sz x r es) (m : ∀ p cs, r = some p → a.heap[p]? = some cs → b.heap[p]? = some cs) : HR b sz x r es := by
  cases h with
  | nil => exact .nil
  | tight => exact .tight
  | hs p cap es h => exact .hs _ _ _ (h.keep fun cs => m p cs rfl)
theorem HR.lt {a : St} {x : AV} {p sz : Nat} {es : List (List AV)} (h : HR a sz x (some p) es) : p < a.heap.length := by
  cases h with
  | hs p cap es h =>
    obtain ⟨⟨zs, h1, _⟩, _, _⟩ := h
    exact (List.getElem?_eq_some_iff.1 h1).1
theorem HR.app {n : Nat} {r : Option Nat} {st : St} {i : TI} {a : AV} {es ys : List (List AV)} {tg : Tk} {K : AV → St → Prop} (h : HR st i.size a r es) (hz : i.zero.all Value.oneCell' = true) (hzl : i.zero.length = i.size) (hy : ys ≠ []) (hyl : ∀ e ∈ ys, e.length = i.size ∧ e.all AV.flat = true)
    (hb : (es.length + ys.length) * i.bytes ≤ 140737488355328) (hm : es.length + ys.length ≤ maxLen) (hn : n ≤ st.tk.length)
    (hK : ∀ p cap st', RwS st' p cap i.size (es ++ ys) → Mv n (fun q => some q = r) st st' → (some p = r ∨ st.heap.length ≤ p) → p < st'.heap.length → K (.hs p 0 (es.length + ys.length) cap i.size) st') : vcApp i a (.sl tg i.size ys) st K := by
  have hyl1 : ∀ e ∈ ys, e.length = i.size := fun e he => (hyl e he).1
  have fresh : ∀ (es : List (List AV)) x, (∀ e ∈ es, e.length = i.size ∧ e.all AV.flat = true) → RwS ⟨st.heap ++ [(es ++ ys).flatten ++ zerosL i.zero x], st.tk⟩ st.heap.length (es.length + ys.length + x) i.size (es ++ ys) := fun es x he => by
    refine ⟨⟨zerosL i.zero x, by simp, ?_⟩, fun e hm => ?_, by rw [List.length_append]; omega⟩
    · rw [zerosL_len, hzl, List.length_append, ← Nat.add_mul]
    · rcases List.mem_append.1 hm with hm | hm
      · exact he e hm
      · exact hyl e hm
  have mvF : ∀ x, Mv n (fun q => some q = r) st ⟨st.heap ++ [x], st.tk⟩ := fun x => (Mv.refl hn).alloc x
  unfold vcApp srcA
  simp only [decide_true]
  cases h with
  | nil =>
    refine ⟨fun e => absurd e hy, fun _ => ⟨by simpa using hb, by simpa using hm, .inr ⟨hz, fun x hx => ?_⟩⟩⟩
    have := hK st.heap.length (0 + ys.length + x) _ (by simpa using fresh [] x (fun e he => by simp at he)) (mvF _) (.inr (Nat.le_refl _)) (by simp)
    simpa using this
  | tight =>
    simp only [hz, decide_true, Bool.and_self]
    refine ⟨fun e => absurd e hy, fun _ => ⟨by simpa using hb, by simpa using hm, .inr (fun x hx => ?_)⟩⟩
    have := hK st.heap.length (0 + ys.length + x) _ (by simpa using fresh [] x (fun e he => by simp at he)) (mvF _) (.inr (Nat.le_refl _)) (by simp)
    simpa using this
  | hs p cap es h =>
    obtain ⟨⟨zs, h1, h2⟩, h3, h4⟩ := h
    simp only [hz, decide_true, Bool.and_self]
    have hp := (List.getElem?_eq_some_iff.1 h1).1
    have h31 : ∀ e ∈ es, e.length = i.size := fun e he => (h3 e he).1
    have hl := rows_len h31
    refine ⟨fun e => absurd e hy, fun _ => ⟨hb, hm, _, es, h1, rows_seen h3, fun hroom => ?_, fun hno x hx => ?_⟩⟩
    · have hcap : (es.length + ys.length) * i.size ≤ cap * i.size := Nat.mul_le_mul_right _ hroom
      rw [Nat.add_mul] at hcap
      refine ⟨by rw [List.length_append, hl, Nat.add_mul]; omega, ?_⟩
      rw [rows_app h31 hyl1 (by omega)]
      refine hK p cap _ ⟨⟨_, List.getElem?_set_self hp, ?_⟩, fun e hm => ?_, by simpa using hroom⟩ ((Mv.refl (C := fun q => some q = some p) hn).set (p := p) (fun _ => rfl) _) (.inl rfl) (by simpa using hp)
      · rw [List.length_append, List.length_drop, Nat.add_mul]; omega
      · rcases List.mem_append.1 hm with hm | hm
        · exact h3 e hm
        · exact hyl e hm
    · exact hK st.heap.length _ _ (fresh es x h3) (mvF _) (.inr (Nat.le_refl _)) (by simp)
end Go.Proofs.YthnmbfiandpedaaGreatDoor
/- Names among others; rows that are one's own variables. No statement of its own. -/
set_option linter.unusedSimpArgs false
set_option linter.unusedVariables false
set_option maxRecDepth 100000
namespace Go.Proofs.YthnmbfiandpedaaGreatDoor
open Go.RowKit
structure NmOk (l : List ByteArray) : Prop where
  len : l.length ≤ 1099511627776
  size : ∀ x ∈ l, x.size ≤ 1099511627776
section
variable {st : St} {R : AV → St → Prop} {q : Nat}
end
/-- a row's cells -/
abbrev fl (l : List Fld) : List AV := (fldL l).flatten
/-- a row of fields that is one's own variable (and not b), or an empty one -/
inductive HRow (st : St) (b : Nat) : AV → List Fld → Prop
  | nil : HRow st b .nilS []
  | tight : HRow st b (.sl .tight 2 []) []
  | hs (p cap : Nat) (l : List Fld) (zs : List AV) (hp : st.heap[p]? = some (fl l ++ zs)) (hc : l.length ≤ cap) (hb : p ≠ b) : HRow st b (.hs p 0 l.length cap 2) l
theorem HRow.pre {st st' : St} {b : Nat} {a : AV} {l : List Fld} (h : HRow st b a l) (g : Pre st st') : HRow st' b a l := by
  cases h with
  | nil => exact .nil
  | tight => exact .tight
  | hs p cap l zs hp hc hb => exact .hs p cap l zs (g.at' hp) hc hb
section
variable {st : St} {R : AV → St → Prop} {p q b cap : Nat}
end
section
variable {st : St} {R : AV → St → Prop} {p q b cap : Nat}
end
end Go.Proofs.YthnmbfiandpedaaGreatDoor
/- Arguments said less of, in calls that turn the state; a row that is being built, by its form. No statement of its own. -/
set_option linter.unusedSimpArgs false
set_option linter.unusedVariables false
set_option maxRecDepth 100000
namespace Go.Proofs.YthnmbfiandpedaaGreatDoor
open Go.RowKit
def argV (a a' : AV) : Prop := a' = a ∨ a' = a.strip ∨ (a = .nilS ∧ ∃ sz, a' = .sl .no sz [])
def ArgsV : List AV → List AV → Prop
  | [], [] => True
  | a :: r, a' :: r' => argV a a' ∧ ArgsV r r'
  | _, _ => False
theorem ArgsV.at' : ∀ {l l' : List AV}, ArgsV l l' → l.length = l'.length ∧ ∀ (j : Nat) a', l'[j]? = some a' → ∃ a, l[j]? = some a ∧ argV a a'
  | [], [], _ => ⟨rfl, fun j a h => by simp at h⟩
  | a :: r, b :: r', h => by
    obtain ⟨h1, h2⟩ := h
    obtain ⟨i1, i2⟩ := ArgsV.at' h2
    refine ⟨by simp [i1], fun j a' hj => ?_⟩
    cases j with
    | zero => simp at hj; subst hj; exact ⟨a, rfl, h1⟩
    | succ j => simpa using i2 j a' (by simpa using hj)
  | [], _ :: _, h => h.elim
  | _ :: _, [], h => h.elim
theorem ACalls.weak {P : Program} {f : FuncId} {args args' : List AV} {st : St} {R : AV → St → Prop} (hw : ArgsV args args') (h : ACalls P f args' st R) : ACalls P f args st R := by
  obtain ⟨h1, h2⟩ := hw.at'
  refine ⟨h.1, fun base J w0 μ σ w vs hok hl ha => h.2 base J w0 μ σ w vs hok (by omega) fun j a' v hj hv => ?_⟩
  obtain ⟨a, e, hv'⟩ := h2 j a' hj
  have := ha j a v e hv
  rcases hv' with rfl | rfl | ⟨rfl, sz, rfl⟩
  · exact this
  · exact this.strip
  · rw [this.of_lit]
    exact .sl0 sz none 0 (Nat.zero_le _)
theorem Acc.form {n : Nat} {tk : List Nat} {sz : Nat} {a : AV} {es : List (List AV)} (h : Acc n tk sz a es) : a = .nilS ∨ ∃ t e, a = .sl (.own t e) sz es := by
  cases h with
  | nil => exact .inl rfl
  | own t e es hn ht => exact .inr ⟨t, e, rfl⟩
theorem Acc.argW {n : Nat} {tk : List Nat} {sz : Nat} {a : AV} {es : List (List AV)} (h : Acc n tk sz a es) : argW a (.sl .no sz es) := by
  cases h with
  | nil => exact .inr ⟨rfl, sz, rfl⟩
  | own t e es hn ht => exact .inl (.inl ⟨rfl, rfl⟩)
end Go.Proofs.YthnmbfiandpedaaGreatDoor
/- Rows of fields, in plain words: what puts, renames and goes behind. No statement of its own. -/
set_option linter.unusedSimpArgs false
set_option linter.unusedVariables false
set_option maxRecDepth 100000
namespace Go.Proofs.YthnmbfiandpedaaGreatDoor
open Go.RowKit
theorem fldL_el (l : List Fld) : ∀ e ∈ fldL l, e.length = 2 ∧ e.all AV.flat = true := fun e he => by
  obtain ⟨k, hk, rfl⟩ := List.getElem_of_mem he
  exact flat_fld l k _ (List.getElem?_eq_getElem hk)
theorem HR.form {st : St} {sz : Nat} {a : AV} {r : Option Nat} {es : List (List AV)} (h : HR st sz a r es) : (a = .nilS ∧ r = none) ∨ (a = .sl .tight sz [] ∧ r = none) ∨ ∃ p cap n, a = .hs p 0 n cap sz ∧ r = some p := by
  cases h with
  | nil => exact .inl ⟨rfl, rfl⟩
  | tight => exact .inr (.inl ⟨rfl, rfl⟩)
  | hs p cap es h => exact .inr (.inr ⟨p, cap, _, rfl, rfl⟩)
def HB (st : St) (b : Nat) (r : Option Nat) (l : List Fld) : Prop := ∃ a, st.heap[b]? = some [a] ∧ HR st 2 a r (fldL l) ∧ r ≠ some b
/-- what a bag's call turns: the bag, and its row -/
structure BgS (st : St) (b : Nat) (r : Option Nat) (st' : St) (r' : Option Nat) : Prop where
  mv : Mv 0 (fun q => q = b ∨ some q = r) st st'
  nw : r' = r ∨ ∃ p, r' = some p ∧ st.heap.length ≤ p
theorem BgS.refl (st : St) (b : Nat) (r : Option Nat) : BgS st b r st r := ⟨.refl (Nat.zero_le _), .inl rfl⟩
theorem BgS.trans {st st1 st2 : St} {b : Nat} {r r1 r2 : Option Nat} (h : BgS st b r st1 r1) (k : BgS st1 b r1 st2 r2) : BgS st b r st2 r2 := by
  refine ⟨h.mv.trans k.mv fun q hq hd => ?_, ?_⟩
  · rcases hd with hd | hd
    · exact .inl hd
    · rcases h.nw with e | ⟨p, e, hp⟩
      · exact .inr (by rw [← e]; exact hd)
      · rw [e] at hd
        have := Option.some.inj hd
        omega
  · rcases k.nw with e | ⟨p, e, hp⟩
    · rw [e]; exact h.nw
    · exact .inr ⟨p, e, Nat.le_trans h.mv.len hp⟩
theorem HB.mv {n : Nat} {C : Nat → Prop} {a b : St} {p : Nat} {r : Option Nat} {l : List Fld} (h : HB a p r l) (m : Mv n C a b) (h1 : ¬ C p) (h2 : ∀ q, r = some q → ¬ C q) : HB b p r l := by
  obtain ⟨x, e1, e2, e3⟩ := h
  exact ⟨x, m.at' e1 h1, e2.mv m h2, e3⟩
theorem HB.lt {st : St} {b : Nat} {r : Option Nat} {l : List Fld} (h : HB st b r l) : b < st.heap.length := lt_of h.choose_spec.1
section
variable {st : St} {R : AV → St → Prop} {b : Nat} {r : Option Nat}
theorem cloneX_a (l : List Fld) (hl : l.length ≤ 1099511627776) (h : ∀ a r st', Mv 0 (fun _ => False) st st' → HR st' 2 a r (fldL l) → (∀ p, r = some p → st.heap.length ≤ p) → R a st') : ACalls Tryz.prog 149 [.sl .no 2 (fldL l)] st R := by
  have hmx : maxLen = 9223372036854775807 := rfl
  have el := fldL_len l
  cases l with
  | nil =>
    refine ACalls.empty fun a cap hm => ?_
    cases a with
    | none =>
      refine ACalls.of_vc T_ok mixed Tryz.func149 rfl Tryz.call149 ?_
      exact h _ none _ (.refl (Nat.zero_le _)) .nil (fun p e => by cases e)
    | some a =>
      refine ACalls.of_vc T_ok mixed Tryz.func149 rfl Tryz.call149 ?_
      exact ⟨fun _ => h _ none _ (.refl (Nat.zero_le _)) .tight (fun p e => by cases e), fun h => absurd rfl h⟩
  | cons f q =>
    refine ACalls.of_vc T_ok mixed Tryz.func149 rfl Tryz.call149 ?_
    refine ⟨fun h => by simp [fldL] at h, fun _ => ⟨?_, ?_, .inr fun x hx => ?_⟩⟩
    · show (fldL (f :: q)).length * 32 ≤ _; omega
    · show (fldL (f :: q)).length ≤ _; omega
    · refine h _ (some st.heap.length) _ ((Mv.refl (Nat.zero_le _)).alloc _) (.hs _ _ _ ⟨⟨_, last_at _ _, ?_⟩, fldL_el _, Nat.le_add_right _ _⟩) (fun p e => by have := Option.some.inj e; omega)
      rw [zerosL_len, show (TI.zero ti73).length = 2 from rfl, ← Nat.add_mul]
theorem newX_a (l : List Fld) (hl : l.length ≤ 1099511627776) (h : ∀ b r st', Mv 0 (fun _ => False) st st' → HB st' b r l → st.heap.length ≤ b → (∀ p, r = some p → st.heap.length ≤ p) → R (.ptr b 0) st') : ACalls Tryz.prog 99 [.sl .no 2 (fldL l)] st R := by
  refine ACalls.of_vc T_ok mixed Tryz.func99 rfl Tryz.call99 ?_
  refine .s (cloneX_a l hl fun a r st' m hR hr => ?_)
  have m2 := fun x => m.alloc x
  have hR' := fun x => hR.keep (b := ⟨st'.heap ++ [x], st'.tk⟩) (fun p cs _ h => ap h)
  have hl := m.len
  have hne : r ≠ some st'.heap.length := fun e => by
    subst e
    have := hR.lt
    omega
  rcases hR.form with ⟨rfl, rfl⟩ | ⟨rfl, rfl⟩ | ⟨p, cap, n, rfl, rfl⟩
  · exact h _ none _ (m2 _) ⟨_, last_at _ _, hR' _, hne⟩ hl hr
  · exact h _ none _ (m2 _) ⟨_, last_at _ _, hR' _, hne⟩ hl hr
  · refine ⟨hR.lt, ?_⟩
    exact h _ (some p) _ (m2 _) ⟨_, last_at _ _, hR' _, hne⟩ hl hr
theorem listX_a (l : List Fld) (hl : l.length ≤ 1099511627776) (hb : HB st b r l) (h : ∀ a st', Mv 0 (fun _ => False) st st' → (a = .nilS ∧ l = [] ∨ (∃ tg, a = .sl tg 2 (fldL l))) → R a st') : ACalls Tryz.prog 150 [.ptr b 0] st R := by
  have hmx : maxLen = 9223372036854775807 := rfl
  obtain ⟨a, hba, hR, hrb⟩ := hb
  have el := fldL_len l
  obtain ⟨es, hes⟩ : ∃ es, fldL l = es := ⟨_, rfl⟩
  rw [hes] at hR
  cases hR with
  | nil =>
    have hl0 : l = [] := by unfold fldL at hes; exact List.map_eq_nil_iff.1 hes
    refine ACalls.of_vc T_ok mixed Tryz.func150 rfl Tryz.call150 ?_
    refine ⟨_, hba, ?_⟩
    refine .s (.of_vc T_ok mixed Tryz.func149 rfl Tryz.call149 ?_)
    exact h _ _ (.refl (Nat.zero_le _)) (.inl ⟨rfl, hl0⟩)
  | tight =>
    have hl0 : l = [] := by unfold fldL at hes; exact List.map_eq_nil_iff.1 hes
    subst hl0
    refine ACalls.of_vc T_ok mixed Tryz.func150 rfl Tryz.call150 ?_
    refine ⟨_, hba, ?_⟩
    refine .p rfl (clone_p [] hl) ?_
    exact h _ _ (.refl (Nat.zero_le _)) (.inr ⟨_, rfl⟩)
  | hs p cap _ hw =>
    obtain ⟨⟨zs, hp, hz⟩, he, hc⟩ := hw
    refine ACalls.of_vc T_ok mixed Tryz.func150 rfl Tryz.call150 ?_
    refine ⟨_, hba, ?_⟩
    refine .s (.of_vc T_ok mixed Tryz.func149 rfl Tryz.call149 ?_)
    refine ⟨_, _, hp, rows_seen he, ?_⟩
    rw [hes] at el
    refine ⟨fun e => ?_, fun _ => ⟨?_, ?_, .inl ?_⟩⟩
    · have : l = [] := List.eq_nil_of_length_eq_zero (by rw [← el, e]; rfl)
      exact h _ _ (.refl (Nat.zero_le _)) (.inr ⟨.tight, by rw [hes, e]; rfl⟩)
    · show es.length * 32 ≤ _; omega
    · show es.length ≤ _; omega
    · exact h _ _ ((Mv.refl (Nat.zero_le _)).tks (b := st) (by simp) (fun t ht => by omega)) (.inr ⟨_, by rw [hes]; rfl⟩)
attribute [local irreducible] vcApp
end
section
variable {st : St} {R : AV → St → Prop} {b p cap : Nat} {r : Option Nat}
theorem fldL_nil {l : List Fld} (h : fldL l = []) : l = [] := by unfold fldL at h; exact List.map_eq_nil_iff.1 h
end
section
variable {st : St} {R : AV → St → Prop} {b p cap : Nat} {r : Option Nat}
end
theorem NmOk.one {n : ByteArray} (h : n.size ≤ 1099511627776) : NmOk [n] := by
  refine ⟨by show 1 ≤ 1099511627776; decide, fun x hx => ?_⟩
  rw [List.mem_singleton.1 hx]; exact h
section
variable {st : St} {R : AV → St → Prop} {b p cap : Nat} {r : Option Nat}
attribute [local irreducible] vcApp
end
section
attribute [local irreducible] vcApp
end
theorem tapp {i : TI} {tg : Tk} {ys : List (List AV)} {st : St} {K : AV → St → Prop} (hz : i.zero.all Value.oneCell' = true) (hb : ys.length * i.bytes ≤ 140737488355328) (hm : ys.length ≤ maxLen) (h0 : ys = [] → K (.sl .tight i.size []) st) (h1 : ys ≠ [] → ∀ t e tk', tk'[t]? = some e → K (.sl (.own t e) i.size ys) ⟨st.heap, tk'⟩) : vcApp i (.sl .tight i.size []) (.sl tg i.size ys) st K := by
  unfold vcApp srcA
  simp only [decide_true, hz, Bool.and_self]
  refine ⟨fun e => h0 e, fun hne => ⟨by simpa using hb, by simpa using hm, .inl ?_⟩⟩
  have := h1 hne st.tk.length ([] ++ ys).length (st.tk ++ [([] ++ ys).length]) (by simp)
  simpa using this
theorem NmOk.two {n v : ByteArray} (h : n.size ≤ 1099511627776) (h2 : v.size ≤ 1099511627776) : NmOk [n, v] := by
  refine ⟨by show 2 ≤ 1099511627776; decide, fun x hx => ?_⟩
  rcases List.mem_cons.1 hx with rfl | hx
  · exact h
  · rw [List.mem_singleton.1 hx]; exact h2
theorem HB.tks {st : St} {b : Nat} {r : Option Nat} {l : List Fld} (h : HB st b r l) (tk : List Nat) : HB ⟨st.heap, tk⟩ b r l :=
  h.mv ((Mv.refl (C := fun _ => False) (Nat.zero_le _)).tks (Nat.zero_le _) (fun t h => by omega)) (fun e => e) (fun _ _ e => e)
/-- a row of fields, of whatever make -/
def Rw (a : AV) (l : List Fld) : Prop := a = .sl .no 2 (fldL l) ∨ a = .sl .tight 2 (fldL l) ∨ ∃ t e, a = .sl (.own t e) 2 (fldL l)
section
attribute [local irreducible] vcApp
variable {st : St} {R : AV → St → Prop} {b p cap : Nat} {r : Option Nat}
end
theorem Rp.stripR {w : World} {I : Nat → Nat → Prop} {hl : Nat} {μ : Nat → Nat} {tk : List Nat} {σ : Nat → Tkt} {a : AV} {v : Value} (h : Rp w I hl μ tk σ a v) : Rp w I hl μ tk σ a.stripR v := by
  cases a with
  | tup vs =>
    cases h with
    | tup cs zs e1 hr =>
      refine .tup _ zs (by rw [List.length_map]; exact e1) fun j a u hja hju => ?_
      rw [List.getElem?_map, Option.map_eq_some_iff] at hja
      obtain ⟨b, hb, rfl⟩ := hja
      exact (hr j b u hb hju).strip
  | _ => exact h.strip
theorem ACalls.bare {P : Program} {f : FuncId} {args : List AV} {st : St} {R : AV → St → Prop} (h : ACalls P f args st fun r st' => R r.stripR st') : ACalls P f args st R := by
  refine ⟨h.1, fun base J w0 μ σ w vs hok hl ha => (h.2 base J w0 μ σ w vs hok hl ha).mono ?_⟩
  rintro e w' ⟨v, r, st', μ', σ', rfl, hR, hok', hx, hat⟩
  exact ⟨v, _, st', μ', σ', rfl, hR, hok', hx, hat.stripR⟩
theorem ACalls.bareN {P : Program} {f : FuncId} {args : List AV} {st : St} {R : AV → St → Prop} (h : ACalls P f args st fun r st' => R r.stripR st' ∨ (r = .nilS ∧ ∃ sz, R (.sl .no sz []) st')) : ACalls P f args st R := by
  refine ⟨h.1, fun base J w0 μ σ w vs hok hl ha => (h.2 base J w0 μ σ w vs hok hl ha).mono ?_⟩
  rintro e w' ⟨v, r, st', μ', σ', rfl, hR, hok', hx, hat⟩
  rcases hR with hR | ⟨rfl, sz, hR⟩
  · exact ⟨v, _, st', μ', σ', rfl, hR, hok', hx, hat.stripR⟩
  · refine ⟨v, _, st', μ', σ', rfl, hR, hok', hx, ?_⟩
    rw [hat.of_lit]
    exact .sl0 sz none 0 (Nat.zero_le _)
theorem Rw.argV {a : AV} {l : List Fld} (h : Rw a l) : argV a (.sl .no 2 (fldL l)) := by
  rcases h with rfl | rfl | ⟨t, e, rfl⟩
  · exact .inl rfl
  · exact .inr (.inl rfl)
  · exact .inr (.inl rfl)
/-- values, of whatever make -/
def Vw (a : AV) (l : List ByteArray) : Prop := (a = .nilS ∧ l = []) ∨ ∃ t e, a = .sl (.own t e) 1 (strL l)
section
variable {st : St} {R : AV → St → Prop} {b p cap : Nat} {r : Option Nat}
theorem newV_a {a : AV} {l : List Fld} (ha : Rw a l) (hl : l.length ≤ 1099511627776) (h : ∀ b r st', Mv 0 (fun _ => False) st st' → HB st' b r l → st.heap.length ≤ b → (∀ p, r = some p → st.heap.length ≤ p) → R (.ptr b 0) st') : ACalls Tryz.prog 99 [a] st R :=
  ACalls.weak (args' := [.sl .no 2 (fldL l)]) ⟨ha.argV, trivial⟩ (newX_a l hl h)
attribute [local irreducible] vcApp
set_option maxHeartbeats 1000000 in
theorem valuesX_a (l : List Fld) (name : ByteArray) (hl : l.length ≤ 1000000) (hz : ∀ f ∈ l, f.1.size ≤ 1099511627776) (hn : name.size ≤ 1099511627776) (hb : HB st b r l)
    (h : ∀ a st', Mv 0 (fun _ => False) st st' → Vw a (valsW name l) → R a st') : ACalls Tryz.prog 100 [.ptr b 0, .s name] st R := by
  have hmx : maxLen = 9223372036854775807 := rfl
  have el := fldL_len l
  have main : ∀ (tg : Tk) st1, Mv 0 (fun _ => False) st st1 → True := fun _ _ _ => trivial
  refine ACalls.of_vc T_ok mixed Tryz.func100 rfl Tryz.call100 ?_
  refine .s (listX_a l (by omega) hb (fun a st1 m ha => ?_))
  rcases ha with ⟨rfl, rfl⟩ | ⟨tg, rfl⟩
  · refine vc_loop [5, 11] (fun g vals st' => vals = [.nilS, .i 0] ∧ Mv 0 (fun _ => False) st st') 0 rfl ⟨rfl, m⟩ ?_
    rintro g vals st' ⟨rfl, m'⟩
    exact h _ _ m' (.inl ⟨rfl, rfl⟩)
  · refine vc_loop [5, 11] (fun g vals st' => ∃ (k : Nat) (a : AV), k + g = l.length ∧ vals = [a, .i k] ∧ Mv 0 (fun _ => False) st st' ∧ Acc 0 st'.tk 1 a (strL (valsW name (l.take k)))) l.length rfl ⟨0, _, by omega, rfl, m, .nil⟩ ?_
    rintro g vals st' ⟨k, a, hk, rfl, m', hA⟩
    have hml := m'.len
    have hvl := valsW_len name (l.take k)
    rw [List.length_take] at hvl
    have hsl := strL_len (valsW name (l.take k))
    have hA0 := hA
    have hnil : strL (valsW name (l.take k)) = [] → valsW name (l.take k) = [] := fun e => List.eq_nil_of_length_eq_zero (by rw [← hsl, e]; rfl)
    generalize hes : strL (valsW name (l.take k)) = es at hA hsl hA0 hnil
    cases hA
    all_goals
      refine cnd_split (fun hd => ?_) (fun hd => ?_)
      · have hd := of_decide_eq_true hd
        have k1 : k < l.length := by omega
        have sz := hz l[k] (List.getElem_mem k1)
        have hs := valsW_snoc name l k k1
        refine ⟨k, _, rfl, fldL_at k1, ?_⟩
        refine ⟨_, last_at _ _, ?_⟩
        refine ⟨_, last_upd _ _ _, ?_⟩
        refine .p rfl (sameO_p l[k].1 name (by omega) (by omega)) ?_
        refine cnd_split (fun h3 => ?_) (fun h3 => ?_)
        · rw [if_pos h3] at hs
          refine ⟨_, last_upd _ _ _, ?_⟩
          refine Acc.app (n := 0) (i := ti9) hA0 (Nat.zero_le _) (List.cons_ne_nil _ _) ?_ ?_ (fun t9 e9 tk9 z0 z1 z2 z3 => ?_)
          · show (List.length _ + 1) * 16 ≤ _; omega
          · show List.length _ + 1 ≤ _; omega
          intro c hc
          rw [IntWalk.i64_in _ (by omega)] at hc
          obtain rfl : c = ((k + 1 : Nat) : Int) := by omega
          refine ⟨g - 1, by omega, k + 1, _, by omega, rfl, ((m'.alloc _).set (fun e => by omega) _).tks (Nat.zero_le _) (fun t h => by omega), ?_⟩
          rw [hs, ← strL_app, hes]
          exact .own _ _ _ (Nat.zero_le _) z1
        · rw [if_neg (by rw [h3]; decide), List.append_nil] at hs
          intro c hc
          rw [IntWalk.i64_in _ (by omega)] at hc
          obtain rfl : c = ((k + 1 : Nat) : Int) := by omega
          refine ⟨g - 1, by omega, k + 1, _, by omega, rfl, ((m'.alloc _).set (fun e => by omega) _), ?_⟩
          rw [hs, hes]
          exact hA0
      · have hd := of_decide_eq_false hd
        have ht : l.take k = l := List.take_of_length_le (by omega)
        rw [ht] at hes hnil
        refine h _ _ m' ?_
        first
          | exact .inl ⟨rfl, hnil rfl⟩
          | exact .inr ⟨_, _, by rw [hes]⟩
theorem valuesV_a (l : List Fld) (name : ByteArray) (hl : l.length ≤ 1000000) (hz : ∀ f ∈ l, f.1.size ≤ 1099511627776) (hn : name.size ≤ 1099511627776) (hb : HB st b r l)
    (h : ∀ st', Mv 0 (fun _ => False) st st' → R (.sl .no 1 (strL (valsW name l))) st') : ACalls Tryz.prog 100 [.ptr b 0, .s name] st R := by
  refine ACalls.bareN (valuesX_a l name hl hz hn hb fun a st' m ha => ?_)
  have := h st' m
  rcases ha with ⟨rfl, e⟩ | ⟨t, e, rfl⟩
  · rw [e] at this
    exact .inr ⟨rfl, 1, this⟩
  · exact .inl this
end
end Go.Proofs.YthnmbfiandpedaaGreatDoor
/- Rows with tickets: what an append to them keeps. No statement of its own. -/
set_option linter.unusedSimpArgs false
set_option linter.unusedVariables false
set_option maxRecDepth 100000
namespace Go.Proofs.YthnmbfiandpedaaGreatDoor
open Go.RowKit
def tkt : AV → Option Nat
  | .sl (.own t _) _ _ => some t
  | _ => none
section
variable {st : St}
theorem Acc.keep {tk tk' : List Nat} {sz : Nat} {a : AV} {es : List (List AV)} (h : Acc 0 tk sz a es) (hk : ∀ t, tkt a = some t → tk'[t]? = tk[t]?) : Acc 0 tk' sz a es := by
  cases h with
  | nil => exact .nil
  | own t e es hn ht => exact .own t e es hn ((hk t rfl).trans ht)
theorem Acc.appK {i : TI} {a : AV} {es ys : List (List AV)} {tg : Tk} {K : AV → St → Prop} (h : Acc 0 st.tk i.size a es) (hy : ys ≠ []) (hb : (es.length + ys.length) * i.bytes ≤ 140737488355328) (hm : es.length + ys.length ≤ maxLen)
    (hK : ∀ t e tk', tk'[t]? = some e → st.tk.length ≤ tk'.length → (tkt a = some t ∨ (tkt a = none ∧ t = st.tk.length)) → (∀ q, q < st.tk.length → q ≠ t → tk'[q]? = st.tk[q]?) → K (.sl (.own t e) i.size (es ++ ys)) ⟨st.heap, tk'⟩) : vcApp i a (.sl tg i.size ys) st K := by
  unfold vcApp srcA
  simp only [decide_true]
  cases h with
  | nil =>
    refine ⟨fun e => absurd e hy, fun _ => ⟨by simpa using hb, by simpa using hm, .inl ?_⟩⟩
    refine hK _ _ _ (by simp) (by simp) (.inr ⟨rfl, rfl⟩) (fun t ht _ => ?_)
    rw [List.getElem?_append_left (by omega)]
  | own t e es h1 h2 =>
    simp only [decide_true]
    have hlt := (List.getElem?_eq_some_iff.1 h2).1
    refine ⟨h2, hb, hm, hK _ _ _ (by rw [List.getElem?_set_self hlt]) (by simp) (.inl rfl) (fun t' _ ht' => ?_)⟩
    rw [List.getElem?_set_ne (Ne.symm ht')]
theorem Acc.appS {i : TI} {a : AV} {l : List UInt8} {s : ByteArray} {K : AV → St → Prop} (hi : i.size = 1) (hbt : i.bytes = 1) (h : Acc 0 st.tk 1 a (u8L l)) (hb : l.length + s.size ≤ 140737488355328)
    (hK0 : s.size = 0 → tkt a = none → K a st)
    (hK : ∀ t e tk', tk'[t]? = some e → st.tk.length ≤ tk'.length → (tkt a = some t ∨ (tkt a = none ∧ t = st.tk.length)) → (∀ q, q < st.tk.length → q ≠ t → tk'[q]? = st.tk[q]?) → K (.sl (.own t e) 1 (u8L (l ++ s.data.toList))) ⟨st.heap, tk'⟩) : vcApp i a (.s s) st K := by
  have hmx : maxLen = 9223372036854775807 := rfl
  have e1 : u8L (l ++ s.data.toList) = u8L l ++ u8L s.data.toList := by simp [u8L]
  have hsl := blen s
  have hul := u8L_len s.data.toList
  have hll := u8L_len l
  rw [e1] at hK
  unfold vcApp srcA
  rw [hi, hbt]
  simp only [decide_true]
  have hq : (s.data.toList.map fun b => [AV.u8 b]) = u8L s.data.toList := rfl
  rw [hq]
  generalize u8L s.data.toList = ys at *
  generalize u8L l = es at *
  cases h with
  | nil =>
    refine ⟨fun e => hK0 (by rw [e] at hul; simp at hul; omega) rfl, fun hy => ⟨by omega, by omega, .inl ?_⟩⟩
    refine hK _ _ _ (by simp) (by simp) (.inr ⟨rfl, rfl⟩) (fun t ht _ => ?_)
    rw [List.getElem?_append_left (by omega)]
  | own t e es h1 h2 =>
    have hlt := (List.getElem?_eq_some_iff.1 h2).1
    refine ⟨h2, by omega, by omega, hK _ _ _ (by rw [List.getElem?_set_self hlt]) (by simp) (.inl rfl) (fun t' _ ht' => ?_)⟩
    rw [List.getElem?_set_ne (Ne.symm ht')]
theorem Acc.tlt {tk : List Nat} {sz : Nat} {a : AV} {es : List (List AV)} (h : Acc 0 tk sz a es) {t : Nat} (ht : tkt a = some t) : t < tk.length := by
  cases h with
  | nil => cases ht
  | own t' e es hn hk => cases ht; exact (List.getElem?_eq_some_iff.1 hk).1
end
end Go.Proofs.YthnmbfiandpedaaGreatDoor
/- Texts that are written line by line, up to a limit: the program's quill, and its lines. No statement of its own. -/
set_option linter.unusedSimpArgs false
set_option linter.unusedVariables false
set_option maxRecDepth 100000
namespace Go.Proofs.YthnmbfiandpedaaGreatDoor
open Go.RowKit
def tBy (l : List UInt8) : ByteArray := ⟨l.toArray⟩
theorem tBy_l (l : List UInt8) : (tBy l).data.toList = l := rfl
theorem AccForm {n : Nat} {tk : List Nat} {sz : Nat} {a : AV} {es : List (List AV)} (h : Acc n tk sz a es) : a = .nilS ∨ ∃ t e, a = .sl (.own t e) sz es := by
  cases h with
  | nil => exact .inl rfl
  | own t e es hn ht => exact .inr ⟨_, _, rfl⟩
section
variable {st : St} {R : AV → St → Prop} {p : Nat} {a : AV} {Lb : List UInt8} {m : Nat}
theorem acc_nil {n : Nat} {tk : List Nat} (hA : Acc n tk 1 .nilS (u8L Lb)) : Lb = [] := by
  have hl := u8L_len Lb
  generalize hes : u8L Lb = es at hA hl
  cases hA
  exact List.eq_nil_of_length_eq_zero hl.symm
theorem qnew_a (m : Nat) (h : R (.ptr st.heap.length 0) ⟨st.heap ++ [[.nilS, .i m]], st.tk⟩) : ACalls Tryz.prog 16 [.i m] st R := by
  refine ACalls.of_vc T_ok mixed Tryz.func16 rfl Tryz.call16 ?_
  have e : (if (0 : Int) > (m : Int) then (0 : Int) else (m : Int)) = m := if_neg (by omega)
  show R (.ptr st.heap.length 0) ⟨st.heap ++ [[.nilS, .i (if (0 : Int) > (m : Int) then (0 : Int) else (m : Int))]], st.tk⟩
  rw [e]
  exact h
theorem qleft_a (hp : st.heap[p]? = some [a, .i m]) (hA : Acc 0 st.tk 1 a (u8L Lb)) (hz : Lb.length ≤ m) (hm : m ≤ 1099511627776) (h : R (.i ((m - Lb.length : Nat) : Int)) st) : ACalls Tryz.prog 117 [.ptr p 0] st R := by
  have hl := u8L_len Lb
  rcases AccForm hA with rfl | ⟨t, e, rfl⟩
  · have h0 := acc_nil hA
    subst h0
    refine ACalls.of_vc T_ok mixed Tryz.func117 rfl Tryz.call117 ?_
    refine .e (by kernel_rfl) ?_
    refine ⟨_, hp, ?_⟩
    refine ⟨_, hp, ?_⟩
    intro c hc
    rw [IntWalk.i64_in _ (by omega)] at hc
    obtain rfl : c = ((m - 0 : Nat) : Int) := by omega
    exact h
  · refine ACalls.of_vc T_ok mixed Tryz.func117 rfl Tryz.call117 ?_
    refine .e (by kernel_rfl) ?_
    refine ⟨_, hp, ?_⟩
    refine ⟨_, hp, ?_⟩
    intro c hc
    rw [IntWalk.i64_in _ (by omega)] at hc
    obtain rfl : c = ((m - Lb.length : Nat) : Int) := by omega
    exact h
theorem qtext_a (hp : st.heap[p]? = some [a, .i m]) (hA : Acc 0 st.tk 1 a (u8L Lb)) (h : R (.s (tBy Lb)) st) : ACalls Tryz.prog 20 [.ptr p 0] st R := by
  rcases AccForm hA with rfl | ⟨t, e, rfl⟩
  · have h0 := acc_nil hA
    subst h0
    refine ACalls.of_vc T_ok mixed Tryz.func20 rfl Tryz.call20 ?_
    refine ⟨_, hp, ?_⟩
    exact h
  · refine ACalls.of_vc T_ok mixed Tryz.func20 rfl Tryz.call20 ?_
    refine ⟨_, hp, ?_⟩
    refine ⟨tBy Lb, ?_, ?_⟩
    · rw [tBy_l]; rfl
    · exact h
attribute [local irreducible] vcApp
/-- a text, and a line's end -/
def crlfS : ByteArray := ⟨#[13, 10]⟩
def catL (l : List ByteArray) : List UInt8 := l.flatMap fun x => x.data.toList
theorem catL_take {l : List ByteArray} {k : Nat} (h : k < l.length) : catL (l.take (k + 1)) = catL (l.take k) ++ l[k].data.toList := by
  unfold catL
  rw [List.take_succ_eq_append_getElem h, List.flatMap_append]
  simp
theorem catL_le (l : List ByteArray) (k : Nat) : (catL (l.take k)).length ≤ (catL l).length := by
  have h : catL l = catL (l.take k) ++ catL (l.drop k) := by
    unfold catL
    rw [← List.flatMap_append, List.take_append_drop]
  rw [h, List.length_append]
  omega
theorem qput_a {tg : Tk} (l : List ByteArray) (hl : l.length ≤ 1000000) (hp : st.heap[p]? = some [a, .i m]) (hA : Acc 0 st.tk 1 a (u8L Lb)) (hz : Lb.length ≤ m) (hm : m ≤ 1099511627776)
    (h : Lb.length + (catL l).length ≤ m → ∀ a' st', st'.heap[p]? = some [a', .i m] → Acc 0 st'.tk 1 a' (u8L (Lb ++ catL l)) → Mv 0 (· = p) st st' → R (.i 0) st')
    (h2 : m < Lb.length + (catL l).length → R (.i 10) st) : ACalls Tryz.prog 63 [.ptr p 0, .sl tg 1 (strL l)] st R := by
  have el := strL_len l
  refine ACalls.of_vc T_ok mixed Tryz.func63 rfl Tryz.call63 ?_
  refine .s (qleft_a hp hA hz hm ?_)
  refine vc_loop [5, 16] (fun g vals st' => ∃ k : Nat, k + g = l.length ∧ vals = [.i ((m - Lb.length - (catL (l.take k)).length : Nat) : Int), .i k] ∧ st = st' ∧ Lb.length + (catL (l.take k)).length ≤ m) l.length rfl ⟨0, by omega, rfl, rfl, by simpa [catL] using hz⟩ ?_
  rintro g vals st1 ⟨k, hk, rfl, rfl, hzk⟩
  have hcl := catL_le l k
  refine cnd_split (fun hd => ?_) (fun hd => ?_)
  · have hd := of_decide_eq_true hd
    have k1 : k < l.length := by omega
    have hct := congrArg List.length (catL_take k1)
    rw [List.length_append, blen] at hct
    have hc2 := catL_le l (k + 1)
    refine ⟨k, _, rfl, strL_at k1, ?_⟩
    refine cnd_split (fun h3 => ?_) (fun h3 => ?_)
    · have h3 := of_decide_eq_true h3
      exact h2 (by omega)
    · have h3 := of_decide_eq_false h3
      intro c hc
      rw [IntWalk.i64_in _ (by omega)] at hc
      obtain rfl : c = ((m - Lb.length - (catL (l.take (k + 1))).length : Nat) : Int) := by omega
      intro c hc
      rw [IntWalk.i64_in _ (by omega)] at hc
      obtain rfl : c = ((k + 1 : Nat) : Int) := by omega
      exact ⟨g - 1, by omega, k + 1, by omega, rfl, rfl, by omega⟩
  · have hd := of_decide_eq_false hd
    obtain rfl : k = l.length := by omega
    rw [List.take_length] at hzk
    clear hcl hk
    refine vc_loop [31] (fun g vals st' => ∃ (k : Nat) (a2 : AV), k + g = l.length ∧ vals = [.i k] ∧ st'.heap[p]? = some [a2, .i m] ∧ Acc 0 st'.tk 1 a2 (u8L (Lb ++ catL (l.take k))) ∧ Mv 0 (· = p) st st') l.length rfl ⟨0, a, by omega, rfl, hp, by rw [List.take_zero]; show Acc _ _ _ _ (u8L (Lb ++ [])); rw [List.append_nil]; exact hA, .refl (Nat.zero_le _)⟩ ?_
    rintro g vals st2 ⟨k, a2, hk, rfl, hp2, hA2, m2⟩
    have hcl := catL_le l k
    rcases AccForm hA2 with rfl | ⟨t, e, rfl⟩
    · skip
      refine cnd_split (fun hd => ?_) (fun hd => ?_)
      · have hd := of_decide_eq_true hd
        have k1 : k < l.length := by omega
        have hct := catL_take k1
        have hlb := blen l[k]
        have hc2 := catL_le l (k + 1)
        rw [hct, List.length_append] at hc2
        refine ⟨k, _, rfl, strL_at k1, ?_⟩
        refine ⟨_, hp2, ?_⟩
        refine Acc.appS rfl rfl hA2 (by rw [List.length_append]; omega) (fun hz ht => ?_) (fun t9 e9 tk9 q0 q1 q2 q3 => ?_)
        · refine ⟨_, hp2, ?_⟩
          intro c hc
          rw [IntWalk.i64_in _ (by omega)] at hc
          obtain rfl : c = ((k + 1 : Nat) : Int) := by omega
          refine ⟨g - 1, by omega, k + 1, _, by omega, rfl, st_eq hp2, ?_, m2.set (fun _ => rfl) _⟩
          have h0 : l[k].data.toList = [] := List.eq_nil_of_length_eq_zero (by omega)
          rw [hct, h0, List.append_nil]
          exact hA2
        · refine ⟨_, hp2, ?_⟩
          intro c hc
          rw [IntWalk.i64_in _ (by omega)] at hc
          obtain rfl : c = ((k + 1 : Nat) : Int) := by omega
          refine ⟨g - 1, by omega, k + 1, _, by omega, rfl, st_eq hp2, ?_, (m2.tks (Nat.zero_le _) (fun t ht => by omega)).set (fun _ => rfl) _⟩
          rw [hct, ← List.append_assoc]
          exact .own _ _ _ (Nat.zero_le _) q0
      · have hd := of_decide_eq_false hd
        obtain rfl : k = l.length := by omega
        simp only [List.take_length] at hA2 hp2
        exact h (by omega) _ _ hp2 hA2 m2
    · skip
      refine cnd_split (fun hd => ?_) (fun hd => ?_)
      · have hd := of_decide_eq_true hd
        have k1 : k < l.length := by omega
        have hct := catL_take k1
        have hlb := blen l[k]
        have hc2 := catL_le l (k + 1)
        rw [hct, List.length_append] at hc2
        refine ⟨k, _, rfl, strL_at k1, ?_⟩
        refine ⟨_, hp2, ?_⟩
        refine Acc.appS rfl rfl hA2 (by rw [List.length_append]; omega) (fun hz ht => ?_) (fun t9 e9 tk9 q0 q1 q2 q3 => ?_)
        · refine ⟨_, hp2, ?_⟩
          intro c hc
          rw [IntWalk.i64_in _ (by omega)] at hc
          obtain rfl : c = ((k + 1 : Nat) : Int) := by omega
          refine ⟨g - 1, by omega, k + 1, _, by omega, rfl, st_eq hp2, ?_, m2.set (fun _ => rfl) _⟩
          have h0 : l[k].data.toList = [] := List.eq_nil_of_length_eq_zero (by omega)
          rw [hct, h0, List.append_nil]
          exact hA2
        · refine ⟨_, hp2, ?_⟩
          intro c hc
          rw [IntWalk.i64_in _ (by omega)] at hc
          obtain rfl : c = ((k + 1 : Nat) : Int) := by omega
          refine ⟨g - 1, by omega, k + 1, _, by omega, rfl, st_eq hp2, ?_, (m2.tks (Nat.zero_le _) (fun t ht => by omega)).set (fun _ => rfl) _⟩
          rw [hct, ← List.append_assoc]
          exact .own _ _ _ (Nat.zero_le _) q0
      · have hd := of_decide_eq_false hd
        obtain rfl : k = l.length := by omega
        simp only [List.take_length] at hA2 hp2
        exact h (by omega) _ _ hp2 hA2 m2
theorem tappK {i : TI} {tg : Tk} {ys : List (List AV)} {st : St} {K : AV → St → Prop} (hz : i.zero.all Value.oneCell' = true) (hb : ys.length * i.bytes ≤ 140737488355328) (hm : ys.length ≤ maxLen) (hne : ys ≠ []) (h1 : ∀ e tk', tk'[st.tk.length]? = some e → st.tk.length ≤ tk'.length → (∀ q, q < st.tk.length → tk'[q]? = st.tk[q]?) → K (.sl (.own st.tk.length e) i.size ys) ⟨st.heap, tk'⟩) : vcApp i (.sl .tight i.size []) (.sl tg i.size ys) st K := by
  unfold vcApp srcA
  simp only [decide_true, hz, Bool.and_self]
  refine ⟨fun e => absurd e hne, fun hne => ⟨by simpa using hb, by simpa using hm, .inl ?_⟩⟩
  have := h1 ([] ++ ys).length (st.tk ++ [([] ++ ys).length]) (by simp) (by simp) (fun q hq => List.getElem?_append_left hq)
  simpa using this
/-- a line -/
theorem qline_a (s : ByteArray) (hs : s.size ≤ 1000000000) (hp : st.heap[p]? = some [a, .i m]) (hA : Acc 0 st.tk 1 a (u8L Lb)) (hz : Lb.length ≤ m) (hm : m ≤ 1099511627776)
    (h : Lb.length + (s.size + 2) ≤ m → ∀ a' st', st'.heap[p]? = some [a', .i m] → Acc 0 st'.tk 1 a' (u8L (Lb ++ (s.data.toList ++ [13, 10]))) → Mv 0 (· = p) st st' → R (.i 0) st')
    (h2 : m < Lb.length + (s.size + 2) → ∀ st', st'.heap = st.heap → Acc 0 st'.tk 1 a (u8L Lb) → R (.i 10) st') : ACalls Tryz.prog 37 [.ptr p 0, .sl .tight 1 [[.s s]]] st R := by
  have hc : catL [s, crlfS] = s.data.toList ++ [13, 10] := by simp [catL, crlfS]
  have hcl : (catL [s, crlfS]).length = s.size + 2 := by rw [hc, List.length_append, blen]; rfl
  refine ACalls.of_vc T_ok mixed Tryz.func37 rfl Tryz.call37 ?_
  refine tappK (i := ti9) rfl (by show 1 * 16 ≤ _; decide) (by show 1 ≤ _; decide) (List.cons_ne_nil _ _) (fun e1 tk1 q0 q1 q2 => ?_)
  have hA1 : Acc 0 tk1 1 (.sl (.own st.tk.length e1) 1 [[.s s]]) (strL [s]) := .own _ _ _ (Nat.zero_le _) q0
  refine Acc.appK (i := ti9) hA1 (List.cons_ne_nil _ _) ?_ ?_ (fun t2 e2 tk2 r0 r1 r2 r3 => ?_)
  · show 2 * 16 ≤ _; decide
  · show 2 ≤ _; decide
  have ht2 : t2 = st.tk.length := by
    rcases r2 with r2 | ⟨r2, _⟩
    · cases r2; rfl
    · cases r2
  have hA2 : Acc 0 tk2 1 a (u8L Lb) := hA.keep fun t ht => by
    have := hA.tlt ht
    exact (r3 t (by show t < tk1.length; omega) (by omega)).trans (q2 t this)
  refine .s (qput_a (Lb := Lb) (m := m) [s, crlfS] (by simp) hp hA2 hz hm (fun hf a' st' k1 k2 k3 => ?_) (fun hf => ?_))
  · rw [hc] at k2
    exact h (by omega) a' st' k1 k2 ⟨k3.len, k3.keep, Nat.zero_le _, fun t ht => absurd ht (Nat.not_lt_zero _)⟩
  · exact h2 (by omega) _ rfl hA2
end
end Go.Proofs.YthnmbfiandpedaaGreatDoor
