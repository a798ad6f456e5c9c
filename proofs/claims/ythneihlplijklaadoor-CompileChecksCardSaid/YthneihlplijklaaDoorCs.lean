/- Rules made instructions: the document's Compile; a row written in place, some of whose cells are nil where an empty row is said. No statement of its own. -/
import Derived.Test.YthneihlplijklaaDoorCr
set_option linter.unusedSimpArgs false
set_option linter.unusedVariables false
set_option maxRecDepth 100000
namespace Go.Proofs.YthneihlplijklaaDoor
open Go.RowKit
def resD (st : St) (a' a : AV) : Prop := resC st a' a ∨ ∃ p lo n cap sz cs es es', a' = .hs p lo n cap sz ∧ st.heap[p]? = some cs ∧ Seen cs lo n sz es ∧ es.length = es'.length ∧ (∀ (k : Nat) e e', es[k]? = some e → es'[k]? = some e' → CellsW e e') ∧ a = .sl .no sz es'
def resDs (st : St) : List AV → List AV → Prop
  | [], [] => True
  | a' :: r', a :: r => resD st a' a ∧ resDs st r' r
  | _, _ => False
def resY (st : St) (r' r : AV) : Prop := resD st r' r ∨ ∃ us vs, r' = .tup us ∧ r = .tup vs ∧ resDs st us vs
section
variable {base : Nat} {J : Nat → Nat → Prop} {w0 : World} {st : St} {μ : Nat → Nat} {σ : Nat → Tkt} {w w' : World} {P : Program}
theorem cellW.flat {a a' : AV} (h : cellW a a') : a'.flat = true := by
  rcases h with ⟨_, h⟩ | ⟨_, sz, rfl⟩
  · exact h
  · rfl
theorem resD.at (hok : Ok base J w0 st μ σ w) {a' a : AV} {v : Value} (h : At base J st μ σ w a' v) (hc : resD st a' a) : At base J ⟨[], []⟩ (fun _ => 0) (fun _ => ⟨0, 0, 0⟩) w a v := by
  have hi : ∀ g x, Im base J st μ σ g x → g < w.heap.size → Im base J ⟨[], []⟩ (fun _ => 0) (fun _ => ⟨0, 0, 0⟩) g x := fun g x hi _ => ⟨hi.1, fun p hp => by simp at hp, fun t e ht => by simp at ht⟩
  rcases hc with hc | ⟨p, lo, n, cap, sz, cs, es, es', rfl, hcs, hseen, hlen, hel, rfl⟩
  · exact resC.at hok h hc
  · cases h with
    | hs _ _ _ _ _ hp hnc hm =>
      obtain rfl := hseen.len
      obtain ⟨us, hrow, hcell⟩ := hseen.row hok hcs
      have pick : ∀ (k : Nat) e', es'[k]? = some e' → ∃ e, es[k]? = some e ∧ CellsW e e' := fun k e' he' => by
        have hk := (List.getElem?_eq_some_iff.1 he').1
        have he := List.getElem?_eq_getElem (l := es) (i := k) (by omega)
        exact ⟨_, he, hel k _ _ he he'⟩
      have hrow' : Row base J ⟨[], []⟩ (fun _ => 0) (fun _ => ⟨0, 0, 0⟩) w sz es' us := by
        refine ⟨by rw [hrow.len, hlen], fun k e' he' => ?_, fun k e' j a he' ha => ?_⟩
        · obtain ⟨e, he, hw⟩ := pick k e' he'
          refine ⟨hw.length.symm.trans (hrow.el k e he).1, List.all_eq_true.2 fun x hx => ?_⟩
          obtain ⟨j, hj⟩ := List.mem_iff_getElem?.1 hx
          obtain ⟨b, _, hb⟩ := hw.get j x hj
          exact hb.flat
        · obtain ⟨e, he, hw⟩ := pick k e' he'
          obtain ⟨b, hb, hbw⟩ := hw.get j a ha
          obtain ⟨u, h1, h2⟩ := hrow.at' k e j b he hb
          refine ⟨u, h1, ?_⟩
          rcases hbw with ⟨rfl, hf⟩ | ⟨rfl, sz, rfl⟩
          · exact h2.strip.dat hi (AV.dat_of_flat hf)
          · rw [h2.of_lit]
            exact .sl0 sz none 0 (Nat.zero_le _)
      have hb := (hok.mu_lt hp).1
      rw [hlen] at hnc
      have := hrow'.sl .no (μ p) lo cap hnc hm (fun j u hu => ⟨⟨fun hlt => by omega, fun q hq => by simp at hq, fun t e ht => by simp at ht⟩, hcell j u hu⟩) (fun h => by cases h) (fun i e h => by cases h)
      rw [← hlen] at this
      exact this
theorem resDs.at (hok : Ok base J w0 st μ σ w) : ∀ {us vs : List AV}, resDs st us vs → us.length = vs.length ∧ ∀ (j : Nat) a v, vs[j]? = some a → (∀ b, us[j]? = some b → At base J st μ σ w b v) → At base J ⟨[], []⟩ (fun _ => 0) (fun _ => ⟨0, 0, 0⟩) w a v
  | [], [], _ => ⟨rfl, fun j a v h => by simp at h⟩
  | b :: us, a :: vs, h => by
    obtain ⟨h1, h2⟩ := h
    obtain ⟨i1, i2⟩ := resDs.at hok h2
    refine ⟨by simp [i1], fun j x v hx hu => ?_⟩
    cases j with
    | zero =>
      simp at hx
      subst hx
      exact resD.at hok (hu b rfl) h1
    | succ j => exact i2 j x v (by simpa using hx) (fun b hb => hu b (by simpa using hb))
  | [], _ :: _, h => h.elim
  | _ :: _, [], h => h.elim
theorem APure.ofY {f : FuncId} {args : List AV} {r0 : AV} (hd : r0.datR = true) (h : ACalls P f args ⟨[], []⟩ fun r' st' => resY st' r' r0) : APure P f args r0 [] := by
  refine ⟨AV.res_of_datR hd, h.1, fun J w vs hw hl ha => ?_⟩
  refine (h.2 w.heap.size J w (fun _ => 0) (fun _ => ⟨0, 0, 0⟩) w vs (Ok.none J _ _ w hw) hl ha).mono ?_
  rintro e w' ⟨v, r', st', μ', σ', rfl, hR, hok, hx, hat⟩
  refine ⟨v, fun _ => ⟨0, 0, 0⟩, rfl, ⟨hok.bs, hok.below, fun p cs h => by simp at h, fun p q h => by simp at h, fun t e h => by simp at h⟩, ?_⟩
  rcases hR with hR | ⟨us, vs', rfl, rfl, hcs⟩
  · exact resD.at hok hat hR
  · obtain ⟨i1, i2⟩ := resDs.at hok hcs
    cases hat with
    | tup cs zs e1 hr =>
      refine .tup _ zs (by omega) fun j a u hja hju => i2 j a u hja (fun b hb => hr j b u hb hju)
end
/-- an instruction's cells, where there may be nil for no parts -/
inductive OpE : List AV → Opn → Prop
  | a (o : Opn) : OpE o.cs o
  | b (k : Int) (nm tx : ByteArray) (n : Int) : OpE [.i k, .s nm, .s tx, .nilS, .i n] ⟨k, nm, tx, [], n⟩
def RelE (es : List (List AV)) (l : List Opn) : Prop := es.length = l.length ∧ ∀ (k : Nat) e o, es[k]? = some e → l[k]? = some o → OpE e o
theorem OpE.len {e : List AV} {o : Opn} (h : OpE e o) : e.length = 5 := by cases h <;> rfl
theorem OpE.cw {e : List AV} {o : Opn} (h : OpE e o) : CellsW e o.cs := by
  cases h with
  | a o => exact ⟨.inl ⟨rfl, rfl⟩, .inl ⟨rfl, rfl⟩, .inl ⟨rfl, rfl⟩, .inl ⟨rfl, rfl⟩, .inl ⟨rfl, rfl⟩, trivial⟩
  | b k nm tx n => exact ⟨.inl ⟨rfl, rfl⟩, .inl ⟨rfl, rfl⟩, .inl ⟨rfl, rfl⟩, .inr ⟨rfl, 2, rfl⟩, .inl ⟨rfl, rfl⟩, trivial⟩
theorem RelE.snoc {es : List (List AV)} {l : List Opn} {e : List AV} {o : Opn} (h : RelE es l) (k : OpE e o) : RelE (es ++ [e]) (l ++ [o]) := by
  refine ⟨by simp [h.1], fun i x y hx hy => ?_⟩
  by_cases hi : i < es.length
  · rw [List.getElem?_append_left hi] at hx
    rw [List.getElem?_append_left (by rw [← h.1]; exact hi)] at hy
    exact h.2 i x y hx hy
  · rw [List.getElem?_append_right (by omega)] at hx
    rw [List.getElem?_append_right (by rw [← h.1]; omega), ← h.1] at hy
    have : i - es.length = 0 := Decidable.byContradiction fun hc => by rw [List.getElem?_eq_none (by simp; omega)] at hx; cases hx
    rw [this] at hx hy
    cases hx; cases hy
    exact k
theorem RelE.set {es : List (List AV)} {l : List Opn} {i : Nat} {e : List AV} {o : Opn} (h : RelE es l) (k : OpE e o) : RelE (es.set i e) (l.set i o) := by
  refine ⟨by simp [h.1], fun j x y hx hy => ?_⟩
  by_cases hj : i = j
  · subst hj
    have hl := (List.getElem?_eq_some_iff.1 hx).1
    rw [List.length_set] at hl
    rw [List.getElem?_set_self hl] at hx
    rw [List.getElem?_set_self (by rw [← h.1]; exact hl)] at hy
    cases hx; cases hy
    exact k
  · rw [List.getElem?_set_ne hj] at hx hy
    exact h.2 j x y hx hy
theorem RelE.resD {st : St} {a : AV} {r : Option Nat} {es : List (List AV)} {l : List Opn} (h : RelE es l) (hr : HR st 5 a r es) : resD st a (.sl .no 5 (opL l)) := by
  have hl := opL_len l
  cases hr with
  | nil =>
    have : l = [] := List.eq_nil_of_length_eq_zero h.1.symm
    subst this
    exact .inl (.inr (.inl ⟨rfl, 5, rfl⟩))
  | tight =>
    have : l = [] := List.eq_nil_of_length_eq_zero h.1.symm
    subst this
    exact .inl (.inl ⟨rfl, rfl⟩)
  | hs p cap es hw =>
    obtain ⟨⟨zs, h1, h2⟩, h3, h4⟩ := hw
    refine .inr ⟨p, 0, es.length, cap, 5, _, es, opL l, rfl, h1, rows_seen h3, by rw [hl]; exact h.1, fun k e e' he he' => ?_, rfl⟩
    have hk := (List.getElem?_eq_some_iff.1 he').1
    rw [opL_len] at hk
    rw [opL_at hk] at he'
    cases he'
    exact (h.2 k e _ he (List.getElem?_eq_getElem hk)).cw
abbrev zR : List AV := [.i 0, .i 0, .s ⟨#[]⟩, .s ⟨#[]⟩, .i 0, .s ⟨#[]⟩, .s ⟨#[]⟩, .nilS]
/-- what was written so far: with a run open, or without -/
def outW (done : List Opn) (run : Option (Rl × List Rl)) : List Opn :=
  match run with
  | none => done
  | some (last, rs) => done ++ guardO last.g rs.length :: rs.map ownO
theorem goW_close {done : List Opn} {run : Option (Rl × List Rl)} {r : Rl} {rest : List Rl} (h : ∀ last rs, run = some (last, rs) → ¬ (r.g = last.g ∧ touchW last r.ga = false)) : goW done run (r :: rest) = goW (outW done run) none (r :: rest) := by
  cases run with
  | none => rfl
  | some p =>
    obtain ⟨last, rs⟩ := p
    rw [goW_shut (h last rs rfl)]
    rfl
theorem goW_end (done : List Opn) (run : Option (Rl × List Rl)) : goW done run [] = outW done run := by
  cases run with
  | none => exact goW_end_none done
  | some p => exact goW_end_some done p.1 p.2
theorem OpE.set4 {e : List AV} {o : Opn} (h : OpE e o) : e[4]? = some (.i o.n) ∧ ∀ n : Int, OpE (e.set 4 (.i n)) ⟨o.k, o.nm, o.tx, o.ps, n⟩ := by
  cases h with
  | a o => exact ⟨rfl, fun n => .a ⟨o.k, o.nm, o.tx, o.ps, n⟩⟩
  | b k nm tx n => exact ⟨rfl, fun n => .b k nm tx n⟩
theorem outW_on {done : List Opn} {last r : Rl} {rs : List Rl} (h : r.g = last.g) : (outW done (some (last, rs))).set done.length (guardO r.g (rs.length + 1)) ++ [ownO r] = outW done (some (r, rs ++ [r])) := by
  unfold outW
  simp
section
attribute [local irreducible] vcApp
variable {st : St} {R : AV → St → Prop}
end
end Go.Proofs.YthneihlplijklaaDoor
