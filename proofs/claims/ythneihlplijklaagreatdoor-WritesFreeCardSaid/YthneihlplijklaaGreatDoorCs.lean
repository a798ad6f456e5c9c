/- Rules made instructions: the document's Compile; a row written in place, some of whose cells are nil where an empty row is said. No statement of its own. -/
import Derived.Test.YthneihlplijklaaGreatDoorCr
set_option linter.unusedSimpArgs false
set_option linter.unusedVariables false
set_option maxRecDepth 100000
namespace Go.Proofs.YthneihlplijklaaGreatDoor
open Go.RowKit
def resD (st : St) (a' a : AV) : Prop := resC st a' a ∨ ∃ p lo n cap sz cs es es', a' = .hs p lo n cap sz ∧ st.heap[p]? = some cs ∧ Seen cs lo n sz es ∧ es.length = es'.length ∧ (∀ (k : Nat) e e', es[k]? = some e → es'[k]? = some e' → CellsW e e') ∧ a = .sl .no sz es'
def resDs (st : St) : List AV → List AV → Prop
  | [], [] => True
  | a' :: r', a :: r => resD st a' a ∧ resDs st r' r
  | _, _ => False
def resY (st : St) (r' r : AV) : Prop := resD st r' r ∨ ∃ us vs, r' = .tup us ∧ r = .tup vs ∧ resDs st us vs
section
variable {base : Nat} {J : Nat → Nat → Prop} {w0 : World} {st : St} {μ : Nat → Nat} {σ : Nat → Tkt} {w w' : World} {P : Program}
theorem cellW.flat {a a' : AV} (h : cellW a a') : a'.flat = true := by
  rcases h with ⟨_, h⟩ | ⟨_, sz, rfl⟩
  · exact h
  · rfl
theorem resD.at (hok : Ok base J w0 st μ σ w) {a' a : AV} {v : Value} (h : At base J st μ σ w a' v) (hc : resD st a' a) : At base J ⟨[], []⟩ (fun _ => 0) (fun _ => ⟨0, 0, 0⟩) w a v := by
  have hi : ∀ g x, Im base J st μ σ g x → g < w.heap.size → Im base J ⟨[], []⟩ (fun _ => 0) (fun _ => ⟨0, 0, 0⟩) g x := fun g x hi _ => ⟨hi.1, fun p hp => by simp at hp, fun t e ht => by simp at ht⟩
  rcases hc with hc | ⟨p, lo, n, cap, sz, cs, es, es', rfl, hcs, hseen, hlen, hel, rfl⟩
  · exact resC.at hok h hc
  · cases h with
    | hs _ _ _ _ _ hp hnc hm =>
      obtain rfl := hseen.len
      obtain ⟨us, hrow, hcell⟩ := hseen.row hok hcs
      have pick : ∀ (k : Nat) e', es'[k]? = some e' → ∃ e, es[k]? = some e ∧ CellsW e e' := fun k e' he' => by
        have hk := (List.getElem?_eq_some_iff.1 he').1
        have he := List.getElem?_eq_getElem (l := es) (i := k) (by omega)
        exact ⟨_, he, hel k _ _ he he'⟩
      have hrow' : Row base J ⟨[], []⟩ (fun _ => 0) (fun _ => ⟨0, 0, 0⟩) w sz es' us := by
        refine ⟨by rw [hrow.len, hlen], fun k e' he' => ?_, fun k e' j a he' ha => ?_⟩
        · obtain ⟨e, he, hw⟩ := pick k e' he'
          refine ⟨hw.length.symm.trans (hrow.el k e he).1, List.all_eq_true.2 fun x hx => ?_⟩
          obtain ⟨j, hj⟩ := List.mem_iff_getElem?.1 hx
          obtain ⟨b, _, hb⟩ := hw.get j x hj
          exact hb.flat
        · obtain ⟨e, he, hw⟩ := pick k e' he'
          obtain ⟨b, hb, hbw⟩ := hw.get j a ha
          obtain ⟨u, h1, h2⟩ := hrow.at' k e j b he hb
          refine ⟨u, h1, ?_⟩
          rcases hbw with ⟨rfl, hf⟩ | ⟨rfl, sz, rfl⟩
          · exact h2.strip.dat hi (AV.dat_of_flat hf)
          · rw [h2.of_lit]
            exact .sl0 sz none 0 (Nat.zero_le _)
      have hb := (hok.mu_lt hp).1
      rw [hlen] at hnc
      have := hrow'.sl .no (μ p) lo cap hnc hm (fun j u hu => ⟨⟨fun hlt => by omega, fun q hq => by simp at hq, fun t e ht => by simp at ht⟩, hcell j u hu⟩) (fun h => by cases h) (fun i e h => by cases h)
      rw [← hlen] at this
      exact this
theorem resDs.at (hok : Ok base J w0 st μ σ w) : ∀ {us vs : List AV}, resDs st us vs → us.length = vs.length ∧ ∀ (j : Nat) a v, vs[j]? = some a → (∀ b, us[j]? = some b → At base J st μ σ w b v) → At base J ⟨[], []⟩ (fun _ => 0) (fun _ => ⟨0, 0, 0⟩) w a v
  | [], [], _ => ⟨rfl, fun j a v h => by simp at h⟩
  | b :: us, a :: vs, h => by
    obtain ⟨h1, h2⟩ := h
    obtain ⟨i1, i2⟩ := resDs.at hok h2
    refine ⟨by simp [i1], fun j x v hx hu => ?_⟩
    cases j with
    | zero =>
      simp at hx
      subst hx
      exact resD.at hok (hu b rfl) h1
    | succ j => exact i2 j x v (by simpa using hx) (fun b hb => hu b (by simpa using hb))
  | [], _ :: _, h => h.elim
  | _ :: _, [], h => h.elim
theorem APure.ofY {f : FuncId} {args : List AV} {r0 : AV} (hd : r0.datR = true) (h : ACalls P f args ⟨[], []⟩ fun r' st' => resY st' r' r0) : APure P f args r0 [] := by
  refine ⟨AV.res_of_datR hd, h.1, fun J w vs hw hl ha => ?_⟩
  refine (h.2 w.heap.size J w (fun _ => 0) (fun _ => ⟨0, 0, 0⟩) w vs (Ok.none J _ _ w hw) hl ha).mono ?_
  rintro e w' ⟨v, r', st', μ', σ', rfl, hR, hok, hx, hat⟩
  refine ⟨v, fun _ => ⟨0, 0, 0⟩, rfl, ⟨hok.bs, hok.below, fun p cs h => by simp at h, fun p q h => by simp at h, fun t e h => by simp at h⟩, ?_⟩
  rcases hR with hR | ⟨us, vs', rfl, rfl, hcs⟩
  · exact resD.at hok hat hR
  · obtain ⟨i1, i2⟩ := resDs.at hok hcs
    cases hat with
    | tup cs zs e1 hr =>
      refine .tup _ zs (by omega) fun j a u hja hju => i2 j a u hja (fun b hb => hr j b u hb hju)
end
/-- an instruction's cells, where there may be nil for no parts -/
inductive OpE : List AV → Opn → Prop
  | a (o : Opn) : OpE o.cs o
  | b (k : Int) (nm tx : ByteArray) (n : Int) : OpE [.i k, .s nm, .s tx, .nilS, .i n] ⟨k, nm, tx, [], n⟩
def RelE (es : List (List AV)) (l : List Opn) : Prop := es.length = l.length ∧ ∀ (k : Nat) e o, es[k]? = some e → l[k]? = some o → OpE e o
theorem OpE.len {e : List AV} {o : Opn} (h : OpE e o) : e.length = 5 := by cases h <;> rfl
theorem OpE.cw {e : List AV} {o : Opn} (h : OpE e o) : CellsW e o.cs := by
  cases h with
  | a o => exact ⟨.inl ⟨rfl, rfl⟩, .inl ⟨rfl, rfl⟩, .inl ⟨rfl, rfl⟩, .inl ⟨rfl, rfl⟩, .inl ⟨rfl, rfl⟩, trivial⟩
  | b k nm tx n => exact ⟨.inl ⟨rfl, rfl⟩, .inl ⟨rfl, rfl⟩, .inl ⟨rfl, rfl⟩, .inr ⟨rfl, 2, rfl⟩, .inl ⟨rfl, rfl⟩, trivial⟩
theorem RelE.snoc {es : List (List AV)} {l : List Opn} {e : List AV} {o : Opn} (h : RelE es l) (k : OpE e o) : RelE (es ++ [e]) (l ++ [o]) := by
  refine ⟨by simp [h.1], fun i x y hx hy => ?_⟩
  by_cases hi : i < es.length
  · rw [List.getElem?_append_left hi] at hx
    rw [List.getElem?_append_left (by rw [← h.1]; exact hi)] at hy
    exact h.2 i x y hx hy
  · rw [List.getElem?_append_right (by omega)] at hx
    rw [List.getElem?_append_right (by rw [← h.1]; omega), ← h.1] at hy
    have : i - es.length = 0 := Decidable.byContradiction fun hc => by rw [List.getElem?_eq_none (by simp; omega)] at hx; cases hx
    rw [this] at hx hy
    cases hx; cases hy
    exact k
theorem RelE.set {es : List (List AV)} {l : List Opn} {i : Nat} {e : List AV} {o : Opn} (h : RelE es l) (k : OpE e o) : RelE (es.set i e) (l.set i o) := by
  refine ⟨by simp [h.1], fun j x y hx hy => ?_⟩
  by_cases hj : i = j
  · subst hj
    have hl := (List.getElem?_eq_some_iff.1 hx).1
    rw [List.length_set] at hl
    rw [List.getElem?_set_self hl] at hx
    rw [List.getElem?_set_self (by rw [← h.1]; exact hl)] at hy
    cases hx; cases hy
    exact k
  · rw [List.getElem?_set_ne hj] at hx hy
    exact h.2 j x y hx hy
theorem RelE.resD {st : St} {a : AV} {r : Option Nat} {es : List (List AV)} {l : List Opn} (h : RelE es l) (hr : HR st 5 a r es) : resD st a (.sl .no 5 (opL l)) := by
  have hl := opL_len l
  cases hr with
  | nil =>
    have : l = [] := List.eq_nil_of_length_eq_zero h.1.symm
    subst this
    exact .inl (.inr (.inl ⟨rfl, 5, rfl⟩))
  | tight =>
    have : l = [] := List.eq_nil_of_length_eq_zero h.1.symm
    subst this
    exact .inl (.inl ⟨rfl, rfl⟩)
  | hs p cap es hw =>
    obtain ⟨⟨zs, h1, h2⟩, h3, h4⟩ := hw
    refine .inr ⟨p, 0, es.length, cap, 5, _, es, opL l, rfl, h1, rows_seen h3, by rw [hl]; exact h.1, fun k e e' he he' => ?_, rfl⟩
    have hk := (List.getElem?_eq_some_iff.1 he').1
    rw [opL_len] at hk
    rw [opL_at hk] at he'
    cases he'
    exact (h.2 k e _ he (List.getElem?_eq_getElem hk)).cw
def Rl.cp (r : Rl) (pc : AV) : List AV := [.i r.sd, .i r.gk, .s r.ga, .s r.gb, .i r.ac, .s r.nm, .s r.un, pc]
abbrev zR : List AV := [.i 0, .i 0, .s ⟨#[]⟩, .s ⟨#[]⟩, .i 0, .s ⟨#[]⟩, .s ⟨#[]⟩, .nilS]
/-- what was written so far: with a run open, or without -/
def outW (done : List Opn) (run : Option (Rl × List Rl)) : List Opn :=
  match run with
  | none => done
  | some (last, rs) => done ++ guardO last.g rs.length :: rs.map ownO
theorem goW_close {done : List Opn} {run : Option (Rl × List Rl)} {r : Rl} {rest : List Rl} (h : ∀ last rs, run = some (last, rs) → ¬ (r.g = last.g ∧ touchW last r.ga = false)) : goW done run (r :: rest) = goW (outW done run) none (r :: rest) := by
  cases run with
  | none => rfl
  | some p =>
    obtain ⟨last, rs⟩ := p
    rw [goW_shut (h last rs rfl)]
    rfl
theorem goW_end (done : List Opn) (run : Option (Rl × List Rl)) : goW done run [] = outW done run := by
  cases run with
  | none => exact goW_end_none done
  | some p => exact goW_end_some done p.1 p.2
theorem OpE.set4 {e : List AV} {o : Opn} (h : OpE e o) : e[4]? = some (.i o.n) ∧ ∀ n : Int, OpE (e.set 4 (.i n)) ⟨o.k, o.nm, o.tx, o.ps, n⟩ := by
  cases h with
  | a o => exact ⟨rfl, fun n => .a ⟨o.k, o.nm, o.tx, o.ps, n⟩⟩
  | b k nm tx n => exact ⟨rfl, fun n => .b k nm tx n⟩
theorem outW_on {done : List Opn} {last r : Rl} {rs : List Rl} (h : r.g = last.g) : (outW done (some (last, rs))).set done.length (guardO r.g (rs.length + 1)) ++ [ownO r] = outW done (some (r, rs ++ [r])) := by
  unfold outW
  simp
section
attribute [local irreducible] vcApp
variable {st : St} {R : AV → St → Prop}
set_option maxHeartbeats 2000000 in
theorem compileR_p (sd : Int) (l : List Rl) (hl : l.length ≤ 1000) (hr : ∀ r ∈ l, r.Ok) : APure Tryz.prog 12 [.i sd, .sl .no 8 (rlL l)] (.tup [.sl .no 5 (opL (compW sd l).1), .i (compW sd l).2]) [] := by
  have hmx : maxLen = 9223372036854775807 := rfl
  have el := rlL_len l
  have qc := check35R_p l (by omega) hr
  obtain ⟨ce, hce⟩ : ∃ ce, (checkL l).2 = ce := ⟨_, rfl⟩
  rw [hce] at qc
  generalize (checkL l).1 = ci at qc
  refine APure.ofY rfl ?_
  by_cases hs : sd = 1 ∨ sd = 2
  case neg =>
    refine ACalls.of_vc T_ok mixed Tryz.func12 rfl Tryz.call12 ?_
    refine cnd_split (fun h1 => ?_) (fun h1 => absurd (.inl (bne_eq_false_iff_eq.1 h1)) hs)
    refine cnd_split (fun h2 => ?_) (fun h2 => absurd (.inr (bne_eq_false_iff_eq.1 h2)) hs)
    unfold compW
    rw [if_pos (by omega)]
    exact .inr ⟨_, _, rfl, rfl, .inl (.inr (.inl ⟨rfl, 5, rfl⟩)), .inl (.inl ⟨rfl, rfl⟩), trivial⟩
  have hsd : ¬ (sd ≠ 1 ∧ sd ≠ 2) := by omega
  refine ACalls.of_vc T_ok mixed Tryz.func12 rfl Tryz.call12 ?_
  refine cnd_split (fun h1 => ?_) (fun h1 => ?_)
  · have h1 : sd ≠ 1 := bne_iff_ne.1 h1
    refine cnd_split (fun h2 => absurd hsd (by have : sd ≠ 2 := bne_iff_ne.1 h2; exact fun h => h ⟨h1, this⟩)) (fun h2 => ?_)
    refine .p rfl qc ?_
    refine cnd_split (fun h1 => ?_) (fun h1 => ?_)
    · have h1 : ce ≠ 0 := bne_iff_ne.1 h1
      unfold compW
      rw [if_neg hsd, if_pos (by rw [hce]; exact h1), hce]
      exact .inr ⟨_, _, rfl, rfl, .inl (.inr (.inl ⟨rfl, 5, rfl⟩)), .inl (.inl ⟨rfl, rfl⟩), trivial⟩
    have h1 : ce = 0 := bne_eq_false_iff_eq.1 h1
    have hcw : compW sd l = (allW (sideL sd l), 0) := by
      unfold compW
      rw [if_neg hsd, if_neg (by rw [hce]; exact fun h => h h1)]
    rw [hcw]
    have haw := allW_len _ _ (Nat.le_refl (sideL sd l).length)
    have hsl := sideL_len sd l
    have goL : ∀ (done : List Opn) run (rest : List Rl), (outW done run).length ≤ (goW done run rest).length := fun done run rest => by
      cases run with
      | none => simp [outW, goW]
      | some p => (try simp [outW, goW]); (try omega)
    refine ⟨_, rfl, ?_⟩
    refine vc_loop [11, 8, 10] (fun g vals st' => ∃ (k : Nat) (a' : AV) (hd : Int), k + g = l.length ∧ vals = [.i k, a', .i hd] ∧ ∃ es rr lst pc done run, HR st' 5 a' rr es ∧ rr ≠ some 0 ∧ st'.heap[0]? = some (Rl.cp lst pc) ∧ (run ≠ none → pc = .sl .no 2 (prtL lst.ps)) ∧ lst.Ok ∧ RelE es (outW done run) ∧ goW done run (sideL sd (l.drop k)) = allW (sideL sd l) ∧ (run = none ∧ hd = -1 ∨ ∃ rs, run = some (lst, rs) ∧ lst.gk ≠ 0 ∧ hd = (done.length : Nat))) l.length rfl ⟨0, .nilS, -1, by omega, rfl, [], none, ⟨0, 0, emB, emB, 0, emB, emB, []⟩, .nilS, [], none, .nil, (fun h => by cases h), rfl, (fun h => absurd rfl h), ⟨by decide, by decide, by decide, by decide, by decide, by decide⟩, ⟨rfl, fun k e o h => by simp at h⟩, rfl, .inl ⟨rfl, rfl⟩⟩ ?_
    rintro g vals st' ⟨k, a', hd, hk, rfl, es, rr, lst, pc, done, run, hH, hz, hA, hpc, hlo, hrel, hgo, hrun⟩
    rcases hrun with ⟨rfl, rfl⟩ | ⟨rs, rfl, hgk, rfl⟩
    · have hx := hH
      cases hx with
      | nil =>
        have hn1 : ¬ some st'.heap.length = none := fun e => by cases e
        have hgl := goL done none (sideL sd (l.drop k))
        rw [hgo, ← hrel.1] at hgl
        refine cnd_split (fun hd => ?_) (fun hd => ?_)
        · have hd := of_decide_eq_true hd
          have k1 : k < l.length := by omega
          have qo := ownR36_p l[k]
          have hA1 : ((st'.heap ++ [zR]).set st'.heap.length l[k].cs)[0]? = some (lst.cp pc) := st_ne (by have := lt_of hA; omega) (ap hA)
          have hB1 : ((st'.heap ++ [zR]).set st'.heap.length l[k].cs)[st'.heap.length]? = some l[k].cs := last_upd _ _ _
          have hH1 := hH.keep (b := ⟨(st'.heap ++ [zR]).set st'.heap.length l[k].cs, st'.tk⟩) (fun p cs _ h => st_ne (by have := lt_of h; omega) (ap h))
          have hl1 : st'.heap.length < ((st'.heap ++ [zR]).set st'.heap.length l[k].cs).length := by simp
          refine ⟨k, _, rfl, rlL_at k1, ?_⟩
          refine ⟨_, last_at _ _, ?_⟩
          refine ⟨_, hB1, ?_⟩
          refine cnd_split (fun hs => ?_) (fun hs => ?_)
          · have hs : l[k].sd ≠ sd := bne_iff_ne.1 hs
            rw [sideL_drop k1, if_neg hs] at hgo
            intro c hc
            rw [IntWalk.i64_in _ (by omega)] at hc
            obtain rfl : c = ((k + 1 : Nat) : Int) := by omega
            exact ⟨g - 1, by omega, k + 1, _, _, by omega, rfl, _, _, lst, pc, done, none, hH1, hz, hA1, (by first | exact (fun h => absurd rfl h) | exact (fun _ => rfl)), hlo, hrel, hgo, .inl ⟨rfl, rfl⟩⟩
          have hs : l[k].sd = sd := bne_eq_false_iff_eq.1 hs
          rw [sideL_drop k1, if_pos hs] at hgo
          have hoff : ∀ last rs, (none : Option (Rl × List Rl)) = some (last, rs) → ¬ (l[k].g = last.g ∧ touchW last l[k].ga = false) := fun last rs e => by cases e
          refine ⟨_, hB1, ?_⟩
          refine cnd_split (fun h0 => ?_) (fun h0 => ?_)
          · have h0 : l[k].gk = 0 := beq_iff_eq.1 h0
            have hgo := (goW_close hoff).symm.trans hgo
            rw [goW_plain h0] at hgo
            have hA2 := hA1; have hB2 := hB1; have hz2 := hz; have hn2 := hn1; have hH2 := hH1; have hl2 := hl1
            refine ⟨_, hB2, ?_⟩
            refine .p rfl qo ?_
            refine HR.app (n := 0) (i := ti38) hH2 rfl rfl (List.cons_ne_nil _ _) (fun e he => by rw [List.mem_singleton.1 he]; exact ⟨rfl, rfl⟩) ?_ ?_ (Nat.zero_le _) (fun p1 cap1 st2 q0 q1 q2 q3 => ?_)
            · show (List.length _ + 1) * 72 ≤ _; (try simp only [List.length_append, List.length_singleton, List.length_set]); omega
            · show List.length _ + 1 ≤ _; (try simp only [List.length_append, List.length_singleton, List.length_set]); omega
            refine ⟨_, q1.at' hB2 hn2, ?_⟩
            refine ⟨_, q1.at' hA2 (fun e => hz2 e.symm), ?_⟩
            intro c hc
            rw [IntWalk.i64_in _ (by omega)] at hc
            obtain rfl : c = ((k + 1 : Nat) : Int) := by omega
            have hfin := HR.hs (st := ⟨st2.heap.set 0 l[k].cs, st2.tk⟩) p1 cap1 _ (q0.keep fun cs h => st_ne (fun e => (q2.elim (fun e' => hz2 (by rw [← e', ← e])) (fun e' => by have := Nat.lt_of_lt_of_le hl2 e'; omega))) h)
            rw [List.length_append] at hfin
            refine ⟨g - 1, by omega, k + 1, _, _, by omega, rfl, _, some p1, l[k], .sl .no 2 (prtL l[k].ps), outW done none ++ [ownO l[k]], none, hfin, ?_, st_eq (q1.at' hA2 (fun e => hz2 e.symm)), (fun _ => rfl), hr _ (List.getElem_mem k1), ?_, ?_, ?_⟩
            · exact fun e => (q2.elim (fun e' => hz2 (by rw [← e', e])) (fun e' => by have := Option.some.inj e; have := Nat.lt_of_lt_of_le hl2 e'; omega))
            · exact hrel.snoc (.a _)
            · exact hgo
            · exact .inl ⟨rfl, rfl⟩
          have h0 : l[k].gk ≠ 0 := beq_eq_false_iff_ne.1 h0
          have hgo := (goW_close hoff).symm.trans hgo
          rw [goW_open h0] at hgo
          refine ⟨_, hB1, ?_⟩
          refine ⟨_, hB1, ?_⟩
          refine ⟨_, hB1, ?_⟩
          refine HR.app (n := 0) (i := ti38) hH1 rfl rfl (List.cons_ne_nil _ _) (fun e he => by rw [List.mem_singleton.1 he]; exact ⟨rfl, rfl⟩) ?_ ?_ (Nat.zero_le _) (fun p0 cap0 st1 z0 z1 z2 z3 => ?_)
          · show (List.length _ + 1) * 72 ≤ _; (try simp only [List.length_append, List.length_singleton, List.length_set]); omega
          · show List.length _ + 1 ≤ _; (try simp only [List.length_append, List.length_singleton, List.length_set]); omega
          have hH2 := HR.hs p0 cap0 _ z0
          rw [List.length_append] at hH2
          have hA2 := z1.at' hA1 (fun e => hz e.symm)
          have hB2 := z1.at' hB1 hn1
          have hl2 : st'.heap.length < st1.heap.length := Nat.lt_of_lt_of_le hl1 z1.len
          have hz2 : some p0 ≠ some 0 := fun e => (z2.elim (fun e' => hz (by rw [← e', e])) (fun e' => by have e' : ((st'.heap ++ [zR]).set st'.heap.length l[k].cs).length ≤ p0 := e'; have := Option.some.inj e; omega))
          have hn2 : ¬ some st'.heap.length = some p0 := fun e => (z2.elim (fun e' => hn1 (by rw [← e', e])) (fun e' => by have e' : ((st'.heap ++ [zR]).set st'.heap.length l[k].cs).length ≤ p0 := e'; have := Option.some.inj e; omega))
          refine ⟨_, hB2, ?_⟩
          refine .p rfl qo ?_
          refine HR.app (n := 0) (i := ti38) hH2 rfl rfl (List.cons_ne_nil _ _) (fun e he => by rw [List.mem_singleton.1 he]; exact ⟨rfl, rfl⟩) ?_ ?_ (Nat.zero_le _) (fun p1 cap1 st2 q0 q1 q2 q3 => ?_)
          · show (List.length _ + 1) * 72 ≤ _; (try simp only [List.length_append, List.length_singleton, List.length_set]); omega
          · show List.length _ + 1 ≤ _; (try simp only [List.length_append, List.length_singleton, List.length_set]); omega
          refine ⟨_, q1.at' hB2 hn2, ?_⟩
          refine ⟨_, q1.at' hA2 (fun e => hz2 e.symm), ?_⟩
          intro c hc
          rw [IntWalk.i64_in _ (by omega)] at hc
          obtain rfl : c = ((k + 1 : Nat) : Int) := by omega
          have hfin := HR.hs (st := ⟨st2.heap.set 0 l[k].cs, st2.tk⟩) p1 cap1 _ (q0.keep fun cs h => st_ne (fun e => (q2.elim (fun e' => hz2 (by rw [← e', ← e])) (fun e' => by have := Nat.lt_of_lt_of_le hl2 e'; omega))) h)
          rw [List.length_append] at hfin
          refine ⟨g - 1, by omega, k + 1, _, _, by omega, rfl, _, some p1, l[k], .sl .no 2 (prtL l[k].ps), outW done none, some (l[k], [l[k]]), hfin, ?_, st_eq (q1.at' hA2 (fun e => hz2 e.symm)), (fun _ => rfl), hr _ (List.getElem_mem k1), ?_, ?_, ?_⟩
          · exact fun e => (q2.elim (fun e' => hz2 (by rw [← e', e])) (fun e' => by have := Option.some.inj e; have := Nat.lt_of_lt_of_le hl2 e'; omega))
          · exact by have := (hrel.snoc (.b l[k].gk l[k].ga l[k].gb 1)).snoc (.a (ownO l[k])); rw [List.append_assoc (outW done none)] at this; exact this
          · exact hgo
          · exact .inr ⟨_, rfl, h0, congrArg (fun n : Nat => (n : Int)) hrel.1⟩
        · have hd := of_decide_eq_false hd
          rw [List.drop_of_length_le (by omega)] at hgo
          have hgo := (goW_end done none).symm.trans hgo
          rw [hgo] at hrel
          exact .inr ⟨_, _, rfl, rfl, hrel.resD hH, .inl (.inl ⟨rfl, rfl⟩), trivial⟩
      | tight =>
        have hn1 : ¬ some st'.heap.length = none := fun e => by cases e
        have hgl := goL done none (sideL sd (l.drop k))
        rw [hgo, ← hrel.1] at hgl
        refine cnd_split (fun hd => ?_) (fun hd => ?_)
        · have hd := of_decide_eq_true hd
          have k1 : k < l.length := by omega
          have qo := ownR36_p l[k]
          have hA1 : ((st'.heap ++ [zR]).set st'.heap.length l[k].cs)[0]? = some (lst.cp pc) := st_ne (by have := lt_of hA; omega) (ap hA)
          have hB1 : ((st'.heap ++ [zR]).set st'.heap.length l[k].cs)[st'.heap.length]? = some l[k].cs := last_upd _ _ _
          have hH1 := hH.keep (b := ⟨(st'.heap ++ [zR]).set st'.heap.length l[k].cs, st'.tk⟩) (fun p cs _ h => st_ne (by have := lt_of h; omega) (ap h))
          have hl1 : st'.heap.length < ((st'.heap ++ [zR]).set st'.heap.length l[k].cs).length := by simp
          refine ⟨k, _, rfl, rlL_at k1, ?_⟩
          refine ⟨_, last_at _ _, ?_⟩
          refine ⟨_, hB1, ?_⟩
          refine cnd_split (fun hs => ?_) (fun hs => ?_)
          · have hs : l[k].sd ≠ sd := bne_iff_ne.1 hs
            rw [sideL_drop k1, if_neg hs] at hgo
            intro c hc
            rw [IntWalk.i64_in _ (by omega)] at hc
            obtain rfl : c = ((k + 1 : Nat) : Int) := by omega
            exact ⟨g - 1, by omega, k + 1, _, _, by omega, rfl, _, _, lst, pc, done, none, hH1, hz, hA1, (by first | exact (fun h => absurd rfl h) | exact (fun _ => rfl)), hlo, hrel, hgo, .inl ⟨rfl, rfl⟩⟩
          have hs : l[k].sd = sd := bne_eq_false_iff_eq.1 hs
          rw [sideL_drop k1, if_pos hs] at hgo
          have hoff : ∀ last rs, (none : Option (Rl × List Rl)) = some (last, rs) → ¬ (l[k].g = last.g ∧ touchW last l[k].ga = false) := fun last rs e => by cases e
          refine ⟨_, hB1, ?_⟩
          refine cnd_split (fun h0 => ?_) (fun h0 => ?_)
          · have h0 : l[k].gk = 0 := beq_iff_eq.1 h0
            have hgo := (goW_close hoff).symm.trans hgo
            rw [goW_plain h0] at hgo
            have hA2 := hA1; have hB2 := hB1; have hz2 := hz; have hn2 := hn1; have hH2 := hH1; have hl2 := hl1
            refine ⟨_, hB2, ?_⟩
            refine .p rfl qo ?_
            refine HR.app (n := 0) (i := ti38) hH2 rfl rfl (List.cons_ne_nil _ _) (fun e he => by rw [List.mem_singleton.1 he]; exact ⟨rfl, rfl⟩) ?_ ?_ (Nat.zero_le _) (fun p1 cap1 st2 q0 q1 q2 q3 => ?_)
            · show (List.length _ + 1) * 72 ≤ _; (try simp only [List.length_append, List.length_singleton, List.length_set]); omega
            · show List.length _ + 1 ≤ _; (try simp only [List.length_append, List.length_singleton, List.length_set]); omega
            refine ⟨_, q1.at' hB2 hn2, ?_⟩
            refine ⟨_, q1.at' hA2 (fun e => hz2 e.symm), ?_⟩
            intro c hc
            rw [IntWalk.i64_in _ (by omega)] at hc
            obtain rfl : c = ((k + 1 : Nat) : Int) := by omega
            have hfin := HR.hs (st := ⟨st2.heap.set 0 l[k].cs, st2.tk⟩) p1 cap1 _ (q0.keep fun cs h => st_ne (fun e => (q2.elim (fun e' => hz2 (by rw [← e', ← e])) (fun e' => by have := Nat.lt_of_lt_of_le hl2 e'; omega))) h)
            rw [List.length_append] at hfin
            refine ⟨g - 1, by omega, k + 1, _, _, by omega, rfl, _, some p1, l[k], .sl .no 2 (prtL l[k].ps), outW done none ++ [ownO l[k]], none, hfin, ?_, st_eq (q1.at' hA2 (fun e => hz2 e.symm)), (fun _ => rfl), hr _ (List.getElem_mem k1), ?_, ?_, ?_⟩
            · exact fun e => (q2.elim (fun e' => hz2 (by rw [← e', e])) (fun e' => by have := Option.some.inj e; have := Nat.lt_of_lt_of_le hl2 e'; omega))
            · exact hrel.snoc (.a _)
            · exact hgo
            · exact .inl ⟨rfl, rfl⟩
          have h0 : l[k].gk ≠ 0 := beq_eq_false_iff_ne.1 h0
          have hgo := (goW_close hoff).symm.trans hgo
          rw [goW_open h0] at hgo
          refine ⟨_, hB1, ?_⟩
          refine ⟨_, hB1, ?_⟩
          refine ⟨_, hB1, ?_⟩
          refine HR.app (n := 0) (i := ti38) hH1 rfl rfl (List.cons_ne_nil _ _) (fun e he => by rw [List.mem_singleton.1 he]; exact ⟨rfl, rfl⟩) ?_ ?_ (Nat.zero_le _) (fun p0 cap0 st1 z0 z1 z2 z3 => ?_)
          · show (List.length _ + 1) * 72 ≤ _; (try simp only [List.length_append, List.length_singleton, List.length_set]); omega
          · show List.length _ + 1 ≤ _; (try simp only [List.length_append, List.length_singleton, List.length_set]); omega
          have hH2 := HR.hs p0 cap0 _ z0
          rw [List.length_append] at hH2
          have hA2 := z1.at' hA1 (fun e => hz e.symm)
          have hB2 := z1.at' hB1 hn1
          have hl2 : st'.heap.length < st1.heap.length := Nat.lt_of_lt_of_le hl1 z1.len
          have hz2 : some p0 ≠ some 0 := fun e => (z2.elim (fun e' => hz (by rw [← e', e])) (fun e' => by have e' : ((st'.heap ++ [zR]).set st'.heap.length l[k].cs).length ≤ p0 := e'; have := Option.some.inj e; omega))
          have hn2 : ¬ some st'.heap.length = some p0 := fun e => (z2.elim (fun e' => hn1 (by rw [← e', e])) (fun e' => by have e' : ((st'.heap ++ [zR]).set st'.heap.length l[k].cs).length ≤ p0 := e'; have := Option.some.inj e; omega))
          refine ⟨_, hB2, ?_⟩
          refine .p rfl qo ?_
          refine HR.app (n := 0) (i := ti38) hH2 rfl rfl (List.cons_ne_nil _ _) (fun e he => by rw [List.mem_singleton.1 he]; exact ⟨rfl, rfl⟩) ?_ ?_ (Nat.zero_le _) (fun p1 cap1 st2 q0 q1 q2 q3 => ?_)
          · show (List.length _ + 1) * 72 ≤ _; (try simp only [List.length_append, List.length_singleton, List.length_set]); omega
          · show List.length _ + 1 ≤ _; (try simp only [List.length_append, List.length_singleton, List.length_set]); omega
          refine ⟨_, q1.at' hB2 hn2, ?_⟩
          refine ⟨_, q1.at' hA2 (fun e => hz2 e.symm), ?_⟩
          intro c hc
          rw [IntWalk.i64_in _ (by omega)] at hc
          obtain rfl : c = ((k + 1 : Nat) : Int) := by omega
          have hfin := HR.hs (st := ⟨st2.heap.set 0 l[k].cs, st2.tk⟩) p1 cap1 _ (q0.keep fun cs h => st_ne (fun e => (q2.elim (fun e' => hz2 (by rw [← e', ← e])) (fun e' => by have := Nat.lt_of_lt_of_le hl2 e'; omega))) h)
          rw [List.length_append] at hfin
          refine ⟨g - 1, by omega, k + 1, _, _, by omega, rfl, _, some p1, l[k], .sl .no 2 (prtL l[k].ps), outW done none, some (l[k], [l[k]]), hfin, ?_, st_eq (q1.at' hA2 (fun e => hz2 e.symm)), (fun _ => rfl), hr _ (List.getElem_mem k1), ?_, ?_, ?_⟩
          · exact fun e => (q2.elim (fun e' => hz2 (by rw [← e', e])) (fun e' => by have := Option.some.inj e; have := Nat.lt_of_lt_of_le hl2 e'; omega))
          · exact by have := (hrel.snoc (.b l[k].gk l[k].ga l[k].gb 1)).snoc (.a (ownO l[k])); rw [List.append_assoc (outW done none)] at this; exact this
          · exact hgo
          · exact .inr ⟨_, rfl, h0, congrArg (fun n : Nat => (n : Int)) hrel.1⟩
        · have hd := of_decide_eq_false hd
          rw [List.drop_of_length_le (by omega)] at hgo
          have hgo := (goW_end done none).symm.trans hgo
          rw [hgo] at hrel
          exact .inr ⟨_, _, rfl, rfl, hrel.resD hH, .inl (.inl ⟨rfl, rfl⟩), trivial⟩
      | hs p cap es hw =>
        have hn1 : ¬ some st'.heap.length = some p := fun e => by have := hH.lt; have := Option.some.inj e; omega
        have hgl := goL done none (sideL sd (l.drop k))
        rw [hgo, ← hrel.1] at hgl
        refine cnd_split (fun hd => ?_) (fun hd => ?_)
        · have hd := of_decide_eq_true hd
          have k1 : k < l.length := by omega
          have qo := ownR36_p l[k]
          have hA1 : ((st'.heap ++ [zR]).set st'.heap.length l[k].cs)[0]? = some (lst.cp pc) := st_ne (by have := lt_of hA; omega) (ap hA)
          have hB1 : ((st'.heap ++ [zR]).set st'.heap.length l[k].cs)[st'.heap.length]? = some l[k].cs := last_upd _ _ _
          have hH1 := hH.keep (b := ⟨(st'.heap ++ [zR]).set st'.heap.length l[k].cs, st'.tk⟩) (fun p cs _ h => st_ne (by have := lt_of h; omega) (ap h))
          have hl1 : st'.heap.length < ((st'.heap ++ [zR]).set st'.heap.length l[k].cs).length := by simp
          refine ⟨k, _, rfl, rlL_at k1, ?_⟩
          refine ⟨_, last_at _ _, ?_⟩
          refine ⟨_, hB1, ?_⟩
          refine cnd_split (fun hs => ?_) (fun hs => ?_)
          · have hs : l[k].sd ≠ sd := bne_iff_ne.1 hs
            rw [sideL_drop k1, if_neg hs] at hgo
            intro c hc
            rw [IntWalk.i64_in _ (by omega)] at hc
            obtain rfl : c = ((k + 1 : Nat) : Int) := by omega
            exact ⟨g - 1, by omega, k + 1, _, _, by omega, rfl, _, _, lst, pc, done, none, hH1, hz, hA1, (by first | exact (fun h => absurd rfl h) | exact (fun _ => rfl)), hlo, hrel, hgo, .inl ⟨rfl, rfl⟩⟩
          have hs : l[k].sd = sd := bne_eq_false_iff_eq.1 hs
          rw [sideL_drop k1, if_pos hs] at hgo
          have hoff : ∀ last rs, (none : Option (Rl × List Rl)) = some (last, rs) → ¬ (l[k].g = last.g ∧ touchW last l[k].ga = false) := fun last rs e => by cases e
          refine ⟨_, hB1, ?_⟩
          refine cnd_split (fun h0 => ?_) (fun h0 => ?_)
          · have h0 : l[k].gk = 0 := beq_iff_eq.1 h0
            have hgo := (goW_close hoff).symm.trans hgo
            rw [goW_plain h0] at hgo
            have hA2 := hA1; have hB2 := hB1; have hz2 := hz; have hn2 := hn1; have hH2 := hH1; have hl2 := hl1
            refine ⟨_, hB2, ?_⟩
            refine .p rfl qo ?_
            refine HR.app (n := 0) (i := ti38) hH2 rfl rfl (List.cons_ne_nil _ _) (fun e he => by rw [List.mem_singleton.1 he]; exact ⟨rfl, rfl⟩) ?_ ?_ (Nat.zero_le _) (fun p1 cap1 st2 q0 q1 q2 q3 => ?_)
            · show (List.length _ + 1) * 72 ≤ _; (try simp only [List.length_append, List.length_singleton, List.length_set]); omega
            · show List.length _ + 1 ≤ _; (try simp only [List.length_append, List.length_singleton, List.length_set]); omega
            refine ⟨_, q1.at' hB2 hn2, ?_⟩
            refine ⟨_, q1.at' hA2 (fun e => hz2 e.symm), ?_⟩
            intro c hc
            rw [IntWalk.i64_in _ (by omega)] at hc
            obtain rfl : c = ((k + 1 : Nat) : Int) := by omega
            have hfin := HR.hs (st := ⟨st2.heap.set 0 l[k].cs, st2.tk⟩) p1 cap1 _ (q0.keep fun cs h => st_ne (fun e => (q2.elim (fun e' => hz2 (by rw [← e', ← e])) (fun e' => by have := Nat.lt_of_lt_of_le hl2 e'; omega))) h)
            rw [List.length_append] at hfin
            refine ⟨g - 1, by omega, k + 1, _, _, by omega, rfl, _, some p1, l[k], .sl .no 2 (prtL l[k].ps), outW done none ++ [ownO l[k]], none, hfin, ?_, st_eq (q1.at' hA2 (fun e => hz2 e.symm)), (fun _ => rfl), hr _ (List.getElem_mem k1), ?_, ?_, ?_⟩
            · exact fun e => (q2.elim (fun e' => hz2 (by rw [← e', e])) (fun e' => by have := Option.some.inj e; have := Nat.lt_of_lt_of_le hl2 e'; omega))
            · exact hrel.snoc (.a _)
            · exact hgo
            · exact .inl ⟨rfl, rfl⟩
          have h0 : l[k].gk ≠ 0 := beq_eq_false_iff_ne.1 h0
          have hgo := (goW_close hoff).symm.trans hgo
          rw [goW_open h0] at hgo
          refine ⟨_, hB1, ?_⟩
          refine ⟨_, hB1, ?_⟩
          refine ⟨_, hB1, ?_⟩
          refine HR.app (n := 0) (i := ti38) hH1 rfl rfl (List.cons_ne_nil _ _) (fun e he => by rw [List.mem_singleton.1 he]; exact ⟨rfl, rfl⟩) ?_ ?_ (Nat.zero_le _) (fun p0 cap0 st1 z0 z1 z2 z3 => ?_)
          · show (List.length _ + 1) * 72 ≤ _; (try simp only [List.length_append, List.length_singleton, List.length_set]); omega
          · show List.length _ + 1 ≤ _; (try simp only [List.length_append, List.length_singleton, List.length_set]); omega
          have hH2 := HR.hs p0 cap0 _ z0
          rw [List.length_append] at hH2
          have hA2 := z1.at' hA1 (fun e => hz e.symm)
          have hB2 := z1.at' hB1 hn1
          have hl2 : st'.heap.length < st1.heap.length := Nat.lt_of_lt_of_le hl1 z1.len
          have hz2 : some p0 ≠ some 0 := fun e => (z2.elim (fun e' => hz (by rw [← e', e])) (fun e' => by have e' : ((st'.heap ++ [zR]).set st'.heap.length l[k].cs).length ≤ p0 := e'; have := Option.some.inj e; omega))
          have hn2 : ¬ some st'.heap.length = some p0 := fun e => (z2.elim (fun e' => hn1 (by rw [← e', e])) (fun e' => by have e' : ((st'.heap ++ [zR]).set st'.heap.length l[k].cs).length ≤ p0 := e'; have := Option.some.inj e; omega))
          refine ⟨_, hB2, ?_⟩
          refine .p rfl qo ?_
          refine HR.app (n := 0) (i := ti38) hH2 rfl rfl (List.cons_ne_nil _ _) (fun e he => by rw [List.mem_singleton.1 he]; exact ⟨rfl, rfl⟩) ?_ ?_ (Nat.zero_le _) (fun p1 cap1 st2 q0 q1 q2 q3 => ?_)
          · show (List.length _ + 1) * 72 ≤ _; (try simp only [List.length_append, List.length_singleton, List.length_set]); omega
          · show List.length _ + 1 ≤ _; (try simp only [List.length_append, List.length_singleton, List.length_set]); omega
          refine ⟨_, q1.at' hB2 hn2, ?_⟩
          refine ⟨_, q1.at' hA2 (fun e => hz2 e.symm), ?_⟩
          intro c hc
          rw [IntWalk.i64_in _ (by omega)] at hc
          obtain rfl : c = ((k + 1 : Nat) : Int) := by omega
          have hfin := HR.hs (st := ⟨st2.heap.set 0 l[k].cs, st2.tk⟩) p1 cap1 _ (q0.keep fun cs h => st_ne (fun e => (q2.elim (fun e' => hz2 (by rw [← e', ← e])) (fun e' => by have := Nat.lt_of_lt_of_le hl2 e'; omega))) h)
          rw [List.length_append] at hfin
          refine ⟨g - 1, by omega, k + 1, _, _, by omega, rfl, _, some p1, l[k], .sl .no 2 (prtL l[k].ps), outW done none, some (l[k], [l[k]]), hfin, ?_, st_eq (q1.at' hA2 (fun e => hz2 e.symm)), (fun _ => rfl), hr _ (List.getElem_mem k1), ?_, ?_, ?_⟩
          · exact fun e => (q2.elim (fun e' => hz2 (by rw [← e', e])) (fun e' => by have := Option.some.inj e; have := Nat.lt_of_lt_of_le hl2 e'; omega))
          · exact by have := (hrel.snoc (.b l[k].gk l[k].ga l[k].gb 1)).snoc (.a (ownO l[k])); rw [List.append_assoc (outW done none)] at this; exact this
          · exact hgo
          · exact .inr ⟨_, rfl, h0, congrArg (fun n : Nat => (n : Int)) hrel.1⟩
        · have hd := of_decide_eq_false hd
          rw [List.drop_of_length_le (by omega)] at hgo
          have hgo := (goW_end done none).symm.trans hgo
          rw [hgo] at hrel
          exact .inr ⟨_, _, rfl, rfl, hrel.resD hH, .inl (.inl ⟨rfl, rfl⟩), trivial⟩
    · have hx := hH
      cases hx with
      | nil => exact absurd hrel.1 (by simp [outW])
      | tight => exact absurd hrel.1 (by simp [outW])
      | hs p cap es hw =>
        have hn1 : ¬ some st'.heap.length = some p := fun e => by have := hH.lt; have := Option.some.inj e; omega
        obtain rfl := hpc (fun e => by cases e)
        have hgl := goL done (some (lst, rs)) (sideL sd (l.drop k))
        rw [hgo, ← hrel.1] at hgl
        refine cnd_split (fun hd => ?_) (fun hd => ?_)
        · have hd := of_decide_eq_true hd
          have k1 : k < l.length := by omega
          have qo := ownR36_p l[k]
          have qt := touches36_p lst l[k].ga hlo (by have := (hr _ (List.getElem_mem k1)).ga; omega)
          have hA1 : ((st'.heap ++ [zR]).set st'.heap.length l[k].cs)[0]? = some (lst.cp (.sl .no 2 (prtL lst.ps))) := st_ne (by have := lt_of hA; omega) (ap hA)
          have hB1 : ((st'.heap ++ [zR]).set st'.heap.length l[k].cs)[st'.heap.length]? = some l[k].cs := last_upd _ _ _
          have hH1 := hH.keep (b := ⟨(st'.heap ++ [zR]).set st'.heap.length l[k].cs, st'.tk⟩) (fun p cs _ h => st_ne (by have := lt_of h; omega) (ap h))
          have hl1 : st'.heap.length < ((st'.heap ++ [zR]).set st'.heap.length l[k].cs).length := by simp
          refine ⟨k, _, rfl, rlL_at k1, ?_⟩
          refine ⟨_, last_at _ _, ?_⟩
          refine ⟨_, hB1, ?_⟩
          refine cnd_split (fun hs => ?_) (fun hs => ?_)
          · have hs : l[k].sd ≠ sd := bne_iff_ne.1 hs
            rw [sideL_drop k1, if_neg hs] at hgo
            intro c hc
            rw [IntWalk.i64_in _ (by omega)] at hc
            obtain rfl : c = ((k + 1 : Nat) : Int) := by omega
            exact ⟨g - 1, by omega, k + 1, _, _, by omega, rfl, _, _, lst, (.sl .no 2 (prtL lst.ps)), done, some (lst, rs), hH1, hz, hA1, (by first | exact (fun h => absurd rfl h) | exact (fun _ => rfl)), hlo, hrel, hgo, .inr ⟨rs, rfl, hgk, rfl⟩⟩
          have hs : l[k].sd = sd := bne_eq_false_iff_eq.1 hs
          rw [sideL_drop k1, if_pos hs] at hgo
          have hg0 : l[k].g = lst.g → l[k].gk = lst.gk := fun e => congrArg Prod.fst e
          refine ⟨_, hB1, ?_⟩
          refine ⟨_, hA1, ?_⟩
          refine ⟨by kernel_rfl, fun q hq => ?_⟩
          have hq : q = true ↔ l[k].gk = lst.gk ∧ l[k].ga = lst.ga ∧ l[k].gb = lst.gb ∧ True := hq
          have hq : q = true ↔ l[k].g = lst.g := by
            rw [hq]
            unfold Rl.g
            rw [Prod.mk.injEq, Prod.mk.injEq]
            exact ⟨fun ⟨a, b, c, _⟩ => ⟨a, b, c⟩, fun ⟨a, b, c⟩ => ⟨a, b, c, trivial⟩⟩
          cases q with
          | false =>
            have hoff : ∀ last rs', some (lst, rs) = some (last, rs') → ¬ (l[k].g = last.g ∧ touchW last l[k].ga = false) := fun last rs' e h => by
              cases e
              have := hq.2 h.1
              cases this
            refine ⟨_, hB1, ?_⟩
            refine cnd_split (fun h0 => ?_) (fun h0 => ?_)
            · have h0 : l[k].gk = 0 := beq_iff_eq.1 h0
              have hgo := (goW_close hoff).symm.trans hgo
              rw [goW_plain h0] at hgo
              have hA2 := hA1; have hB2 := hB1; have hz2 := hz; have hn2 := hn1; have hH2 := hH1; have hl2 := hl1
              refine ⟨_, hB2, ?_⟩
              refine .p rfl qo ?_
              refine HR.app (n := 0) (i := ti38) hH2 rfl rfl (List.cons_ne_nil _ _) (fun e he => by rw [List.mem_singleton.1 he]; exact ⟨rfl, rfl⟩) ?_ ?_ (Nat.zero_le _) (fun p1 cap1 st2 q0 q1 q2 q3 => ?_)
              · show (List.length _ + 1) * 72 ≤ _; (try simp only [List.length_append, List.length_singleton, List.length_set]); omega
              · show List.length _ + 1 ≤ _; (try simp only [List.length_append, List.length_singleton, List.length_set]); omega
              refine ⟨_, q1.at' hB2 hn2, ?_⟩
              refine ⟨_, q1.at' hA2 (fun e => hz2 e.symm), ?_⟩
              intro c hc
              rw [IntWalk.i64_in _ (by omega)] at hc
              obtain rfl : c = ((k + 1 : Nat) : Int) := by omega
              have hfin := HR.hs (st := ⟨st2.heap.set 0 l[k].cs, st2.tk⟩) p1 cap1 _ (q0.keep fun cs h => st_ne (fun e => (q2.elim (fun e' => hz2 (by rw [← e', ← e])) (fun e' => by have := Nat.lt_of_lt_of_le hl2 e'; omega))) h)
              rw [List.length_append] at hfin
              refine ⟨g - 1, by omega, k + 1, _, _, by omega, rfl, _, some p1, l[k], .sl .no 2 (prtL l[k].ps), outW done (some (lst, rs)) ++ [ownO l[k]], none, hfin, ?_, st_eq (q1.at' hA2 (fun e => hz2 e.symm)), (fun _ => rfl), hr _ (List.getElem_mem k1), ?_, ?_, ?_⟩
              · exact fun e => (q2.elim (fun e' => hz2 (by rw [← e', e])) (fun e' => by have := Option.some.inj e; have := Nat.lt_of_lt_of_le hl2 e'; omega))
              · exact hrel.snoc (.a _)
              · exact hgo
              · exact .inl ⟨rfl, rfl⟩
            have h0 : l[k].gk ≠ 0 := beq_eq_false_iff_ne.1 h0
            have hgo := (goW_close hoff).symm.trans hgo
            rw [goW_open h0] at hgo
            refine ⟨_, hB1, ?_⟩
            refine ⟨_, hB1, ?_⟩
            refine ⟨_, hB1, ?_⟩
            refine HR.app (n := 0) (i := ti38) hH1 rfl rfl (List.cons_ne_nil _ _) (fun e he => by rw [List.mem_singleton.1 he]; exact ⟨rfl, rfl⟩) ?_ ?_ (Nat.zero_le _) (fun p0 cap0 st1 z0 z1 z2 z3 => ?_)
            · show (List.length _ + 1) * 72 ≤ _; (try simp only [List.length_append, List.length_singleton, List.length_set]); omega
            · show List.length _ + 1 ≤ _; (try simp only [List.length_append, List.length_singleton, List.length_set]); omega
            have hH2 := HR.hs p0 cap0 _ z0
            rw [List.length_append] at hH2
            have hA2 := z1.at' hA1 (fun e => hz e.symm)
            have hB2 := z1.at' hB1 hn1
            have hl2 : st'.heap.length < st1.heap.length := Nat.lt_of_lt_of_le hl1 z1.len
            have hz2 : some p0 ≠ some 0 := fun e => (z2.elim (fun e' => hz (by rw [← e', e])) (fun e' => by have e' : ((st'.heap ++ [zR]).set st'.heap.length l[k].cs).length ≤ p0 := e'; have := Option.some.inj e; omega))
            have hn2 : ¬ some st'.heap.length = some p0 := fun e => (z2.elim (fun e' => hn1 (by rw [← e', e])) (fun e' => by have e' : ((st'.heap ++ [zR]).set st'.heap.length l[k].cs).length ≤ p0 := e'; have := Option.some.inj e; omega))
            refine ⟨_, hB2, ?_⟩
            refine .p rfl qo ?_
            refine HR.app (n := 0) (i := ti38) hH2 rfl rfl (List.cons_ne_nil _ _) (fun e he => by rw [List.mem_singleton.1 he]; exact ⟨rfl, rfl⟩) ?_ ?_ (Nat.zero_le _) (fun p1 cap1 st2 q0 q1 q2 q3 => ?_)
            · show (List.length _ + 1) * 72 ≤ _; (try simp only [List.length_append, List.length_singleton, List.length_set]); omega
            · show List.length _ + 1 ≤ _; (try simp only [List.length_append, List.length_singleton, List.length_set]); omega
            refine ⟨_, q1.at' hB2 hn2, ?_⟩
            refine ⟨_, q1.at' hA2 (fun e => hz2 e.symm), ?_⟩
            intro c hc
            rw [IntWalk.i64_in _ (by omega)] at hc
            obtain rfl : c = ((k + 1 : Nat) : Int) := by omega
            have hfin := HR.hs (st := ⟨st2.heap.set 0 l[k].cs, st2.tk⟩) p1 cap1 _ (q0.keep fun cs h => st_ne (fun e => (q2.elim (fun e' => hz2 (by rw [← e', ← e])) (fun e' => by have := Nat.lt_of_lt_of_le hl2 e'; omega))) h)
            rw [List.length_append] at hfin
            refine ⟨g - 1, by omega, k + 1, _, _, by omega, rfl, _, some p1, l[k], .sl .no 2 (prtL l[k].ps), outW done (some (lst, rs)), some (l[k], [l[k]]), hfin, ?_, st_eq (q1.at' hA2 (fun e => hz2 e.symm)), (fun _ => rfl), hr _ (List.getElem_mem k1), ?_, ?_, ?_⟩
            · exact fun e => (q2.elim (fun e' => hz2 (by rw [← e', e])) (fun e' => by have := Option.some.inj e; have := Nat.lt_of_lt_of_le hl2 e'; omega))
            · exact by have := (hrel.snoc (.b l[k].gk l[k].ga l[k].gb 1)).snoc (.a (ownO l[k])); rw [List.append_assoc (outW done (some (lst, rs)))] at this; exact this
            · exact hgo
            · exact .inr ⟨_, rfl, h0, congrArg (fun n : Nat => (n : Int)) hrel.1⟩
          | true =>
            have hge := hq.1 rfl
            refine ⟨_, hA1, ?_⟩
            refine ⟨_, hB1, ?_⟩
            obtain ⟨tb, htb⟩ : ∃ tb, touchW lst l[k].ga = tb := ⟨_, rfl⟩
            rw [htb] at qt
            refine .p rfl qt ?_
            cases tb with
            | true =>
              have hoff : ∀ last rs', some (lst, rs) = some (last, rs') → ¬ (l[k].g = last.g ∧ touchW last l[k].ga = false) := fun last rs' e h => by
                cases e
                rw [htb] at h
                cases h.2
              refine ⟨_, hB1, ?_⟩
              refine cnd_split (fun h0 => ?_) (fun h0 => ?_)
              · have h0 : l[k].gk = 0 := beq_iff_eq.1 h0
                have hgo := (goW_close hoff).symm.trans hgo
                rw [goW_plain h0] at hgo
                have hA2 := hA1; have hB2 := hB1; have hz2 := hz; have hn2 := hn1; have hH2 := hH1; have hl2 := hl1
                refine ⟨_, hB2, ?_⟩
                refine .p rfl qo ?_
                refine HR.app (n := 0) (i := ti38) hH2 rfl rfl (List.cons_ne_nil _ _) (fun e he => by rw [List.mem_singleton.1 he]; exact ⟨rfl, rfl⟩) ?_ ?_ (Nat.zero_le _) (fun p1 cap1 st2 q0 q1 q2 q3 => ?_)
                · show (List.length _ + 1) * 72 ≤ _; (try simp only [List.length_append, List.length_singleton, List.length_set]); omega
                · show List.length _ + 1 ≤ _; (try simp only [List.length_append, List.length_singleton, List.length_set]); omega
                refine ⟨_, q1.at' hB2 hn2, ?_⟩
                refine ⟨_, q1.at' hA2 (fun e => hz2 e.symm), ?_⟩
                intro c hc
                rw [IntWalk.i64_in _ (by omega)] at hc
                obtain rfl : c = ((k + 1 : Nat) : Int) := by omega
                have hfin := HR.hs (st := ⟨st2.heap.set 0 l[k].cs, st2.tk⟩) p1 cap1 _ (q0.keep fun cs h => st_ne (fun e => (q2.elim (fun e' => hz2 (by rw [← e', ← e])) (fun e' => by have := Nat.lt_of_lt_of_le hl2 e'; omega))) h)
                rw [List.length_append] at hfin
                refine ⟨g - 1, by omega, k + 1, _, _, by omega, rfl, _, some p1, l[k], .sl .no 2 (prtL l[k].ps), outW done (some (lst, rs)) ++ [ownO l[k]], none, hfin, ?_, st_eq (q1.at' hA2 (fun e => hz2 e.symm)), (fun _ => rfl), hr _ (List.getElem_mem k1), ?_, ?_, ?_⟩
                · exact fun e => (q2.elim (fun e' => hz2 (by rw [← e', e])) (fun e' => by have := Option.some.inj e; have := Nat.lt_of_lt_of_le hl2 e'; omega))
                · exact hrel.snoc (.a _)
                · exact hgo
                · exact .inl ⟨rfl, rfl⟩
              have h0 : l[k].gk ≠ 0 := beq_eq_false_iff_ne.1 h0
              have hgo := (goW_close hoff).symm.trans hgo
              rw [goW_open h0] at hgo
              refine ⟨_, hB1, ?_⟩
              refine ⟨_, hB1, ?_⟩
              refine ⟨_, hB1, ?_⟩
              refine HR.app (n := 0) (i := ti38) hH1 rfl rfl (List.cons_ne_nil _ _) (fun e he => by rw [List.mem_singleton.1 he]; exact ⟨rfl, rfl⟩) ?_ ?_ (Nat.zero_le _) (fun p0 cap0 st1 z0 z1 z2 z3 => ?_)
              · show (List.length _ + 1) * 72 ≤ _; (try simp only [List.length_append, List.length_singleton, List.length_set]); omega
              · show List.length _ + 1 ≤ _; (try simp only [List.length_append, List.length_singleton, List.length_set]); omega
              have hH2 := HR.hs p0 cap0 _ z0
              rw [List.length_append] at hH2
              have hA2 := z1.at' hA1 (fun e => hz e.symm)
              have hB2 := z1.at' hB1 hn1
              have hl2 : st'.heap.length < st1.heap.length := Nat.lt_of_lt_of_le hl1 z1.len
              have hz2 : some p0 ≠ some 0 := fun e => (z2.elim (fun e' => hz (by rw [← e', e])) (fun e' => by have e' : ((st'.heap ++ [zR]).set st'.heap.length l[k].cs).length ≤ p0 := e'; have := Option.some.inj e; omega))
              have hn2 : ¬ some st'.heap.length = some p0 := fun e => (z2.elim (fun e' => hn1 (by rw [← e', e])) (fun e' => by have e' : ((st'.heap ++ [zR]).set st'.heap.length l[k].cs).length ≤ p0 := e'; have := Option.some.inj e; omega))
              refine ⟨_, hB2, ?_⟩
              refine .p rfl qo ?_
              refine HR.app (n := 0) (i := ti38) hH2 rfl rfl (List.cons_ne_nil _ _) (fun e he => by rw [List.mem_singleton.1 he]; exact ⟨rfl, rfl⟩) ?_ ?_ (Nat.zero_le _) (fun p1 cap1 st2 q0 q1 q2 q3 => ?_)
              · show (List.length _ + 1) * 72 ≤ _; (try simp only [List.length_append, List.length_singleton, List.length_set]); omega
              · show List.length _ + 1 ≤ _; (try simp only [List.length_append, List.length_singleton, List.length_set]); omega
              refine ⟨_, q1.at' hB2 hn2, ?_⟩
              refine ⟨_, q1.at' hA2 (fun e => hz2 e.symm), ?_⟩
              intro c hc
              rw [IntWalk.i64_in _ (by omega)] at hc
              obtain rfl : c = ((k + 1 : Nat) : Int) := by omega
              have hfin := HR.hs (st := ⟨st2.heap.set 0 l[k].cs, st2.tk⟩) p1 cap1 _ (q0.keep fun cs h => st_ne (fun e => (q2.elim (fun e' => hz2 (by rw [← e', ← e])) (fun e' => by have := Nat.lt_of_lt_of_le hl2 e'; omega))) h)
              rw [List.length_append] at hfin
              refine ⟨g - 1, by omega, k + 1, _, _, by omega, rfl, _, some p1, l[k], .sl .no 2 (prtL l[k].ps), outW done (some (lst, rs)), some (l[k], [l[k]]), hfin, ?_, st_eq (q1.at' hA2 (fun e => hz2 e.symm)), (fun _ => rfl), hr _ (List.getElem_mem k1), ?_, ?_, ?_⟩
              · exact fun e => (q2.elim (fun e' => hz2 (by rw [← e', e])) (fun e' => by have := Option.some.inj e; have := Nat.lt_of_lt_of_le hl2 e'; omega))
              · exact by have := (hrel.snoc (.b l[k].gk l[k].ga l[k].gb 1)).snoc (.a (ownO l[k])); rw [List.append_assoc (outW done (some (lst, rs)))] at this; exact this
              · exact hgo
              · exact .inr ⟨_, rfl, h0, congrArg (fun n : Nat => (n : Int)) hrel.1⟩
            | false =>
              refine ⟨_, hB1, ?_⟩
              refine cnd_split (fun h0 => absurd ((hg0 hge).symm.trans (beq_iff_eq.1 h0)) hgk) (fun h0 => ?_)
              have h0 : l[k].gk ≠ 0 := beq_eq_false_iff_ne.1 h0
              rw [goW_on hge htb] at hgo
              have hol : (outW done (some (lst, rs))).length = done.length + (rs.length + 1) := by simp [outW]
              have hdl : done.length < es.length := by rw [hrel.1, hol]; omega
              have hrl : rs.length < 3000 := by rw [← hrel.1] at hol; omega
              have h4 := hrel.2 done.length es[done.length] (guardO lst.g rs.length) (List.getElem?_eq_getElem hdl) (by simp [outW])
              obtain ⟨c4, c5⟩ := h4.set4
              obtain ⟨⟨zs, hp, hpl⟩, hel, hcap⟩ := hw.keep (b := ⟨(st'.heap ++ [zR]).set st'.heap.length l[k].cs, st'.tk⟩) (fun cs h => st_ne (by have := lt_of h; omega) (ap h))
              have hrows := rows_len (fun e he => (hel e he).1)
              have hpn : p ≠ 0 := fun e => hz (by rw [e])
              refine ⟨done.length, rfl, hdl, ?_⟩
              refine ⟨_, hp, ld1 (c := .i rs.length) rfl (by rw [Nat.zero_add]; exact (rows_at (sz := 5) (j := 4) (fun e he => (hel e he).1) hdl (by omega)).trans c4) ?_⟩
              intro c hc
              rw [IntWalk.i64_in _ (by omega)] at hc
              obtain rfl : c = ((rs.length + 1 : Nat) : Int) := by omega
              refine ⟨done.length, rfl, hdl, ?_⟩
              refine ⟨_, hp, st1' (o := 0 + done.length * 5 + 4) rfl (by rw [List.length_append, hrows]; omega) (rows_set1 (sz := 5) (j := 4) (fun e he => (hel e he).1) hdl (by omega) _) ?_⟩
              have hel2 : ∀ e ∈ es.set done.length (es[done.length].set 4 (.i (rs.length + 1 : Nat))), e.length = 5 ∧ e.all AV.flat = true := fun e he => by
                rcases List.mem_or_eq_of_mem_set he with he | rfl
                · exact hel e he
                · have := hel _ (List.getElem_mem hdl)
                  refine ⟨by rw [List.length_set]; exact this.1, List.all_eq_true.2 fun x hx => ?_⟩
                  rcases List.mem_or_eq_of_mem_set hx with hx | rfl
                  · exact List.all_eq_true.1 this.2 x hx
                  · rfl
              have hA2 := st_ne (x := (es.set done.length (es[done.length].set 4 (.i (rs.length + 1 : Nat)))).flatten ++ zs) hpn hA1
              have hB2 := st_ne (x := (es.set done.length (es[done.length].set 4 (.i (rs.length + 1 : Nat)))).flatten ++ zs) (show p ≠ st'.heap.length by have := lt_of hw.ex.choose_spec.1; omega) hB1
              have hH2 := HR.hs (st := ⟨((st'.heap ++ [zR]).set st'.heap.length l[k].cs).set p ((es.set done.length (es[done.length].set 4 (.i (rs.length + 1 : Nat)))).flatten ++ zs), st'.tk⟩) p cap (es.set done.length (es[done.length].set 4 (.i (rs.length + 1 : Nat)))) ⟨⟨zs, st_eq hp, by rw [List.length_set]; exact hpl⟩, hel2, by rw [List.length_set]; exact hcap⟩
              rw [List.length_set] at hH2
              have hl2 : st'.heap.length < (((st'.heap ++ [zR]).set st'.heap.length l[k].cs).set p ((es.set done.length (es[done.length].set 4 (.i (rs.length + 1 : Nat)))).flatten ++ zs)).length := by simp
              have hz2 := hz
              have hn2 := hn1
              have hrel2 := (hrel.set (i := done.length) (c5 (rs.length + 1 : Nat))).snoc (.a (ownO l[k]))
              refine ⟨_, hB2, ?_⟩
              refine .p rfl qo ?_
              refine HR.app (n := 0) (i := ti38) hH2 rfl rfl (List.cons_ne_nil _ _) (fun e he => by rw [List.mem_singleton.1 he]; exact ⟨rfl, rfl⟩) ?_ ?_ (Nat.zero_le _) (fun p1 cap1 st2 q0 q1 q2 q3 => ?_)
              · show (List.length _ + 1) * 72 ≤ _; (try simp only [List.length_append, List.length_singleton, List.length_set]); omega
              · show List.length _ + 1 ≤ _; (try simp only [List.length_append, List.length_singleton, List.length_set]); omega
              refine ⟨_, q1.at' hB2 hn2, ?_⟩
              refine ⟨_, q1.at' hA2 (fun e => hz2 e.symm), ?_⟩
              intro c hc
              rw [IntWalk.i64_in _ (by omega)] at hc
              obtain rfl : c = ((k + 1 : Nat) : Int) := by omega
              have hfin := HR.hs (st := ⟨st2.heap.set 0 l[k].cs, st2.tk⟩) p1 cap1 _ (q0.keep fun cs h => st_ne (fun e => (q2.elim (fun e' => hz2 (by rw [← e', ← e])) (fun e' => by have := Nat.lt_of_lt_of_le hl2 e'; omega))) h)
              rw [List.length_append] at hfin
              refine ⟨g - 1, by omega, k + 1, _, _, by omega, rfl, _, some p1, l[k], .sl .no 2 (prtL l[k].ps), done, some (l[k], rs ++ [l[k]]), hfin, ?_, st_eq (q1.at' hA2 (fun e => hz2 e.symm)), (fun _ => rfl), hr _ (List.getElem_mem k1), ?_, ?_, ?_⟩
              · exact fun e => (q2.elim (fun e' => hz2 (by rw [← e', e])) (fun e' => by have := Option.some.inj e; have := Nat.lt_of_lt_of_le hl2 e'; omega))
              · exact by rw [← outW_on hge, hge]; exact hrel2
              · exact hgo
              · exact .inr ⟨_, rfl, h0, rfl⟩
        · have hd := of_decide_eq_false hd
          rw [List.drop_of_length_le (by omega)] at hgo
          have hgo := (goW_end done _).symm.trans hgo
          rw [hgo] at hrel
          exact .inr ⟨_, _, rfl, rfl, hrel.resD hH, .inl (.inl ⟨rfl, rfl⟩), trivial⟩
  have h1 := h1
  refine .p rfl qc ?_
  refine cnd_split (fun h1 => ?_) (fun h1 => ?_)
  · have h1 : ce ≠ 0 := bne_iff_ne.1 h1
    unfold compW
    rw [if_neg hsd, if_pos (by rw [hce]; exact h1), hce]
    exact .inr ⟨_, _, rfl, rfl, .inl (.inr (.inl ⟨rfl, 5, rfl⟩)), .inl (.inl ⟨rfl, rfl⟩), trivial⟩
  have h1 : ce = 0 := bne_eq_false_iff_eq.1 h1
  have hcw : compW sd l = (allW (sideL sd l), 0) := by
    unfold compW
    rw [if_neg hsd, if_neg (by rw [hce]; exact fun h => h h1)]
  rw [hcw]
  have haw := allW_len _ _ (Nat.le_refl (sideL sd l).length)
  have hsl := sideL_len sd l
  have goL : ∀ (done : List Opn) run (rest : List Rl), (outW done run).length ≤ (goW done run rest).length := fun done run rest => by
    cases run with
    | none => simp [outW, goW]
    | some p => (try simp [outW, goW]); (try omega)
  refine ⟨_, rfl, ?_⟩
  refine vc_loop [11, 8, 10] (fun g vals st' => ∃ (k : Nat) (a' : AV) (hd : Int), k + g = l.length ∧ vals = [.i k, a', .i hd] ∧ ∃ es rr lst pc done run, HR st' 5 a' rr es ∧ rr ≠ some 0 ∧ st'.heap[0]? = some (Rl.cp lst pc) ∧ (run ≠ none → pc = .sl .no 2 (prtL lst.ps)) ∧ lst.Ok ∧ RelE es (outW done run) ∧ goW done run (sideL sd (l.drop k)) = allW (sideL sd l) ∧ (run = none ∧ hd = -1 ∨ ∃ rs, run = some (lst, rs) ∧ lst.gk ≠ 0 ∧ hd = (done.length : Nat))) l.length rfl ⟨0, .nilS, -1, by omega, rfl, [], none, ⟨0, 0, emB, emB, 0, emB, emB, []⟩, .nilS, [], none, .nil, (fun h => by cases h), rfl, (fun h => absurd rfl h), ⟨by decide, by decide, by decide, by decide, by decide, by decide⟩, ⟨rfl, fun k e o h => by simp at h⟩, rfl, .inl ⟨rfl, rfl⟩⟩ ?_
  rintro g vals st' ⟨k, a', hd, hk, rfl, es, rr, lst, pc, done, run, hH, hz, hA, hpc, hlo, hrel, hgo, hrun⟩
  rcases hrun with ⟨rfl, rfl⟩ | ⟨rs, rfl, hgk, rfl⟩
  · have hx := hH
    cases hx with
    | nil =>
      have hn1 : ¬ some st'.heap.length = none := fun e => by cases e
      have hgl := goL done none (sideL sd (l.drop k))
      rw [hgo, ← hrel.1] at hgl
      refine cnd_split (fun hd => ?_) (fun hd => ?_)
      · have hd := of_decide_eq_true hd
        have k1 : k < l.length := by omega
        have qo := ownR36_p l[k]
        have hA1 : ((st'.heap ++ [zR]).set st'.heap.length l[k].cs)[0]? = some (lst.cp pc) := st_ne (by have := lt_of hA; omega) (ap hA)
        have hB1 : ((st'.heap ++ [zR]).set st'.heap.length l[k].cs)[st'.heap.length]? = some l[k].cs := last_upd _ _ _
        have hH1 := hH.keep (b := ⟨(st'.heap ++ [zR]).set st'.heap.length l[k].cs, st'.tk⟩) (fun p cs _ h => st_ne (by have := lt_of h; omega) (ap h))
        have hl1 : st'.heap.length < ((st'.heap ++ [zR]).set st'.heap.length l[k].cs).length := by simp
        refine ⟨k, _, rfl, rlL_at k1, ?_⟩
        refine ⟨_, last_at _ _, ?_⟩
        refine ⟨_, hB1, ?_⟩
        refine cnd_split (fun hs => ?_) (fun hs => ?_)
        · have hs : l[k].sd ≠ sd := bne_iff_ne.1 hs
          rw [sideL_drop k1, if_neg hs] at hgo
          intro c hc
          rw [IntWalk.i64_in _ (by omega)] at hc
          obtain rfl : c = ((k + 1 : Nat) : Int) := by omega
          exact ⟨g - 1, by omega, k + 1, _, _, by omega, rfl, _, _, lst, pc, done, none, hH1, hz, hA1, (by first | exact (fun h => absurd rfl h) | exact (fun _ => rfl)), hlo, hrel, hgo, .inl ⟨rfl, rfl⟩⟩
        have hs : l[k].sd = sd := bne_eq_false_iff_eq.1 hs
        rw [sideL_drop k1, if_pos hs] at hgo
        have hoff : ∀ last rs, (none : Option (Rl × List Rl)) = some (last, rs) → ¬ (l[k].g = last.g ∧ touchW last l[k].ga = false) := fun last rs e => by cases e
        refine ⟨_, hB1, ?_⟩
        refine cnd_split (fun h0 => ?_) (fun h0 => ?_)
        · have h0 : l[k].gk = 0 := beq_iff_eq.1 h0
          have hgo := (goW_close hoff).symm.trans hgo
          rw [goW_plain h0] at hgo
          have hA2 := hA1; have hB2 := hB1; have hz2 := hz; have hn2 := hn1; have hH2 := hH1; have hl2 := hl1
          refine ⟨_, hB2, ?_⟩
          refine .p rfl qo ?_
          refine HR.app (n := 0) (i := ti38) hH2 rfl rfl (List.cons_ne_nil _ _) (fun e he => by rw [List.mem_singleton.1 he]; exact ⟨rfl, rfl⟩) ?_ ?_ (Nat.zero_le _) (fun p1 cap1 st2 q0 q1 q2 q3 => ?_)
          · show (List.length _ + 1) * 72 ≤ _; (try simp only [List.length_append, List.length_singleton, List.length_set]); omega
          · show List.length _ + 1 ≤ _; (try simp only [List.length_append, List.length_singleton, List.length_set]); omega
          refine ⟨_, q1.at' hB2 hn2, ?_⟩
          refine ⟨_, q1.at' hA2 (fun e => hz2 e.symm), ?_⟩
          intro c hc
          rw [IntWalk.i64_in _ (by omega)] at hc
          obtain rfl : c = ((k + 1 : Nat) : Int) := by omega
          have hfin := HR.hs (st := ⟨st2.heap.set 0 l[k].cs, st2.tk⟩) p1 cap1 _ (q0.keep fun cs h => st_ne (fun e => (q2.elim (fun e' => hz2 (by rw [← e', ← e])) (fun e' => by have := Nat.lt_of_lt_of_le hl2 e'; omega))) h)
          rw [List.length_append] at hfin
          refine ⟨g - 1, by omega, k + 1, _, _, by omega, rfl, _, some p1, l[k], .sl .no 2 (prtL l[k].ps), outW done none ++ [ownO l[k]], none, hfin, ?_, st_eq (q1.at' hA2 (fun e => hz2 e.symm)), (fun _ => rfl), hr _ (List.getElem_mem k1), ?_, ?_, ?_⟩
          · exact fun e => (q2.elim (fun e' => hz2 (by rw [← e', e])) (fun e' => by have := Option.some.inj e; have := Nat.lt_of_lt_of_le hl2 e'; omega))
          · exact hrel.snoc (.a _)
          · exact hgo
          · exact .inl ⟨rfl, rfl⟩
        have h0 : l[k].gk ≠ 0 := beq_eq_false_iff_ne.1 h0
        have hgo := (goW_close hoff).symm.trans hgo
        rw [goW_open h0] at hgo
        refine ⟨_, hB1, ?_⟩
        refine ⟨_, hB1, ?_⟩
        refine ⟨_, hB1, ?_⟩
        refine HR.app (n := 0) (i := ti38) hH1 rfl rfl (List.cons_ne_nil _ _) (fun e he => by rw [List.mem_singleton.1 he]; exact ⟨rfl, rfl⟩) ?_ ?_ (Nat.zero_le _) (fun p0 cap0 st1 z0 z1 z2 z3 => ?_)
        · show (List.length _ + 1) * 72 ≤ _; (try simp only [List.length_append, List.length_singleton, List.length_set]); omega
        · show List.length _ + 1 ≤ _; (try simp only [List.length_append, List.length_singleton, List.length_set]); omega
        have hH2 := HR.hs p0 cap0 _ z0
        rw [List.length_append] at hH2
        have hA2 := z1.at' hA1 (fun e => hz e.symm)
        have hB2 := z1.at' hB1 hn1
        have hl2 : st'.heap.length < st1.heap.length := Nat.lt_of_lt_of_le hl1 z1.len
        have hz2 : some p0 ≠ some 0 := fun e => (z2.elim (fun e' => hz (by rw [← e', e])) (fun e' => by have e' : ((st'.heap ++ [zR]).set st'.heap.length l[k].cs).length ≤ p0 := e'; have := Option.some.inj e; omega))
        have hn2 : ¬ some st'.heap.length = some p0 := fun e => (z2.elim (fun e' => hn1 (by rw [← e', e])) (fun e' => by have e' : ((st'.heap ++ [zR]).set st'.heap.length l[k].cs).length ≤ p0 := e'; have := Option.some.inj e; omega))
        refine ⟨_, hB2, ?_⟩
        refine .p rfl qo ?_
        refine HR.app (n := 0) (i := ti38) hH2 rfl rfl (List.cons_ne_nil _ _) (fun e he => by rw [List.mem_singleton.1 he]; exact ⟨rfl, rfl⟩) ?_ ?_ (Nat.zero_le _) (fun p1 cap1 st2 q0 q1 q2 q3 => ?_)
        · show (List.length _ + 1) * 72 ≤ _; (try simp only [List.length_append, List.length_singleton, List.length_set]); omega
        · show List.length _ + 1 ≤ _; (try simp only [List.length_append, List.length_singleton, List.length_set]); omega
        refine ⟨_, q1.at' hB2 hn2, ?_⟩
        refine ⟨_, q1.at' hA2 (fun e => hz2 e.symm), ?_⟩
        intro c hc
        rw [IntWalk.i64_in _ (by omega)] at hc
        obtain rfl : c = ((k + 1 : Nat) : Int) := by omega
        have hfin := HR.hs (st := ⟨st2.heap.set 0 l[k].cs, st2.tk⟩) p1 cap1 _ (q0.keep fun cs h => st_ne (fun e => (q2.elim (fun e' => hz2 (by rw [← e', ← e])) (fun e' => by have := Nat.lt_of_lt_of_le hl2 e'; omega))) h)
        rw [List.length_append] at hfin
        refine ⟨g - 1, by omega, k + 1, _, _, by omega, rfl, _, some p1, l[k], .sl .no 2 (prtL l[k].ps), outW done none, some (l[k], [l[k]]), hfin, ?_, st_eq (q1.at' hA2 (fun e => hz2 e.symm)), (fun _ => rfl), hr _ (List.getElem_mem k1), ?_, ?_, ?_⟩
        · exact fun e => (q2.elim (fun e' => hz2 (by rw [← e', e])) (fun e' => by have := Option.some.inj e; have := Nat.lt_of_lt_of_le hl2 e'; omega))
        · exact by have := (hrel.snoc (.b l[k].gk l[k].ga l[k].gb 1)).snoc (.a (ownO l[k])); rw [List.append_assoc (outW done none)] at this; exact this
        · exact hgo
        · exact .inr ⟨_, rfl, h0, congrArg (fun n : Nat => (n : Int)) hrel.1⟩
      · have hd := of_decide_eq_false hd
        rw [List.drop_of_length_le (by omega)] at hgo
        have hgo := (goW_end done none).symm.trans hgo
        rw [hgo] at hrel
        exact .inr ⟨_, _, rfl, rfl, hrel.resD hH, .inl (.inl ⟨rfl, rfl⟩), trivial⟩
    | tight =>
      have hn1 : ¬ some st'.heap.length = none := fun e => by cases e
      have hgl := goL done none (sideL sd (l.drop k))
      rw [hgo, ← hrel.1] at hgl
      refine cnd_split (fun hd => ?_) (fun hd => ?_)
      · have hd := of_decide_eq_true hd
        have k1 : k < l.length := by omega
        have qo := ownR36_p l[k]
        have hA1 : ((st'.heap ++ [zR]).set st'.heap.length l[k].cs)[0]? = some (lst.cp pc) := st_ne (by have := lt_of hA; omega) (ap hA)
        have hB1 : ((st'.heap ++ [zR]).set st'.heap.length l[k].cs)[st'.heap.length]? = some l[k].cs := last_upd _ _ _
        have hH1 := hH.keep (b := ⟨(st'.heap ++ [zR]).set st'.heap.length l[k].cs, st'.tk⟩) (fun p cs _ h => st_ne (by have := lt_of h; omega) (ap h))
        have hl1 : st'.heap.length < ((st'.heap ++ [zR]).set st'.heap.length l[k].cs).length := by simp
        refine ⟨k, _, rfl, rlL_at k1, ?_⟩
        refine ⟨_, last_at _ _, ?_⟩
        refine ⟨_, hB1, ?_⟩
        refine cnd_split (fun hs => ?_) (fun hs => ?_)
        · have hs : l[k].sd ≠ sd := bne_iff_ne.1 hs
          rw [sideL_drop k1, if_neg hs] at hgo
          intro c hc
          rw [IntWalk.i64_in _ (by omega)] at hc
          obtain rfl : c = ((k + 1 : Nat) : Int) := by omega
          exact ⟨g - 1, by omega, k + 1, _, _, by omega, rfl, _, _, lst, pc, done, none, hH1, hz, hA1, (by first | exact (fun h => absurd rfl h) | exact (fun _ => rfl)), hlo, hrel, hgo, .inl ⟨rfl, rfl⟩⟩
        have hs : l[k].sd = sd := bne_eq_false_iff_eq.1 hs
        rw [sideL_drop k1, if_pos hs] at hgo
        have hoff : ∀ last rs, (none : Option (Rl × List Rl)) = some (last, rs) → ¬ (l[k].g = last.g ∧ touchW last l[k].ga = false) := fun last rs e => by cases e
        refine ⟨_, hB1, ?_⟩
        refine cnd_split (fun h0 => ?_) (fun h0 => ?_)
        · have h0 : l[k].gk = 0 := beq_iff_eq.1 h0
          have hgo := (goW_close hoff).symm.trans hgo
          rw [goW_plain h0] at hgo
          have hA2 := hA1; have hB2 := hB1; have hz2 := hz; have hn2 := hn1; have hH2 := hH1; have hl2 := hl1
          refine ⟨_, hB2, ?_⟩
          refine .p rfl qo ?_
          refine HR.app (n := 0) (i := ti38) hH2 rfl rfl (List.cons_ne_nil _ _) (fun e he => by rw [List.mem_singleton.1 he]; exact ⟨rfl, rfl⟩) ?_ ?_ (Nat.zero_le _) (fun p1 cap1 st2 q0 q1 q2 q3 => ?_)
          · show (List.length _ + 1) * 72 ≤ _; (try simp only [List.length_append, List.length_singleton, List.length_set]); omega
          · show List.length _ + 1 ≤ _; (try simp only [List.length_append, List.length_singleton, List.length_set]); omega
          refine ⟨_, q1.at' hB2 hn2, ?_⟩
          refine ⟨_, q1.at' hA2 (fun e => hz2 e.symm), ?_⟩
          intro c hc
          rw [IntWalk.i64_in _ (by omega)] at hc
          obtain rfl : c = ((k + 1 : Nat) : Int) := by omega
          have hfin := HR.hs (st := ⟨st2.heap.set 0 l[k].cs, st2.tk⟩) p1 cap1 _ (q0.keep fun cs h => st_ne (fun e => (q2.elim (fun e' => hz2 (by rw [← e', ← e])) (fun e' => by have := Nat.lt_of_lt_of_le hl2 e'; omega))) h)
          rw [List.length_append] at hfin
          refine ⟨g - 1, by omega, k + 1, _, _, by omega, rfl, _, some p1, l[k], .sl .no 2 (prtL l[k].ps), outW done none ++ [ownO l[k]], none, hfin, ?_, st_eq (q1.at' hA2 (fun e => hz2 e.symm)), (fun _ => rfl), hr _ (List.getElem_mem k1), ?_, ?_, ?_⟩
          · exact fun e => (q2.elim (fun e' => hz2 (by rw [← e', e])) (fun e' => by have := Option.some.inj e; have := Nat.lt_of_lt_of_le hl2 e'; omega))
          · exact hrel.snoc (.a _)
          · exact hgo
          · exact .inl ⟨rfl, rfl⟩
        have h0 : l[k].gk ≠ 0 := beq_eq_false_iff_ne.1 h0
        have hgo := (goW_close hoff).symm.trans hgo
        rw [goW_open h0] at hgo
        refine ⟨_, hB1, ?_⟩
        refine ⟨_, hB1, ?_⟩
        refine ⟨_, hB1, ?_⟩
        refine HR.app (n := 0) (i := ti38) hH1 rfl rfl (List.cons_ne_nil _ _) (fun e he => by rw [List.mem_singleton.1 he]; exact ⟨rfl, rfl⟩) ?_ ?_ (Nat.zero_le _) (fun p0 cap0 st1 z0 z1 z2 z3 => ?_)
        · show (List.length _ + 1) * 72 ≤ _; (try simp only [List.length_append, List.length_singleton, List.length_set]); omega
        · show List.length _ + 1 ≤ _; (try simp only [List.length_append, List.length_singleton, List.length_set]); omega
        have hH2 := HR.hs p0 cap0 _ z0
        rw [List.length_append] at hH2
        have hA2 := z1.at' hA1 (fun e => hz e.symm)
        have hB2 := z1.at' hB1 hn1
        have hl2 : st'.heap.length < st1.heap.length := Nat.lt_of_lt_of_le hl1 z1.len
        have hz2 : some p0 ≠ some 0 := fun e => (z2.elim (fun e' => hz (by rw [← e', e])) (fun e' => by have e' : ((st'.heap ++ [zR]).set st'.heap.length l[k].cs).length ≤ p0 := e'; have := Option.some.inj e; omega))
        have hn2 : ¬ some st'.heap.length = some p0 := fun e => (z2.elim (fun e' => hn1 (by rw [← e', e])) (fun e' => by have e' : ((st'.heap ++ [zR]).set st'.heap.length l[k].cs).length ≤ p0 := e'; have := Option.some.inj e; omega))
        refine ⟨_, hB2, ?_⟩
        refine .p rfl qo ?_
        refine HR.app (n := 0) (i := ti38) hH2 rfl rfl (List.cons_ne_nil _ _) (fun e he => by rw [List.mem_singleton.1 he]; exact ⟨rfl, rfl⟩) ?_ ?_ (Nat.zero_le _) (fun p1 cap1 st2 q0 q1 q2 q3 => ?_)
        · show (List.length _ + 1) * 72 ≤ _; (try simp only [List.length_append, List.length_singleton, List.length_set]); omega
        · show List.length _ + 1 ≤ _; (try simp only [List.length_append, List.length_singleton, List.length_set]); omega
        refine ⟨_, q1.at' hB2 hn2, ?_⟩
        refine ⟨_, q1.at' hA2 (fun e => hz2 e.symm), ?_⟩
        intro c hc
        rw [IntWalk.i64_in _ (by omega)] at hc
        obtain rfl : c = ((k + 1 : Nat) : Int) := by omega
        have hfin := HR.hs (st := ⟨st2.heap.set 0 l[k].cs, st2.tk⟩) p1 cap1 _ (q0.keep fun cs h => st_ne (fun e => (q2.elim (fun e' => hz2 (by rw [← e', ← e])) (fun e' => by have := Nat.lt_of_lt_of_le hl2 e'; omega))) h)
        rw [List.length_append] at hfin
        refine ⟨g - 1, by omega, k + 1, _, _, by omega, rfl, _, some p1, l[k], .sl .no 2 (prtL l[k].ps), outW done none, some (l[k], [l[k]]), hfin, ?_, st_eq (q1.at' hA2 (fun e => hz2 e.symm)), (fun _ => rfl), hr _ (List.getElem_mem k1), ?_, ?_, ?_⟩
        · exact fun e => (q2.elim (fun e' => hz2 (by rw [← e', e])) (fun e' => by have := Option.some.inj e; have := Nat.lt_of_lt_of_le hl2 e'; omega))
        · exact by have := (hrel.snoc (.b l[k].gk l[k].ga l[k].gb 1)).snoc (.a (ownO l[k])); rw [List.append_assoc (outW done none)] at this; exact this
        · exact hgo
        · exact .inr ⟨_, rfl, h0, congrArg (fun n : Nat => (n : Int)) hrel.1⟩
      · have hd := of_decide_eq_false hd
        rw [List.drop_of_length_le (by omega)] at hgo
        have hgo := (goW_end done none).symm.trans hgo
        rw [hgo] at hrel
        exact .inr ⟨_, _, rfl, rfl, hrel.resD hH, .inl (.inl ⟨rfl, rfl⟩), trivial⟩
    | hs p cap es hw =>
      have hn1 : ¬ some st'.heap.length = some p := fun e => by have := hH.lt; have := Option.some.inj e; omega
      have hgl := goL done none (sideL sd (l.drop k))
      rw [hgo, ← hrel.1] at hgl
      refine cnd_split (fun hd => ?_) (fun hd => ?_)
      · have hd := of_decide_eq_true hd
        have k1 : k < l.length := by omega
        have qo := ownR36_p l[k]
        have hA1 : ((st'.heap ++ [zR]).set st'.heap.length l[k].cs)[0]? = some (lst.cp pc) := st_ne (by have := lt_of hA; omega) (ap hA)
        have hB1 : ((st'.heap ++ [zR]).set st'.heap.length l[k].cs)[st'.heap.length]? = some l[k].cs := last_upd _ _ _
        have hH1 := hH.keep (b := ⟨(st'.heap ++ [zR]).set st'.heap.length l[k].cs, st'.tk⟩) (fun p cs _ h => st_ne (by have := lt_of h; omega) (ap h))
        have hl1 : st'.heap.length < ((st'.heap ++ [zR]).set st'.heap.length l[k].cs).length := by simp
        refine ⟨k, _, rfl, rlL_at k1, ?_⟩
        refine ⟨_, last_at _ _, ?_⟩
        refine ⟨_, hB1, ?_⟩
        refine cnd_split (fun hs => ?_) (fun hs => ?_)
        · have hs : l[k].sd ≠ sd := bne_iff_ne.1 hs
          rw [sideL_drop k1, if_neg hs] at hgo
          intro c hc
          rw [IntWalk.i64_in _ (by omega)] at hc
          obtain rfl : c = ((k + 1 : Nat) : Int) := by omega
          exact ⟨g - 1, by omega, k + 1, _, _, by omega, rfl, _, _, lst, pc, done, none, hH1, hz, hA1, (by first | exact (fun h => absurd rfl h) | exact (fun _ => rfl)), hlo, hrel, hgo, .inl ⟨rfl, rfl⟩⟩
        have hs : l[k].sd = sd := bne_eq_false_iff_eq.1 hs
        rw [sideL_drop k1, if_pos hs] at hgo
        have hoff : ∀ last rs, (none : Option (Rl × List Rl)) = some (last, rs) → ¬ (l[k].g = last.g ∧ touchW last l[k].ga = false) := fun last rs e => by cases e
        refine ⟨_, hB1, ?_⟩
        refine cnd_split (fun h0 => ?_) (fun h0 => ?_)
        · have h0 : l[k].gk = 0 := beq_iff_eq.1 h0
          have hgo := (goW_close hoff).symm.trans hgo
          rw [goW_plain h0] at hgo
          have hA2 := hA1; have hB2 := hB1; have hz2 := hz; have hn2 := hn1; have hH2 := hH1; have hl2 := hl1
          refine ⟨_, hB2, ?_⟩
          refine .p rfl qo ?_
          refine HR.app (n := 0) (i := ti38) hH2 rfl rfl (List.cons_ne_nil _ _) (fun e he => by rw [List.mem_singleton.1 he]; exact ⟨rfl, rfl⟩) ?_ ?_ (Nat.zero_le _) (fun p1 cap1 st2 q0 q1 q2 q3 => ?_)
          · show (List.length _ + 1) * 72 ≤ _; (try simp only [List.length_append, List.length_singleton, List.length_set]); omega
          · show List.length _ + 1 ≤ _; (try simp only [List.length_append, List.length_singleton, List.length_set]); omega
          refine ⟨_, q1.at' hB2 hn2, ?_⟩
          refine ⟨_, q1.at' hA2 (fun e => hz2 e.symm), ?_⟩
          intro c hc
          rw [IntWalk.i64_in _ (by omega)] at hc
          obtain rfl : c = ((k + 1 : Nat) : Int) := by omega
          have hfin := HR.hs (st := ⟨st2.heap.set 0 l[k].cs, st2.tk⟩) p1 cap1 _ (q0.keep fun cs h => st_ne (fun e => (q2.elim (fun e' => hz2 (by rw [← e', ← e])) (fun e' => by have := Nat.lt_of_lt_of_le hl2 e'; omega))) h)
          rw [List.length_append] at hfin
          refine ⟨g - 1, by omega, k + 1, _, _, by omega, rfl, _, some p1, l[k], .sl .no 2 (prtL l[k].ps), outW done none ++ [ownO l[k]], none, hfin, ?_, st_eq (q1.at' hA2 (fun e => hz2 e.symm)), (fun _ => rfl), hr _ (List.getElem_mem k1), ?_, ?_, ?_⟩
          · exact fun e => (q2.elim (fun e' => hz2 (by rw [← e', e])) (fun e' => by have := Option.some.inj e; have := Nat.lt_of_lt_of_le hl2 e'; omega))
          · exact hrel.snoc (.a _)
          · exact hgo
          · exact .inl ⟨rfl, rfl⟩
        have h0 : l[k].gk ≠ 0 := beq_eq_false_iff_ne.1 h0
        have hgo := (goW_close hoff).symm.trans hgo
        rw [goW_open h0] at hgo
        refine ⟨_, hB1, ?_⟩
        refine ⟨_, hB1, ?_⟩
        refine ⟨_, hB1, ?_⟩
        refine HR.app (n := 0) (i := ti38) hH1 rfl rfl (List.cons_ne_nil _ _) (fun e he => by rw [List.mem_singleton.1 he]; exact ⟨rfl, rfl⟩) ?_ ?_ (Nat.zero_le _) (fun p0 cap0 st1 z0 z1 z2 z3 => ?_)
        · show (List.length _ + 1) * 72 ≤ _; (try simp only [List.length_append, List.length_singleton, List.length_set]); omega
        · show List.length _ + 1 ≤ _; (try simp only [List.length_append, List.length_singleton, List.length_set]); omega
        have hH2 := HR.hs p0 cap0 _ z0
        rw [List.length_append] at hH2
        have hA2 := z1.at' hA1 (fun e => hz e.symm)
        have hB2 := z1.at' hB1 hn1
        have hl2 : st'.heap.length < st1.heap.length := Nat.lt_of_lt_of_le hl1 z1.len
        have hz2 : some p0 ≠ some 0 := fun e => (z2.elim (fun e' => hz (by rw [← e', e])) (fun e' => by have e' : ((st'.heap ++ [zR]).set st'.heap.length l[k].cs).length ≤ p0 := e'; have := Option.some.inj e; omega))
        have hn2 : ¬ some st'.heap.length = some p0 := fun e => (z2.elim (fun e' => hn1 (by rw [← e', e])) (fun e' => by have e' : ((st'.heap ++ [zR]).set st'.heap.length l[k].cs).length ≤ p0 := e'; have := Option.some.inj e; omega))
        refine ⟨_, hB2, ?_⟩
        refine .p rfl qo ?_
        refine HR.app (n := 0) (i := ti38) hH2 rfl rfl (List.cons_ne_nil _ _) (fun e he => by rw [List.mem_singleton.1 he]; exact ⟨rfl, rfl⟩) ?_ ?_ (Nat.zero_le _) (fun p1 cap1 st2 q0 q1 q2 q3 => ?_)
        · show (List.length _ + 1) * 72 ≤ _; (try simp only [List.length_append, List.length_singleton, List.length_set]); omega
        · show List.length _ + 1 ≤ _; (try simp only [List.length_append, List.length_singleton, List.length_set]); omega
        refine ⟨_, q1.at' hB2 hn2, ?_⟩
        refine ⟨_, q1.at' hA2 (fun e => hz2 e.symm), ?_⟩
        intro c hc
        rw [IntWalk.i64_in _ (by omega)] at hc
        obtain rfl : c = ((k + 1 : Nat) : Int) := by omega
        have hfin := HR.hs (st := ⟨st2.heap.set 0 l[k].cs, st2.tk⟩) p1 cap1 _ (q0.keep fun cs h => st_ne (fun e => (q2.elim (fun e' => hz2 (by rw [← e', ← e])) (fun e' => by have := Nat.lt_of_lt_of_le hl2 e'; omega))) h)
        rw [List.length_append] at hfin
        refine ⟨g - 1, by omega, k + 1, _, _, by omega, rfl, _, some p1, l[k], .sl .no 2 (prtL l[k].ps), outW done none, some (l[k], [l[k]]), hfin, ?_, st_eq (q1.at' hA2 (fun e => hz2 e.symm)), (fun _ => rfl), hr _ (List.getElem_mem k1), ?_, ?_, ?_⟩
        · exact fun e => (q2.elim (fun e' => hz2 (by rw [← e', e])) (fun e' => by have := Option.some.inj e; have := Nat.lt_of_lt_of_le hl2 e'; omega))
        · exact by have := (hrel.snoc (.b l[k].gk l[k].ga l[k].gb 1)).snoc (.a (ownO l[k])); rw [List.append_assoc (outW done none)] at this; exact this
        · exact hgo
        · exact .inr ⟨_, rfl, h0, congrArg (fun n : Nat => (n : Int)) hrel.1⟩
      · have hd := of_decide_eq_false hd
        rw [List.drop_of_length_le (by omega)] at hgo
        have hgo := (goW_end done none).symm.trans hgo
        rw [hgo] at hrel
        exact .inr ⟨_, _, rfl, rfl, hrel.resD hH, .inl (.inl ⟨rfl, rfl⟩), trivial⟩
  · have hx := hH
    cases hx with
    | nil => exact absurd hrel.1 (by simp [outW])
    | tight => exact absurd hrel.1 (by simp [outW])
    | hs p cap es hw =>
      have hn1 : ¬ some st'.heap.length = some p := fun e => by have := hH.lt; have := Option.some.inj e; omega
      obtain rfl := hpc (fun e => by cases e)
      have hgl := goL done (some (lst, rs)) (sideL sd (l.drop k))
      rw [hgo, ← hrel.1] at hgl
      refine cnd_split (fun hd => ?_) (fun hd => ?_)
      · have hd := of_decide_eq_true hd
        have k1 : k < l.length := by omega
        have qo := ownR36_p l[k]
        have qt := touches36_p lst l[k].ga hlo (by have := (hr _ (List.getElem_mem k1)).ga; omega)
        have hA1 : ((st'.heap ++ [zR]).set st'.heap.length l[k].cs)[0]? = some (lst.cp (.sl .no 2 (prtL lst.ps))) := st_ne (by have := lt_of hA; omega) (ap hA)
        have hB1 : ((st'.heap ++ [zR]).set st'.heap.length l[k].cs)[st'.heap.length]? = some l[k].cs := last_upd _ _ _
        have hH1 := hH.keep (b := ⟨(st'.heap ++ [zR]).set st'.heap.length l[k].cs, st'.tk⟩) (fun p cs _ h => st_ne (by have := lt_of h; omega) (ap h))
        have hl1 : st'.heap.length < ((st'.heap ++ [zR]).set st'.heap.length l[k].cs).length := by simp
        refine ⟨k, _, rfl, rlL_at k1, ?_⟩
        refine ⟨_, last_at _ _, ?_⟩
        refine ⟨_, hB1, ?_⟩
        refine cnd_split (fun hs => ?_) (fun hs => ?_)
        · have hs : l[k].sd ≠ sd := bne_iff_ne.1 hs
          rw [sideL_drop k1, if_neg hs] at hgo
          intro c hc
          rw [IntWalk.i64_in _ (by omega)] at hc
          obtain rfl : c = ((k + 1 : Nat) : Int) := by omega
          exact ⟨g - 1, by omega, k + 1, _, _, by omega, rfl, _, _, lst, (.sl .no 2 (prtL lst.ps)), done, some (lst, rs), hH1, hz, hA1, (by first | exact (fun h => absurd rfl h) | exact (fun _ => rfl)), hlo, hrel, hgo, .inr ⟨rs, rfl, hgk, rfl⟩⟩
        have hs : l[k].sd = sd := bne_eq_false_iff_eq.1 hs
        rw [sideL_drop k1, if_pos hs] at hgo
        have hg0 : l[k].g = lst.g → l[k].gk = lst.gk := fun e => congrArg Prod.fst e
        refine ⟨_, hB1, ?_⟩
        refine ⟨_, hA1, ?_⟩
        refine ⟨by kernel_rfl, fun q hq => ?_⟩
        have hq : q = true ↔ l[k].gk = lst.gk ∧ l[k].ga = lst.ga ∧ l[k].gb = lst.gb ∧ True := hq
        have hq : q = true ↔ l[k].g = lst.g := by
          rw [hq]
          unfold Rl.g
          rw [Prod.mk.injEq, Prod.mk.injEq]
          exact ⟨fun ⟨a, b, c, _⟩ => ⟨a, b, c⟩, fun ⟨a, b, c⟩ => ⟨a, b, c, trivial⟩⟩
        cases q with
        | false =>
          have hoff : ∀ last rs', some (lst, rs) = some (last, rs') → ¬ (l[k].g = last.g ∧ touchW last l[k].ga = false) := fun last rs' e h => by
            cases e
            have := hq.2 h.1
            cases this
          refine ⟨_, hB1, ?_⟩
          refine cnd_split (fun h0 => ?_) (fun h0 => ?_)
          · have h0 : l[k].gk = 0 := beq_iff_eq.1 h0
            have hgo := (goW_close hoff).symm.trans hgo
            rw [goW_plain h0] at hgo
            have hA2 := hA1; have hB2 := hB1; have hz2 := hz; have hn2 := hn1; have hH2 := hH1; have hl2 := hl1
            refine ⟨_, hB2, ?_⟩
            refine .p rfl qo ?_
            refine HR.app (n := 0) (i := ti38) hH2 rfl rfl (List.cons_ne_nil _ _) (fun e he => by rw [List.mem_singleton.1 he]; exact ⟨rfl, rfl⟩) ?_ ?_ (Nat.zero_le _) (fun p1 cap1 st2 q0 q1 q2 q3 => ?_)
            · show (List.length _ + 1) * 72 ≤ _; (try simp only [List.length_append, List.length_singleton, List.length_set]); omega
            · show List.length _ + 1 ≤ _; (try simp only [List.length_append, List.length_singleton, List.length_set]); omega
            refine ⟨_, q1.at' hB2 hn2, ?_⟩
            refine ⟨_, q1.at' hA2 (fun e => hz2 e.symm), ?_⟩
            intro c hc
            rw [IntWalk.i64_in _ (by omega)] at hc
            obtain rfl : c = ((k + 1 : Nat) : Int) := by omega
            have hfin := HR.hs (st := ⟨st2.heap.set 0 l[k].cs, st2.tk⟩) p1 cap1 _ (q0.keep fun cs h => st_ne (fun e => (q2.elim (fun e' => hz2 (by rw [← e', ← e])) (fun e' => by have := Nat.lt_of_lt_of_le hl2 e'; omega))) h)
            rw [List.length_append] at hfin
            refine ⟨g - 1, by omega, k + 1, _, _, by omega, rfl, _, some p1, l[k], .sl .no 2 (prtL l[k].ps), outW done (some (lst, rs)) ++ [ownO l[k]], none, hfin, ?_, st_eq (q1.at' hA2 (fun e => hz2 e.symm)), (fun _ => rfl), hr _ (List.getElem_mem k1), ?_, ?_, ?_⟩
            · exact fun e => (q2.elim (fun e' => hz2 (by rw [← e', e])) (fun e' => by have := Option.some.inj e; have := Nat.lt_of_lt_of_le hl2 e'; omega))
            · exact hrel.snoc (.a _)
            · exact hgo
            · exact .inl ⟨rfl, rfl⟩
          have h0 : l[k].gk ≠ 0 := beq_eq_false_iff_ne.1 h0
          have hgo := (goW_close hoff).symm.trans hgo
          rw [goW_open h0] at hgo
          refine ⟨_, hB1, ?_⟩
          refine ⟨_, hB1, ?_⟩
          refine ⟨_, hB1, ?_⟩
          refine HR.app (n := 0) (i := ti38) hH1 rfl rfl (List.cons_ne_nil _ _) (fun e he => by rw [List.mem_singleton.1 he]; exact ⟨rfl, rfl⟩) ?_ ?_ (Nat.zero_le _) (fun p0 cap0 st1 z0 z1 z2 z3 => ?_)
          · show (List.length _ + 1) * 72 ≤ _; (try simp only [List.length_append, List.length_singleton, List.length_set]); omega
          · show List.length _ + 1 ≤ _; (try simp only [List.length_append, List.length_singleton, List.length_set]); omega
          have hH2 := HR.hs p0 cap0 _ z0
          rw [List.length_append] at hH2
          have hA2 := z1.at' hA1 (fun e => hz e.symm)
          have hB2 := z1.at' hB1 hn1
          have hl2 : st'.heap.length < st1.heap.length := Nat.lt_of_lt_of_le hl1 z1.len
          have hz2 : some p0 ≠ some 0 := fun e => (z2.elim (fun e' => hz (by rw [← e', e])) (fun e' => by have e' : ((st'.heap ++ [zR]).set st'.heap.length l[k].cs).length ≤ p0 := e'; have := Option.some.inj e; omega))
          have hn2 : ¬ some st'.heap.length = some p0 := fun e => (z2.elim (fun e' => hn1 (by rw [← e', e])) (fun e' => by have e' : ((st'.heap ++ [zR]).set st'.heap.length l[k].cs).length ≤ p0 := e'; have := Option.some.inj e; omega))
          refine ⟨_, hB2, ?_⟩
          refine .p rfl qo ?_
          refine HR.app (n := 0) (i := ti38) hH2 rfl rfl (List.cons_ne_nil _ _) (fun e he => by rw [List.mem_singleton.1 he]; exact ⟨rfl, rfl⟩) ?_ ?_ (Nat.zero_le _) (fun p1 cap1 st2 q0 q1 q2 q3 => ?_)
          · show (List.length _ + 1) * 72 ≤ _; (try simp only [List.length_append, List.length_singleton, List.length_set]); omega
          · show List.length _ + 1 ≤ _; (try simp only [List.length_append, List.length_singleton, List.length_set]); omega
          refine ⟨_, q1.at' hB2 hn2, ?_⟩
          refine ⟨_, q1.at' hA2 (fun e => hz2 e.symm), ?_⟩
          intro c hc
          rw [IntWalk.i64_in _ (by omega)] at hc
          obtain rfl : c = ((k + 1 : Nat) : Int) := by omega
          have hfin := HR.hs (st := ⟨st2.heap.set 0 l[k].cs, st2.tk⟩) p1 cap1 _ (q0.keep fun cs h => st_ne (fun e => (q2.elim (fun e' => hz2 (by rw [← e', ← e])) (fun e' => by have := Nat.lt_of_lt_of_le hl2 e'; omega))) h)
          rw [List.length_append] at hfin
          refine ⟨g - 1, by omega, k + 1, _, _, by omega, rfl, _, some p1, l[k], .sl .no 2 (prtL l[k].ps), outW done (some (lst, rs)), some (l[k], [l[k]]), hfin, ?_, st_eq (q1.at' hA2 (fun e => hz2 e.symm)), (fun _ => rfl), hr _ (List.getElem_mem k1), ?_, ?_, ?_⟩
          · exact fun e => (q2.elim (fun e' => hz2 (by rw [← e', e])) (fun e' => by have := Option.some.inj e; have := Nat.lt_of_lt_of_le hl2 e'; omega))
          · exact by have := (hrel.snoc (.b l[k].gk l[k].ga l[k].gb 1)).snoc (.a (ownO l[k])); rw [List.append_assoc (outW done (some (lst, rs)))] at this; exact this
          · exact hgo
          · exact .inr ⟨_, rfl, h0, congrArg (fun n : Nat => (n : Int)) hrel.1⟩
        | true =>
          have hge := hq.1 rfl
          refine ⟨_, hA1, ?_⟩
          refine ⟨_, hB1, ?_⟩
          obtain ⟨tb, htb⟩ : ∃ tb, touchW lst l[k].ga = tb := ⟨_, rfl⟩
          rw [htb] at qt
          refine .p rfl qt ?_
          cases tb with
          | true =>
            have hoff : ∀ last rs', some (lst, rs) = some (last, rs') → ¬ (l[k].g = last.g ∧ touchW last l[k].ga = false) := fun last rs' e h => by
              cases e
              rw [htb] at h
              cases h.2
            refine ⟨_, hB1, ?_⟩
            refine cnd_split (fun h0 => ?_) (fun h0 => ?_)
            · have h0 : l[k].gk = 0 := beq_iff_eq.1 h0
              have hgo := (goW_close hoff).symm.trans hgo
              rw [goW_plain h0] at hgo
              have hA2 := hA1; have hB2 := hB1; have hz2 := hz; have hn2 := hn1; have hH2 := hH1; have hl2 := hl1
              refine ⟨_, hB2, ?_⟩
              refine .p rfl qo ?_
              refine HR.app (n := 0) (i := ti38) hH2 rfl rfl (List.cons_ne_nil _ _) (fun e he => by rw [List.mem_singleton.1 he]; exact ⟨rfl, rfl⟩) ?_ ?_ (Nat.zero_le _) (fun p1 cap1 st2 q0 q1 q2 q3 => ?_)
              · show (List.length _ + 1) * 72 ≤ _; (try simp only [List.length_append, List.length_singleton, List.length_set]); omega
              · show List.length _ + 1 ≤ _; (try simp only [List.length_append, List.length_singleton, List.length_set]); omega
              refine ⟨_, q1.at' hB2 hn2, ?_⟩
              refine ⟨_, q1.at' hA2 (fun e => hz2 e.symm), ?_⟩
              intro c hc
              rw [IntWalk.i64_in _ (by omega)] at hc
              obtain rfl : c = ((k + 1 : Nat) : Int) := by omega
              have hfin := HR.hs (st := ⟨st2.heap.set 0 l[k].cs, st2.tk⟩) p1 cap1 _ (q0.keep fun cs h => st_ne (fun e => (q2.elim (fun e' => hz2 (by rw [← e', ← e])) (fun e' => by have := Nat.lt_of_lt_of_le hl2 e'; omega))) h)
              rw [List.length_append] at hfin
              refine ⟨g - 1, by omega, k + 1, _, _, by omega, rfl, _, some p1, l[k], .sl .no 2 (prtL l[k].ps), outW done (some (lst, rs)) ++ [ownO l[k]], none, hfin, ?_, st_eq (q1.at' hA2 (fun e => hz2 e.symm)), (fun _ => rfl), hr _ (List.getElem_mem k1), ?_, ?_, ?_⟩
              · exact fun e => (q2.elim (fun e' => hz2 (by rw [← e', e])) (fun e' => by have := Option.some.inj e; have := Nat.lt_of_lt_of_le hl2 e'; omega))
              · exact hrel.snoc (.a _)
              · exact hgo
              · exact .inl ⟨rfl, rfl⟩
            have h0 : l[k].gk ≠ 0 := beq_eq_false_iff_ne.1 h0
            have hgo := (goW_close hoff).symm.trans hgo
            rw [goW_open h0] at hgo
            refine ⟨_, hB1, ?_⟩
            refine ⟨_, hB1, ?_⟩
            refine ⟨_, hB1, ?_⟩
            refine HR.app (n := 0) (i := ti38) hH1 rfl rfl (List.cons_ne_nil _ _) (fun e he => by rw [List.mem_singleton.1 he]; exact ⟨rfl, rfl⟩) ?_ ?_ (Nat.zero_le _) (fun p0 cap0 st1 z0 z1 z2 z3 => ?_)
            · show (List.length _ + 1) * 72 ≤ _; (try simp only [List.length_append, List.length_singleton, List.length_set]); omega
            · show List.length _ + 1 ≤ _; (try simp only [List.length_append, List.length_singleton, List.length_set]); omega
            have hH2 := HR.hs p0 cap0 _ z0
            rw [List.length_append] at hH2
            have hA2 := z1.at' hA1 (fun e => hz e.symm)
            have hB2 := z1.at' hB1 hn1
            have hl2 : st'.heap.length < st1.heap.length := Nat.lt_of_lt_of_le hl1 z1.len
            have hz2 : some p0 ≠ some 0 := fun e => (z2.elim (fun e' => hz (by rw [← e', e])) (fun e' => by have e' : ((st'.heap ++ [zR]).set st'.heap.length l[k].cs).length ≤ p0 := e'; have := Option.some.inj e; omega))
            have hn2 : ¬ some st'.heap.length = some p0 := fun e => (z2.elim (fun e' => hn1 (by rw [← e', e])) (fun e' => by have e' : ((st'.heap ++ [zR]).set st'.heap.length l[k].cs).length ≤ p0 := e'; have := Option.some.inj e; omega))
            refine ⟨_, hB2, ?_⟩
            refine .p rfl qo ?_
            refine HR.app (n := 0) (i := ti38) hH2 rfl rfl (List.cons_ne_nil _ _) (fun e he => by rw [List.mem_singleton.1 he]; exact ⟨rfl, rfl⟩) ?_ ?_ (Nat.zero_le _) (fun p1 cap1 st2 q0 q1 q2 q3 => ?_)
            · show (List.length _ + 1) * 72 ≤ _; (try simp only [List.length_append, List.length_singleton, List.length_set]); omega
            · show List.length _ + 1 ≤ _; (try simp only [List.length_append, List.length_singleton, List.length_set]); omega
            refine ⟨_, q1.at' hB2 hn2, ?_⟩
            refine ⟨_, q1.at' hA2 (fun e => hz2 e.symm), ?_⟩
            intro c hc
            rw [IntWalk.i64_in _ (by omega)] at hc
            obtain rfl : c = ((k + 1 : Nat) : Int) := by omega
            have hfin := HR.hs (st := ⟨st2.heap.set 0 l[k].cs, st2.tk⟩) p1 cap1 _ (q0.keep fun cs h => st_ne (fun e => (q2.elim (fun e' => hz2 (by rw [← e', ← e])) (fun e' => by have := Nat.lt_of_lt_of_le hl2 e'; omega))) h)
            rw [List.length_append] at hfin
            refine ⟨g - 1, by omega, k + 1, _, _, by omega, rfl, _, some p1, l[k], .sl .no 2 (prtL l[k].ps), outW done (some (lst, rs)), some (l[k], [l[k]]), hfin, ?_, st_eq (q1.at' hA2 (fun e => hz2 e.symm)), (fun _ => rfl), hr _ (List.getElem_mem k1), ?_, ?_, ?_⟩
            · exact fun e => (q2.elim (fun e' => hz2 (by rw [← e', e])) (fun e' => by have := Option.some.inj e; have := Nat.lt_of_lt_of_le hl2 e'; omega))
            · exact by have := (hrel.snoc (.b l[k].gk l[k].ga l[k].gb 1)).snoc (.a (ownO l[k])); rw [List.append_assoc (outW done (some (lst, rs)))] at this; exact this
            · exact hgo
            · exact .inr ⟨_, rfl, h0, congrArg (fun n : Nat => (n : Int)) hrel.1⟩
          | false =>
            refine ⟨_, hB1, ?_⟩
            refine cnd_split (fun h0 => absurd ((hg0 hge).symm.trans (beq_iff_eq.1 h0)) hgk) (fun h0 => ?_)
            have h0 : l[k].gk ≠ 0 := beq_eq_false_iff_ne.1 h0
            rw [goW_on hge htb] at hgo
            have hol : (outW done (some (lst, rs))).length = done.length + (rs.length + 1) := by simp [outW]
            have hdl : done.length < es.length := by rw [hrel.1, hol]; omega
            have hrl : rs.length < 3000 := by rw [← hrel.1] at hol; omega
            have h4 := hrel.2 done.length es[done.length] (guardO lst.g rs.length) (List.getElem?_eq_getElem hdl) (by simp [outW])
            obtain ⟨c4, c5⟩ := h4.set4
            obtain ⟨⟨zs, hp, hpl⟩, hel, hcap⟩ := hw.keep (b := ⟨(st'.heap ++ [zR]).set st'.heap.length l[k].cs, st'.tk⟩) (fun cs h => st_ne (by have := lt_of h; omega) (ap h))
            have hrows := rows_len (fun e he => (hel e he).1)
            have hpn : p ≠ 0 := fun e => hz (by rw [e])
            refine ⟨done.length, rfl, hdl, ?_⟩
            refine ⟨_, hp, ld1 (c := .i rs.length) rfl (by rw [Nat.zero_add]; exact (rows_at (sz := 5) (j := 4) (fun e he => (hel e he).1) hdl (by omega)).trans c4) ?_⟩
            intro c hc
            rw [IntWalk.i64_in _ (by omega)] at hc
            obtain rfl : c = ((rs.length + 1 : Nat) : Int) := by omega
            refine ⟨done.length, rfl, hdl, ?_⟩
            refine ⟨_, hp, st1' (o := 0 + done.length * 5 + 4) rfl (by rw [List.length_append, hrows]; omega) (rows_set1 (sz := 5) (j := 4) (fun e he => (hel e he).1) hdl (by omega) _) ?_⟩
            have hel2 : ∀ e ∈ es.set done.length (es[done.length].set 4 (.i (rs.length + 1 : Nat))), e.length = 5 ∧ e.all AV.flat = true := fun e he => by
              rcases List.mem_or_eq_of_mem_set he with he | rfl
              · exact hel e he
              · have := hel _ (List.getElem_mem hdl)
                refine ⟨by rw [List.length_set]; exact this.1, List.all_eq_true.2 fun x hx => ?_⟩
                rcases List.mem_or_eq_of_mem_set hx with hx | rfl
                · exact List.all_eq_true.1 this.2 x hx
                · rfl
            have hA2 := st_ne (x := (es.set done.length (es[done.length].set 4 (.i (rs.length + 1 : Nat)))).flatten ++ zs) hpn hA1
            have hB2 := st_ne (x := (es.set done.length (es[done.length].set 4 (.i (rs.length + 1 : Nat)))).flatten ++ zs) (show p ≠ st'.heap.length by have := lt_of hw.ex.choose_spec.1; omega) hB1
            have hH2 := HR.hs (st := ⟨((st'.heap ++ [zR]).set st'.heap.length l[k].cs).set p ((es.set done.length (es[done.length].set 4 (.i (rs.length + 1 : Nat)))).flatten ++ zs), st'.tk⟩) p cap (es.set done.length (es[done.length].set 4 (.i (rs.length + 1 : Nat)))) ⟨⟨zs, st_eq hp, by rw [List.length_set]; exact hpl⟩, hel2, by rw [List.length_set]; exact hcap⟩
            rw [List.length_set] at hH2
            have hl2 : st'.heap.length < (((st'.heap ++ [zR]).set st'.heap.length l[k].cs).set p ((es.set done.length (es[done.length].set 4 (.i (rs.length + 1 : Nat)))).flatten ++ zs)).length := by simp
            have hz2 := hz
            have hn2 := hn1
            have hrel2 := (hrel.set (i := done.length) (c5 (rs.length + 1 : Nat))).snoc (.a (ownO l[k]))
            refine ⟨_, hB2, ?_⟩
            refine .p rfl qo ?_
            refine HR.app (n := 0) (i := ti38) hH2 rfl rfl (List.cons_ne_nil _ _) (fun e he => by rw [List.mem_singleton.1 he]; exact ⟨rfl, rfl⟩) ?_ ?_ (Nat.zero_le _) (fun p1 cap1 st2 q0 q1 q2 q3 => ?_)
            · show (List.length _ + 1) * 72 ≤ _; (try simp only [List.length_append, List.length_singleton, List.length_set]); omega
            · show List.length _ + 1 ≤ _; (try simp only [List.length_append, List.length_singleton, List.length_set]); omega
            refine ⟨_, q1.at' hB2 hn2, ?_⟩
            refine ⟨_, q1.at' hA2 (fun e => hz2 e.symm), ?_⟩
            intro c hc
            rw [IntWalk.i64_in _ (by omega)] at hc
            obtain rfl : c = ((k + 1 : Nat) : Int) := by omega
            have hfin := HR.hs (st := ⟨st2.heap.set 0 l[k].cs, st2.tk⟩) p1 cap1 _ (q0.keep fun cs h => st_ne (fun e => (q2.elim (fun e' => hz2 (by rw [← e', ← e])) (fun e' => by have := Nat.lt_of_lt_of_le hl2 e'; omega))) h)
            rw [List.length_append] at hfin
            refine ⟨g - 1, by omega, k + 1, _, _, by omega, rfl, _, some p1, l[k], .sl .no 2 (prtL l[k].ps), done, some (l[k], rs ++ [l[k]]), hfin, ?_, st_eq (q1.at' hA2 (fun e => hz2 e.symm)), (fun _ => rfl), hr _ (List.getElem_mem k1), ?_, ?_, ?_⟩
            · exact fun e => (q2.elim (fun e' => hz2 (by rw [← e', e])) (fun e' => by have := Option.some.inj e; have := Nat.lt_of_lt_of_le hl2 e'; omega))
            · exact by rw [← outW_on hge, hge]; exact hrel2
            · exact hgo
            · exact .inr ⟨_, rfl, h0, rfl⟩
      · have hd := of_decide_eq_false hd
        rw [List.drop_of_length_le (by omega)] at hgo
        have hgo := (goW_end done _).symm.trans hgo
        rw [hgo] at hrel
        exact .inr ⟨_, _, rfl, rfl, hrel.resD hH, .inl (.inl ⟨rfl, rfl⟩), trivial⟩
end
end Go.Proofs.YthneihlplijklaaGreatDoor
