/- A body's end, read in the document. No statement of its own. -/
import Derived.Test.YtookaenbpfpegaaDoorPr
import Derived.Test.YtookaenbpfpegaaDoorDk
set_option linter.unusedSimpArgs false
set_option linter.unusedVariables false
set_option maxRecDepth 100000
namespace Go.Proofs.YtookaenbpfpegaaDoor
open Go.RowKit
theorem readW_lim {q : Nat} : ∀ (r : List UInt8) (k : Nat) (cr : Bool) {N : Nat}, readW (some q) k cr r = (N, 0, 0) → N ≠ 0 → N ≤ q
  | [], k, cr, N, h, h0 => by cases h; exact absurd rfl h0
  | b :: r, k, cr, N, h, h0 => by
    rw [readW] at h
    split at h
    · cases h
    rename_i h1
    have h2 : ¬ q < k + 1 := fun h => h1 (.inr ⟨q, rfl, h⟩)
    split at h
    · cases h
    split at h
    · cases h; omega
    · exact readW_lim r (k + 1) (decide (b = 13)) h h0
/-- what becomes of a body from here on -/
def fateE (L : Nat) (d : Dc) (n : Nat) (S : List UInt8) : Int × Int × List Fld × Int :=
  if (runD L d (S.drop n)).dn = true ∨ (runD L d (S.drop n)).e ≠ 0 then ((n + (runD L d (S.drop n)).n : Nat), (runD L d (S.drop n)).e, (runD L d (S.drop n)).d.tr, 0) else (0, 0, (runD L d (S.drop n)).d.tr, (runD L d (S.drop n)).d.line.length)
section
attribute [local irreducible] vcApp
set_option maxHeartbeats 2000000 in
theorem ends19_p (s D : ByteArray) (n L : Nat) (d : Dc) (hd : d.a = 3) (hl : d.line = []) (hs0 : d.spent = 0) (ht : d.tr = []) (hn : n ≤ s.size) (hsz : s.size ≤ 1000000) (hL : L ≤ 65536) :
    APure Tryd.prog 54 [.agg [.i 0, .i 0, .s D, .nilS, .i 0], .s s, .i n, .i L] (.agg [.i (fateE L d n s.data.toList).1, .i (fateE L d n s.data.toList).2.1, .s D, .sl .no 2 (fldL (fateE L d n s.data.toList).2.2.1), .i (fateE L d n s.data.toList).2.2.2]) [] := by
  have hmx : maxLen = 9223372036854775807 := rfl
  obtain ⟨Z, hZ⟩ : ∃ Z, fateE L d n s.data.toList = Z := ⟨_, rfl⟩
  rw [hZ]
  refine ACalls.toPureA rfl ?_
  refine ACalls.of_vc T_ok mixed Tryd.func54 rfl Tryd.call54 ?_
  refine vc_loop [9, 2] (fun g vals st' => ∃ (sp m : Nat) (e : Dc) (a : AV), m + g = s.size ∧ vals = [.i sp, .i m] ∧ st'.heap[0]? = some [.i 0, .i 0, .s D, a, .i 0] ∧ st'.heap[1]? = some [.i 0, .i 0, .s ⟨#[]⟩, .nilS, .i 0] ∧ Acc 0 st'.tk 2 a (fldL e.tr) ∧ e.a = 3 ∧ e.line = [] ∧ e.spent = sp ∧ sp ≤ L ∧ sp ≤ m ∧ e.tr.length ≤ 100 ∧ fateE L e m s.data.toList = Z) (s.size - n) rfl ⟨0, n, d, .nilS, by omega, rfl, rfl, rfl, by rw [ht]; exact .nil, hd, hl, hs0, Nat.zero_le _, Nat.zero_le _, by rw [ht]; exact Nat.zero_le _, hZ⟩ ?_
  rintro g vals st1 ⟨sp, m, e, a, hg, rfl, h0, h1, hA, ha, hln, hsp, hspL, hspm, htl, hf⟩
  obtain ⟨q, hq⟩ : ∃ q, L = sp + q := ⟨L - sp, by omega⟩
  have hlim : limD L e = some q := by unfold limD; rw [if_pos ha, hsp]; congr 1; omega
  have q1 := read19_p s m sp L (some q) hsz (by omega) (by omega) (by omega) (.inr ⟨q, by rw [hq], rfl⟩)
  have hrun := line_run (L := L) (d := e) (.inr ha) hln (by omega) (s.data.toList.drop m)
  rw [hlim] at hrun
  obtain ⟨W, hW⟩ : ∃ W, readW (some q) 0 false (s.data.toList.drop m) = W := ⟨_, rfl⟩
  have hNq := fun N => readW_lim (q := q) (s.data.toList.drop m) 0 false (N := N)
  rw [hW] at q1 hrun hNq
  obtain ⟨WN, WB, WE⟩ := W
  dsimp only at q1
  have hes := fldL_len e.tr
  have hl0 := lt_of h0
  have hl1 := lt_of h1
  have k0 := st_ne (m := st1.heap.length) (x := [.i WN, .i WB, .i WE]) (by omega) (ap (x := [.i 0, .i 0, .i 0]) h0)
  have k1 := st_ne (m := st1.heap.length) (x := [.i WN, .i WB, .i WE]) (by omega) (ap (x := [.i 0, .i 0, .i 0]) h1)
  have kb := last_upd st1.heap [.i 0, .i 0, .i 0] [.i WN, .i WB, .i WE]
  have hbl := blen s
  have hdl : (s.data.toList.drop m).length = s.size - m := by rw [List.length_drop, hbl]
  have n01 : (0 : Nat) ≠ 1 := by decide
  have n0l : (0 : Nat) ≠ st1.heap.length := by omega
  have hA0 := hA
  generalize hee : fldL e.tr = es at hA hes hA0
  cases hA
  all_goals
    refine .p rfl q1 ?_
    refine ⟨_, last_at _ _, ?_⟩
    refine ⟨_, kb, ?_⟩
    rcases hrun with ⟨B, E, X, hw, hB0, hB1, hE, hr, _, hXt⟩ | ⟨hw, hr⟩ | ⟨N, hw, hN2, hN1, hr⟩
    · cases hw
      have hfz : Z = (((m + WB : Nat) : Int), (WE : Int), e.tr, 0) := by
        rw [← hf]
        unfold fateE
        rw [hr, if_pos (.inr (by show (WE : Int) ≠ 0; omega)), hXt]
      subst hfz
      refine cnd_split (fun _ => ?_) (fun h => absurd (of_decide_eq_false h) (by omega))
      refine ⟨_, kb, ?_⟩
      intro c hc
      rw [IntWalk.i64_in _ (by omega)] at hc
      obtain rfl : c = ((m + WB : Nat) : Int) := by omega
      refine ⟨_, k0, ?_⟩
      refine ⟨_, st_ne n0l kb, ?_⟩
      refine ⟨_, st_eq k0, ?_⟩
      refine ⟨_, st_eq (st_eq k0), ?_⟩
      refine ⟨_, st_ne n01 (st_ne n01 k1), ?_⟩
      refine ⟨_, st_eq (st_ne n01 (st_ne n01 k1)), ?_⟩
      refine ⟨_, rfl, .inl ⟨rfl, rfl⟩, .inl ⟨rfl, rfl⟩, .inl ⟨rfl, rfl⟩, ?_, .inl ⟨rfl, rfl⟩, trivial⟩
      show cellW _ (.sl .no 2 (fldL e.tr))
      rw [hee]
      first
        | exact .inr ⟨rfl, 2, rfl⟩
        | exact .inl ⟨rfl, rfl⟩
    · cases hw
      have hfz : Z = (0, 0, e.tr, ((s.size - m : Nat) : Int)) := by
        rw [← hf]
        unfold fateE
        rw [hr, if_neg noFin]
        show (_, _, e.tr, ((e.line ++ s.data.toList.drop m).length : Int)) = _
        rw [hln, List.nil_append, List.length_drop, hbl]
      subst hfz
      refine ⟨_, kb, ?_⟩
      intro c hc
      rw [IntWalk.i64_in _ (by omega)] at hc
      obtain rfl : c = ((s.size - m : Nat) : Int) := by omega
      refine ⟨_, k0, ?_⟩
      refine ⟨_, st_eq k0, ?_⟩
      refine ⟨_, st_ne n01 k1, ?_⟩
      refine ⟨_, st_eq (st_ne n01 k1), ?_⟩
      refine ⟨_, rfl, .inl ⟨rfl, rfl⟩, .inl ⟨rfl, rfl⟩, .inl ⟨rfl, rfl⟩, ?_, .inl ⟨rfl, rfl⟩, trivial⟩
      show cellW _ (.sl .no 2 (fldL e.tr))
      rw [hee]
      first
        | exact .inr ⟨rfl, 2, rfl⟩
        | exact .inl ⟨rfl, rfl⟩
    · cases hw
      refine ⟨_, kb, ?_⟩
      refine cnd_split (fun h => absurd (beq_iff_eq.1 h) (by omega)) (fun _ => ?_)
      have hN3 : WN + m ≤ s.size := by omega
      refine ⟨_, kb, ?_⟩
      intro c hc
      rw [IntWalk.i64_in _ (by omega)] at hc
      obtain rfl : c = ((m + WN : Nat) : Int) := by omega
      intro c hc
      rw [IntWalk.i64_in _ (by omega)] at hc
      obtain rfl : c = ((m + WN - 2 : Nat) : Int) := by omega
      refine ⟨m + WN - 2, rfl, m, rfl, by omega, by omega, ?_⟩
      have hxl : (s.extract m (m + WN - 2)) = toB ((s.data.toList.drop m).take (WN - 2)) := by
        apply toInj
        rw [toB_l, extB, List.drop_take, show m + WN - 2 - m = WN - 2 by omega]
      rw [hxl]
      refine ⟨_, kb, ?_⟩
      intro c hc
      rw [IntWalk.i64_in _ (by omega)] at hc
      obtain rfl : c = ((m + WN : Nat) : Int) := by omega
      refine ⟨_, kb, ?_⟩
      intro c hc
      rw [IntWalk.i64_in _ (by omega)] at hc
      obtain rfl : c = ((sp + WN : Nat) : Int) := by omega
      obtain ⟨sl, hsl⟩ : ∃ sl, sl = toB ((s.data.toList.drop m).take (WN - 2)) := ⟨_, rfl⟩
      have hslz : sl.size ≤ 1000000 := by rw [hsl, toB_size, List.length_take]; omega
      rw [← hsl] at hr ⊢
      have q2 := rparse12_p sl hslz
      have hen : endD (e.next WN) sl = trailD (e.next WN) sl := endD_three (d := e.next WN) ha _
      dsimp only at hr
      rw [hen] at hr
      have hsp2 : (e.next WN).spent = sp + WN := by show (if e.a = 3 then e.spent + WN else e.spent) = _; rw [if_pos ha, hsp]
      intro t ht
      cases t with
      | true =>
        have h0 : sl.size = 0 := by rw [ht.1 rfl]; rfl
        have htr : trailD (e.next WN) sl = (e.next WN, true, 0) := if_pos h0
        rw [htr, if_pos (.inl rfl)] at hr
        have hfz : Z = (((m + WN : Nat) : Int), 0, e.tr, 0) := by
          rw [← hf]
          unfold fateE
          rw [hr, if_pos (.inl rfl)]
          rfl
        subst hfz
        refine ⟨_, k0, ?_⟩
        refine ⟨_, st_eq k0, ?_⟩
        refine ⟨_, st_ne n01 k1, ?_⟩
        refine ⟨_, st_eq (st_ne n01 k1), ?_⟩
        refine ⟨_, rfl, .inl ⟨rfl, rfl⟩, .inl ⟨rfl, rfl⟩, .inl ⟨rfl, rfl⟩, ?_, .inl ⟨rfl, rfl⟩, trivial⟩
        show cellW _ (.sl .no 2 (fldL e.tr))
        rw [hee]
        first
          | exact .inr ⟨rfl, 2, rfl⟩
          | exact .inl ⟨rfl, rfl⟩
      | false =>
        have h0 : ¬ sl.size = 0 := fun h => by have := ht.2 ((emp_iff sl).2 h); cases this
        obtain ⟨P, hP⟩ : ∃ P, parseF sl = P := ⟨_, rfl⟩
        rw [hP] at q2
        obtain ⟨⟨pa, pb⟩, pe⟩ := P
        refine .p rfl q2 ?_
        refine ⟨_, last_at _ _, ?_⟩
        have l9 : ((st1.heap ++ [[AV.i 0, .i 0, .i 0]]).set st1.heap.length [AV.i WN, .i 0, .i 0]).length = st1.heap.length + 1 := by simp
        have m0 := st_ne (m := ((st1.heap ++ [[AV.i 0, .i 0, .i 0]]).set st1.heap.length [AV.i WN, .i 0, .i 0]).length) (x := [.s pa, .s pb]) (by omega) (ap (x := [.s ⟨#[]⟩, .s ⟨#[]⟩]) k0)
        have m1 := st_ne (m := ((st1.heap ++ [[AV.i 0, .i 0, .i 0]]).set st1.heap.length [AV.i WN, .i 0, .i 0]).length) (x := [.s pa, .s pb]) (by omega) (ap (x := [.s ⟨#[]⟩, .s ⟨#[]⟩]) k1)
        have mb := last_upd ((st1.heap ++ [[AV.i 0, .i 0, .i 0]]).set st1.heap.length [AV.i WN, .i 0, .i 0]) [.s ⟨#[]⟩, .s ⟨#[]⟩] [.s pa, .s pb]
        by_cases hpe : pe = 0
        · subst hpe
          have htr : trailD (e.next WN) sl = if 100 ≤ e.tr.length then (e.next WN, false, 3) else ({ e.next WN with tr := e.tr ++ [(pa, pb)] }, false, 0) := by
            unfold trailD
            rw [if_neg h0, hP, if_neg (fun h => h rfl)]
            rfl
          refine ⟨_, m0, ?_⟩
          first
            | refine cnd_split (fun h5 => ?_) (fun h5 => ?_)
              · have h5 := beq_iff_eq.1 h5
                rw [if_pos (by omega)] at htr
                rw [htr, if_pos (.inr (show (3 : Int) ≠ 0 by decide))] at hr
                have hfz : Z = (((m + WN : Nat) : Int), 3, e.tr, 0) := by
                  rw [← hf]
                  unfold fateE
                  rw [hr, if_pos (.inr (show (3 : Int) ≠ 0 by decide))]
                  rfl
                subst hfz
                refine ⟨_, m0, ?_⟩
                refine ⟨_, st_eq m0, ?_⟩
                refine ⟨_, st_eq (st_eq m0), ?_⟩
                refine ⟨_, st_ne n01 (st_ne n01 m1), ?_⟩
                refine ⟨_, st_eq (st_ne n01 (st_ne n01 m1)), ?_⟩
                refine ⟨_, rfl, .inl ⟨rfl, rfl⟩, .inl ⟨rfl, rfl⟩, .inl ⟨rfl, rfl⟩, ?_, .inl ⟨rfl, rfl⟩, trivial⟩
                show cellW _ (.sl .no 2 (fldL e.tr))
                rw [hee]
                first
                  | exact .inr ⟨rfl, 2, rfl⟩
                  | exact .inl ⟨rfl, rfl⟩
              · have h5 := beq_eq_false_iff_ne.1 h5
                have hlt9 : ¬ 100 ≤ e.tr.length := by first | omega | (rw [List.length_nil] at hes; omega)
                rw [if_neg hlt9] at htr
                rw [htr, if_neg noFin] at hr
                refine ⟨_, m0, ?_⟩
                refine ⟨_, mb, ?_⟩
                refine Acc.appK (i := ti55) hA0 (List.cons_ne_nil _ _) ?_ ?_ (fun t9 e9 tk9 z0 z1 z2 z3 => ?_)
                · show (List.length _ + 1) * 32 ≤ _; omega
                · show List.length _ + 1 ≤ _; omega
                refine ⟨_, m0, ?_⟩
                refine ⟨g - WN, by omega, sp + WN, m + WN, { e.next WN with tr := e.tr ++ [(pa, pb)] }, _, by omega, rfl, st_eq m0, st_ne n01 m1, ?_, ha, rfl, hsp2, by have := hNq WN rfl (by omega); omega, by omega, by show (e.tr ++ _).length ≤ _; rw [List.length_append]; show _ + 1 ≤ _; omega, ?_⟩
                · show Acc 0 _ 2 _ (fldL (e.tr ++ [(pa, pb)]))
                  rw [← fldL_app, hee]
                  exact .own _ _ _ (Nat.zero_le _) z0
                · rw [← hf]
                  unfold fateE
                  rw [hr, List.drop_drop]
                  unfold Rs.more
                  dsimp only
                  rw [show ∀ x : Nat, m + (x + WN) = m + WN + x from fun x => by omega]
            | skip
              have hlt9 : ¬ 100 ≤ e.tr.length := by first | omega | (rw [List.length_nil] at hes; omega)
              rw [if_neg hlt9] at htr
              rw [htr, if_neg noFin] at hr
              refine ⟨_, m0, ?_⟩
              refine ⟨_, mb, ?_⟩
              refine Acc.appK (i := ti55) hA0 (List.cons_ne_nil _ _) ?_ ?_ (fun t9 e9 tk9 z0 z1 z2 z3 => ?_)
              · show (List.length _ + 1) * 32 ≤ _; omega
              · show List.length _ + 1 ≤ _; omega
              refine ⟨_, m0, ?_⟩
              refine ⟨g - WN, by omega, sp + WN, m + WN, { e.next WN with tr := e.tr ++ [(pa, pb)] }, _, by omega, rfl, st_eq m0, st_ne n01 m1, ?_, ha, rfl, hsp2, by have := hNq WN rfl (by omega); omega, by omega, by show (e.tr ++ _).length ≤ _; rw [List.length_append]; show _ + 1 ≤ _; omega, ?_⟩
              · show Acc 0 _ 2 _ (fldL (e.tr ++ [(pa, pb)]))
                rw [← fldL_app, hee]
                exact .own _ _ _ (Nat.zero_le _) z0
              · rw [← hf]
                unfold fateE
                rw [hr, List.drop_drop]
                unfold Rs.more
                dsimp only
                rw [show ∀ x : Nat, m + (x + WN) = m + WN + x from fun x => by omega]
        · have htr : trailD (e.next WN) sl = (e.next WN, false, pe) := by
            unfold trailD
            rw [if_neg h0, hP, if_pos hpe]
          rw [htr, if_pos (.inr hpe)] at hr
          have hfz : Z = (((m + WN : Nat) : Int), pe, e.tr, 0) := by
            rw [← hf]
            unfold fateE
            rw [hr, if_pos (.inr hpe)]
            rfl
          subst hfz
          refine cnd_split (fun h => absurd (beq_iff_eq.1 h) hpe) (fun _ => ?_)
          refine cnd_split (fun _ => ?_) (fun h => absurd (bne_eq_false_iff_eq.1 h) hpe)
          refine ⟨_, m0, ?_⟩
          refine ⟨_, st_eq m0, ?_⟩
          refine ⟨_, st_eq (st_eq m0), ?_⟩
          refine ⟨_, st_ne n01 (st_ne n01 m1), ?_⟩
          refine ⟨_, st_eq (st_ne n01 (st_ne n01 m1)), ?_⟩
          refine ⟨_, rfl, .inl ⟨rfl, rfl⟩, .inl ⟨rfl, rfl⟩, .inl ⟨rfl, rfl⟩, ?_, .inl ⟨rfl, rfl⟩, trivial⟩
          show cellW _ (.sl .no 2 (fldL e.tr))
          rw [hee]
          first
            | exact .inr ⟨rfl, 2, rfl⟩
            | exact .inl ⟨rfl, rfl⟩
end
end Go.Proofs.YtookaenbpfpegaaDoor
