/- The decoder is fed. No statement of its own. -/
import Derived.Test.YtookaenbpfpegaaDoorDm
set_option linter.unusedSimpArgs false
set_option linter.unusedVariables false
set_option maxRecDepth 100000
namespace Go.Proofs.YtookaenbpfpegaaDoor
open Go.RowKit
section
variable {st s1 : St} {p L : Nat} {d : Dc} {ln tr l1 t1 : AV} {R : AV → St → Prop}
theorem Kp.out (a : Kp p ln tr l1 t1 st s1) {tk' : List Nat} {t : Nat} (h1 : s1.tk.length ≤ tk'.length) (ht : st.tk.length ≤ t) (h3 : ∀ q, q < s1.tk.length → q ≠ t → tk'[q]? = s1.tk[q]?) : Kp p ln tr l1 t1 st ⟨s1.heap, tk'⟩ :=
  ⟨a.len, a.heap, Nat.le_trans a.tkl h1, fun q q1 q2 q3 => (h3 q (Nat.lt_of_lt_of_le q1 a.tkl) (by omega)).trans (a.tk q q1 q2 q3), a.nl, a.nt⟩
theorem DI.out (hD : DI s1 p L d ln tr) {tk' : List Nat} {t : Nat} (h1 : tkt ln ≠ some t) (h2 : tkt tr ≠ some t) (h3 : ∀ q, q < s1.tk.length → q ≠ t → tk'[q]? = s1.tk[q]?) : DI ⟨s1.heap, tk'⟩ p L d ln tr :=
  ⟨hD.h, hD.l.keep fun q hq => h3 q (hD.tkl hq) (fun e => by subst e; exact h1 hq), hD.t.keep fun q hq => h3 q (hD.tkt' hq) (fun e => by subst e; exact h2 hq), hD.ne, hD.nz⟩
structure OutI (st s1 : St) (o : AV) (acc : List UInt8) (ln tr : AV) : Prop where
  a : Acc 0 s1.tk 1 o (u8L acc)
  n : ∀ t, tkt o = some t → st.tk.length ≤ t ∧ tkt ln ≠ some t ∧ tkt tr ≠ some t
theorem Acc.tlt {tk : List Nat} {sz : Nat} {a : AV} {es : List (List AV)} (h : Acc 0 tk sz a es) {t : Nat} (ht : tkt a = some t) : t < tk.length := by
  cases h with
  | nil => cases ht
  | own t' e es hn hk => cases ht; exact (List.getElem?_eq_some_iff.1 hk).1
attribute [local irreducible] vcApp
set_option maxHeartbeats 2000000 in
theorem feed_a (hD : DI st p L d ln tr) (hI : d.In L) (hs : d.spent ≤ L) (hL : L ≤ 65536) (s : ByteArray) (hsz : s.size ≤ 70000000000000)
    (hR : ∀ st' ln' tr' (o : ByteArray) (x : Rs), runD L d s.data.toList = x → o.data.toList = x.o → Kp p ln tr ln' tr' st st' → DI st' p L x.d ln' tr' → R (.tup [.i x.n, .s o, .b x.dn, .i x.e]) st') : ACalls Tryd.prog 36 [.ptr p 0, .s s] st R := by
  have hmx : maxLen = 9223372036854775807 := rfl
  have hbl := blen s
  have hlF := hD.lnF
  have htF := hD.trF
  have k0 := Kp.refl p ln tr st
  have hDs := hD
  obtain ⟨ln0, hln0⟩ : ∃ x, x = ln := ⟨_, rfl⟩
  obtain ⟨tr0, htr0⟩ : ∃ x, x = tr := ⟨_, rfl⟩
  rw [← hln0, ← htr0] at k0 hR hDs
  rcases hlF with rfl | ⟨t0, e0, es0, rfl⟩ <;> rcases htF with rfl | ⟨t1, e1, es1, rfl⟩
  all_goals
    refine ACalls.of_vc T_ok mixed Tryd.func36 rfl Tryd.call36 ?_
    refine ⟨_, hD.h, ?_⟩
    refine cnd_split (fun h => absurd (beq_iff_eq.1 h) (by have := hI.a; omega)) (fun h => ?_)
    refine vc_loopx 1 [4, 8, 6, 7] (fun g vals st' => ∃ (k : Nat) (acc : List UInt8) (dn : Bool) (e : Int) (o ln' tr' : AV) (d' : Dc), k + g = s.size ∧ vals = [.i k, o, .b dn, .i e] ∧ Kp p ln0 tr0 ln' tr' st st' ∧ DI st' p L d' ln' tr' ∧ OutI st st' o acc ln' tr' ∧ acc.length ≤ k ∧
        ((dn = false ∧ e = 0 ∧ runD L d s.data.toList = (runD L d' (s.data.toList.drop k)).more k acc ∧ d'.In L ∧ d'.spent ≤ L) ∨ ((dn = true ∨ e ≠ 0) ∧ runD L d s.data.toList = ⟨k, acc, dn, e, d'.shut⟩))) s.size
      (fun vals st' => ∃ (k : Nat) (acc : List UInt8) (dn : Bool) (e : Int) (o ln' tr' : AV) (d' : Dc), vals = [.i k, o, .b dn, .i e] ∧ Kp p ln0 tr0 ln' tr' st st' ∧ DI st' p L d' ln' tr' ∧ OutI st st' o acc ln' tr' ∧
        ((dn = false ∧ e = 0 ∧ runD L d s.data.toList = ⟨k, acc, false, 0, d'⟩) ∨ ((dn = true ∨ e ≠ 0) ∧ runD L d s.data.toList = ⟨k, acc, dn, e, d'.shut⟩)))
      rfl ⟨0, [], false, 0, .nilS, ln0, tr0, d, by omega, rfl, k0, hDs, ⟨.nil, fun t h => by cases h⟩, Nat.le_refl _, .inl ⟨rfl, rfl, by rw [List.drop_zero, Rs.more_zero], hI, hs⟩⟩ ?_ ?_
    · rintro g vals st' ⟨k, acc, dn, e, o, ln', tr', d', hk, rfl, kp, hD', hO, hal, hrel⟩
      have hOa := hO.a
      obtain ⟨o0, ho0⟩ : ∃ x, x = o := ⟨_, rfl⟩
      have hQ := hO
      rw [← ho0] at hQ
      generalize hes : u8L acc = es at hOa
      cases hOa
      all_goals
        rcases hrel with ⟨rfl, rfl, hrun, hI', hs'⟩ | ⟨hf, hrun⟩
        · refine cnd_split (fun hd => ?_) (fun hd => ?_)
          · have hd := of_decide_eq_true hd
            have k1 : k < s.size := by omega
            refine ⟨k, rfl, by omega, Nat.le_refl _, ?_⟩
            have hxs : (s.extract k s.size).size = s.size - k := by rw [ByteArray.size_extract]; omega
            have hxl : (s.extract k s.size).data.toList = s.data.toList.drop k := by rw [extB, ← hbl, List.take_length]
            have hdl : (s.data.toList.drop k).length = s.size - k := by rw [List.length_drop]; omega
            refine .s (step_a hD' hI' hs' hL _ (by omega) (by omega) (fun st2 l2 t2 o2 x ex eo kk hd2 => ?_))
            rw [hxl] at ex
            obtain ⟨r1, r2, r3, r4, r5⟩ := stepS_run hI' hs' (s := s.data.toList.drop k) (by omega)
            rw [ex] at r1 r2 r3 r4 r5
            have hOt := fun t ht => hO.a.tlt (t := t) ht
            have hOa2 := hO.a.keep (tk' := st2.tk) (fun t ht => kk.tk t (hOt t ht) (hO.n t ht).2.1 (hO.n t ht).2.2)
            have ho2 : o2.size = x.o.length := by rw [← eo, blen]
            have kp2 := kp.trans kk
            have rel : (x.dn = false ∧ x.e = 0 ∧ runD L d s.data.toList = (runD L x.d (s.data.toList.drop (k + x.n))).more (k + x.n) (acc ++ x.o) ∧ x.d.In L ∧ x.d.spent ≤ L) ∨ ((x.dn = true ∨ x.e ≠ 0) ∧ runD L d s.data.toList = ⟨k + x.n, acc ++ x.o, x.dn, x.e, x.d.shut⟩) := by
              by_cases hf : x.dn = true ∨ x.e ≠ 0
              · right
                refine ⟨hf, ?_⟩
                rw [hrun, r4 hf]
                unfold Rs.more
                simp [Nat.add_comm]
              · left
                obtain ⟨q1, q2, q3, q4, q5⟩ := r5 hf
                refine ⟨q1, q2, ?_, q4, q5⟩
                rw [hrun, q3, Rs.more_more, List.drop_drop, Nat.add_comm x.n k]
            have hfresh : ∀ t, (tkt o0 = some t ∨ (tkt o0 = none ∧ t = st2.tk.length)) → st.tk.length ≤ t ∧ tkt l2 ≠ some t ∧ tkt t2 ≠ some t := fun t ht => by
              have hkl := kp2.tkl
              rcases ht with ht | ⟨_, ht⟩
              · have hn := hQ.n t ht
                have hlt := hQ.a.tlt ht
                exact ⟨hn.1, fun e => (kk.nl t e).elim hn.2.1 (fun e => by omega), fun e => (kk.nt t e).elim hn.2.2 (fun e => by omega)⟩
              · exact ⟨by omega, fun e => by have := hd2.tkl e; omega, fun e => by have := hd2.tkt' e; omega⟩
            refine Acc.appS (i := ti5) rfl rfl hOa2 (by omega) (fun hz hn => ?_) (fun t e tk' q0 q1 q2 q3 => ?_)
            · first
                | exact absurd hn (Option.some_ne_none _)
                | skip
                  intro c hc
                  rw [IntWalk.i64_in _ (by omega)] at hc
                  obtain rfl : c = ((k + x.n : Nat) : Int) := by omega
                  have hxo : x.o = [] := List.eq_nil_of_length_eq_zero (by omega)
                  have hac : acc ++ x.o = acc := by rw [hxo, List.append_nil]
                  exact ⟨g - x.n, by omega, k + x.n, acc ++ x.o, x.dn, x.e, _, l2, t2, x.d, by omega, rfl, kp2, hd2, ⟨by rw [hac]; exact hOa2, fun t ht => (by cases ht)⟩, by simp; omega, rel⟩
            · skip
              intro c hc
              rw [IntWalk.i64_in _ (by omega)] at hc
              obtain rfl : c = ((k + x.n : Nat) : Int) := by omega
              have hf := hfresh t (by rw [ho0]; exact q2)
              exact ⟨g - x.n, by omega, k + x.n, acc ++ x.o, x.dn, x.e, _, l2, t2, x.d, by omega, rfl, kp2.out q1 hf.1 q3, hd2.out hf.2.1 hf.2.2 q3, ⟨by rw [← eo]; exact .own _ _ _ (Nat.zero_le _) q0, fun q hq => by cases hq; exact hf⟩, by simp; omega, rel⟩
          · have hd := of_decide_eq_false hd
            rw [List.drop_of_length_le (by omega)] at hrun
            refine ⟨_, _, false, 0, _, _, _, _, rfl, kp, hD', hO, .inl ⟨rfl, rfl, ?_⟩⟩
            rw [hrun]
            unfold runD Rs.more
            simp
        · refine cnd_split (fun hd => ?_) (fun hd => ?_)
          · cases dn with
            | true => exact ⟨_, _, true, e, _, _, _, _, rfl, kp, hD', hO, .inr ⟨hf, hrun⟩⟩
            | false =>
              refine cnd_split (fun he => ?_) (fun he => ?_)
              · exact absurd (beq_iff_eq.1 he) (hf.elim (fun h => by cases h) id)
              · exact ⟨_, _, false, e, _, _, _, _, rfl, kp, hD', hO, .inr ⟨hf, hrun⟩⟩
          · exact ⟨_, _, dn, e, _, _, _, _, rfl, kp, hD', hO, .inr ⟨hf, hrun⟩⟩
    · rintro vals st' ⟨k, acc, dn, e, o, ln', tr', d', rfl, kp, hD', hO, hrel⟩
      have hOa := hO.a
      generalize hes : u8L acc = es at hOa
      have kp4 := (kp.setp (dcC L d'.shut .nilS tr')).nilL
      have hD4 := DI.nilL hD' (H := st'.heap.set p (dcC L d'.shut .nilS tr')) (st_eq hD'.h) (d' := d'.shut) rfl rfl
      have hlF' := hD'.lnF
      have htF' := hD'.trF
      cases hOa
      case nil =>
        have hac : acc = [] := by cases acc with | nil => rfl | cons a b => cases hes
        subst hac
        rcases hrel with ⟨rfl, rfl, hrun⟩ | ⟨hf, hrun⟩
        · refine .e (by kernel_rfl) ?_
          exact hR st' _ _ ⟨#[]⟩ _ hrun rfl kp hD'
        · have hR := hR _ _ _ ⟨#[]⟩ _ hrun rfl kp4 hD4
          rw [← List.set_set (a := [.i L, .i (4 : Nat), ln', .i d'.left, .i d'.sum, .i d'.spent, tr'])] at hR
          rcases hlF' with rfl | ⟨t2, e2, es2, rfl⟩ <;> rcases htF' with rfl | ⟨t3, e3, es3, rfl⟩
          all_goals
            cases dn with
            | true =>
              refine ⟨_, hD'.h, ?_⟩
              refine ⟨_, st_eq hD'.h, ?_⟩
              refine .e (by kernel_rfl) ?_
              exact hR
            | false =>
              refine cnd_split (fun he => ?_) (fun he => absurd (bne_eq_false_iff_eq.1 he) (hf.elim (fun h => by cases h) id))
              refine ⟨_, hD'.h, ?_⟩
              refine ⟨_, st_eq hD'.h, ?_⟩
              refine .e (by kernel_rfl) ?_
              exact hR
      case own =>
        have hcv : es = (toB acc).data.toList.map fun c => [AV.u8 c] := by rw [← hes, u8L_toB]
        rcases hrel with ⟨rfl, rfl, hrun⟩ | ⟨hf, hrun⟩
        · refine .e (by kernel_rfl) ?_
          refine ⟨toB acc, hcv, ?_⟩
          exact hR st' _ _ (toB acc) _ hrun (toB_l acc) kp hD'
        · have hR := hR _ _ _ (toB acc) _ hrun (toB_l acc) kp4 hD4
          rw [← List.set_set (a := [.i L, .i (4 : Nat), ln', .i d'.left, .i d'.sum, .i d'.spent, tr'])] at hR
          rcases hlF' with rfl | ⟨t2, e2, es2, rfl⟩ <;> rcases htF' with rfl | ⟨t3, e3, es3, rfl⟩
          all_goals
            cases dn with
            | true =>
              refine ⟨_, hD'.h, ?_⟩
              refine ⟨_, st_eq hD'.h, ?_⟩
              refine .e (by kernel_rfl) ?_
              refine ⟨toB acc, hcv, ?_⟩
              exact hR
            | false =>
              refine cnd_split (fun he => ?_) (fun he => absurd (bne_eq_false_iff_eq.1 he) (hf.elim (fun h => by cases h) id))
              refine ⟨_, hD'.h, ?_⟩
              refine ⟨_, st_eq hD'.h, ?_⟩
              refine .e (by kernel_rfl) ?_
              refine ⟨toB acc, hcv, ?_⟩
              exact hR
end
end Go.Proofs.YtookaenbpfpegaaDoor
