/- The decoder's lines, and its feeding. No statement of its own. -/
import Derived.Test.YtookaenbpfpegaaDoorDk
set_option linter.unusedSimpArgs false
set_option linter.unusedVariables false
set_option maxRecDepth 100000
namespace Go.Proofs.YtookaenbpfpegaaDoor
open Go.RowKit
section
attribute [local irreducible] vcApp
variable {st : St} {p L : Nat} {d : Dc} {ln tr : AV} {R : AV → St → Prop}
theorem Kp.tksT {H : List (List AV)} {tr' : AV} {tk' : List Nat} {t : Nat} (a : Kp p ln tr ln tr st ⟨H, st.tk⟩) (ht : tkt tr' = some t) (h1 : st.tk.length ≤ tk'.length) (h2 : tkt tr = some t ∨ (tkt tr = none ∧ t = st.tk.length)) (h3 : ∀ q, q < st.tk.length → q ≠ t → tk'[q]? = st.tk[q]?) : Kp p ln tr ln tr' st ⟨H, tk'⟩ :=
  ⟨a.len, a.heap, h1, fun q q1 q2 q3 => h3 q q1 (fun e => by subst e; exact h2.elim q3 (fun e => by omega)), a.nl, fun q hq => by rw [ht] at hq; cases hq; exact h2.imp id (fun e => by omega)⟩
theorem Kp.tksL {H : List (List AV)} {ln' : AV} {tk' : List Nat} {t : Nat} (a : Kp p ln tr ln tr st ⟨H, st.tk⟩) (ht : tkt ln' = some t) (h1 : st.tk.length ≤ tk'.length) (h2 : tkt ln = some t ∨ (tkt ln = none ∧ t = st.tk.length)) (h3 : ∀ q, q < st.tk.length → q ≠ t → tk'[q]? = st.tk[q]?) : Kp p ln tr ln' tr st ⟨H, tk'⟩ :=
  ⟨a.len, a.heap, h1, fun q q1 q2 q3 => h3 q q1 (fun e => by subst e; exact h2.elim q2 (fun e => by omega)), fun q hq => by rw [ht] at hq; cases hq; exact h2.imp id (fun e => by omega), a.nt⟩
theorem DI.putT (hD : DI st p L d ln tr) {d' : Dc} {H : List (List AV)} {tr' : AV} {tk' : List Nat} {t : Nat} (hH : H[p]? = some (dcC L d' ln tr')) (hl : d'.line = d.line) (hA : Acc 0 tk' 2 tr' (fldL d'.tr)) (ht : tkt tr' = some t) (h2 : tkt tr = some t ∨ (tkt tr = none ∧ t = st.tk.length)) (h3 : ∀ q, q < st.tk.length → q ≠ t → tk'[q]? = st.tk[q]?) : DI ⟨H, tk'⟩ p L d' ln tr' := by
  have hn : ∀ q, tkt ln = some q → q ≠ t := fun q hq e => by
    subst e
    exact h2.elim (hD.ne q hq) (fun e => by have := hD.tkl hq; omega)
  refine ⟨hH, by rw [hl]; exact hD.l.keep (fun q hq => h3 q (hD.tkl hq) (hn q hq)), hA, fun q hq e => ?_, by rw [hl]; exact hD.nz⟩
  rw [ht] at e
  cases e
  exact hn _ hq rfl
theorem DI.putL (hD : DI st p L d ln tr) {d' : Dc} {H : List (List AV)} {ln' : AV} {tk' : List Nat} {t : Nat} (hH : H[p]? = some (dcC L d' ln' tr)) (hl : d'.tr = d.tr) (hnz : d'.line ≠ []) (hA : Acc 0 tk' 1 ln' (u8L d'.line)) (ht : tkt ln' = some t) (h2 : tkt ln = some t ∨ (tkt ln = none ∧ t = st.tk.length)) (h3 : ∀ q, q < st.tk.length → q ≠ t → tk'[q]? = st.tk[q]?) : DI ⟨H, tk'⟩ p L d' ln' tr := by
  have hn : ∀ q, tkt tr = some q → q ≠ t := fun q hq e => by
    subst e
    exact h2.elim (fun e => hD.ne q e hq) (fun e => by have := hD.tkt' hq; omega)
  refine ⟨hH, hA, by rw [hl]; exact hD.t.keep (fun q hq => h3 q (hD.tkt' hq) (hn q hq)), fun q hq e => ?_, fun _ _ => hnz⟩
  rw [ht] at hq
  cases hq
  exact hn _ e rfl
theorem DI.nilL (hD : DI st p L d ln tr) {d' : Dc} {H : List (List AV)} (hH : H[p]? = some (dcC L d' .nilS tr)) (hl : d'.tr = d.tr) (hn : d'.line = []) : DI ⟨H, st.tk⟩ p L d' .nilS tr :=
  ⟨hH, by rw [hn]; exact .nil, by rw [hl]; exact hD.t, fun q hq => (by cases hq), fun q hq => (by cases hq)⟩
theorem trailer_a (hD : DI st p L d ln tr) (hI : d.In L) (s : ByteArray) (hs : s.size ≤ 1000000) (hR : ∀ st' tr', Kp p ln tr ln tr' st st' → DI st' p L (trailD d s).1 ln tr' → R (.tup [.b (trailD d s).2.1, .i (trailD d s).2.2]) st') : ACalls Tryd.prog 97 [.ptr p 0, .s s] st R := by
  have hmx : maxLen = 9223372036854775807 := rfl
  have q := fparse_p s hs
  have hZ : trailD d s = if s.size = 0 then (d, true, 0) else if (parseF s).2 ≠ 0 then (d, false, (parseF s).2) else if 100 ≤ d.tr.length then (d, false, 3) else ({ d with tr := d.tr ++ [(parseF s).1] }, false, 0) := rfl
  generalize trailD d s = Z at hZ hR
  generalize parseF s = r at q hZ
  obtain ⟨⟨f, g⟩, e⟩ := r
  have h6 := hI.tr
  have hlt := hD.lt
  have hel := fldL_len d.tr
  have k0 := ((Kp.refl p ln tr st).alloc [.s ⟨#[]⟩, .s ⟨#[]⟩]).setn (Nat.le_refl _) [.s f, .s g]
  have hlF := hD.lnF
  have htF := hD.t
  have hA := htF
  generalize hes : fldL d.tr = es at hel htF hA
  have hsn := fldL_app d.tr f g
  rw [hes] at hsn
  rcases hlF with rfl | ⟨t0, e0, es0, rfl⟩ <;> cases htF
  all_goals
    refine ACalls.of_vc T_ok mixed Tryd.func97 rfl Tryd.call97 ?_
    intro t ht
    cases t with
    | true =>
      rw [if_pos ((emp_iff s).1 (ht.1 rfl))] at hZ
      subst hZ
      exact hR _ _ (Kp.refl _ _ _ _) hD
    | false =>
    have hs0 : s.size ≠ 0 := fun e => by have := ht.2 ((emp_iff s).2 e); cases this
    rw [if_neg hs0] at hZ
    refine .p rfl q ?_
    have h0 := ap (x := [.s ⟨#[]⟩, .s ⟨#[]⟩]) hD.h
    refine ⟨_, last_at _ _, ?_⟩
    have h1 := st_ne (m := st.heap.length) (x := [.s f, .s g]) (by omega) h0
    refine cnd_split (fun h => ?_) (fun h => ?_)
    · rw [if_pos (bne_iff_ne.1 h)] at hZ
      subst hZ
      exact hR _ _ k0 ⟨h1, hD.l, hD.t, hD.ne, hD.nz⟩
    have h : e = 0 := bne_eq_false_iff_eq.1 h
    rw [if_neg (fun h' => h' h)] at hZ
    refine ⟨_, h1, ?_⟩
    have hfull : 100 ≤ d.tr.length → R (.tup [.b false, .i 3]) ⟨(st.heap ++ [[AV.s ⟨#[]⟩, .s ⟨#[]⟩]]).set st.heap.length [.s f, .s g], st.tk⟩ := fun h => by
      rw [if_pos h] at hZ
      subst hZ
      exact hR _ _ k0 ⟨h1, hD.l, hD.t, hD.ne, hD.nz⟩
    first
      | refine cnd_split (fun h => hfull (by have := of_decide_eq_true h; omega)) (fun h => ?_)
      | have h := (rfl : (decide (100 ≤ ((0 : Nat) : Int))) = false)
    have h99 : ¬ 100 ≤ d.tr.length := by
      have h := of_decide_eq_false h
      have h00 : ([] : List (List AV)).length = 0 := rfl
      omega
    rw [if_neg h99] at hZ
    subst hZ
    refine .e (by kernel_rfl) ?_
    refine ⟨_, h1, ?_⟩
    refine ⟨_, last_upd _ _ _, ?_⟩
    refine Acc.appK (i := ti55) hA (List.cons_ne_nil _ _) ?_ ?_ (fun t e tk' q0 q1 q2 q3 => ?_)
    · show (List.length _ + 1) * 32 ≤ _; omega
    · show List.length _ + 1 ≤ _; omega
    refine ⟨_, h1, ?_⟩
    exact hR _ _ (Kp.tksT (k0.setp _) rfl q1 q2 q3) (hD.putT (st_eq h1) rfl (by show Acc 0 tk' 2 _ (fldL (d.tr ++ [(f, g)])); rw [← hsn]; exact .own _ _ _ (Nat.zero_le _) q0) rfl q2 q3)
theorem getLast_u8 {l : List UInt8} (h : 0 < l.length) : (u8L l)[l.length - 1]? = some [.u8 (l[l.length - 1]'(by omega))] := by
  unfold u8L
  rw [List.getElem?_map, List.getElem?_eq_getElem (by omega)]
  rfl
theorem u8L_take (l : List UInt8) (k : Nat) : ((u8L l).drop 0).take (k - 0) = u8L (l.take k) := by
  unfold u8L; simp
theorem u8L_toB (l : List UInt8) : u8L l = (toB l).data.toList.map fun c => [AV.u8 c] := by rw [toB_l]; rfl
theorem last13 {l : List UInt8} (h : 0 < l.length) : ((l[l.length - 1]'(by omega)).toNat == (13 : Int)) = decide (l.getLast? = some 13) := by
  rw [List.getLast?_eq_getElem?, List.getElem?_eq_getElem (by omega)]
  rw [Bool.eq_iff_iff, beq_iff_eq, decide_eq_true_eq, Option.some.injEq]
  exact ⟨fun h => UInt8.toNat_inj.1 (by show _ = 13; omega), fun h => by rw [h]; rfl⟩
theorem In.spend (hI : d.In L) (h : d.spent ≤ L + 1) : d.spend.In L := by
  unfold Dc.spend
  split
  · exact ⟨hI.a, hI.left, hI.one, hI.two, hI.sum, by show d.spent + 1 ≤ _; omega, hI.line, hI.tr⟩
  · exact hI
theorem spend_e (d : Dc) : d.spend.a = d.a ∧ d.spend.line = d.line ∧ d.spend.tr = d.tr ∧ d.spend.left = d.left ∧ d.spend.sum = d.sum := by unfold Dc.spend; split <;> exact ⟨rfl, rfl, rfl, rfl, rfl⟩
set_option maxHeartbeats 4000000 in
theorem lined_a (hD : DI st p L d ln tr) (hI : d.In L) (b : UInt8) (hs : d.spent ≤ L + 1) (hL : L ≤ 65536) (ha : d.a = 0 ∨ d.a = 3)
    (hR : ∀ st' ln' tr', Kp p ln tr ln' tr' st st' → DI st' p L (linedD L d.spend b).1 ln' tr' → R (.tup [.b (linedD L d.spend b).2.1, .i (linedD L d.spend b).2.2]) st') : ACalls Tryd.prog 73 [.ptr p 0, .u8 b] st R := by
  have hmx : maxLen = 9223372036854775807 := rfl
  obtain ⟨z1, z2, z3, z4, z5⟩ := spend_e d
  have hIs := In.spend hI hs
  have h6 := hI.line
  have hZ : linedD L d.spend b = if 4098 ≤ d.line.length ∨ L < d.spend.spent then (d.spend, false, 3) else if decide (b = 10) ≠ decide (d.line.getLast? = some 13) then (d.spend, false, 24)
    else if b ≠ 10 then ({ d.spend with line := d.line ++ [b] }, false, 0) else endD { d.spend with line := [] } (toB d.line.dropLast) := by unfold linedD; rw [z2]
  generalize linedD L d.spend b = Z at hZ hR
  have hel := u8L_len d.line
  have hDs : ∀ {K : List (List AV)}, K = st.heap.set p (dcC L d.spend ln tr) → DI ⟨K, st.tk⟩ p L d.spend ln tr := fun {K} e => by subst e; exact hD.set z2 z3
  have hsp : d.a = 3 → d.spend = { d with spent := d.spent + 1 } := fun h => if_pos h
  have hsp0 : d.a ≠ 3 → d.spend = d := fun h => if_neg h
  have hI3 : ({ d with spent := d.spent + 1, line := [] } : Dc).In L := ⟨hI.a, hI.left, hI.one, hI.two, hI.sum, by show d.spent + 1 ≤ _; omega, Nat.zero_le _, hI.tr⟩
  have hI4 : ({ d with line := [] } : Dc).In L := ⟨hI.a, hI.left, hI.one, hI.two, hI.sum, hI.spent, Nat.zero_le _, hI.tr⟩
  have hb10 : ((b.toNat : Int) == 10) = decide (b = 10) := by
    rw [Bool.eq_iff_iff, beq_iff_eq, decide_eq_true_eq]
    exact ⟨fun h => UInt8.toNat_inj.1 (by show _ = 10; omega), fun h => by rw [h]; rfl⟩
  have hsn := u8L_app d.line b
  have hlF := hD.l
  have hA := hlF
  have htF := hD.trF
  have hnz := hD.nz
  generalize hes : u8L d.line = es at hel hlF hA hsn
  cases hlF
  case nil =>
    rcases htF with rfl | ⟨t1, e1, es1, rfl⟩
    all_goals
      refine ACalls.of_vc T_ok mixed Tryd.func73 rfl Tryd.call73 ?_
      refine ⟨_, hD.h, ?_⟩
      refine cnd_split (fun h3 => ?_) (fun h3 => ?_)
    · rw [hsp (by have := beq_iff_eq.1 h3; omega)] at hZ hDs
      dsimp only at hZ
      refine ⟨_, hD.h, ?_⟩
      intro c hc
      rw [IntWalk.i64_in _ (by omega)] at hc
      obtain rfl : c = ((d.spent + 1 : Nat) : Int) := by omega
      refine ⟨_, hD.h, ?_⟩
      refine ⟨_, (st_eq hD.h), ?_⟩
      refine .e (by kernel_rfl) ?_
      refine ⟨_, (st_eq hD.h), ?_⟩
      refine ⟨_, (st_eq hD.h), ?_⟩
      refine cnd_split (fun h => ?_) (fun h => ?_)
      · rw [if_pos (.inr (by have := of_decide_eq_true h; omega))] at hZ
        subst hZ
        exact hR _ _ _ ((Kp.refl _ _ _ st).setp _) (hDs rfl)
      rw [if_neg (fun h' => h'.elim (fun h' => by have h00 : ([] : List (List AV)).length = 0 := rfl; omega) (fun h' => by have := of_decide_eq_false h; omega))] at hZ
      have hcr : decide (d.line.getLast? = some 13) = false := by
        rw [List.eq_nil_of_length_eq_zero (l := d.line) (by have h00 : ([] : List (List AV)).length = 0 := rfl; omega)]
        rfl
      refine cnd_split (fun h => ?_) (fun h => ?_)
      · rw [if_pos (by rw [← hb10, hcr]; exact beq_eq_false_iff_ne.1 (by simpa only [Bool.not_eq_true'] using h))] at hZ
        subst hZ
        exact hR _ _ _ ((Kp.refl _ _ _ st).setp _) (hDs rfl)
      have hbc := beq_iff_eq.1 (by simpa only [Bool.not_eq_false'] using h)
      rw [if_neg (by rw [← hb10, hcr]; exact fun h' => h' hbc)] at hZ
      refine cnd_split (fun h => ?_) (fun h => ?_)
      · rw [if_pos (by intro e; subst e; cases h)] at hZ
        subst hZ
        refine ⟨_, (st_eq hD.h), ?_⟩
        refine Acc.appK (i := ti5) hA (List.cons_ne_nil _ _) ?_ ?_ (fun t e tk' q0 q1 q2 q3 => ?_)
        · show (List.length _ + 1) * 1 ≤ _; omega
        · show List.length _ + 1 ≤ _; omega
        refine ⟨_, (st_eq hD.h), ?_⟩
        exact hR _ _ _ (Kp.tksL ((((Kp.refl _ _ _ st).setp _)).setp _) rfl q1 q2 q3) (DI.putL (hDs rfl) (st_eq (st_eq hD.h)) rfl (by simp) (by show Acc 0 tk' 1 _ (u8L (d.line ++ [b])); rw [← hsn]; exact .own _ _ _ (Nat.zero_le _) q0) rfl q2 q3)
      have h10 : ((b.toNat : Int) == 10) = true := beq_iff_eq.2 (bne_eq_false_iff_eq.1 h)
      rw [h10] at hbc
      cases hbc
    · rw [hsp0 (by have := beq_eq_false_iff_ne.1 h3; omega)] at hZ hDs
      refine ⟨_, hD.h, ?_⟩
      refine .e (by kernel_rfl) ?_
      refine ⟨_, hD.h, ?_⟩
      refine ⟨_, hD.h, ?_⟩
      refine cnd_split (fun h => ?_) (fun h => ?_)
      · rw [if_pos (.inr (by have := of_decide_eq_true h; omega))] at hZ
        subst hZ
        exact hR _ _ _ (Kp.refl _ _ _ st) hD
      rw [if_neg (fun h' => h'.elim (fun h' => by have h00 : ([] : List (List AV)).length = 0 := rfl; omega) (fun h' => by have := of_decide_eq_false h; omega))] at hZ
      have hcr : decide (d.line.getLast? = some 13) = false := by
        rw [List.eq_nil_of_length_eq_zero (l := d.line) (by have h00 : ([] : List (List AV)).length = 0 := rfl; omega)]
        rfl
      refine cnd_split (fun h => ?_) (fun h => ?_)
      · rw [if_pos (by rw [← hb10, hcr]; exact beq_eq_false_iff_ne.1 (by simpa only [Bool.not_eq_true'] using h))] at hZ
        subst hZ
        exact hR _ _ _ (Kp.refl _ _ _ st) hD
      have hbc := beq_iff_eq.1 (by simpa only [Bool.not_eq_false'] using h)
      rw [if_neg (by rw [← hb10, hcr]; exact fun h' => h' hbc)] at hZ
      refine cnd_split (fun h => ?_) (fun h => ?_)
      · rw [if_pos (by intro e; subst e; cases h)] at hZ
        subst hZ
        refine ⟨_, hD.h, ?_⟩
        refine Acc.appK (i := ti5) hA (List.cons_ne_nil _ _) ?_ ?_ (fun t e tk' q0 q1 q2 q3 => ?_)
        · show (List.length _ + 1) * 1 ≤ _; omega
        · show List.length _ + 1 ≤ _; omega
        refine ⟨_, hD.h, ?_⟩
        exact hR _ _ _ (Kp.tksL (((Kp.refl _ _ _ st)).setp _) rfl q1 q2 q3) (DI.putL hD (st_eq hD.h) rfl (by simp) (by show Acc 0 tk' 1 _ (u8L (d.line ++ [b])); rw [← hsn]; exact .own _ _ _ (Nat.zero_le _) q0) rfl q2 q3)
      have h10 : ((b.toNat : Int) == 10) = true := beq_iff_eq.2 (bne_eq_false_iff_eq.1 h)
      rw [h10] at hbc
      cases hbc
    · rw [hsp (by have := beq_iff_eq.1 h3; omega)] at hZ hDs
      dsimp only at hZ
      refine ⟨_, hD.h, ?_⟩
      intro c hc
      rw [IntWalk.i64_in _ (by omega)] at hc
      obtain rfl : c = ((d.spent + 1 : Nat) : Int) := by omega
      refine ⟨_, hD.h, ?_⟩
      refine ⟨_, (st_eq hD.h), ?_⟩
      refine .e (by kernel_rfl) ?_
      refine ⟨_, (st_eq hD.h), ?_⟩
      refine ⟨_, (st_eq hD.h), ?_⟩
      refine cnd_split (fun h => ?_) (fun h => ?_)
      · rw [if_pos (.inr (by have := of_decide_eq_true h; omega))] at hZ
        subst hZ
        exact hR _ _ _ ((Kp.refl _ _ _ st).setp _) (hDs rfl)
      rw [if_neg (fun h' => h'.elim (fun h' => by have h00 : ([] : List (List AV)).length = 0 := rfl; omega) (fun h' => by have := of_decide_eq_false h; omega))] at hZ
      have hcr : decide (d.line.getLast? = some 13) = false := by
        rw [List.eq_nil_of_length_eq_zero (l := d.line) (by have h00 : ([] : List (List AV)).length = 0 := rfl; omega)]
        rfl
      refine cnd_split (fun h => ?_) (fun h => ?_)
      · rw [if_pos (by rw [← hb10, hcr]; exact beq_eq_false_iff_ne.1 (by simpa only [Bool.not_eq_true'] using h))] at hZ
        subst hZ
        exact hR _ _ _ ((Kp.refl _ _ _ st).setp _) (hDs rfl)
      have hbc := beq_iff_eq.1 (by simpa only [Bool.not_eq_false'] using h)
      rw [if_neg (by rw [← hb10, hcr]; exact fun h' => h' hbc)] at hZ
      refine cnd_split (fun h => ?_) (fun h => ?_)
      · rw [if_pos (by intro e; subst e; cases h)] at hZ
        subst hZ
        refine ⟨_, (st_eq hD.h), ?_⟩
        refine Acc.appK (i := ti5) hA (List.cons_ne_nil _ _) ?_ ?_ (fun t e tk' q0 q1 q2 q3 => ?_)
        · show (List.length _ + 1) * 1 ≤ _; omega
        · show List.length _ + 1 ≤ _; omega
        refine ⟨_, (st_eq hD.h), ?_⟩
        exact hR _ _ _ (Kp.tksL ((((Kp.refl _ _ _ st).setp _)).setp _) rfl q1 q2 q3) (DI.putL (hDs rfl) (st_eq (st_eq hD.h)) rfl (by simp) (by show Acc 0 tk' 1 _ (u8L (d.line ++ [b])); rw [← hsn]; exact .own _ _ _ (Nat.zero_le _) q0) rfl q2 q3)
      have h10 : ((b.toNat : Int) == 10) = true := beq_iff_eq.2 (bne_eq_false_iff_eq.1 h)
      rw [h10] at hbc
      cases hbc
    · rw [hsp0 (by have := beq_eq_false_iff_ne.1 h3; omega)] at hZ hDs
      refine ⟨_, hD.h, ?_⟩
      refine .e (by kernel_rfl) ?_
      refine ⟨_, hD.h, ?_⟩
      refine ⟨_, hD.h, ?_⟩
      refine cnd_split (fun h => ?_) (fun h => ?_)
      · rw [if_pos (.inr (by have := of_decide_eq_true h; omega))] at hZ
        subst hZ
        exact hR _ _ _ (Kp.refl _ _ _ st) hD
      rw [if_neg (fun h' => h'.elim (fun h' => by have h00 : ([] : List (List AV)).length = 0 := rfl; omega) (fun h' => by have := of_decide_eq_false h; omega))] at hZ
      have hcr : decide (d.line.getLast? = some 13) = false := by
        rw [List.eq_nil_of_length_eq_zero (l := d.line) (by have h00 : ([] : List (List AV)).length = 0 := rfl; omega)]
        rfl
      refine cnd_split (fun h => ?_) (fun h => ?_)
      · rw [if_pos (by rw [← hb10, hcr]; exact beq_eq_false_iff_ne.1 (by simpa only [Bool.not_eq_true'] using h))] at hZ
        subst hZ
        exact hR _ _ _ (Kp.refl _ _ _ st) hD
      have hbc := beq_iff_eq.1 (by simpa only [Bool.not_eq_false'] using h)
      rw [if_neg (by rw [← hb10, hcr]; exact fun h' => h' hbc)] at hZ
      refine cnd_split (fun h => ?_) (fun h => ?_)
      · rw [if_pos (by intro e; subst e; cases h)] at hZ
        subst hZ
        refine ⟨_, hD.h, ?_⟩
        refine Acc.appK (i := ti5) hA (List.cons_ne_nil _ _) ?_ ?_ (fun t e tk' q0 q1 q2 q3 => ?_)
        · show (List.length _ + 1) * 1 ≤ _; omega
        · show List.length _ + 1 ≤ _; omega
        refine ⟨_, hD.h, ?_⟩
        exact hR _ _ _ (Kp.tksL (((Kp.refl _ _ _ st)).setp _) rfl q1 q2 q3) (DI.putL hD (st_eq hD.h) rfl (by simp) (by show Acc 0 tk' 1 _ (u8L (d.line ++ [b])); rw [← hsn]; exact .own _ _ _ (Nat.zero_le _) q0) rfl q2 q3)
      have h10 : ((b.toNat : Int) == 10) = true := beq_iff_eq.2 (bne_eq_false_iff_eq.1 h)
      rw [h10] at hbc
      cases hbc
  case own =>
    rcases htF with rfl | ⟨t1, e1, es1, rfl⟩
    all_goals
      refine ACalls.of_vc T_ok mixed Tryd.func73 rfl Tryd.call73 ?_
      refine ⟨_, hD.h, ?_⟩
      refine cnd_split (fun h3 => ?_) (fun h3 => ?_)
    · rw [hsp (by have := beq_iff_eq.1 h3; omega)] at hZ hDs
      dsimp only at hZ
      refine ⟨_, hD.h, ?_⟩
      intro c hc
      rw [IntWalk.i64_in _ (by omega)] at hc
      obtain rfl : c = ((d.spent + 1 : Nat) : Int) := by omega
      refine ⟨_, hD.h, ?_⟩
      refine ⟨_, (st_eq hD.h), ?_⟩
      refine cnd_split (fun h0 => ?_) (fun h0 => absurd (List.eq_nil_of_length_eq_zero (l := d.line) (by have := of_decide_eq_false h0; omega)) (hnz _ rfl))
      have hpos : 0 < d.line.length := by have := of_decide_eq_true h0; omega
      refine ⟨_, (st_eq hD.h), ?_⟩
      intro c hc
      rw [IntWalk.i64_in _ (by omega)] at hc
      obtain rfl : c = ((d.line.length - 1 : Nat) : Int) := by omega
      refine ⟨d.line.length - 1, _, rfl, (hes ▸ getLast_u8 hpos), ?_⟩
      refine .e (by kernel_rfl) ?_
      refine cnd_split (fun h => ?_) (fun h => ?_)
      · rw [if_pos (.inl (by have := of_decide_eq_true h; omega))] at hZ
        subst hZ
        exact hR _ _ _ ((Kp.refl _ _ _ st).setp _) (hDs rfl)
      refine ⟨_, (st_eq hD.h), ?_⟩
      refine ⟨_, (st_eq hD.h), ?_⟩
      refine cnd_split (fun h2 => ?_) (fun h2 => ?_)
      · rw [if_pos (.inr (by have := of_decide_eq_true h2; omega))] at hZ
        subst hZ
        exact hR _ _ _ ((Kp.refl _ _ _ st).setp _) (hDs rfl)
      rw [if_neg (fun h' => h'.elim (fun h' => by have := of_decide_eq_false h; omega) (fun h' => by have := of_decide_eq_false h2; omega))] at hZ
      have hcr := (last13 hpos).symm
      refine cnd_split (fun h => ?_) (fun h => ?_)
      · rw [if_pos (by rw [← hb10, hcr]; exact beq_eq_false_iff_ne.1 (by simpa only [Bool.not_eq_true'] using h))] at hZ
        subst hZ
        exact hR _ _ _ ((Kp.refl _ _ _ st).setp _) (hDs rfl)
      have hbc := beq_iff_eq.1 (by simpa only [Bool.not_eq_false'] using h)
      rw [if_neg (by rw [← hb10, hcr]; exact fun h' => h' hbc)] at hZ
      refine cnd_split (fun h => ?_) (fun h => ?_)
      · rw [if_pos (by intro e; subst e; cases h)] at hZ
        subst hZ
        refine ⟨_, (st_eq hD.h), ?_⟩
        refine Acc.appK (i := ti5) hA (List.cons_ne_nil _ _) ?_ ?_ (fun t e tk' q0 q1 q2 q3 => ?_)
        · show (List.length _ + 1) * 1 ≤ _; omega
        · show List.length _ + 1 ≤ _; omega
        refine ⟨_, (st_eq hD.h), ?_⟩
        exact hR _ _ _ (Kp.tksL ((((Kp.refl _ _ _ st).setp _)).setp _) rfl q1 q2 q3) (DI.putL (hDs rfl) (st_eq (st_eq hD.h)) rfl (by simp) (by show Acc 0 tk' 1 _ (u8L (d.line ++ [b])); rw [← hsn]; exact .own _ _ _ (Nat.zero_le _) q0) rfl q2 q3)
      have h10 : b = 10 := UInt8.toNat_inj.1 (by have := bne_eq_false_iff_eq.1 h; show _ = 10; omega)
      rw [if_neg (fun h' => h' h10)] at hZ
      refine ⟨_, (st_eq hD.h), ?_⟩
      intro c hc
      rw [IntWalk.i64_in _ (by omega)] at hc
      obtain rfl : c = ((d.line.length - 1 : Nat) : Int) := by omega
      refine ⟨d.line.length - 1, rfl, Nat.zero_le _, by omega, ?_⟩
      refine ⟨toB d.line.dropLast, by rw [← u8L_toB, ← hes, u8L_take, List.dropLast_eq_take], ?_⟩
      refine ⟨_, (st_eq hD.h), ?_⟩
      refine ⟨_, st_eq (st_eq hD.h), ?_⟩
      have hts : (toB d.line.dropLast).size ≤ 1000000 := by rw [toB_size, List.length_dropLast]; omega
      refine cnd_split (fun h => ?_) (fun h => ?_)
      · refine .s (size_a (DI.nilL (hDs rfl) (st_eq (st_eq hD.h)) (d' := { d with spent := d.spent + 1, line := [] }) rfl rfl) hI3 _ hts (fun st' k x => ?_))
        rw [endD, if_pos (by have := beq_iff_eq.1 h; show d.a = 0; omega)] at hZ
        subst hZ
        exact hR _ _ _ (((((Kp.refl _ _ _ st).setp _)).setp _).nilL.trans k) x
      · refine .s (trailer_a (DI.nilL (hDs rfl) (st_eq (st_eq hD.h)) (d' := { d with spent := d.spent + 1, line := [] }) rfl rfl) hI3 _ hts (fun st' tr' k x => ?_))
        rw [endD, if_neg (by have := beq_eq_false_iff_ne.1 h; show ¬ d.a = 0; omega)] at hZ
        subst hZ
        exact hR _ _ _ (((((Kp.refl _ _ _ st).setp _)).setp _).nilL.trans k) x
    · rw [hsp0 (by have := beq_eq_false_iff_ne.1 h3; omega)] at hZ hDs
      refine ⟨_, hD.h, ?_⟩
      refine cnd_split (fun h0 => ?_) (fun h0 => absurd (List.eq_nil_of_length_eq_zero (l := d.line) (by have := of_decide_eq_false h0; omega)) (hnz _ rfl))
      have hpos : 0 < d.line.length := by have := of_decide_eq_true h0; omega
      refine ⟨_, hD.h, ?_⟩
      intro c hc
      rw [IntWalk.i64_in _ (by omega)] at hc
      obtain rfl : c = ((d.line.length - 1 : Nat) : Int) := by omega
      refine ⟨d.line.length - 1, _, rfl, (hes ▸ getLast_u8 hpos), ?_⟩
      refine .e (by kernel_rfl) ?_
      refine cnd_split (fun h => ?_) (fun h => ?_)
      · rw [if_pos (.inl (by have := of_decide_eq_true h; omega))] at hZ
        subst hZ
        exact hR _ _ _ (Kp.refl _ _ _ st) hD
      refine ⟨_, hD.h, ?_⟩
      refine ⟨_, hD.h, ?_⟩
      refine cnd_split (fun h2 => ?_) (fun h2 => ?_)
      · rw [if_pos (.inr (by have := of_decide_eq_true h2; omega))] at hZ
        subst hZ
        exact hR _ _ _ (Kp.refl _ _ _ st) hD
      rw [if_neg (fun h' => h'.elim (fun h' => by have := of_decide_eq_false h; omega) (fun h' => by have := of_decide_eq_false h2; omega))] at hZ
      have hcr := (last13 hpos).symm
      refine cnd_split (fun h => ?_) (fun h => ?_)
      · rw [if_pos (by rw [← hb10, hcr]; exact beq_eq_false_iff_ne.1 (by simpa only [Bool.not_eq_true'] using h))] at hZ
        subst hZ
        exact hR _ _ _ (Kp.refl _ _ _ st) hD
      have hbc := beq_iff_eq.1 (by simpa only [Bool.not_eq_false'] using h)
      rw [if_neg (by rw [← hb10, hcr]; exact fun h' => h' hbc)] at hZ
      refine cnd_split (fun h => ?_) (fun h => ?_)
      · rw [if_pos (by intro e; subst e; cases h)] at hZ
        subst hZ
        refine ⟨_, hD.h, ?_⟩
        refine Acc.appK (i := ti5) hA (List.cons_ne_nil _ _) ?_ ?_ (fun t e tk' q0 q1 q2 q3 => ?_)
        · show (List.length _ + 1) * 1 ≤ _; omega
        · show List.length _ + 1 ≤ _; omega
        refine ⟨_, hD.h, ?_⟩
        exact hR _ _ _ (Kp.tksL (((Kp.refl _ _ _ st)).setp _) rfl q1 q2 q3) (DI.putL hD (st_eq hD.h) rfl (by simp) (by show Acc 0 tk' 1 _ (u8L (d.line ++ [b])); rw [← hsn]; exact .own _ _ _ (Nat.zero_le _) q0) rfl q2 q3)
      have h10 : b = 10 := UInt8.toNat_inj.1 (by have := bne_eq_false_iff_eq.1 h; show _ = 10; omega)
      rw [if_neg (fun h' => h' h10)] at hZ
      refine ⟨_, hD.h, ?_⟩
      intro c hc
      rw [IntWalk.i64_in _ (by omega)] at hc
      obtain rfl : c = ((d.line.length - 1 : Nat) : Int) := by omega
      refine ⟨d.line.length - 1, rfl, Nat.zero_le _, by omega, ?_⟩
      refine ⟨toB d.line.dropLast, by rw [← u8L_toB, ← hes, u8L_take, List.dropLast_eq_take], ?_⟩
      refine ⟨_, hD.h, ?_⟩
      refine ⟨_, st_eq hD.h, ?_⟩
      have hts : (toB d.line.dropLast).size ≤ 1000000 := by rw [toB_size, List.length_dropLast]; omega
      refine cnd_split (fun h => ?_) (fun h => ?_)
      · refine .s (size_a (DI.nilL hD (st_eq hD.h) (d' := { d with line := [] }) rfl rfl) hI4 _ hts (fun st' k x => ?_))
        rw [endD, if_pos (by have := beq_iff_eq.1 h; show d.a = 0; omega)] at hZ
        subst hZ
        exact hR _ _ _ ((((Kp.refl _ _ _ st)).setp _).nilL.trans k) x
      · refine .s (trailer_a (DI.nilL hD (st_eq hD.h) (d' := { d with line := [] }) rfl rfl) hI4 _ hts (fun st' tr' k x => ?_))
        rw [endD, if_neg (by have := beq_eq_false_iff_ne.1 h; show ¬ d.a = 0; omega)] at hZ
        subst hZ
        exact hR _ _ _ ((((Kp.refl _ _ _ st)).setp _).nilL.trans k) x
    · rw [hsp (by have := beq_iff_eq.1 h3; omega)] at hZ hDs
      dsimp only at hZ
      refine ⟨_, hD.h, ?_⟩
      intro c hc
      rw [IntWalk.i64_in _ (by omega)] at hc
      obtain rfl : c = ((d.spent + 1 : Nat) : Int) := by omega
      refine ⟨_, hD.h, ?_⟩
      refine ⟨_, (st_eq hD.h), ?_⟩
      refine cnd_split (fun h0 => ?_) (fun h0 => absurd (List.eq_nil_of_length_eq_zero (l := d.line) (by have := of_decide_eq_false h0; omega)) (hnz _ rfl))
      have hpos : 0 < d.line.length := by have := of_decide_eq_true h0; omega
      refine ⟨_, (st_eq hD.h), ?_⟩
      intro c hc
      rw [IntWalk.i64_in _ (by omega)] at hc
      obtain rfl : c = ((d.line.length - 1 : Nat) : Int) := by omega
      refine ⟨d.line.length - 1, _, rfl, (hes ▸ getLast_u8 hpos), ?_⟩
      refine .e (by kernel_rfl) ?_
      refine cnd_split (fun h => ?_) (fun h => ?_)
      · rw [if_pos (.inl (by have := of_decide_eq_true h; omega))] at hZ
        subst hZ
        exact hR _ _ _ ((Kp.refl _ _ _ st).setp _) (hDs rfl)
      refine ⟨_, (st_eq hD.h), ?_⟩
      refine ⟨_, (st_eq hD.h), ?_⟩
      refine cnd_split (fun h2 => ?_) (fun h2 => ?_)
      · rw [if_pos (.inr (by have := of_decide_eq_true h2; omega))] at hZ
        subst hZ
        exact hR _ _ _ ((Kp.refl _ _ _ st).setp _) (hDs rfl)
      rw [if_neg (fun h' => h'.elim (fun h' => by have := of_decide_eq_false h; omega) (fun h' => by have := of_decide_eq_false h2; omega))] at hZ
      have hcr := (last13 hpos).symm
      refine cnd_split (fun h => ?_) (fun h => ?_)
      · rw [if_pos (by rw [← hb10, hcr]; exact beq_eq_false_iff_ne.1 (by simpa only [Bool.not_eq_true'] using h))] at hZ
        subst hZ
        exact hR _ _ _ ((Kp.refl _ _ _ st).setp _) (hDs rfl)
      have hbc := beq_iff_eq.1 (by simpa only [Bool.not_eq_false'] using h)
      rw [if_neg (by rw [← hb10, hcr]; exact fun h' => h' hbc)] at hZ
      refine cnd_split (fun h => ?_) (fun h => ?_)
      · rw [if_pos (by intro e; subst e; cases h)] at hZ
        subst hZ
        refine ⟨_, (st_eq hD.h), ?_⟩
        refine Acc.appK (i := ti5) hA (List.cons_ne_nil _ _) ?_ ?_ (fun t e tk' q0 q1 q2 q3 => ?_)
        · show (List.length _ + 1) * 1 ≤ _; omega
        · show List.length _ + 1 ≤ _; omega
        refine ⟨_, (st_eq hD.h), ?_⟩
        exact hR _ _ _ (Kp.tksL ((((Kp.refl _ _ _ st).setp _)).setp _) rfl q1 q2 q3) (DI.putL (hDs rfl) (st_eq (st_eq hD.h)) rfl (by simp) (by show Acc 0 tk' 1 _ (u8L (d.line ++ [b])); rw [← hsn]; exact .own _ _ _ (Nat.zero_le _) q0) rfl q2 q3)
      have h10 : b = 10 := UInt8.toNat_inj.1 (by have := bne_eq_false_iff_eq.1 h; show _ = 10; omega)
      rw [if_neg (fun h' => h' h10)] at hZ
      refine ⟨_, (st_eq hD.h), ?_⟩
      intro c hc
      rw [IntWalk.i64_in _ (by omega)] at hc
      obtain rfl : c = ((d.line.length - 1 : Nat) : Int) := by omega
      refine ⟨d.line.length - 1, rfl, Nat.zero_le _, by omega, ?_⟩
      refine ⟨toB d.line.dropLast, by rw [← u8L_toB, ← hes, u8L_take, List.dropLast_eq_take], ?_⟩
      refine ⟨_, (st_eq hD.h), ?_⟩
      refine ⟨_, st_eq (st_eq hD.h), ?_⟩
      have hts : (toB d.line.dropLast).size ≤ 1000000 := by rw [toB_size, List.length_dropLast]; omega
      refine cnd_split (fun h => ?_) (fun h => ?_)
      · refine .s (size_a (DI.nilL (hDs rfl) (st_eq (st_eq hD.h)) (d' := { d with spent := d.spent + 1, line := [] }) rfl rfl) hI3 _ hts (fun st' k x => ?_))
        rw [endD, if_pos (by have := beq_iff_eq.1 h; show d.a = 0; omega)] at hZ
        subst hZ
        exact hR _ _ _ (((((Kp.refl _ _ _ st).setp _)).setp _).nilL.trans k) x
      · refine .s (trailer_a (DI.nilL (hDs rfl) (st_eq (st_eq hD.h)) (d' := { d with spent := d.spent + 1, line := [] }) rfl rfl) hI3 _ hts (fun st' tr' k x => ?_))
        rw [endD, if_neg (by have := beq_eq_false_iff_ne.1 h; show ¬ d.a = 0; omega)] at hZ
        subst hZ
        exact hR _ _ _ (((((Kp.refl _ _ _ st).setp _)).setp _).nilL.trans k) x
    · rw [hsp0 (by have := beq_eq_false_iff_ne.1 h3; omega)] at hZ hDs
      refine ⟨_, hD.h, ?_⟩
      refine cnd_split (fun h0 => ?_) (fun h0 => absurd (List.eq_nil_of_length_eq_zero (l := d.line) (by have := of_decide_eq_false h0; omega)) (hnz _ rfl))
      have hpos : 0 < d.line.length := by have := of_decide_eq_true h0; omega
      refine ⟨_, hD.h, ?_⟩
      intro c hc
      rw [IntWalk.i64_in _ (by omega)] at hc
      obtain rfl : c = ((d.line.length - 1 : Nat) : Int) := by omega
      refine ⟨d.line.length - 1, _, rfl, (hes ▸ getLast_u8 hpos), ?_⟩
      refine .e (by kernel_rfl) ?_
      refine cnd_split (fun h => ?_) (fun h => ?_)
      · rw [if_pos (.inl (by have := of_decide_eq_true h; omega))] at hZ
        subst hZ
        exact hR _ _ _ (Kp.refl _ _ _ st) hD
      refine ⟨_, hD.h, ?_⟩
      refine ⟨_, hD.h, ?_⟩
      refine cnd_split (fun h2 => ?_) (fun h2 => ?_)
      · rw [if_pos (.inr (by have := of_decide_eq_true h2; omega))] at hZ
        subst hZ
        exact hR _ _ _ (Kp.refl _ _ _ st) hD
      rw [if_neg (fun h' => h'.elim (fun h' => by have := of_decide_eq_false h; omega) (fun h' => by have := of_decide_eq_false h2; omega))] at hZ
      have hcr := (last13 hpos).symm
      refine cnd_split (fun h => ?_) (fun h => ?_)
      · rw [if_pos (by rw [← hb10, hcr]; exact beq_eq_false_iff_ne.1 (by simpa only [Bool.not_eq_true'] using h))] at hZ
        subst hZ
        exact hR _ _ _ (Kp.refl _ _ _ st) hD
      have hbc := beq_iff_eq.1 (by simpa only [Bool.not_eq_false'] using h)
      rw [if_neg (by rw [← hb10, hcr]; exact fun h' => h' hbc)] at hZ
      refine cnd_split (fun h => ?_) (fun h => ?_)
      · rw [if_pos (by intro e; subst e; cases h)] at hZ
        subst hZ
        refine ⟨_, hD.h, ?_⟩
        refine Acc.appK (i := ti5) hA (List.cons_ne_nil _ _) ?_ ?_ (fun t e tk' q0 q1 q2 q3 => ?_)
        · show (List.length _ + 1) * 1 ≤ _; omega
        · show List.length _ + 1 ≤ _; omega
        refine ⟨_, hD.h, ?_⟩
        exact hR _ _ _ (Kp.tksL (((Kp.refl _ _ _ st)).setp _) rfl q1 q2 q3) (DI.putL hD (st_eq hD.h) rfl (by simp) (by show Acc 0 tk' 1 _ (u8L (d.line ++ [b])); rw [← hsn]; exact .own _ _ _ (Nat.zero_le _) q0) rfl q2 q3)
      have h10 : b = 10 := UInt8.toNat_inj.1 (by have := bne_eq_false_iff_eq.1 h; show _ = 10; omega)
      rw [if_neg (fun h' => h' h10)] at hZ
      refine ⟨_, hD.h, ?_⟩
      intro c hc
      rw [IntWalk.i64_in _ (by omega)] at hc
      obtain rfl : c = ((d.line.length - 1 : Nat) : Int) := by omega
      refine ⟨d.line.length - 1, rfl, Nat.zero_le _, by omega, ?_⟩
      refine ⟨toB d.line.dropLast, by rw [← u8L_toB, ← hes, u8L_take, List.dropLast_eq_take], ?_⟩
      refine ⟨_, hD.h, ?_⟩
      refine ⟨_, st_eq hD.h, ?_⟩
      have hts : (toB d.line.dropLast).size ≤ 1000000 := by rw [toB_size, List.length_dropLast]; omega
      refine cnd_split (fun h => ?_) (fun h => ?_)
      · refine .s (size_a (DI.nilL hD (st_eq hD.h) (d' := { d with line := [] }) rfl rfl) hI4 _ hts (fun st' k x => ?_))
        rw [endD, if_pos (by have := beq_iff_eq.1 h; show d.a = 0; omega)] at hZ
        subst hZ
        exact hR _ _ _ ((((Kp.refl _ _ _ st)).setp _).nilL.trans k) x
      · refine .s (trailer_a (DI.nilL hD (st_eq hD.h) (d' := { d with line := [] }) rfl rfl) hI4 _ hts (fun st' tr' k x => ?_))
        rw [endD, if_neg (by have := beq_eq_false_iff_ne.1 h; show ¬ d.a = 0; omega)] at hZ
        subst hZ
        exact hR _ _ _ ((((Kp.refl _ _ _ st)).setp _).nilL.trans k) x
end
end Go.Proofs.YtookaenbpfpegaaDoor
