/- The laws of the decoder. No statement of its own. -/
import Derived.Test.YthcjiflmhjagiaaDoorDn
import Derived.Test.YthcjiflmhjagiaaDoorEd
set_option linter.unusedSimpArgs false
set_option linter.unusedVariables false
set_option maxRecDepth 100000
namespace Go.Proofs.YthcjiflmhjagiaaDoor
open Go.RowKit
theorem same12D_p (l m : List Fld) (h1 : l.length ≤ 1099511627776) (h2 : m.length ≤ 1099511627776) : APure Tryd.prog 40 [.sl .no 2 (fldL l), .sl .no 2 (fldL m)] (.b (decide (l = m))) [] := by
  have el := fldL_len l
  have em := fldL_len m
  refine APure.of rfl (ACalls.of_vc T_ok mixed Tryd.func40 rfl Tryd.call40 ?_)
  refine cnd_split (fun hd => ?_) (fun hd => ?_)
  · have hd : ¬ ((fldL l).length : Int) = (fldL m).length := by simpa using hd
    exact retb (decide_eq_false (fun e => by subst e; omega)).symm
  · have hd : ((fldL l).length : Int) = (fldL m).length := by simpa using hd
    refine vc_loop [5] (fun g vals st' => ∃ k : Nat, k + g = l.length ∧ vals = [.i k] ∧ ∀ j, j < k → l[j]? = m[j]?) l.length rfl ⟨0, by omega, rfl, fun j h => absurd h (by omega)⟩ ?_
    rintro g vals st' ⟨k, hk, rfl, ha⟩
    refine cnd_split (fun hd2 => ?_) (fun hd2 => ?_)
    · have hd2 := of_decide_eq_true hd2
      have k1 : k < l.length := by omega
      have k2 : k < m.length := by omega
      refine .e (by kernel_rfl) ?_
      refine ⟨k, _, rfl, fldL_at k1, ?_⟩
      refine ⟨k, _, rfl, fldL_at k2, ?_⟩
      refine ⟨by kernel_rfl, fun q hq => ?_⟩
      have hq : q = true ↔ l[k].1 = m[k].1 ∧ l[k].2 = m[k].2 ∧ True := hq
      cases q with
      | false =>
        refine retb (decide_eq_false (fun e => ?_)).symm
        subst e
        have := hq.2 ⟨rfl, rfl, trivial⟩
        cases this
      | true =>
        obtain ⟨e1, e2, _⟩ := hq.1 rfl
        intro c hc
        rw [IntWalk.i64_in _ (by omega)] at hc
        obtain rfl : c = ((k + 1 : Nat) : Int) := by omega
        refine ⟨g - 1, by omega, k + 1, by omega, rfl, fun j hj => ?_⟩
        by_cases hjk : j = k
        · subst hjk; rw [List.getElem?_eq_getElem k1, List.getElem?_eq_getElem k2]; exact congrArg some (Prod.ext e1 e2)
        · exact ha j (by omega)
    · have hd2 := of_decide_eq_false hd2
      refine retb (decide_eq_true (List.ext_getElem? fun j => ?_)).symm
      by_cases hj : j < k
      · exact ha j hj
      · rw [List.getElem?_eq_none (by omega), List.getElem?_eq_none (by omega)]
section
attribute [local irreducible] vcApp
variable {st : St} {p L : Nat} {d : Dc} {ln tr : AV} {R : AV → St → Prop}
theorem newD_a (n : Int) (h1 : n < 0 ∨ 65536 < n → R (.tup [.nilP, .i 1]) st) (h2 : ∀ m : Nat, n = m → m ≤ 65536 → R (.tup [.ptr st.heap.length 0, .i 0]) ⟨st.heap ++ [dcC m Dc.new .nilS .nilS], st.tk⟩) : ACalls Tryd.prog 38 [.i n] st R := by
  refine ACalls.of_vc T_ok mixed Tryd.func38 rfl Tryd.call38 ?_
  refine cnd_split (fun h => h1 (.inl (of_decide_eq_true h))) (fun h => ?_)
  have h := of_decide_eq_false h
  refine cnd_split (fun h' => h1 (.inr (of_decide_eq_true h'))) (fun h' => ?_)
  have h' := of_decide_eq_false h'
  obtain ⟨m, rfl⟩ := Int.eq_ofNat_of_zero_le (show 0 ≤ n by omega)
  exact h2 m rfl (by omega)
theorem newD_DI (st : St) (m : Nat) : DI ⟨st.heap ++ [dcC m Dc.new .nilS .nilS], st.tk⟩ st.heap.length m Dc.new .nilS .nilS :=
  ⟨last_at _ _, .nil, .nil, fun t h => (by cases h), fun t h => (by cases h)⟩
theorem Dc.new_In (m : Nat) : Dc.new.In m := ⟨Nat.zero_le _, Nat.zero_le _, fun h => (by cases h), fun h => (by cases h), Nat.zero_le _, Nat.zero_le _, Nat.zero_le _, Nat.zero_le _⟩
theorem feed_nil {s : ByteArray} (hR : R (.tup [.i 0, .s ⟨#[]⟩, .b false, .i 5]) st) : ACalls Tryd.prog 39 [.nilP, .s s] st R := by
  refine ACalls.of_vc T_ok mixed Tryd.func39 rfl Tryd.call39 ?_
  exact hR
theorem feed_done {x : AV} {s : ByteArray} (h : st.heap[p]? = some [x, .i 4, .nilS, .i d.left, .i d.sum, .i d.spent, tr]) (hx : ∃ n, x = .i n) (ht : tr = .nilS ∨ ∃ t e es, tr = .sl (.own t e) 2 es) (hR : R (.tup [.i 0, .s ⟨#[]⟩, .b false, .i 8]) st) : ACalls Tryd.prog 39 [.ptr p 0, .s s] st R := by
  obtain ⟨n, rfl⟩ := hx
  rcases ht with rfl | ⟨t, e, es, rfl⟩
  all_goals
    refine ACalls.of_vc T_ok mixed Tryd.func39 rfl Tryd.call39 ?_
    refine ⟨_, h, ?_⟩
    exact hR
theorem keptD_nil (hR : R (.i 0) st) : ACalls Tryd.prog 42 [.nilP] st R := by
  refine ACalls.of_vc T_ok mixed Tryd.func42 rfl Tryd.call42 ?_
  exact hR
theorem trlD_nil (hR : R .nilS st) : ACalls Tryd.prog 41 [.nilP] st R := by
  refine ACalls.of_vc T_ok mixed Tryd.func41 rfl Tryd.call41 ?_
  exact hR
theorem keptD_a (hD : DI st p L d ln tr) (hR : R (.i d.line.length) st) : ACalls Tryd.prog 42 [.ptr p 0] st R := by
  have hlF := hD.l
  have htF := hD.trF
  have hel := u8L_len d.line
  generalize u8L d.line = es at hlF hel
  rw [← hel] at hR
  cases hlF <;> rcases htF with rfl | ⟨t1, e1, es1, rfl⟩
  all_goals
    refine ACalls.of_vc T_ok mixed Tryd.func42 rfl Tryd.call42 ?_
    refine ⟨_, hD.h, ?_⟩
    exact hR
end
section
variable {st : St} {p L : Nat} {d : Dc} {ln tr : AV} {R : AV → St → Prop}
theorem trlD_a (hD : DI st p L d ln tr) (hl : d.tr.length ≤ 1000000) (hR0 : d.tr = [] → R (.sl .tight 2 []) st) (hR : ∀ t e tk', st.tk.length ≤ tk'.length → (∀ q, q < st.tk.length → tk'[q]? = st.tk[q]?) → R (.sl (.own t e) 2 (fldL d.tr)) ⟨st.heap, tk'⟩) : ACalls Tryd.prog 41 [.ptr p 0] st R := by
  have hmx : maxLen = 9223372036854775807 := rfl
  have hlF := hD.lnF
  have htF := hD.t
  have hel := fldL_len d.tr
  have hnil : fldL d.tr = [] → d.tr = [] := fun e => List.eq_nil_of_length_eq_zero (by rw [← fldL_len, e]; rfl)
  generalize hes : fldL d.tr = es at htF hel hR hnil
  rcases hlF with rfl | ⟨t0, e0, es0, rfl⟩ <;> cases htF
  all_goals
    refine ACalls.of_vc T_ok mixed Tryd.func41 rfl Tryd.call41 ?_
    refine ⟨_, hD.h, ?_⟩
    first
      | exact ⟨fun _ => hR0 (hnil rfl), fun h => absurd rfl h⟩
      | refine ⟨fun h => hR0 (hnil h), fun h => ⟨?_, ?_, .inl ?_⟩⟩
        · show List.length _ * 32 ≤ _; omega
        · omega
        · exact hR _ _ _ (by simp) (fun q hq => List.getElem?_append_left hq)
theorem awD : ∃ X : Dc, runD 9 Dc.new [51, 13, 10, 97, 98, 99, 13, 10, 48, 13, 10, 13, 10, 120] = ⟨13, [97, 98, 99], true, 0, X⟩ := by
  refine ⟨(runD 9 Dc.new [51, 13, 10, 97, 98, 99, 13, 10, 48, 13, 10, 13, 10, 120]).d, ?_⟩
  show runD 9 Dc.new [51, 13, 10, 97, 98, 99, 13, 10, 48, 13, 10, 13, 10, 120] = ⟨13, [97, 98, 99], true, 0, (runD 9 Dc.new [51, 13, 10, 97, 98, 99, 13, 10, 48, 13, 10, 13, 10, 120]).d⟩
  have h1 : (runD 9 Dc.new [51, 13, 10, 97, 98, 99, 13, 10, 48, 13, 10, 13, 10, 120]).n = 13 := by decide +kernel
  have h2 : (runD 9 Dc.new [51, 13, 10, 97, 98, 99, 13, 10, 48, 13, 10, 13, 10, 120]).o = [97, 98, 99] := by decide +kernel
  have h3 : (runD 9 Dc.new [51, 13, 10, 97, 98, 99, 13, 10, 48, 13, 10, 13, 10, 120]).dn = true := by decide +kernel
  have h4 : (runD 9 Dc.new [51, 13, 10, 97, 98, 99, 13, 10, 48, 13, 10, 13, 10, 120]).e = 0 := by decide +kernel
  generalize runD 9 Dc.new [51, 13, 10, 97, 98, 99, 13, 10, 48, 13, 10, 13, 10, 120] = r at *
  cases r
  simp_all
theorem awake19_p : APure Tryd.prog 35 [] (.b true) [] := by
  obtain ⟨X, hX⟩ := awD
  refine APure.of rfl ?_
  refine ACalls.of_vc T_ok mixed Tryd.func35 rfl Tryd.call35 ?_
  refine .s (newD_a 9 (fun h => absurd h (by omega)) (fun m hm hm2 => ?_))
  obtain rfl : m = 9 := by omega
  refine .s (feed_a (newD_DI _ 9) (Dc.new_In 9) (by decide) (by decide) _ (by decide) (fun st' ln' tr' o x hx ho kp hd => ?_))
  obtain rfl : x = ⟨13, [97, 98, 99], true, 0, X⟩ := hx.symm.trans hX
  have ho : o = ⟨#[97, 98, 99]⟩ := mkB ho
  subst ho
  intro t ht
  cases t with
  | true => rfl
  | false => have := ht.2 rfl; cases this
def cutF (f : Fld) : Fld := (f.1.extract 0 (if 50 < f.1.size then 50 else f.1.size), f.2.extract 0 (if 200 < f.2.size then 200 else f.2.size))
theorem cutF_size (f : Fld) : (cutF f).1.size ≤ 50 ∧ (cutF f).2.size ≤ 200 := by
  unfold cutF
  constructor
  · show (f.1.extract 0 _).size ≤ 50
    rw [ByteArray.size_extract]; split <;> omega
  · show (f.2.extract 0 _).size ≤ 200
    rw [ByteArray.size_extract]; split <;> omega
end
section
attribute [local irreducible] vcApp
theorem few19_p (l : List Fld) : APure Tryd.prog 36 [.sl .no 2 (fldL l)] (.sl .no 2 (fldL ((l.take 105).map cutF))) [] := by
  have hmx : maxLen = 9223372036854775807 := rfl
  have el := fldL_len l
  refine APure.ofW rfl ?_
  refine ACalls.of_vc T_ok mixed Tryd.func36 rfl Tryd.call36 ?_
  refine vc_loop [3, 4] (fun g vals st' => ∃ (k : Nat) (a : AV), k + g = l.length ∧ k ≤ 105 ∧ vals = [a, .i k] ∧ Acc 0 st'.tk 2 a (fldL ((l.take k).map cutF))) l.length rfl ⟨0, _, by omega, by omega, rfl, .nil⟩ ?_
  rintro g vals st1 ⟨k, a, hk, hk4, rfl, hA⟩
  have hfl := fldL_len ((l.take k).map cutF)
  have hf2 : ((l.take k).map cutF).length ≤ 105 := by rw [List.length_map, List.length_take]; omega
  have hA0 := hA
  have done : ¬ k < l.length ∨ ¬ k < 105 → (l.take 105).map cutF = (l.take k).map cutF := fun h => by
    rcases h with h | h
    · rw [List.take_of_length_le (i := k) (by omega), List.take_of_length_le (by omega)]
    · rw [show k = 105 by omega]
  generalize hes : fldL ((l.take k).map cutF) = es at hA hfl
  cases hA
  all_goals
    refine cnd_split (fun hd => ?_) (fun hd => ?_)
    · have hd := of_decide_eq_true hd
      have k1 : k < l.length := by omega
      refine cnd_split (fun hd2 => ?_) (fun hd2 => ?_)
      · have hd2 : (k : Int) < 105 := of_decide_eq_true hd2
        refine .e (by kernel_rfl) ?_
        refine ⟨k, _, rfl, fldL_at k1, ?_⟩
        refine ⟨k, _, rfl, fldL_at k1, ?_⟩
        refine ⟨_, minI_at l[k].1.size 50, Nat.zero_le _, by split <;> omega, ?_⟩
        refine ⟨k, _, rfl, fldL_at k1, ?_⟩
        refine ⟨k, _, rfl, fldL_at k1, ?_⟩
        refine ⟨_, minI_at l[k].2.size 200, Nat.zero_le _, by split <;> omega, ?_⟩
        rw [hes] at hA0
        refine Acc.app (n := 0) (i := ti43) hA0 (Nat.zero_le _) (List.cons_ne_nil _ _) ?_ ?_ (fun t9 e9 tk9 z0 z1 z2 z3 => ?_)
        · show (List.length _ + 1) * 32 ≤ _; omega
        · show List.length _ + 1 ≤ _; omega
        intro c hc
        rw [IntWalk.i64_in _ (by omega)] at hc
        obtain rfl : c = ((k + 1 : Nat) : Int) := by omega
        refine ⟨g - 1, by omega, k + 1, _, by omega, by omega, rfl, ?_⟩
        rw [List.take_succ_eq_append_getElem k1, List.map_append, List.map_singleton, ← fldL_app, hes]
        exact .own _ _ _ (Nat.zero_le _) z1
      · have hd2 : ¬ (k : Int) < 105 := of_decide_eq_false hd2
        show resW _ (.sl .no 2 (fldL ((l.take 105).map cutF)))
        rw [done (.inr (by omega)), hes]
        first | exact .inl rfl | exact .inr (.inl ⟨2, rfl, rfl⟩)
    · have hd := of_decide_eq_false hd
      show resW _ (.sl .no 2 (fldL ((l.take 105).map cutF)))
      rw [done (.inl (by omega)), hes]
      first | exact .inl rfl | exact .inr (.inl ⟨2, rfl, rfl⟩)
theorem pcs_snoc (l : List (List UInt8)) (x : ByteArray) : toB (pcsL l) ++ pieceW x = toB (pcsL (l ++ [x.data.toList])) := by
  apply toInj
  rw [app_l', toB_l, toB_l, pcsL_app]
  congr 1
  unfold pcsL
  by_cases h : x.size = 0
  · have e : x.data.toList = [] := List.eq_nil_of_length_eq_zero (by rw [blen]; exact h)
    have e2 : pieceW x = ⟨#[]⟩ := if_pos h
    rw [e, e2]
    rfl
  · have e : x.data.toList ≠ [] := fun e => h (by rw [← blen, e]; rfl)
    rw [pieceW_l h]
    simp [e]
theorem catB_flat (l : List ByteArray) : (l.map fun x => x.data.toList).flatten = (catB l).data.toList := by
  induction l with
  | nil => rfl
  | cons x r ih => rw [catB_cons, app_l', ← ih]; rfl
set_option maxHeartbeats 2000000 in
theorem dechunkBack_p (s0 : ByteArray) (l : List Int) (hb : Byt l) (fs : List Fld) : APure Tryd.prog 8 [.s s0, .sl .no 1 (byL l), .sl .no 2 (fldL fs)] (.b true) [] := by
  have hmx : maxLen = 9223372036854775807 := rfl
  obtain ⟨m, hm, hm1, hm2, hm3⟩ := cutS 3000 s0
  have hmin := minI_at s0.size 3000
  rw [← hm] at hmin
  obtain ⟨s, hs⟩ : ∃ s, s = s0.extract 0 m := ⟨_, rfl⟩
  rw [← hs] at hm3
  have qf := few19_p fs
  have hgz : ∀ f ∈ (fs.take 105).map cutF, f.1.size ≤ 50 ∧ f.2.size ≤ 200 := fun f hf => by
    obtain ⟨q, _, rfl⟩ := List.mem_map.1 hf
    exact cutF_size q
  have hgl : ((fs.take 105).map cutF).length ≤ 105 := by rw [List.length_map, List.length_take]; omega
  generalize (fs.take 105).map cutF = gs at qf hgz hgl
  have ql := rlast_p gs (by omega) (fun f hf => by have := hgz f hf; omega)
  have hwr := whole_run ((cutW (l.take 60) s).map fun x => x.data.toList) gs
  have hlz : (lastW gs).1.size ≤ 2300000000 := lastW_size (l := gs) (by omega) (fun f hf => by have := hgz f hf; omega)
  generalize lastW gs = W at ql hwr hlz
  obtain ⟨W, we⟩ := W
  dsimp only at ql hwr hlz
  have q1 := cut16_p s l hb (by omega)
  have hcl := cutW_len (l.take 60) s
  rw [List.length_take] at hcl
  have hcc := cutW_cat (l.take 60) s
  generalize cutW (l.take 60) s = C at *
  have eC := strL_len C
  have hfl := catB_flat C
  rw [hcc] at hfl
  rw [hfl] at hwr
  have hsl := blen s
  have hmb : mostB = 1099511627776 := rfl
  have hps : ∀ k, k ≤ C.length → (toB (pcsL ((C.take k).map fun x => x.data.toList))).size ≤ 3000 + 68 * 62 := fun k hk => by
    have h1 := catB_flat (C.take k)
    have h2 := catB_le hk
    rw [hcc] at h2
    have h3 := pcsL_le ((C.take k).map fun x => x.data.toList) (by rw [h1, blen]; omega)
    rw [h1, blen, List.length_map, List.length_take] at h3
    rw [toB_size]
    omega
  refine APure.of rfl ?_
  refine ACalls.of_vc T_ok mixed Tryd.func8 rfl Tryd.call8 ?_
  refine .p rfl awake19_p ?_
  refine .x (by kernel_rfl) ?_
  refine ⟨m, hmin, Nat.zero_le _, hm1, ?_⟩
  rw [← hs]
  refine .p rfl qf ?_
  refine .p rfl ql ?_
  refine cnd_split (fun h => ?_) (fun h => ?_)
  · rfl
  have h : we = 0 := bne_eq_false_iff_eq.1 h
  refine .p rfl q1 ?_
  refine vc_loop [9, 11] (fun g vals st' => ∃ k : Nat, k + g = C.length ∧ vals = [.s (toB (pcsL ((C.take k).map fun x => x.data.toList))), .i k]) C.length rfl ⟨0, by omega, rfl⟩ ?_
  rintro g vals st' ⟨k, hk, rfl⟩
  have hpk := hps k (by omega)
  refine cnd_split (fun hd => ?_) (fun hd => ?_)
  · have hd := of_decide_eq_true hd
    have k1 : k < C.length := by omega
    have hpk1 := hps (k + 1) (by omega)
    have e1 : toB (pcsL ((C.take k).map fun x => x.data.toList)) ++ pieceW C[k] = toB (pcsL ((C.take (k + 1)).map fun x => x.data.toList)) := by
      rw [pcs_snoc, List.take_succ_eq_append_getElem k1, List.map_append]
      rfl
    have e2 := congrArg ByteArray.size e1
    rw [app_size] at e2
    have hck : C[k].size ≤ 3000 := by
      have h2 := catB_le (l := C) (k := k + 1) k1
      rw [catB_take k1, app_size, hcc] at h2
      omega
    refine ⟨k, _, rfl, strL_at k1, ?_⟩
    refine .p rfl (r18piece_p _ (by omega)) ?_
    refine ⟨by omega, ?_⟩
    intro c hc
    rw [IntWalk.i64_in _ (by omega)] at hc
    obtain rfl : c = ((k + 1 : Nat) : Int) := by omega
    rw [e1]
    exact ⟨g - 1, by omega, k + 1, by omega, rfl⟩
  · have hd := of_decide_eq_false hd
    rw [List.take_of_length_le (i := k) (by omega)] at *
    obtain ⟨w, hw⟩ : ∃ w, w = toB (pcsL (C.map fun x => x.data.toList)) := ⟨_, rfl⟩
    rw [← hw] at hpk ⊢
    obtain ⟨X, hX, hXt, hXl⟩ := hwr (by omega) h hgz [120]
    have hwl : (pcsL (C.map fun x => x.data.toList)).length = w.size := by rw [hw, toB_size]
    rw [hwl] at hX
    have hin : ((w ++ W) ++ ⟨#[120]⟩ : ByteArray).data.toList = pcsL (C.map fun x => x.data.toList) ++ (W.data.toList ++ [120]) := by
      rw [app_l', app_l', hw, toB_l, List.append_assoc]
    rw [← hin] at hX
    refine .s (newD_a 65536 (fun h => absurd h (by omega)) (fun m2 hm2 hm3 => ?_))
    obtain rfl : m2 = 65536 := by omega
    refine ⟨by omega, ?_⟩
    refine ⟨by rw [app_size]; show w.size + W.size + 1 ≤ _; omega, ?_⟩
    have hbs : (w ++ W ++ ⟨#[120]⟩ : ByteArray).size = w.size + W.size + 1 := by rw [app_size, app_size]; rfl
    obtain ⟨B, hB⟩ : ∃ B, B = (w ++ W ++ ⟨#[120]⟩ : ByteArray) := ⟨_, rfl⟩
    rw [← hB] at hX hbs ⊢
    refine .s (feed_a (newD_DI _ 65536) (Dc.new_In 65536) (by decide) (by decide) B (by omega) (fun st' ln' tr' o x hx ho kp hdi => ?_))
    obtain rfl := hx.symm.trans hX
    have ho : o = s := by
      apply toInj
      rw [ho]
    subst ho
    intro c hc
    rw [IntWalk.i64_in _ (by omega)] at hc
    obtain rfl : c = ((w.size + W.size : Nat) : Int) := by omega
    refine cnd_split (fun _ => ?_) (fun h2 => absurd rfl (beq_eq_false_iff_ne.1 h2))
    intro t ht
    cases t with
    | false => have := ht.2 rfl; cases this
    | true =>
      refine .s (trlD_a hdi (by show X.tr.length ≤ _; rw [hXt]; omega) (fun he => ?_) (fun t e tk' q1 q2 => ?_))
      · have he : X.tr = [] := he
        have hg0 : gs = [] := hXt.symm.trans he
        have q9 := same12D_p [] gs (by decide) (by omega)
        refine .p rfl q9 ?_
        exact retb (decide_eq_true hg0.symm)
      · have q9 := same12D_p X.tr gs (by rw [hXt]; omega) (by omega)
        refine .p rfl q9 ?_
        exact retb (decide_eq_true hXt)
end
end Go.Proofs.YthcjiflmhjagiaaDoor
