/- Bodies written in chunks: the encoder, by the program and by the document. No statement of its own. -/
import Derived.Test.YthcjiflmhjagiaaGreatDoorEn
set_option linter.unusedSimpArgs false
set_option linter.unusedVariables false
set_option maxRecDepth 100000
namespace Go.Proofs.YthcjiflmhjagiaaGreatDoor
open Go.RowKit
theorem outP_len (l : List (List UInt8)) : (outP l).length = l.length := by simp [outP]
theorem pieceW_size {s : ByteArray} (h : s.size ≤ 1099511627776) : (pieceW s).size ≤ s.size + 68 := by
  unfold pieceW
  split
  · exact Nat.zero_le _
  · rw [app_size, app_size, app_size, crlf_size]
    have : (textH (s.size : Int)).size ≤ 64 := textH_size (by omega)
    omega
theorem lastW_size {l : List Fld} (hl : l.length ≤ 1000) (hz : ∀ f ∈ l, f.1.size ≤ 1100000 ∧ f.2.size ≤ 1100000) : (lastW l).1.size ≤ 2300000000 := by
  have h := lastB_size hz l.length (Nat.le_refl _)
  rw [List.take_of_length_le (Nat.le_refl _)] at h
  unfold lastW
  split
  · exact Nat.zero_le _
  · split
    · exact Nat.zero_le _
    · show (lastB l ++ crlf).size ≤ _
      rw [app_size, crlf_size]
      omega
section
attribute [local irreducible] vcApp
variable {st : St} {p size : Nat} {buf : ByteArray} {R : AV → St → Prop}
theorem ready20_t (h : st.heap[p]? = some [.i size, .s buf, .b true]) (hR : R (.i 8) st) : ACalls Tryz.prog 34 [.ptr p 0] st R := by
  refine ACalls.of_vc T_ok mixed Tryz.func34 rfl Tryz.call34 ?_
  refine ⟨_, h, ?_⟩
  exact hR
theorem ready20_f (h : st.heap[p]? = some [.i size, .s buf, .b false]) (hR : R (.i 0) st) : ACalls Tryz.prog 34 [.ptr p 0] st R := by
  refine ACalls.of_vc T_ok mixed Tryz.func34 rfl Tryz.call34 ?_
  refine ⟨_, h, ?_⟩
  exact hR
theorem ready20_nil (hR : R (.i 5) st) : ACalls Tryz.prog 34 [.nilP] st R := by
  refine ACalls.of_vc T_ok mixed Tryz.func34 rfl Tryz.call34 ?_
  exact hR
theorem new20_a (n : Int) (h1 : n < 1 ∨ 65536 < n → R (.tup [.nilP, .i 1]) st) (h2 : ¬ (n < 1 ∨ 65536 < n) → R (.tup [.ptr st.heap.length 0, .i 0]) ⟨st.heap ++ [[.i n, .s ⟨#[]⟩, .b false]], st.tk⟩) : ACalls Tryz.prog 24 [.i n] st R := by
  refine ACalls.of_vc T_ok mixed Tryz.func24 rfl Tryz.call24 ?_
  refine cnd_split (fun h => ?_) (fun h => ?_)
  · exact h1 (.inl (of_decide_eq_true h))
  · have h := of_decide_eq_false h
    refine cnd_split (fun h3 => ?_) (fun h3 => ?_)
    · have h3 := of_decide_eq_true h3
      exact h1 (.inr (by omega))
    · have h3 := of_decide_eq_false h3
      exact h2 (by omega)
theorem put20_nil {s : ByteArray} (hR : R (.tup [.s ⟨#[]⟩, .i 5]) st) : ACalls Tryz.prog 25 [.nilP, .s s] st R := by
  refine ACalls.of_vc T_ok mixed Tryz.func25 rfl Tryz.call25 ?_
  refine .s (ready20_nil ?_)
  exact hR
theorem put20_done {s : ByteArray} (h : st.heap[p]? = some [.i size, .s buf, .b true]) (hR : R (.tup [.s ⟨#[]⟩, .i 8]) st) : ACalls Tryz.prog 25 [.ptr p 0, .s s] st R := by
  refine ACalls.of_vc T_ok mixed Tryz.func25 rfl Tryz.call25 ?_
  refine .s (ready20_t h ?_)
  exact hR
theorem put20_a (s : ByteArray) (h1 : 1 ≤ size) (h2 : size ≤ 65536) (hs : (buf ++ s).size ≤ 1000000) (h : st.heap[p]? = some [.i size, .s buf, .b false])
    (hR : ∀ st', Mv 0 (· = p) st st' → st'.heap[p]? = some [.i size, .s (restE size (buf ++ s)), .b false] → R (.tup [.s (putE size (buf ++ s)), .i 0]) st') : ACalls Tryz.prog 25 [.ptr p 0, .s s] st R := by
  have hmx : maxLen = 9223372036854775807 := rfl
  have hlt := lt_of h
  refine ACalls.of_vc T_ok mixed Tryz.func25 rfl Tryz.call25 ?_
  refine .s (ready20_f h ?_)
  refine ⟨_, h, ?_⟩
  refine ⟨by rw [app_size] at hs; omega, ?_⟩
  refine ⟨_, h, ?_⟩
  obtain ⟨T, hT⟩ : ∃ T, T = buf ++ s := ⟨_, rfl⟩
  rw [← hT] at hs hR ⊢
  have m0 : Mv 0 (fun q => q = p) st ⟨st.heap.set p [.i size, .s T, .b false], st.tk⟩ := (Mv.refl (C := fun q => q = p) (Nat.zero_le _)).set (fun _ => rfl) _
  refine vc_loop [7] (fun g vals st' => ∃ (dn : List (List UInt8)) (B : ByteArray) (a' : AV), g = B.size ∧ vals = [a'] ∧ Mv 0 (· = p) st st' ∧ st'.heap[p]? = some [.i size, .s B, .b false] ∧ Acc 0 st'.tk 1 a' (strL (outP dn)) ∧ fullW size T.data.toList = (dn ++ (fullW size B.data.toList).1, (fullW size B.data.toList).2) ∧ (∀ x ∈ dn, x ≠ []) ∧ B.size ≤ T.size) T.size rfl ⟨[], T, .nilS, rfl, rfl, m0, st_eq h, .nil, rfl, (fun x hx => by cases hx), Nat.le_refl _⟩ ?_
  rintro g vals st' ⟨dn, B, a', rfl, rfl, m, hh, hA, hF, hn, hBT⟩
  have hdl : dn.length ≤ T.size := by
    have e1 := fullW_flat size _ T.data.toList (Nat.le_refl _)
    rw [hF] at e1
    have e2 := congrArg List.length e1
    rw [List.flatten_append, List.length_append, List.length_append, blen] at e2
    have := len_flat hn
    omega
  rcases hA.form with rfl | ⟨t, e, rfl⟩
  · skip
    refine .x (by kernel_rfl) ?_
    refine ⟨_, hh, ?_⟩
    refine ⟨_, hh, ?_⟩
    refine cnd_split (fun hd => ?_) (fun hd => ?_)
    · have hd := of_decide_eq_true hd
      have hge : ¬ (size = 0 ∨ B.data.toList.length < size) := by rw [blen]; omega
      rw [fullW_ge hge] at hF
      have e1 : B.extract 0 size = toB (B.data.toList.take size) := toInj (by rw [toB_l, extB, List.drop_zero])
      have e2 : B.extract size B.size = toB (B.data.toList.drop size) := toInj (by rw [toB_l, extB, List.take_of_length_le (by rw [blen]; exact Nat.le_refl _)])
      have hpl : (strL (outP dn)).length ≤ 10000000 := by rw [strL_len, outP_len]; omega
      refine .x (by kernel_rfl) ?_
      refine ⟨_, hh, ?_⟩
      refine ⟨_, hh, ?_⟩
      refine ⟨size, rfl, Nat.zero_le _, by omega, ?_⟩
      refine .p rfl (piece_p _ (by rw [ext_size _ _ _ (by omega)]; omega)) ?_
      refine Acc.app (n := 0) (i := ti9) hA (Nat.zero_le _) (List.cons_ne_nil _ _) ?_ ?_ (fun t1 e1' tk1 q0 q1 q2 q3 => ?_)
      · show ((strL (outP dn)).length + 1) * 16 ≤ _; omega
      · show (strL (outP dn)).length + 1 ≤ _; omega
      refine .x (by kernel_rfl) ?_
      refine ⟨_, hh, ?_⟩
      refine ⟨_, hh, ?_⟩
      refine ⟨size, rfl, by omega, Nat.le_refl _, ?_⟩
      refine ⟨_, hh, ?_⟩
      have hne : B.data.toList.take size ≠ [] := fun e => by
        have := congrArg List.length e
        rw [List.length_take, blen, List.length_nil] at this
        omega
      refine ⟨(B.extract size B.size).size, by rw [ext_size _ _ _ (Nat.le_refl _)]; omega, dn ++ [B.data.toList.take size], B.extract size B.size, _, rfl, rfl, (m.tks q2 q3).set (fun _ => rfl) _, st_eq hh, ?_, ?_, ?_, ?_⟩
      · have h9 : strL (outP dn) ++ [[.s (pieceW (B.extract 0 size))]] = strL (outP (dn ++ [B.data.toList.take size])) := by
          rw [strL_snoc, e1]
          unfold outP
          rw [List.map_append]
          rfl
        rw [← h9]
        exact .own _ _ _ q0 q1
      · rw [hF, e2, toB_l]
        simp
      · intro x hx
        rcases List.mem_append.1 hx with hx | hx
        · exact hn x hx
        · have : x = B.data.toList.take size := by simpa using hx
          rw [this]
          exact hne
      · rw [ext_size _ _ _ (Nat.le_refl _)]; omega
    · have hd := of_decide_eq_false hd
      have hlt : size = 0 ∨ B.data.toList.length < size := by rw [blen]; omega
      rw [fullW_lt hlt] at hF
      simp only [List.append_nil] at hF
      have hp : putE size T = toB (pcsL dn) := by unfold putE; rw [hF]
      have hr : restE size T = B := by unfold restE; rw [hF, toB_s]
      have hj := join_outP _ dn rfl
      have hpe := putE_le (size := size) (s := T) (by omega)
      have hq := qjoin_p ⟨#[]⟩ (outP dn) (by rw [outP_len]; omega) (by rw [hj, ← hp]; omega)
      rw [hj, ← hp] at hq
      refine .w (args' := [.s ⟨#[]⟩, .sl .no 1 (strL (outP dn))]) rfl ⟨.inl (.inl ⟨rfl, rfl⟩), hA.argW, trivial⟩ hq ?_
      exact hR _ m (by rw [hr]; exact hh)
  · skip
    refine .x (by kernel_rfl) ?_
    refine ⟨_, hh, ?_⟩
    refine ⟨_, hh, ?_⟩
    refine cnd_split (fun hd => ?_) (fun hd => ?_)
    · have hd := of_decide_eq_true hd
      have hge : ¬ (size = 0 ∨ B.data.toList.length < size) := by rw [blen]; omega
      rw [fullW_ge hge] at hF
      have e1 : B.extract 0 size = toB (B.data.toList.take size) := toInj (by rw [toB_l, extB, List.drop_zero])
      have e2 : B.extract size B.size = toB (B.data.toList.drop size) := toInj (by rw [toB_l, extB, List.take_of_length_le (by rw [blen]; exact Nat.le_refl _)])
      have hpl : (strL (outP dn)).length ≤ 10000000 := by rw [strL_len, outP_len]; omega
      refine .x (by kernel_rfl) ?_
      refine ⟨_, hh, ?_⟩
      refine ⟨_, hh, ?_⟩
      refine ⟨size, rfl, Nat.zero_le _, by omega, ?_⟩
      refine .p rfl (piece_p _ (by rw [ext_size _ _ _ (by omega)]; omega)) ?_
      refine Acc.app (n := 0) (i := ti9) hA (Nat.zero_le _) (List.cons_ne_nil _ _) ?_ ?_ (fun t1 e1' tk1 q0 q1 q2 q3 => ?_)
      · show ((strL (outP dn)).length + 1) * 16 ≤ _; omega
      · show (strL (outP dn)).length + 1 ≤ _; omega
      refine .x (by kernel_rfl) ?_
      refine ⟨_, hh, ?_⟩
      refine ⟨_, hh, ?_⟩
      refine ⟨size, rfl, by omega, Nat.le_refl _, ?_⟩
      refine ⟨_, hh, ?_⟩
      have hne : B.data.toList.take size ≠ [] := fun e => by
        have := congrArg List.length e
        rw [List.length_take, blen, List.length_nil] at this
        omega
      refine ⟨(B.extract size B.size).size, by rw [ext_size _ _ _ (Nat.le_refl _)]; omega, dn ++ [B.data.toList.take size], B.extract size B.size, _, rfl, rfl, (m.tks q2 q3).set (fun _ => rfl) _, st_eq hh, ?_, ?_, ?_, ?_⟩
      · have h9 : strL (outP dn) ++ [[.s (pieceW (B.extract 0 size))]] = strL (outP (dn ++ [B.data.toList.take size])) := by
          rw [strL_snoc, e1]
          unfold outP
          rw [List.map_append]
          rfl
        rw [← h9]
        exact .own _ _ _ q0 q1
      · rw [hF, e2, toB_l]
        simp
      · intro x hx
        rcases List.mem_append.1 hx with hx | hx
        · exact hn x hx
        · have : x = B.data.toList.take size := by simpa using hx
          rw [this]
          exact hne
      · rw [ext_size _ _ _ (Nat.le_refl _)]; omega
    · have hd := of_decide_eq_false hd
      have hlt : size = 0 ∨ B.data.toList.length < size := by rw [blen]; omega
      rw [fullW_lt hlt] at hF
      simp only [List.append_nil] at hF
      have hp : putE size T = toB (pcsL dn) := by unfold putE; rw [hF]
      have hr : restE size T = B := by unfold restE; rw [hF, toB_s]
      have hj := join_outP _ dn rfl
      have hpe := putE_le (size := size) (s := T) (by omega)
      have hq := qjoin_p ⟨#[]⟩ (outP dn) (by rw [outP_len]; omega) (by rw [hj, ← hp]; omega)
      rw [hj, ← hp] at hq
      refine .w (args' := [.s ⟨#[]⟩, .sl .no 1 (strL (outP dn))]) rfl ⟨.inl (.inl ⟨rfl, rfl⟩), hA.argW, trivial⟩ hq ?_
      exact hR _ m (by rw [hr]; exact hh)
theorem end20_nil {tg : Tk} {l : List Fld} (hR : R (.tup [.s ⟨#[]⟩, .i 5]) st) : ACalls Tryz.prog 26 [.nilP, .sl tg 2 (fldL l)] st R := by
  refine ACalls.of_vc T_ok mixed Tryz.func26 rfl Tryz.call26 ?_
  refine .s (ready20_nil ?_)
  exact hR
theorem end20_nil2 (hR : R (.tup [.s ⟨#[]⟩, .i 5]) st) : ACalls Tryz.prog 26 [.nilP, .nilS] st R := by
  refine ACalls.of_vc T_ok mixed Tryz.func26 rfl Tryz.call26 ?_
  refine .s (ready20_nil ?_)
  exact hR
theorem end20_done {a : AV} (ha : a = .nilS ∨ ∃ tg es, a = .sl tg 2 es) (h : st.heap[p]? = some [.i size, .s buf, .b true]) (hR : R (.tup [.s ⟨#[]⟩, .i 8]) st) : ACalls Tryz.prog 26 [.ptr p 0, a] st R := by
  rcases ha with rfl | ⟨tg, es, rfl⟩
  · refine ACalls.of_vc T_ok mixed Tryz.func26 rfl Tryz.call26 ?_
    refine .s (ready20_t h ?_)
    exact hR
  · refine ACalls.of_vc T_ok mixed Tryz.func26 rfl Tryz.call26 ?_
    refine .s (ready20_t h ?_)
    exact hR
theorem end20_b (l : List Fld) (hl : l.length ≤ 1000) (hz : ∀ f ∈ l, f.1.size ≤ 1100000 ∧ f.2.size ≤ 1100000) (hb : buf.size ≤ 10000000) (h : st.heap[p]? = some [.i size, .s buf, .b false])
    (hR1 : (lastW l).2 ≠ 0 → R (.tup [.s ⟨#[]⟩, .i (lastW l).2]) st)
    (hR2 : (lastW l).2 = 0 → ∀ st', Mv 0 (· = p) st st' → st'.heap[p]? = some [.i size, .s ⟨#[]⟩, .b true] → R (.tup [.s (pieceW buf ++ (lastW l).1), .i 0]) st') : ACalls Tryz.prog 26 [.ptr p 0, .sl .no 2 (fldL l)] st R := by
  have hmx : maxLen = 9223372036854775807 := rfl
  have q1 := clast_p l hl hz
  have hlw := lastW_size hl hz
  have hpw := pieceW_size (s := buf) (by omega)
  generalize lastW l = w at *
  obtain ⟨w1, w2⟩ := w
  refine ACalls.of_vc T_ok mixed Tryz.func26 rfl Tryz.call26 ?_
  refine .s (ready20_f h ?_)
  refine .p rfl q1 ?_
  refine cnd_split (fun h2 => ?_) (fun h2 => ?_)
  · exact hR1 (bne_iff_ne.1 h2)
  · have h2 : w2 = 0 := bne_eq_false_iff_eq.1 h2
    subst h2
    refine ⟨_, h, ?_⟩
    refine .p rfl (piece_p buf (by omega)) ?_
    refine ⟨by show (pieceW buf).size + w1.size ≤ _; have : w1.size ≤ 2300000000 := hlw; omega, ?_⟩
    refine ⟨_, h, ?_⟩
    refine ⟨_, st_eq h, ?_⟩
    exact hR2 rfl _ (((Mv.refl (C := fun q => q = p) (Nat.zero_le _)).set (fun _ => rfl) _).set (fun _ => rfl) _) (st_eq (st_eq h))
theorem end20_a {tg : Tk} (l : List Fld) (hl : l.length ≤ 1000) (hz : ∀ f ∈ l, f.1.size ≤ 1100000 ∧ f.2.size ≤ 1100000) (hb : buf.size ≤ 10000000) (h : st.heap[p]? = some [.i size, .s buf, .b false])
    (hR1 : (lastW l).2 ≠ 0 → R (.tup [.s ⟨#[]⟩, .i (lastW l).2]) st)
    (hR2 : (lastW l).2 = 0 → ∀ st', Mv 0 (· = p) st st' → st'.heap[p]? = some [.i size, .s ⟨#[]⟩, .b true] → R (.tup [.s (pieceW buf ++ (lastW l).1), .i 0]) st') : ACalls Tryz.prog 26 [.ptr p 0, .sl tg 2 (fldL l)] st R :=
  ACalls.weak (args' := [.ptr p 0, .sl .no 2 (fldL l)]) ⟨.inl rfl, .inr (.inl rfl), trivial⟩ (end20_b l hl hz hb h hR1 hR2)
theorem end20_n (hb : buf.size ≤ 10000000) (h : st.heap[p]? = some [.i size, .s buf, .b false])
    (hR2 : ∀ st', Mv 0 (· = p) st st' → st'.heap[p]? = some [.i size, .s ⟨#[]⟩, .b true] → R (.tup [.s (pieceW buf ++ (lastW []).1), .i 0]) st') : ACalls Tryz.prog 26 [.ptr p 0, .nilS] st R := by
  have hmx : maxLen = 9223372036854775807 := rfl
  have q1 := clast_p [] (by simp) (fun f h => by cases h)
  have hpw := pieceW_size (s := buf) (by omega)
  rw [lastW_nil] at q1 hR2
  refine ACalls.of_vc T_ok mixed Tryz.func26 rfl Tryz.call26 ?_
  refine .s (ready20_f h ?_)
  refine .w (args' := [.sl .no 2 []]) rfl ⟨.inr ⟨rfl, 2, rfl⟩, trivial⟩ q1 ?_
  refine ⟨_, h, ?_⟩
  refine .p rfl (piece_p buf (by omega)) ?_
  refine ⟨by show (pieceW buf).size + 5 ≤ _; omega, ?_⟩
  refine ⟨_, h, ?_⟩
  refine ⟨_, st_eq h, ?_⟩
  exact hR2 _ (((Mv.refl (C := fun q => q = p) (Nat.zero_le _)).set (fun _ => rfl) _).set (fun _ => rfl) _) (st_eq (st_eq h))
end
/-- the document's -/
theorem full20_p (size : Nat) (d : ByteArray) (h1 : 1 ≤ size) (h2 : size ≤ 65536) (hd : d.size ≤ 1000000) : APure Tryz.prog 27 [.i size, .s d] (.tup [.s (putE size d), .s (restE size d)]) [] := by
  have hmx : maxLen = 9223372036854775807 := rfl
  have hpl := putE_le (size := size) (s := d) (by omega)
  refine APure.of rfl (ACalls.of_vc T_ok mixed Tryz.func27 rfl Tryz.call27 ?_)
  refine vc_loop [1, 6] (fun g vals st' => ∃ (dn : List (List UInt8)) (B : ByteArray), g = B.size ∧ vals = [.s B, .s (toB (pcsL dn))] ∧ fullW size d.data.toList = (dn ++ (fullW size B.data.toList).1, (fullW size B.data.toList).2) ∧ B.size ≤ d.size) d.size rfl ⟨[], d, rfl, rfl, rfl, Nat.le_refl _⟩ ?_
  rintro g vals st' ⟨dn, B, rfl, rfl, hF, hBT⟩
  have hdl : (toB (pcsL dn)).size ≤ (putE size d).size := by
    unfold putE
    rw [hF, toB_size, toB_size, pcsL_app, List.length_append]
    omega
  refine cnd_split (fun hd1 => ?_) (fun hd1 => ?_)
  · have hd1 := of_decide_eq_true hd1
    have hge : ¬ (size = 0 ∨ B.data.toList.length < size) := by rw [blen]; omega
    rw [fullW_ge hge] at hF
    have e1 : B.extract 0 size = toB (B.data.toList.take size) := toInj (by rw [toB_l, extB, List.drop_zero])
    have e2 : B.extract size B.size = toB (B.data.toList.drop size) := toInj (by rw [toB_l, extB, List.take_of_length_le (by rw [blen]; exact Nat.le_refl _)])
    have hne : B.data.toList.take size ≠ [] := fun e => by
      have := congrArg List.length e
      rw [List.length_take, blen, List.length_nil] at this
      omega
    have hps := pieceW_size (s := B.extract 0 size) (by rw [ext_size _ _ _ (by omega)]; omega)
    have hxs : (B.extract 0 size).size = size := by rw [ext_size _ _ _ (by omega)]; omega
    refine ⟨size, rfl, Nat.zero_le _, by omega, ?_⟩
    refine .p rfl (r18piece_p _ (by omega)) ?_
    refine ⟨by show (toB (pcsL dn)).size + (pieceW (B.extract 0 size)).size ≤ _; omega, ?_⟩
    refine ⟨size, rfl, by omega, Nat.le_refl _, ?_⟩
    have hbb : toB (pcsL dn) ++ pieceW (B.extract 0 size) = toB (pcsL (dn ++ [B.data.toList.take size])) := by
      refine toInj ?_
      rw [app_l', toB_l, toB_l, pcsL_app, e1, pieceW_l (by rw [toB_size]; intro h; exact hne (List.eq_nil_of_length_eq_zero h)), toB_l]
      congr 1
      unfold pcsL
      rw [List.flatMap_cons, List.flatMap_nil, List.append_nil, if_neg hne]
    rw [hbb]
    refine ⟨(B.extract size B.size).size, by rw [ext_size _ _ _ (Nat.le_refl _)]; omega, dn ++ [B.data.toList.take size], B.extract size B.size, rfl, rfl, ?_, by rw [ext_size _ _ _ (Nat.le_refl _)]; omega⟩
    rw [hF, e2, toB_l]
    simp
  · have hd1 := of_decide_eq_false hd1
    have hlt : size = 0 ∨ B.data.toList.length < size := by rw [blen]; omega
    rw [fullW_lt hlt] at hF
    simp only [List.append_nil] at hF
    have hp : putE size d = toB (pcsL dn) := by unfold putE; rw [hF]
    have hr : restE size d = B := by unfold restE; rw [hF, toB_s]
    rw [hp, hr]
    rfl
theorem rall20_p (n : Int) (body : ByteArray) (l : List Fld) (hb : body.size ≤ 1000000) (hl : l.length ≤ 1000) (hz : ∀ f ∈ l, f.1.size ≤ 1100000 ∧ f.2.size ≤ 1100000) :
    APure Tryz.prog 8 [.i n, .s body, .sl .no 2 (fldL l)] (.tup [.s (allE n body l).1, .i (allE n body l).2]) [] := by
  have hmx : maxLen = 9223372036854775807 := rfl
  have hE : allE n body l = if n < 1 ∨ 65536 < n then (⟨#[]⟩, 1) else if (lastW l).2 ≠ 0 then (⟨#[]⟩, (lastW l).2) else (putE n.toNat body ++ (pieceW (restE n.toNat body) ++ (lastW l).1), 0) := rfl
  generalize allE n body l = Z at hE
  have q1 := rlast_p l hl hz
  have hlw := lastW_size hl hz
  generalize lastW l = w at *
  obtain ⟨w1, w2⟩ := w
  refine APure.of rfl (ACalls.of_vc T_ok mixed Tryz.func8 rfl Tryz.call8 ?_)
  refine cnd_split (fun h => ?_) (fun h => ?_)
  · rw [if_pos (.inl (of_decide_eq_true h))] at hE
    subst hE
    rfl
  have h := of_decide_eq_false h
  refine cnd_split (fun h3 => ?_) (fun h3 => ?_)
  · have h3 := of_decide_eq_true h3
    rw [if_pos (.inr (by omega))] at hE
    subst hE
    rfl
  have h3 := of_decide_eq_false h3
  rw [if_neg (by omega)] at hE
  obtain ⟨m, rfl⟩ := Int.eq_ofNat_of_zero_le (show 0 ≤ n by omega)
  rw [Int.toNat_natCast] at hE
  refine .p rfl q1 ?_
  refine cnd_split (fun h2 => ?_) (fun h2 => ?_)
  · have h2 : w2 ≠ 0 := bne_iff_ne.1 h2
    rw [if_pos h2] at hE
    subst hE
    rfl
  · have h2 : w2 = 0 := bne_eq_false_iff_eq.1 h2
    rw [if_neg (fun h => h h2)] at hE
    have hpl := putE_le (size := m) (s := body) (by omega)
    have hrl := restE_le m body
    have hpw := pieceW_size (s := restE m body) (by omega)
    have hw1 : w1.size ≤ 2300000000 := hlw
    refine .p rfl (full20_p m body (by omega) (by omega) hb) ?_
    refine .p rfl (r18piece_p _ (by omega)) ?_
    refine ⟨by show (putE m body).size + (pieceW (restE m body)).size ≤ _; omega, ?_⟩
    refine ⟨by rw [app_size]; show (putE m body).size + (pieceW (restE m body)).size + w1.size ≤ _; omega, ?_⟩
    rw [hE, ← ByteArray.append_assoc]
    rfl
end Go.Proofs.YthcjiflmhjagiaaGreatDoor
