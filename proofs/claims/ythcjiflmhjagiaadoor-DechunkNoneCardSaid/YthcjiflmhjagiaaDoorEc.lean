/- Bodies written in chunks: the encoder, by the program and by the document. No statement of its own. -/
import Derived.Test.YthcjiflmhjagiaaDoorEn
set_option linter.unusedSimpArgs false
set_option linter.unusedVariables false
set_option maxRecDepth 100000
namespace Go.Proofs.YthcjiflmhjagiaaDoor
open Go.RowKit
theorem outP_len (l : List (List UInt8)) : (outP l).length = l.length := by simp [outP]
theorem pieceW_size {s : ByteArray} (h : s.size ≤ 1099511627776) : (pieceW s).size ≤ s.size + 68 := by
  unfold pieceW
  split
  · exact Nat.zero_le _
  · rw [app_size, app_size, app_size, crlf_size]
    have : (textH (s.size : Int)).size ≤ 64 := textH_size (by omega)
    omega
theorem lastW_size {l : List Fld} (hl : l.length ≤ 1000) (hz : ∀ f ∈ l, f.1.size ≤ 1100000 ∧ f.2.size ≤ 1100000) : (lastW l).1.size ≤ 2300000000 := by
  have h := lastB_size hz l.length (Nat.le_refl _)
  rw [List.take_of_length_le (Nat.le_refl _)] at h
  unfold lastW
  split
  · exact Nat.zero_le _
  · split
    · exact Nat.zero_le _
    · show (lastB l ++ crlf).size ≤ _
      rw [app_size, crlf_size]
      omega
section
attribute [local irreducible] vcApp
variable {st : St} {p size : Nat} {buf : ByteArray} {R : AV → St → Prop}
theorem ready20_t (h : st.heap[p]? = some [.i size, .s buf, .b true]) (hR : R (.i 8) st) : ACalls Tryd.prog 59 [.ptr p 0] st R := by
  refine ACalls.of_vc T_ok mixed Tryd.func59 rfl Tryd.call59 ?_
  refine ⟨_, h, ?_⟩
  exact hR
theorem ready20_f (h : st.heap[p]? = some [.i size, .s buf, .b false]) (hR : R (.i 0) st) : ACalls Tryd.prog 59 [.ptr p 0] st R := by
  refine ACalls.of_vc T_ok mixed Tryd.func59 rfl Tryd.call59 ?_
  refine ⟨_, h, ?_⟩
  exact hR
theorem ready20_nil (hR : R (.i 5) st) : ACalls Tryd.prog 59 [.nilP] st R := by
  refine ACalls.of_vc T_ok mixed Tryd.func59 rfl Tryd.call59 ?_
  exact hR
theorem new20_a (n : Int) (h1 : n < 1 ∨ 65536 < n → R (.tup [.nilP, .i 1]) st) (h2 : ¬ (n < 1 ∨ 65536 < n) → R (.tup [.ptr st.heap.length 0, .i 0]) ⟨st.heap ++ [[.i n, .s ⟨#[]⟩, .b false]], st.tk⟩) : ACalls Tryd.prog 17 [.i n] st R := by
  refine ACalls.of_vc T_ok mixed Tryd.func17 rfl Tryd.call17 ?_
  refine cnd_split (fun h => ?_) (fun h => ?_)
  · exact h1 (.inl (of_decide_eq_true h))
  · have h := of_decide_eq_false h
    refine cnd_split (fun h3 => ?_) (fun h3 => ?_)
    · have h3 := of_decide_eq_true h3
      exact h1 (.inr (by omega))
    · have h3 := of_decide_eq_false h3
      exact h2 (by omega)
theorem kept20_a {dn : Bool} (h : st.heap[p]? = some [.i size, .s buf, .b dn]) (hR : R (.i buf.size) st) : ACalls Tryd.prog 21 [.ptr p 0] st R := by
  refine ACalls.of_vc T_ok mixed Tryd.func21 rfl Tryd.call21 ?_
  refine ⟨_, h, ?_⟩
  exact hR
theorem kept20_nil (hR : R (.i 0) st) : ACalls Tryd.prog 21 [.nilP] st R := by
  refine ACalls.of_vc T_ok mixed Tryd.func21 rfl Tryd.call21 ?_
  exact hR
theorem put20_nil {s : ByteArray} (hR : R (.tup [.s ⟨#[]⟩, .i 5]) st) : ACalls Tryd.prog 19 [.nilP, .s s] st R := by
  refine ACalls.of_vc T_ok mixed Tryd.func19 rfl Tryd.call19 ?_
  refine .s (ready20_nil ?_)
  exact hR
theorem put20_done {s : ByteArray} (h : st.heap[p]? = some [.i size, .s buf, .b true]) (hR : R (.tup [.s ⟨#[]⟩, .i 8]) st) : ACalls Tryd.prog 19 [.ptr p 0, .s s] st R := by
  refine ACalls.of_vc T_ok mixed Tryd.func19 rfl Tryd.call19 ?_
  refine .s (ready20_t h ?_)
  exact hR
theorem end20_nil {tg : Tk} {l : List Fld} (hR : R (.tup [.s ⟨#[]⟩, .i 5]) st) : ACalls Tryd.prog 22 [.nilP, .sl tg 2 (fldL l)] st R := by
  refine ACalls.of_vc T_ok mixed Tryd.func22 rfl Tryd.call22 ?_
  refine .s (ready20_nil ?_)
  exact hR
theorem end20_nil2 (hR : R (.tup [.s ⟨#[]⟩, .i 5]) st) : ACalls Tryd.prog 22 [.nilP, .nilS] st R := by
  refine ACalls.of_vc T_ok mixed Tryd.func22 rfl Tryd.call22 ?_
  refine .s (ready20_nil ?_)
  exact hR
theorem end20_done {a : AV} (ha : a = .nilS ∨ ∃ tg es, a = .sl tg 2 es) (h : st.heap[p]? = some [.i size, .s buf, .b true]) (hR : R (.tup [.s ⟨#[]⟩, .i 8]) st) : ACalls Tryd.prog 22 [.ptr p 0, a] st R := by
  rcases ha with rfl | ⟨tg, es, rfl⟩
  · refine ACalls.of_vc T_ok mixed Tryd.func22 rfl Tryd.call22 ?_
    refine .s (ready20_t h ?_)
    exact hR
  · refine ACalls.of_vc T_ok mixed Tryd.func22 rfl Tryd.call22 ?_
    refine .s (ready20_t h ?_)
    exact hR
end
/-- the document's -/
theorem full20_p (size : Nat) (d : ByteArray) (h1 : 1 ≤ size) (h2 : size ≤ 65536) (hd : d.size ≤ 1000000) : APure Tryd.prog 20 [.i size, .s d] (.tup [.s (putE size d), .s (restE size d)]) [] := by
  have hmx : maxLen = 9223372036854775807 := rfl
  have hpl := putE_le (size := size) (s := d) (by omega)
  refine APure.of rfl (ACalls.of_vc T_ok mixed Tryd.func20 rfl Tryd.call20 ?_)
  refine vc_loop [1, 6] (fun g vals st' => ∃ (dn : List (List UInt8)) (B : ByteArray), g = B.size ∧ vals = [.s B, .s (toB (pcsL dn))] ∧ fullW size d.data.toList = (dn ++ (fullW size B.data.toList).1, (fullW size B.data.toList).2) ∧ B.size ≤ d.size) d.size rfl ⟨[], d, rfl, rfl, rfl, Nat.le_refl _⟩ ?_
  rintro g vals st' ⟨dn, B, rfl, rfl, hF, hBT⟩
  have hdl : (toB (pcsL dn)).size ≤ (putE size d).size := by
    unfold putE
    rw [hF, toB_size, toB_size, pcsL_app, List.length_append]
    omega
  refine cnd_split (fun hd1 => ?_) (fun hd1 => ?_)
  · have hd1 := of_decide_eq_true hd1
    have hge : ¬ (size = 0 ∨ B.data.toList.length < size) := by rw [blen]; omega
    rw [fullW_ge hge] at hF
    have e1 : B.extract 0 size = toB (B.data.toList.take size) := toInj (by rw [toB_l, extB, List.drop_zero])
    have e2 : B.extract size B.size = toB (B.data.toList.drop size) := toInj (by rw [toB_l, extB, List.take_of_length_le (by rw [blen]; exact Nat.le_refl _)])
    have hne : B.data.toList.take size ≠ [] := fun e => by
      have := congrArg List.length e
      rw [List.length_take, blen, List.length_nil] at this
      omega
    have hps := pieceW_size (s := B.extract 0 size) (by rw [ext_size _ _ _ (by omega)]; omega)
    have hxs : (B.extract 0 size).size = size := by rw [ext_size _ _ _ (by omega)]; omega
    refine ⟨size, rfl, Nat.zero_le _, by omega, ?_⟩
    refine .p rfl (r18piece_p _ (by omega)) ?_
    refine ⟨by show (toB (pcsL dn)).size + (pieceW (B.extract 0 size)).size ≤ _; omega, ?_⟩
    refine ⟨size, rfl, by omega, Nat.le_refl _, ?_⟩
    have hbb : toB (pcsL dn) ++ pieceW (B.extract 0 size) = toB (pcsL (dn ++ [B.data.toList.take size])) := by
      refine toInj ?_
      rw [app_l', toB_l, toB_l, pcsL_app, e1, pieceW_l (by rw [toB_size]; intro h; exact hne (List.eq_nil_of_length_eq_zero h)), toB_l]
      congr 1
      unfold pcsL
      rw [List.flatMap_cons, List.flatMap_nil, List.append_nil, if_neg hne]
    rw [hbb]
    refine ⟨(B.extract size B.size).size, by rw [ext_size _ _ _ (Nat.le_refl _)]; omega, dn ++ [B.data.toList.take size], B.extract size B.size, rfl, rfl, ?_, by rw [ext_size _ _ _ (Nat.le_refl _)]; omega⟩
    rw [hF, e2, toB_l]
    simp
  · have hd1 := of_decide_eq_false hd1
    have hlt : size = 0 ∨ B.data.toList.length < size := by rw [blen]; omega
    rw [fullW_lt hlt] at hF
    simp only [List.append_nil] at hF
    have hp : putE size d = toB (pcsL dn) := by unfold putE; rw [hF]
    have hr : restE size d = B := by unfold restE; rw [hF, toB_s]
    rw [hp, hr]
    rfl
theorem rall20_p (n : Int) (body : ByteArray) (l : List Fld) (hb : body.size ≤ 1000000) (hl : l.length ≤ 1000) (hz : ∀ f ∈ l, f.1.size ≤ 1100000 ∧ f.2.size ≤ 1100000) :
    APure Tryd.prog 23 [.i n, .s body, .sl .no 2 (fldL l)] (.tup [.s (allE n body l).1, .i (allE n body l).2]) [] := by
  have hmx : maxLen = 9223372036854775807 := rfl
  have hE : allE n body l = if n < 1 ∨ 65536 < n then (⟨#[]⟩, 1) else if (lastW l).2 ≠ 0 then (⟨#[]⟩, (lastW l).2) else (putE n.toNat body ++ (pieceW (restE n.toNat body) ++ (lastW l).1), 0) := rfl
  generalize allE n body l = Z at hE
  have q1 := rlast_p l hl hz
  have hlw := lastW_size hl hz
  generalize lastW l = w at *
  obtain ⟨w1, w2⟩ := w
  refine APure.of rfl (ACalls.of_vc T_ok mixed Tryd.func23 rfl Tryd.call23 ?_)
  refine cnd_split (fun h => ?_) (fun h => ?_)
  · rw [if_pos (.inl (of_decide_eq_true h))] at hE
    subst hE
    rfl
  have h := of_decide_eq_false h
  refine cnd_split (fun h3 => ?_) (fun h3 => ?_)
  · have h3 := of_decide_eq_true h3
    rw [if_pos (.inr (by omega))] at hE
    subst hE
    rfl
  have h3 := of_decide_eq_false h3
  rw [if_neg (by omega)] at hE
  obtain ⟨m, rfl⟩ := Int.eq_ofNat_of_zero_le (show 0 ≤ n by omega)
  rw [Int.toNat_natCast] at hE
  refine .p rfl q1 ?_
  refine cnd_split (fun h2 => ?_) (fun h2 => ?_)
  · have h2 : w2 ≠ 0 := bne_iff_ne.1 h2
    rw [if_pos h2] at hE
    subst hE
    rfl
  · have h2 : w2 = 0 := bne_eq_false_iff_eq.1 h2
    rw [if_neg (fun h => h h2)] at hE
    have hpl := putE_le (size := m) (s := body) (by omega)
    have hrl := restE_le m body
    have hpw := pieceW_size (s := restE m body) (by omega)
    have hw1 : w1.size ≤ 2300000000 := hlw
    refine .p rfl (full20_p m body (by omega) (by omega) hb) ?_
    refine .p rfl (r18piece_p _ (by omega)) ?_
    refine ⟨by show (putE m body).size + (pieceW (restE m body)).size ≤ _; omega, ?_⟩
    refine ⟨by rw [app_size]; show (putE m body).size + (pieceW (restE m body)).size + w1.size ≤ _; omega, ?_⟩
    rw [hE, ← ByteArray.append_assoc]
    rfl
end Go.Proofs.YthcjiflmhjagiaaDoor
