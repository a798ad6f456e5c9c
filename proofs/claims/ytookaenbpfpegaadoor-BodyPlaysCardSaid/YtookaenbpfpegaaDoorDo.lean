/- The laws of the decoder. No statement of its own. -/
import Derived.Test.YtookaenbpfpegaaDoorDn
import Derived.Test.YtookaenbpfpegaaDoorEd
set_option linter.unusedSimpArgs false
set_option linter.unusedVariables false
set_option maxRecDepth 100000
namespace Go.Proofs.YtookaenbpfpegaaDoor
open Go.RowKit
theorem same12D_p (l m : List Fld) (h1 : l.length ≤ 1099511627776) (h2 : m.length ≤ 1099511627776) : APure Tryd.prog 15 [.sl .no 2 (fldL l), .sl .no 2 (fldL m)] (.b (decide (l = m))) [] := by
  have el := fldL_len l
  have em := fldL_len m
  refine APure.of rfl (ACalls.of_vc T_ok mixed Tryd.func15 rfl Tryd.call15 ?_)
  refine cnd_split (fun hd => ?_) (fun hd => ?_)
  · have hd : ¬ ((fldL l).length : Int) = (fldL m).length := by simpa using hd
    exact retb (decide_eq_false (fun e => by subst e; omega)).symm
  · have hd : ((fldL l).length : Int) = (fldL m).length := by simpa using hd
    refine vc_loop [5] (fun g vals st' => ∃ k : Nat, k + g = l.length ∧ vals = [.i k] ∧ ∀ j, j < k → l[j]? = m[j]?) l.length rfl ⟨0, by omega, rfl, fun j h => absurd h (by omega)⟩ ?_
    rintro g vals st' ⟨k, hk, rfl, ha⟩
    refine cnd_split (fun hd2 => ?_) (fun hd2 => ?_)
    · have hd2 := of_decide_eq_true hd2
      have k1 : k < l.length := by omega
      have k2 : k < m.length := by omega
      refine .e (by kernel_rfl) ?_
      refine ⟨k, _, rfl, fldL_at k1, ?_⟩
      refine ⟨k, _, rfl, fldL_at k2, ?_⟩
      refine ⟨by kernel_rfl, fun q hq => ?_⟩
      have hq : q = true ↔ l[k].1 = m[k].1 ∧ l[k].2 = m[k].2 ∧ True := hq
      cases q with
      | false =>
        refine retb (decide_eq_false (fun e => ?_)).symm
        subst e
        have := hq.2 ⟨rfl, rfl, trivial⟩
        cases this
      | true =>
        obtain ⟨e1, e2, _⟩ := hq.1 rfl
        intro c hc
        rw [IntWalk.i64_in _ (by omega)] at hc
        obtain rfl : c = ((k + 1 : Nat) : Int) := by omega
        refine ⟨g - 1, by omega, k + 1, by omega, rfl, fun j hj => ?_⟩
        by_cases hjk : j = k
        · subst hjk; rw [List.getElem?_eq_getElem k1, List.getElem?_eq_getElem k2]; exact congrArg some (Prod.ext e1 e2)
        · exact ha j (by omega)
    · have hd2 := of_decide_eq_false hd2
      refine retb (decide_eq_true (List.ext_getElem? fun j => ?_)).symm
      by_cases hj : j < k
      · exact ha j hj
      · rw [List.getElem?_eq_none (by omega), List.getElem?_eq_none (by omega)]
section
attribute [local irreducible] vcApp
variable {st : St} {p L : Nat} {d : Dc} {ln tr : AV} {R : AV → St → Prop}
theorem newD_a (n : Int) (h1 : n < 0 ∨ 65536 < n → R (.tup [.nilP, .i 1]) st) (h2 : ∀ m : Nat, n = m → m ≤ 65536 → R (.tup [.ptr st.heap.length 0, .i 0]) ⟨st.heap ++ [dcC m Dc.new .nilS .nilS], st.tk⟩) : ACalls Tryd.prog 34 [.i n] st R := by
  refine ACalls.of_vc T_ok mixed Tryd.func34 rfl Tryd.call34 ?_
  refine cnd_split (fun h => h1 (.inl (of_decide_eq_true h))) (fun h => ?_)
  have h := of_decide_eq_false h
  refine cnd_split (fun h' => h1 (.inr (of_decide_eq_true h'))) (fun h' => ?_)
  have h' := of_decide_eq_false h'
  obtain ⟨m, rfl⟩ := Int.eq_ofNat_of_zero_le (show 0 ≤ n by omega)
  exact h2 m rfl (by omega)
theorem newD_DI (st : St) (m : Nat) : DI ⟨st.heap ++ [dcC m Dc.new .nilS .nilS], st.tk⟩ st.heap.length m Dc.new .nilS .nilS :=
  ⟨last_at _ _, .nil, .nil, fun t h => (by cases h), fun t h => (by cases h)⟩
theorem Dc.new_In (m : Nat) : Dc.new.In m := ⟨Nat.zero_le _, Nat.zero_le _, fun h => (by cases h), fun h => (by cases h), Nat.zero_le _, Nat.zero_le _, Nat.zero_le _, Nat.zero_le _⟩
theorem feed_nil {s : ByteArray} (hR : R (.tup [.i 0, .s ⟨#[]⟩, .b false, .i 5]) st) : ACalls Tryd.prog 36 [.nilP, .s s] st R := by
  refine ACalls.of_vc T_ok mixed Tryd.func36 rfl Tryd.call36 ?_
  exact hR
theorem feed_done {x : AV} {s : ByteArray} (h : st.heap[p]? = some [x, .i 4, .nilS, .i d.left, .i d.sum, .i d.spent, tr]) (hx : ∃ n, x = .i n) (ht : tr = .nilS ∨ ∃ t e es, tr = .sl (.own t e) 2 es) (hR : R (.tup [.i 0, .s ⟨#[]⟩, .b false, .i 8]) st) : ACalls Tryd.prog 36 [.ptr p 0, .s s] st R := by
  obtain ⟨n, rfl⟩ := hx
  rcases ht with rfl | ⟨t, e, es, rfl⟩
  all_goals
    refine ACalls.of_vc T_ok mixed Tryd.func36 rfl Tryd.call36 ?_
    refine ⟨_, h, ?_⟩
    exact hR
theorem keptD_nil (hR : R (.i 0) st) : ACalls Tryd.prog 37 [.nilP] st R := by
  refine ACalls.of_vc T_ok mixed Tryd.func37 rfl Tryd.call37 ?_
  exact hR
theorem trlD_nil (hR : R .nilS st) : ACalls Tryd.prog 38 [.nilP] st R := by
  refine ACalls.of_vc T_ok mixed Tryd.func38 rfl Tryd.call38 ?_
  exact hR
theorem keptD_a (hD : DI st p L d ln tr) (hR : R (.i d.line.length) st) : ACalls Tryd.prog 37 [.ptr p 0] st R := by
  have hlF := hD.l
  have htF := hD.trF
  have hel := u8L_len d.line
  generalize u8L d.line = es at hlF hel
  rw [← hel] at hR
  cases hlF <;> rcases htF with rfl | ⟨t1, e1, es1, rfl⟩
  all_goals
    refine ACalls.of_vc T_ok mixed Tryd.func37 rfl Tryd.call37 ?_
    refine ⟨_, hD.h, ?_⟩
    exact hR
end
section
variable {st : St} {p L : Nat} {d : Dc} {ln tr : AV} {R : AV → St → Prop}
theorem trlD_a (hD : DI st p L d ln tr) (hl : d.tr.length ≤ 1000000) (hR0 : d.tr = [] → R (.sl .tight 2 []) st) (hR : ∀ t e tk', st.tk.length ≤ tk'.length → (∀ q, q < st.tk.length → tk'[q]? = st.tk[q]?) → R (.sl (.own t e) 2 (fldL d.tr)) ⟨st.heap, tk'⟩) : ACalls Tryd.prog 38 [.ptr p 0] st R := by
  have hmx : maxLen = 9223372036854775807 := rfl
  have hlF := hD.lnF
  have htF := hD.t
  have hel := fldL_len d.tr
  have hnil : fldL d.tr = [] → d.tr = [] := fun e => List.eq_nil_of_length_eq_zero (by rw [← fldL_len, e]; rfl)
  generalize hes : fldL d.tr = es at htF hel hR hnil
  rcases hlF with rfl | ⟨t0, e0, es0, rfl⟩ <;> cases htF
  all_goals
    refine ACalls.of_vc T_ok mixed Tryd.func38 rfl Tryd.call38 ?_
    refine ⟨_, hD.h, ?_⟩
    first
      | exact ⟨fun _ => hR0 (hnil rfl), fun h => absurd rfl h⟩
      | refine ⟨fun h => hR0 (hnil h), fun h => ⟨?_, ?_, .inl ?_⟩⟩
        · show List.length _ * 32 ≤ _; omega
        · omega
        · exact hR _ _ _ (by simp) (fun q hq => List.getElem?_append_left hq)
theorem awD : ∃ X : Dc, runD 9 Dc.new [51, 13, 10, 97, 98, 99, 13, 10, 48, 13, 10, 13, 10, 120] = ⟨13, [97, 98, 99], true, 0, X⟩ := by
  refine ⟨(runD 9 Dc.new [51, 13, 10, 97, 98, 99, 13, 10, 48, 13, 10, 13, 10, 120]).d, ?_⟩
  show runD 9 Dc.new [51, 13, 10, 97, 98, 99, 13, 10, 48, 13, 10, 13, 10, 120] = ⟨13, [97, 98, 99], true, 0, (runD 9 Dc.new [51, 13, 10, 97, 98, 99, 13, 10, 48, 13, 10, 13, 10, 120]).d⟩
  have h1 : (runD 9 Dc.new [51, 13, 10, 97, 98, 99, 13, 10, 48, 13, 10, 13, 10, 120]).n = 13 := by decide +kernel
  have h2 : (runD 9 Dc.new [51, 13, 10, 97, 98, 99, 13, 10, 48, 13, 10, 13, 10, 120]).o = [97, 98, 99] := by decide +kernel
  have h3 : (runD 9 Dc.new [51, 13, 10, 97, 98, 99, 13, 10, 48, 13, 10, 13, 10, 120]).dn = true := by decide +kernel
  have h4 : (runD 9 Dc.new [51, 13, 10, 97, 98, 99, 13, 10, 48, 13, 10, 13, 10, 120]).e = 0 := by decide +kernel
  generalize runD 9 Dc.new [51, 13, 10, 97, 98, 99, 13, 10, 48, 13, 10, 13, 10, 120] = r at *
  cases r
  simp_all
def cutF (f : Fld) : Fld := (f.1.extract 0 (if 50 < f.1.size then 50 else f.1.size), f.2.extract 0 (if 200 < f.2.size then 200 else f.2.size))
theorem cutF_size (f : Fld) : (cutF f).1.size ≤ 50 ∧ (cutF f).2.size ≤ 200 := by
  unfold cutF
  constructor
  · show (f.1.extract 0 _).size ≤ 50
    rw [ByteArray.size_extract]; split <;> omega
  · show (f.2.extract 0 _).size ≤ 200
    rw [ByteArray.size_extract]; split <;> omega
end
section
attribute [local irreducible] vcApp
theorem pcs_snoc (l : List (List UInt8)) (x : ByteArray) : toB (pcsL l) ++ pieceW x = toB (pcsL (l ++ [x.data.toList])) := by
  apply toInj
  rw [app_l', toB_l, toB_l, pcsL_app]
  congr 1
  unfold pcsL
  by_cases h : x.size = 0
  · have e : x.data.toList = [] := List.eq_nil_of_length_eq_zero (by rw [blen]; exact h)
    have e2 : pieceW x = ⟨#[]⟩ := if_pos h
    rw [e, e2]
    rfl
  · have e : x.data.toList ≠ [] := fun e => h (by rw [← blen, e]; rfl)
    rw [pieceW_l h]
    simp [e]
theorem catB_flat (l : List ByteArray) : (l.map fun x => x.data.toList).flatten = (catB l).data.toList := by
  induction l with
  | nil => rfl
  | cons x r ih => rw [catB_cons, app_l', ← ih]; rfl
end
end Go.Proofs.YtookaenbpfpegaaDoor
