/- Bags whose row is one's own: an element put behind, one field put. No statement of its own. -/
import Derived.Test.YtookaenbpfpegaaDoorBh
set_option linter.unusedSimpArgs false
set_option linter.unusedVariables false
set_option maxRecDepth 100000
namespace Go.Proofs.YtookaenbpfpegaaDoor
open Go.RowKit
theorem ovF : OvF Tryd.prog 59 := by
  refine ⟨32, 4, 55, 2, by kernel_rfl, fun w => T_ok.size (t := 55) (i := ti55) rfl w, fun zs w w' v hv => ?_⟩
  rw [run_callFunc_extern (P := Tryd.prog) Tryd.func59 (by kernel_rfl) (by kernel_rfl) (by kernel_rfl) (e := Extern.SlicesOverlaps.overlaps #[32, 32] #[4]) (by kernel_rfl), hv]
  rfl
theorem setAll_mid (A B C ys : List AV) (h : ys.length = B.length) : setAll (A ++ B ++ C) A.length ys = A ++ ys ++ C := by
  apply List.ext_getElem?
  intro q
  rw [setAll_get _ _ _ _ (by simp; omega)]
  by_cases h1 : q < A.length
  · rw [if_neg (by omega), List.append_assoc, List.append_assoc, List.getElem?_append_left h1, List.getElem?_append_left h1]
  · by_cases h2 : q < A.length + ys.length
    · rw [if_pos (by omega), List.append_assoc, List.getElem?_append_right (by omega), List.getElem?_append_left (by omega)]
    · rw [if_neg (by omega), List.getElem?_append_right (by simp; omega), List.getElem?_append_right (by simp; omega), List.length_append, List.length_append, h]
theorem ins_copy {L : List Fld} {zs : List AV} {i : Nat} (hi : i < L.length) (hz : 2 ≤ zs.length) : setAll (fl L ++ zs) (0 + (i + 1) * 2) (fldL (L.drop i)).flatten = fl (L.take (i + 1) ++ L.drop i) ++ zs.drop 2 := by
  have e1 : (fl (L.take (i + 1))).length = 0 + (i + 1) * 2 := by rw [fl_len, List.length_take]; omega
  have e2 : fl L ++ zs = fl (L.take (i + 1)) ++ (fl (L.drop (i + 1)) ++ zs.take 2) ++ zs.drop 2 := by
    rw [← List.append_assoc, List.append_assoc _ (zs.take 2), List.take_append_drop, ← fl_app, List.take_append_drop]
  rw [e2, ← e1, setAll_mid]
  · rw [fl_app]
  · show (fl (L.drop i)).length = _
    rw [fl_len, List.length_append, fl_len, List.length_take, List.length_drop, List.length_drop]
    omega
theorem ins_set {L : List Fld} {i : Nat} (hi : i < L.length) (f : Fld) : (L.take (i + 1) ++ L.drop i).set i f = L.take i ++ f :: L.drop i := by
  rw [List.take_succ_eq_append_getElem hi, List.append_assoc, List.set_append_right _ _ (by rw [List.length_take]; omega), List.length_take, Nat.min_eq_left (by omega), Nat.sub_self]
  rfl
theorem fl_seenD (L : List Fld) (zs : List AV) {i : Nat} (hi : i ≤ L.length) : Seen (fl L ++ zs) (0 + i * 2) (L.length - i) 2 (fldL (L.drop i)) := by
  refine ⟨by rw [fldL_len, List.length_drop], flat_fld _, fun k e j a he ha => ?_⟩
  have hk := (List.getElem?_eq_some_iff.1 he).1
  have hj := (List.getElem?_eq_some_iff.1 ha).1
  have hl := (flat_fld _ k e he).1
  rw [fldL_len, List.length_drop] at hk
  rw [fldL_at (by rw [List.length_drop]; exact hk)] at he
  have e1 : 0 + i * 2 + k * 2 + j = 0 + (i + k) * 2 + j := by omega
  rw [e1, fl_get (by omega) (by omega)]
  cases he
  rw [List.getElem_drop] at ha
  exact ha
section
variable {st : St} {R : AV → St → Prop} {b p cap : Nat} {r : Option Nat}
/-- the place of a name's first field -/
theorem put1_a {f : Fld} {q : Nat} {name : ByteArray} (hs : f.1.size ≤ maxLen) (hn : name.size ≤ maxLen) (hq : st.heap[q]? = some [.s name]) (h : R (.b (ofB name f)) ⟨st.heap ++ [[.s f.1, .s f.2]], st.tk⟩) : ACalls Tryd.prog 46 [.agg [.s f.1, .s f.2], .ptr q 0] st R := by
  have hof : decide (foldB f.1 = foldB name) = ofB name f := rfl
  have q1 := sameO_p f.1 name hs hn
  rw [hof] at q1
  refine ACalls.of_vc T_ok mixed Tryd.func46 rfl Tryd.call46 ?_
  refine ⟨_, last_at _ _, ?_⟩
  refine ⟨_, ap hq, ?_⟩
  refine .p rfl q1 ?_
  exact h
theorem indexP_a {q : Nat} {name : ByteArray} (hn : name.size ≤ maxLen) (l : List Fld) (zs : List AV) (hl : l.length ≤ 1099511627776) (hz : ∀ f ∈ l, f.1.size ≤ 1099511627776) (hp : st.heap[p]? = some (fl l ++ zs)) (hq : st.heap[q]? = some [.s name])
    (h : ∀ (v : Int) st', Mv 0 (fun _ => False) st st' → ((v = -1 ∧ ∀ i (hi : i < l.length), ofB name l[i] = false) ∨ ∃ (k : Nat) (hk : k < l.length), v = (k : Int) ∧ ofB name l[k] = true ∧ ∀ i (hi : i < l.length), i < k → ofB name l[i] = false) → R (.i v) st') :
    ACalls Tryd.prog 45 [.hs p 0 l.length cap 2, .fn (.func 46) [] [.ptr q 0]] st R := by
  have hmx : maxLen = 9223372036854775807 := rfl
  refine ACalls.of_vc T_ok mixed Tryd.func45 rfl Tryd.call45 ?_
  refine vc_loop [8] (fun g vals st' => ∃ k : Nat, k + g = l.length ∧ vals = [.i k] ∧ Mv 0 (fun _ => False) st st' ∧ ∀ i (hi : i < l.length), i < k → ofB name l[i] = false) l.length rfl ⟨0, by omega, rfl, .refl (Nat.zero_le _), fun i _ h => absurd h (by omega)⟩ ?_
  rintro g vals st' ⟨k, hk, rfl, m, hall⟩
  have hp' := m.at' hp (fun e => e)
  have hq' := m.at' hq (fun e => e)
  refine cnd_split (fun hd => ?_) (fun hd => ?_)
  · have hd := of_decide_eq_true hd
    have k1 : k < l.length := by omega
    have sz := hz l[k] (List.getElem_mem k1)
    refine ⟨k, rfl, k1, ?_⟩
    refine ⟨_, hp', ld_fld k1 ?_⟩
    refine .s (put1_a (by omega) hn hq' ?_)
    refine cnd_split (fun h2 => ?_) (fun h2 => ?_)
    · exact h k _ (m.alloc _) (.inr ⟨k, k1, rfl, h2, hall⟩)
    · skip
      intro c hc
      rw [IntWalk.i64_in _ (by omega)] at hc
      obtain rfl : c = ((k + 1 : Nat) : Int) := by omega
      refine ⟨g - 1, by omega, k + 1, by omega, rfl, m.alloc _, fun i hi hik => ?_⟩
      by_cases e : i = k
      · subst e; exact h2
      · exact hall i hi (by omega)
  · have hd := of_decide_eq_false hd
    exact h (-1) _ m (.inl ⟨rfl, fun i hi => hall i hi (by omega)⟩)
theorem indexPE_a (a : AV) (ha : a = .nilS ∨ a = .sl .tight 2 []) (g : Fn) (us vs : List AV) (h : R (.i (-1)) st) : ACalls Tryd.prog 45 [a, .fn g us vs] st R := by
  rcases ha with rfl | rfl
  · refine ACalls.of_vc T_ok mixed Tryd.func45 rfl Tryd.call45 ?_
    refine vc_loop [8] (fun g vals st' => vals = [.i 0] ∧ st' = st) 0 rfl ⟨rfl, rfl⟩ ?_
    rintro g vals st' ⟨rfl, rfl⟩
    exact h
  · refine ACalls.of_vc T_ok mixed Tryd.func45 rfl Tryd.call45 ?_
    refine vc_loop [8] (fun g vals st' => vals = [.i 0] ∧ st' = st) 0 rfl ⟨rfl, rfl⟩ ?_
    rintro g vals st' ⟨rfl, rfl⟩
    exact h
set_option maxHeartbeats 2000000 in
/-- one field put among others, where there is room -/
theorem insert_a (L : List Fld) (zs : List AV) (i : Nat) (a v : ByteArray) (hl : L.length ≤ 1099511627776) (hi : i ≤ L.length) (hcap : L.length + 1 ≤ cap) (hp : st.heap[p]? = some (fl L ++ zs)) (hz : L.length * 2 + zs.length = cap * 2)
    (h : ∀ st' zs', Mv 0 (fun q => q = p) st st' → st'.heap[p]? = some (fl (L.take i ++ (a, v) :: L.drop i) ++ zs') → (fl (L.take i ++ (a, v) :: L.drop i) ++ zs').length = cap * 2 → R (.hs p 0 (L.length + 1) cap 2) st') :
    ACalls Tryd.prog 47 [.hs p 0 L.length cap 2, .i i, .sl .tight 2 [[.s a, .s v]]] st R := by
  have hmx : maxLen = 9223372036854775807 := rfl
  have hfl := fl_len L
  refine ACalls.of_vc T_ok mixed Tryd.func47 rfl Tryd.call47 ?_
  refine ⟨i, rfl, hi, by omega, fun lo1 hlo1 => ?_⟩
  refine cnd_split (fun h1 => ?_) (fun h1 => ?_)
  · have h1 : (i : Int) = (L.length : Int) := beq_iff_eq.1 h1
    obtain rfl : i = L.length := by omega
    have el := fldL_len L
    have hra := rows_app (zs := zs) (ys := [[AV.s a, AV.s v]]) (fun e he => (fldL_el L e he).1) (fun e he => by
      have : e = [AV.s a, AV.s v] := by simpa using he
      rw [this]; rfl) (by show 1 * 2 ≤ _; omega)
    rw [el] at hra
    have hst : st.heap[p]? = some ((fldL L).flatten ++ zs) := hp
    refine ⟨fun e => (by cases e), fun _ => ⟨?_, ?_, _, _, hst, rows_seen (fldL_el L) |> (fun s => by rw [el] at s; exact s), fun hroom => ⟨?_, ?_⟩, fun hno => absurd hno (by show ¬ cap < L.length + 1; omega)⟩⟩
    · show (L.length + 1) * 32 ≤ _; omega
    · show L.length + 1 ≤ _; omega
    · show 0 + (L.length + 1) * 2 ≤ _
      rw [List.length_append]
      have : (fldL L).flatten.length = L.length * 2 := fl_len L
      omega
    · have e9 : L.take L.length ++ (a, v) :: L.drop L.length = L ++ [(a, v)] := by simp
      have e8 : (fldL L ++ [[AV.s a, AV.s v]]).flatten ++ zs.drop (1 * 2) = fl (L.take L.length ++ (a, v) :: L.drop L.length) ++ zs.drop 2 := by
        rw [e9]
        show (fldL L ++ fldL [(a, v)]).flatten ++ _ = _
        rw [fldL_appL]
      have e7 := hra.trans e8
      have hh := h ⟨st.heap.set p (setAll ((fldL L).flatten ++ zs) (0 + L.length * 2) [[AV.s a, AV.s v]].flatten), st.tk⟩ (zs.drop 2) ((Mv.refl (C := fun q => q = p) (Nat.zero_le _)).set (fun _ => rfl) _) (by rw [e7]; exact st_eq hst) (by
        rw [List.length_append, fl_len, e9, List.length_append, List.length_drop]
        show (L.length + 1) * 2 + _ = _
        omega)
      exact hh
  have h1 : (i : Int) ≠ (L.length : Int) := beq_eq_false_iff_ne.1 h1
  have hg1 : ([[AV.s a, AV.s v]] : List (List AV)).length = 1 := rfl
  have hi1 : i < L.length := by omega
  intro c hc
  rw [IntWalk.i64_in _ (by omega)] at hc
  obtain rfl : c = ((L.length + 1 : Nat) : Int) := by omega
  refine cnd_split (fun h2 => absurd (of_decide_eq_true h2) (by omega)) (fun _ => ?_)
  intro c hc
  rw [IntWalk.i64_in _ (by omega)] at hc
  obtain rfl : c = ((L.length + 1 : Nat) : Int) := by omega
  refine ⟨L.length + 1, rfl, Nat.zero_le _, hcap, fun lo2 hlo2 => ?_⟩
  obtain rfl : lo2 = 0 := by
    rw [hlo2]
    split <;> rfl
  intro c hc
  rw [IntWalk.i64_in _ (by omega)] at hc
  obtain rfl : c = ((i + 1 : Nat) : Int) := by omega
  refine ⟨i + 1, rfl, by omega, by omega, fun lo3 hlo3 => ?_⟩
  obtain rfl : lo3 = 0 + (i + 1) * 2 := by
    rw [hlo3, if_neg (by omega)]
  have hfl0 : (fl L ++ zs).length = cap * 2 := by rw [List.length_append, fl_len]; omega
  obtain ⟨c0, cs0, hcs0⟩ : ∃ c0 cs0, fl L ++ zs = c0 :: cs0 := by
    cases hq : fl L ++ zs with
    | nil => rw [hq] at hfl0; simp at hfl0; omega
    | cons c0 cs0 => exact ⟨c0, cs0, rfl⟩
  refine .o (n := L.length + 1 - (i + 1) - 1) ovF (by rw [show L.length + 1 - (i + 1) - 1 + 1 = L.length + 1 - (i + 1) by omega]; rfl) (hp.trans (congrArg some hcs0)) ?_
  have lo_i : ∀ c x : Nat, x = (if c = i then 0 else 0 + i * 2) → c ≠ i → x = 0 + i * 2 := fun c x e h => by rw [e, if_neg h]
  have lo_j : ∀ c x : Nat, x = (if c = i + 1 then 0 else 0 + (i + 1) * 2) → c ≠ i + 1 → x = 0 + (i + 1) * 2 := fun c x e h => by rw [e, if_neg h]
  refine .x (by kernel_rfl) ?_
  intro c hc
  rw [IntWalk.i64_in _ (by omega)] at hc
  obtain rfl : c = ((i + 1 : Nat) : Int) := by omega
  refine ⟨i + 1, rfl, by omega, by omega, fun lo4 hlo4 => ?_⟩
  obtain rfl := lo_j _ _ hlo4 (by omega)
  refine ⟨i, rfl, by omega, by omega, fun lo5 hlo5 => ?_⟩
  obtain rfl := lo_i _ _ hlo5 (by omega)
  have hs5 := fl_seenD L zs hi
  rw [show L.length - i = min (L.length + 1 - 0 - (i + 1)) (L.length + 1 - 0 - i) by omega] at hs5
  refine ⟨_, _, hp, hs5, ?_⟩
  refine ⟨_, hp, ?_, ?_⟩
  · show 0 + (i + 1) * 2 + (fldL (L.drop i)).length * 2 ≤ _
    rw [hfl0, fldL_len, List.length_drop]
    omega
  rw [ins_copy hi1 (by
    rw [List.length_append, fl_len] at hfl0
    omega)]
  have hp2 : (st.heap.set p (fl (L.take (i + 1) ++ L.drop i) ++ zs.drop 2))[p]? = some (fl (L.take (i + 1) ++ L.drop i) ++ zs.drop 2) := st_eq hp
  have hl2 : (L.take (i + 1) ++ L.drop i).length = L.length + 1 := by rw [List.length_append, List.length_take, List.length_drop]; omega
  have hset := rows_setE (zs := zs.drop 2) (fun e he => (fldL_el (L.take (i + 1) ++ L.drop i) e he).1) (k := i) (by rw [fldL_len, hl2]; omega) (e' := [AV.s a, AV.s v]) rfl
  have hset2 : ((fldL (L.take (i + 1) ++ L.drop i)).set i [AV.s a, AV.s v]).flatten ++ zs.drop 2 = fl (L.take i ++ (a, v) :: L.drop i) ++ zs.drop 2 := by
    congr 2
    rw [← ins_set hi1]
    unfold fldL
    rw [List.map_set]
  have hset := hset.trans hset2
  refine ⟨i, rfl, by omega, by omega, fun lo6 hlo6 => ?_⟩
  obtain rfl := lo_i _ _ hlo6 (by omega)
  have htk : ([[AV.s a, AV.s v]] : List (List AV)).take (L.length + 1 - 0 - i) = [[AV.s a, AV.s v]] := List.take_of_length_le (by rw [hg1]; omega)
  refine ⟨_, hp2, ?_, ?_⟩
  · show 0 + i * 2 + (([[AV.s a, AV.s v]] : List (List AV)).take (L.length + 1 - 0 - i)).length * 2 ≤ _
    rw [htk, List.length_append, fl_len, hl2, hg1]
    omega
  show R (.hs p 0 (L.length + 1) cap 2) ⟨(st.heap.set p (fl (L.take (i + 1) ++ L.drop i) ++ zs.drop 2)).set p (setAll (fl (L.take (i + 1) ++ L.drop i) ++ zs.drop 2) (0 + i * 2) (([[AV.s a, AV.s v]] : List (List AV)).take (L.length + 1 - 0 - i)).flatten), st.tk⟩
  rw [htk]
  show R (.hs p 0 (L.length + 1) cap 2) ⟨(st.heap.set p (fl (L.take (i + 1) ++ L.drop i) ++ zs.drop 2)).set p (setAll (fl (L.take (i + 1) ++ L.drop i) ++ zs.drop 2) (0 + i * 2) [AV.s a, AV.s v]), st.tk⟩
  have hl3 : (L.take i ++ (a, v) :: L.drop i).length = L.length + 1 := by rw [List.length_append, List.length_take, List.length_cons, List.length_drop]; omega
  refine h _ (zs.drop 2) (((Mv.refl (C := fun q => q = p) (Nat.zero_le _)).set (fun _ => rfl) _).set (fun _ => rfl) _) ?_ ?_
  · rw [← hset]
    exact st_eq hp2
  · rw [List.length_append, fl_len, hl3, List.length_drop]
    rw [List.length_append, fl_len] at hfl0
    omega
end
end Go.Proofs.YtookaenbpfpegaaDoor
