/- Bags in the document: what puts, renames, goes, and goes behind. No statement of its own. -/
import Derived.Test.YtookaenbpfpegaaDoorPb
import Derived.Test.YtookaenbpfpegaaDoorSm
set_option linter.unusedSimpArgs false
set_option linter.unusedVariables false
set_option maxRecDepth 100000
namespace Go.Proofs.YtookaenbpfpegaaDoor
open Go.RowKit
section
attribute [local irreducible] vcApp
theorem without13_p (n : ByteArray) (hn : n.size ≤ 1099511627776) (l : List Fld) (hl : l.length ≤ 1000000) (hz : ∀ f ∈ l, f.1.size ≤ 1099511627776) : APure Tryd.prog 22 [.sl .no 2 (fldL l), .s n] (.sl .no 2 (fldL (withoutW n l))) [] := by
  have hmx : maxLen = 9223372036854775807 := rfl
  have el := fldL_len l
  refine APure.ofW rfl ?_
  refine ACalls.of_vc T_ok mixed Tryd.func22 rfl Tryd.call22 ?_
  refine vc_loop [5, 6] (fun g vals st' => ∃ (k : Nat) (a : AV), k + g = l.length ∧ vals = [a, .i k] ∧ Acc 0 st'.tk 2 a (fldL (withoutW n (l.take k)))) l.length rfl ⟨0, _, by omega, rfl, .nil⟩ ?_
  rintro g vals st1 ⟨k, a, hk, rfl, hA⟩
  have hwl := withoutW_len n (l.take k)
  rw [List.length_take] at hwl
  have hfl := fldL_len (withoutW n (l.take k))
  have hA0 := hA
  generalize hes : fldL (withoutW n (l.take k)) = es at hA hfl hA0
  cases hA
  all_goals
    refine cnd_split (fun hd => ?_) (fun hd => ?_)
    · have hd := of_decide_eq_true hd
      have k1 : k < l.length := by omega
      have ht := withoutW_take (n := n) k1
      refine ⟨k, _, rfl, fldL_at k1, ?_⟩
      refine .p rfl (of13_p l[k].1 l[k].2 n (hz _ (List.getElem_mem k1)) hn) ?_
      refine cnd_split (fun h3 => ?_) (fun h3 => ?_)
      · have h3 : ofB n l[k] = false := by have h3 : (!ofB n l[k]) = true := h3; simpa only [Bool.not_eq_true'] using h3
        rw [if_neg (by rw [h3]; decide)] at ht
        refine ⟨k, _, rfl, fldL_at k1, ?_⟩
        refine Acc.app (n := 0) (i := ti55) hA0 (Nat.zero_le _) (List.cons_ne_nil _ _) ?_ ?_ (fun t9 e9 tk9 z0 z1 z2 z3 => ?_)
        · show (List.length _ + 1) * 32 ≤ _; omega
        · show List.length _ + 1 ≤ _; omega
        intro c hc
        rw [IntWalk.i64_in _ (by omega)] at hc
        obtain rfl : c = ((k + 1 : Nat) : Int) := by omega
        refine ⟨g - 1, by omega, k + 1, _, by omega, rfl, ?_⟩
        rw [ht, ← fldL_app, hes]
        exact .own _ _ _ (Nat.zero_le _) z1
      · have h3 : ofB n l[k] = true := by have h3 : (!ofB n l[k]) = false := h3; simpa only [Bool.not_eq_false'] using h3
        rw [if_pos h3, List.append_nil] at ht
        intro c hc
        rw [IntWalk.i64_in _ (by omega)] at hc
        obtain rfl : c = ((k + 1 : Nat) : Int) := by omega
        refine ⟨g - 1, by omega, k + 1, _, by omega, rfl, ?_⟩
        rw [ht, hes]
        exact hA0
    · have hd := of_decide_eq_false hd
      show resW _ (.sl .no 2 (fldL (withoutW n l)))
      rw [List.take_of_length_le (by omega)] at hes
      rw [hes]
      first | exact .inl rfl | exact .inr (.inl ⟨2, rfl, rfl⟩)
theorem put13_p (n v : ByteArray) (hn : n.size ≤ 1099511627776) (l : List Fld) (hl : l.length ≤ 1000000) (hz : ∀ f ∈ l, f.1.size ≤ 1099511627776) : APure Tryd.prog 40 [.sl .no 2 (fldL l), .s n, .s v] (.sl .no 2 (fldL (putW n v l))) [] := by
  have hmx : maxLen = 9223372036854775807 := rfl
  have el := fldL_len l
  refine APure.ofW rfl ?_
  refine ACalls.of_vc T_ok mixed Tryd.func40 rfl Tryd.call40 ?_
  refine vc_loop [7, 8, 9] (fun g vals st' => ∃ (k : Nat) (a : AV) (dn : Bool) (o : List Fld), k + g = l.length ∧ vals = [a, .b dn, .i k] ∧ Acc 0 st'.tk 2 a (fldL o) ∧ o.length ≤ k ∧ ((dn = false ∧ putW n v l = o ++ putW n v (l.drop k)) ∨ (dn = true ∧ putW n v l = o ++ withoutW n (l.drop k)))) l.length rfl ⟨0, _, false, [], by omega, rfl, .nil, Nat.le_refl _, .inl ⟨rfl, rfl⟩⟩ ?_
  rintro g vals st1 ⟨k, a, dn, o, hk, rfl, hA, hol, hrel⟩
  have hfl := fldL_len o
  have hA0 := hA
  generalize hes : fldL o = es at hA hfl hA0
  cases hA
  all_goals
    refine cnd_split (fun hd => ?_) (fun hd => ?_)
    · have hd := of_decide_eq_true hd
      have k1 : k < l.length := by omega
      have hdr := List.drop_eq_getElem_cons k1
      rw [hdr] at hrel
      refine ⟨k, _, rfl, fldL_at k1, ?_⟩
      refine .p rfl (of13_p l[k].1 l[k].2 n (hz _ (List.getElem_mem k1)) hn) ?_
      refine cnd_split (fun h3 => ?_) (fun h3 => ?_)
      · have h3 : ofB n l[k] = false := by have h3 : (!ofB n l[k]) = true := h3; simpa only [Bool.not_eq_true'] using h3
        have e1 : putW n v (l[k] :: l.drop (k + 1)) = l[k] :: putW n v (l.drop (k + 1)) := by rw [putW, if_neg (by rw [h3]; decide)]
        have e2 : withoutW n (l[k] :: l.drop (k + 1)) = l[k] :: withoutW n (l.drop (k + 1)) := by unfold withoutW; rw [List.filter_cons, h3]; rfl
        rw [e1, e2] at hrel
        refine ⟨k, _, rfl, fldL_at k1, ?_⟩
        refine Acc.app (n := 0) (i := ti55) hA0 (Nat.zero_le _) (List.cons_ne_nil _ _) ?_ ?_ (fun t9 e9 tk9 z0 z1 z2 z3 => ?_)
        · show (List.length _ + 1) * 32 ≤ _; omega
        · show List.length _ + 1 ≤ _; omega
        intro c hc
        rw [IntWalk.i64_in _ (by omega)] at hc
        obtain rfl : c = ((k + 1 : Nat) : Int) := by omega
        refine ⟨g - 1, by omega, k + 1, _, dn, o ++ [l[k]], by omega, rfl, ?_, by rw [List.length_append]; show _ + 1 ≤ _; omega, ?_⟩
        · have := fldL_app o l[k].1 l[k].2
          show Acc 0 tk9 2 _ (fldL (o ++ [(l[k].1, l[k].2)]))
          rw [← this, hes]
          exact .own _ _ _ (Nat.zero_le _) z1
        · simpa only [List.append_assoc, List.singleton_append] using hrel
      · have h3 : ofB n l[k] = true := by have h3 : (!ofB n l[k]) = false := h3; simpa only [Bool.not_eq_false'] using h3
        have e1 : putW n v (l[k] :: l.drop (k + 1)) = (n, v) :: withoutW n (l.drop (k + 1)) := by rw [putW, if_pos h3]
        have e2 : withoutW n (l[k] :: l.drop (k + 1)) = withoutW n (l.drop (k + 1)) := by unfold withoutW; rw [List.filter_cons, h3]; rfl
        rw [e1, e2] at hrel
        cases dn with
        | false =>
          have hrel := (hrel.resolve_right (fun h => by cases h.1)).2
          refine Acc.app (n := 0) (i := ti55) hA0 (Nat.zero_le _) (List.cons_ne_nil _ _) ?_ ?_ (fun t9 e9 tk9 z0 z1 z2 z3 => ?_)
          · show (List.length _ + 1) * 32 ≤ _; omega
          · show List.length _ + 1 ≤ _; omega
          intro c hc
          rw [IntWalk.i64_in _ (by omega)] at hc
          obtain rfl : c = ((k + 1 : Nat) : Int) := by omega
          refine ⟨g - 1, by omega, k + 1, _, true, o ++ [(n, v)], by omega, rfl, ?_, by rw [List.length_append]; show _ + 1 ≤ _; omega, .inr ⟨rfl, ?_⟩⟩
          · rw [← fldL_app, hes]
            exact .own _ _ _ (Nat.zero_le _) z1
          · simpa only [List.append_assoc, List.singleton_append] using hrel
        | true =>
          have hrel := (hrel.resolve_left (fun h => by cases h.1)).2
          intro c hc
          rw [IntWalk.i64_in _ (by omega)] at hc
          obtain rfl : c = ((k + 1 : Nat) : Int) := by omega
          refine ⟨g - 1, by omega, k + 1, _, true, o, by omega, rfl, ?_, by omega, .inr ⟨rfl, hrel⟩⟩
          rw [hes]; exact hA0
    · have hd := of_decide_eq_false hd
      rw [List.drop_of_length_le (by omega)] at hrel
      cases dn with
      | false =>
        have hrel : putW n v l = o ++ [(n, v)] := (hrel.resolve_right (fun h => by cases h.1)).2
        refine Acc.app (n := 0) (i := ti55) hA0 (Nat.zero_le _) (List.cons_ne_nil _ _) ?_ ?_ (fun t9 e9 tk9 z0 z1 z2 z3 => ?_)
        · show (List.length _ + 1) * 32 ≤ _; omega
        · show List.length _ + 1 ≤ _; omega
        show resW _ (.sl .no 2 (fldL (putW n v l)))
        rw [hrel, ← fldL_app, hes]
        exact .inl rfl
      | true =>
        have hrel : putW n v l = o := ((hrel.resolve_left (fun h => by cases h.1)).2).trans (List.append_nil _)
        show resW _ (.sl .no 2 (fldL (putW n v l)))
        rw [hrel, hes]
        first | exact .inl rfl | exact .inr (.inl ⟨2, rfl, rfl⟩)
theorem rename13_p (n v : ByteArray) (hn : n.size ≤ 1099511627776) (l : List Fld) (hl : l.length ≤ 1000000) (hz : ∀ f ∈ l, f.1.size ≤ 1099511627776) : APure Tryd.prog 41 [.sl .no 2 (fldL l), .s n, .s v] (.sl .no 2 (fldL (renW n v l))) [] := by
  have hmx : maxLen = 9223372036854775807 := rfl
  have el := fldL_len l
  refine APure.ofW rfl ?_
  refine ACalls.of_vc T_ok mixed Tryd.func41 rfl Tryd.call41 ?_
  refine vc_loop [7, 8] (fun g vals st' => ∃ (k : Nat) (a : AV), k + g = l.length ∧ vals = [a, .i k] ∧ Acc 0 st'.tk 2 a (fldL (renW n v (l.take k)))) l.length rfl ⟨0, _, by omega, rfl, .nil⟩ ?_
  rintro g vals st1 ⟨k, a, hk, rfl, hA⟩
  have hfl := fldL_len (renW n v (l.take k))
  have hrl : (renW n v (l.take k)).length ≤ k := by unfold renW; rw [List.length_map, List.length_take]; omega
  have hA0 := hA
  generalize hes : fldL (renW n v (l.take k)) = es at hA hfl hA0
  cases hA
  all_goals
    refine cnd_split (fun hd => ?_) (fun hd => ?_)
    · have hd := of_decide_eq_true hd
      have k1 : k < l.length := by omega
      have ht : renW n v (l.take (k + 1)) = renW n v (l.take k) ++ [renF n v l[k]] := by unfold renW; rw [List.take_succ_eq_append_getElem k1, List.map_append]; rfl
      refine ⟨k, _, rfl, fldL_at k1, ?_⟩
      refine ⟨_, last_at _ _, ?_⟩
      refine ⟨_, last_upd _ _ _, ?_⟩
      refine .p rfl (of13_p l[k].1 l[k].2 n (hz _ (List.getElem_mem k1)) hn) ?_
      refine cnd_split (fun h3 => ?_) (fun h3 => ?_)
      · have h3 : ofB n l[k] = true := h3
        refine ⟨_, last_upd _ _ _, ?_⟩
        refine ⟨_, st_eq (last_upd _ _ _), ?_⟩
        refine Acc.app (n := 0) (i := ti55) hA0 (Nat.zero_le _) (List.cons_ne_nil _ _) ?_ ?_ (fun t9 e9 tk9 z0 z1 z2 z3 => ?_)
        · show (List.length _ + 1) * 32 ≤ _; omega
        · show List.length _ + 1 ≤ _; omega
        intro c hc
        rw [IntWalk.i64_in _ (by omega)] at hc
        obtain rfl : c = ((k + 1 : Nat) : Int) := by omega
        refine ⟨g - 1, by omega, k + 1, _, by omega, rfl, ?_⟩
        have e1 : renF n v l[k] = (v, l[k].2) := by unfold renF; rw [if_pos h3]
        rw [ht, e1, ← fldL_app, hes]
        exact .own _ _ _ (Nat.zero_le _) z1
      · have h3 : ofB n l[k] = false := h3
        refine ⟨_, last_upd _ _ _, ?_⟩
        refine Acc.app (n := 0) (i := ti55) hA0 (Nat.zero_le _) (List.cons_ne_nil _ _) ?_ ?_ (fun t9 e9 tk9 z0 z1 z2 z3 => ?_)
        · show (List.length _ + 1) * 32 ≤ _; omega
        · show List.length _ + 1 ≤ _; omega
        intro c hc
        rw [IntWalk.i64_in _ (by omega)] at hc
        obtain rfl : c = ((k + 1 : Nat) : Int) := by omega
        refine ⟨g - 1, by omega, k + 1, _, by omega, rfl, ?_⟩
        have e1 : renF n v l[k] = (l[k].1, l[k].2) := by unfold renF; rw [if_neg (by rw [h3]; decide)]
        rw [ht, e1, ← fldL_app, hes]
        exact .own _ _ _ (Nat.zero_le _) z1
    · have hd := of_decide_eq_false hd
      show resW _ (.sl .no 2 (fldL (renW n v l)))
      rw [List.take_of_length_le (by omega)] at hes
      rw [hes]
      first | exact .inl rfl | exact .inr (.inl ⟨2, rfl, rfl⟩)
/-- the last field of a name so far -/
def LastW (n : ByteArray) (l : List Fld) (k : Nat) (v : Int) : Prop := (v = -1 ∧ ∀ j (hj : j < l.length), j < k → ofB n l[j] = false) ∨ ∃ (i : Nat) (hi : i < l.length), v = (i : Int) ∧ i < k ∧ ofB n l[i] = true ∧ ∀ j (hj : j < l.length), i < j → j < k → ofB n l[j] = false
def setW (e : ByteArray) (v : Int) (k : Nat) (f : Fld) : Fld := if (k : Int) = v then (f.1, appW f.2 [e]) else f
set_option maxHeartbeats 1000000 in
theorem behind13_p (n e : ByteArray) (hn : n.size ≤ 1099511627776) (he : e.size ≤ 1099511627776) (l : List Fld) (hl : l.length ≤ 1000000) (hz : ∀ f ∈ l, f.1.size ≤ 1099511627776 ∧ f.2.size ≤ 1099511627776) : APure Tryd.prog 42 [.sl .no 2 (fldL l), .s n, .s e] (.sl .no 2 (fldL (behW n e l))) [] := by
  have hmx : maxLen = 9223372036854775807 := rfl
  have el := fldL_len l
  refine APure.ofW rfl ?_
  refine ACalls.of_vc T_ok mixed Tryd.func42 rfl Tryd.call42 ?_
  refine vc_loop [7, 8] (fun g vals st' => ∃ (k : Nat) (v : Int), k + g = l.length ∧ vals = [.i v, .i k] ∧ LastW n l k v ∧ st' = ⟨[], []⟩) l.length rfl ⟨0, -1, by omega, rfl, .inl ⟨rfl, fun j _ h => absurd h (by omega)⟩, rfl⟩ ?_
  rintro g vals st1 ⟨k, v, hk, rfl, hL, rfl⟩
  refine cnd_split (fun hd => ?_) (fun hd => ?_)
  · have hd := of_decide_eq_true hd
    have k1 : k < l.length := by omega
    refine ⟨k, _, rfl, fldL_at k1, ?_⟩
    refine .p rfl (of13_p l[k].1 l[k].2 n (hz _ (List.getElem_mem k1)).1 hn) ?_
    refine cnd_split (fun h3 => ?_) (fun h3 => ?_)
    · have h3 : ofB n l[k] = true := h3
      intro c hc
      rw [IntWalk.i64_in _ (by omega)] at hc
      obtain rfl : c = ((k + 1 : Nat) : Int) := by omega
      exact ⟨g - 1, by omega, k + 1, (k : Int), by omega, rfl, .inr ⟨k, k1, rfl, by omega, h3, fun j _ h1 h2 => by omega⟩, rfl⟩
    · have h3 : ofB n l[k] = false := h3
      intro c hc
      rw [IntWalk.i64_in _ (by omega)] at hc
      obtain rfl : c = ((k + 1 : Nat) : Int) := by omega
      refine ⟨g - 1, by omega, k + 1, v, by omega, rfl, ?_, rfl⟩
      have hst : ∀ j (hj : j < l.length), j < k + 1 → ¬ j < k → ofB n l[j] = false := fun j hj h1 h2 => by
        obtain rfl : j = k := by omega
        exact h3
      rcases hL with ⟨h1, h2⟩ | ⟨i, hi, h1, h2, h4, h5⟩
      · exact .inl ⟨h1, fun j hj hjk => if h : j < k then h2 j hj h else hst j hj hjk h⟩
      · exact .inr ⟨i, hi, h1, by omega, h4, fun j hj hij hjk => if h : j < k then h5 j hj hij h else hst j hj hjk h⟩
  · have hd := of_decide_eq_false hd
    obtain rfl : k = l.length := by omega
    have hres : behW n e l = if v < 0 then l ++ [(n, e)] else l.mapIdx (setW e v) := by
      rcases hL with ⟨h1, h2⟩ | ⟨i, hi, h1, h2, h4, h5⟩
      · rw [if_pos (by omega), behW_no (fun j hj => h2 j hj hj)]
      · rw [if_neg (by omega), behW_at ⟨hi, h4, fun j hj hij => h5 j hj hij hj⟩ hi]
        apply List.ext_getElem?
        intro q
        rw [List.getElem?_mapIdx]
        unfold setW
        by_cases hq : q = i
        · subst hq
          rw [List.getElem?_set_self hi, List.getElem?_eq_getElem hi, Option.map_some, if_pos h1.symm]
        · rw [List.getElem?_set_ne (Ne.symm hq)]
          cases l[q]? with
          | none => rfl
          | some f => rw [Option.map_some, if_neg (by omega)]
    have hsame : v < 0 → l.mapIdx (setW e v) = l := fun h => by
      apply List.ext_getElem?
      intro q
      rw [List.getElem?_mapIdx]
      unfold setW
      cases l[q]? with
      | none => rfl
      | some f => rw [Option.map_some, if_neg (by omega)]
    clear hL
    refine vc_loop [9, 10] (fun g vals st' => ∃ (k : Nat) (a : AV), k + g = l.length ∧ vals = [a, .i k] ∧ Acc 0 st'.tk 2 a (fldL ((l.mapIdx (setW e v)).take k))) l.length rfl ⟨0, _, by omega, rfl, .nil⟩ ?_
    rintro g2 vals st1 ⟨k, a, hk, rfl, hA⟩
    have hfl := fldL_len ((l.mapIdx (setW e v)).take k)
    have hrl : ((l.mapIdx (setW e v)).take k).length ≤ k := by rw [List.length_take]; omega
    have hA0 := hA
    generalize hes : fldL ((l.mapIdx (setW e v)).take k) = es at hA hfl hA0
    cases hA
    all_goals
      refine cnd_split (fun hd => ?_) (fun hd => ?_)
      · have hd := of_decide_eq_true hd
        have k1 : k < l.length := by omega
        have ht : (l.mapIdx (setW e v)).take (k + 1) = (l.mapIdx (setW e v)).take k ++ [setW e v k l[k]] := by rw [List.take_succ_eq_append_getElem (by rw [List.length_mapIdx]; exact k1), List.getElem_mapIdx]
        have hz1 := hz l[k] (List.getElem_mem k1)
        have q2 := appendR_p l[k].2 [e] hz1.2 (by show 1 ≤ 1099511627776; decide) (by rw [joinC_one]; exact he)
        refine ⟨k, _, rfl, fldL_at k1, ?_⟩
        refine ⟨_, last_at _ _, ?_⟩
        refine cnd_split (fun h3 => ?_) (fun h3 => ?_)
        · have h3 : (k : Int) = v := beq_iff_eq.1 h3
          refine ⟨_, last_upd _ _ _, ?_⟩
          refine .p rfl q2 ?_
          refine ⟨_, last_upd _ _ _, ?_⟩
          refine ⟨_, st_eq (last_upd _ _ _), ?_⟩
          refine Acc.app (n := 0) (i := ti55) hA0 (Nat.zero_le _) (List.cons_ne_nil _ _) ?_ ?_ (fun t9 e9 tk9 z0 z1 z2 z3 => ?_)
          · show (List.length _ + 1) * 32 ≤ _; omega
          · show List.length _ + 1 ≤ _; omega
          intro c hc
          rw [IntWalk.i64_in _ (by omega)] at hc
          obtain rfl : c = ((k + 1 : Nat) : Int) := by omega
          refine ⟨g2 - 1, by omega, k + 1, _, by omega, rfl, ?_⟩
          have e1 : setW e v k l[k] = (l[k].1, appW l[k].2 [e]) := if_pos h3
          rw [ht, e1, ← fldL_app, hes]
          exact .own _ _ _ (Nat.zero_le _) z1
        · have h3 : ¬ (k : Int) = v := beq_eq_false_iff_ne.1 h3
          refine ⟨_, last_upd _ _ _, ?_⟩
          refine Acc.app (n := 0) (i := ti55) hA0 (Nat.zero_le _) (List.cons_ne_nil _ _) ?_ ?_ (fun t9 e9 tk9 z0 z1 z2 z3 => ?_)
          · show (List.length _ + 1) * 32 ≤ _; omega
          · show List.length _ + 1 ≤ _; omega
          intro c hc
          rw [IntWalk.i64_in _ (by omega)] at hc
          obtain rfl : c = ((k + 1 : Nat) : Int) := by omega
          refine ⟨g2 - 1, by omega, k + 1, _, by omega, rfl, ?_⟩
          have e1 : setW e v k l[k] = (l[k].1, l[k].2) := if_neg h3
          rw [ht, e1, ← fldL_app, hes]
          exact .own _ _ _ (Nat.zero_le _) z1
      · have hd := of_decide_eq_false hd
        rw [List.take_of_length_le (by rw [List.length_mapIdx]; omega)] at hes
        refine cnd_split (fun h3 => ?_) (fun h3 => ?_)
        · have h3 := of_decide_eq_true h3
          rw [hsame h3] at hes
          rw [if_pos h3] at hres
          refine Acc.app (n := 0) (i := ti55) hA0 (Nat.zero_le _) (List.cons_ne_nil _ _) ?_ ?_ (fun t9 e9 tk9 z0 z1 z2 z3 => ?_)
          · show (List.length _ + 1) * 32 ≤ _; omega
          · show List.length _ + 1 ≤ _; omega
          show resW _ (.sl .no 2 (fldL (behW n e l)))
          rw [hres, ← fldL_app, hes]
          exact .inl rfl
        · have h3 := of_decide_eq_false h3
          rw [if_neg h3] at hres
          show resW _ (.sl .no 2 (fldL (behW n e l)))
          rw [hres, hes]
          first | exact .inl rfl | exact .inr (.inl ⟨2, rfl, rfl⟩)
end
end Go.Proofs.YtookaenbpfpegaaDoor
