/- Programs of rules, line by line: what the program and the document do. No statement of its own. -/
import Derived.Test.YtgaidgblihnldaaGreatDoorKa
import Derived.Test.YtgaidgblihnldaaGreatDoorWk
set_option linter.unusedSimpArgs false
set_option linter.unusedVariables false
set_option maxRecDepth 100000
namespace Go.Proofs.YtgaidgblihnldaaGreatDoor
open Go.RowKit
theorem split_p (s : ByteArray) (hs : s.size ≤ 4000000000) : APure Tryz.prog 64 [.s s, .s ⟨#[10]⟩] (.sl .no 1 (strL (linesB s))) [] := by
  refine ⟨rfl, Tryz.call64, fun J w vs hw hlen ha => ?_⟩
  have hv : vs = #[.string s, .string ⟨#[10]⟩] := by
    apply Array.ext
    · simpa using hlen.symm
    · intro i h1 h2
      have h2' : i < 2 := by simpa using h2
      match i, h2' with
      | 0, _ =>
        have := (ha 0 _ vs[0] rfl (by simp [h1])).of_lit
        rw [this]; rfl
      | 1, _ =>
        have := (ha 1 _ vs[1] rfl (by simp [h1])).of_lit
        rw [this]; rfl
  subst hv
  obtain ⟨m, hm⟩ := hw w (Below.refl _ _)
  refine (Tryz.strings_Split s ⟨#[10]⟩ m w (by omega) hm (by decide)).mono ?_
  rintro e w' ⟨rfl, rfl⟩
  have hl : (linesB s).length = Lib.countB s ⟨#[10]⟩ + 1 := by rw [← split_lines]; exact Lib.splitB_all _ (by decide) 0 _ s rfl
  have hll := linesB_len s
  have hmx : maxLen = 9223372036854775807 := rfl
  rw [split_lines, ← hl]
  have hb : Below w.heap.size w (w.alloc (.cells ((linesB s).map Value.string).toArray 9)) := (Below.refl _ w).alloc (Nat.le_refl _) _
  refine ⟨_, fun _ => ⟨0, 0, 0⟩, rfl, ⟨⟨Nat.le_refl _, hw⟩, hb, fun p cs h => by simp at h, fun p q h => by simp at h, fun t e h => by simp at h⟩, ?_⟩
  have hrow : Row w.heap.size J ⟨[], []⟩ (fun _ => 0) (fun _ => ⟨0, 0, 0⟩) (w.alloc (.cells ((linesB s).map Value.string).toArray 9)) 1 (strL (linesB s)) ((linesB s).map Value.string) := by
    refine ⟨by rw [List.length_map, strL_len, Nat.mul_one], fun k e he => ?_, fun k e j a he ha => ?_⟩
    · have := strL_el (linesB s) e (List.mem_of_getElem? he)
      exact this
    · unfold strL at he
      rw [List.getElem?_map, Option.map_eq_some_iff] at he
      obtain ⟨x, hx, rfl⟩ := he
      match j, ha with
      | 0, ha =>
        cases ha
        refine ⟨.string x, ?_, .lit _⟩
        rw [Nat.mul_one, Nat.add_zero, List.getElem?_map, hx]
        rfl
      | j + 1, ha => simp at ha
  have hsl := hrow.sl .no w.heap.size 0 (linesB s).length (by rw [strL_len]; exact Nat.le_refl _) (by omega) (fun j u hu => ⟨⟨fun h => absurd h (Nat.lt_irrefl _), fun p hp => by simp at hp, fun t e ht => by simp at ht⟩, ?_⟩) (fun h => by cases h) (fun i e h => by cases h)
  · rw [strL_len] at hsl
    exact hsl
  · rw [cell_block (heap_alloc_new w _), List.getElem?_toArray, Nat.zero_add, hu]
/-- pieces up to a place -/
def CutI (s : ByteArray) (acc : List ByteArray) (k : Nat) : Prop := acc.map (·.data.toList) ++ cutL 10 (s.data.toList.drop k) = cutL 10 s.data.toList
theorem CutI.hit {s : ByteArray} {acc : List ByteArray} {k i : Nat} (h : CutI s acc k) (hi : i < s.size) (hk : k ≤ i) (hno : ∀ j (hj : j < s.size), k ≤ j → j < i → s[j] ≠ 10) (h10 : s[i] = 10) : CutI s (acc ++ [s.extract k i]) (i + 1) := by
  have hl := blen s
  have e : s.data.toList.drop k = (s.extract k i).data.toList ++ 10 :: s.data.toList.drop (i + 1) := by
    rw [exL, List.drop_take]
    have e1 : s.data.toList.drop k = (s.data.toList.drop k).take (i - k) ++ (s.data.toList.drop k).drop (i - k) := (List.take_append_drop _ _).symm
    rw [List.drop_drop, show k + (i - k) = i by omega] at e1
    rw [List.drop_eq_getElem_cons (show i < s.data.toList.length by omega), bget s i hi, h10] at e1
    exact e1
  unfold CutI at h ⊢
  rw [e, cutL_hit (fun b hb => ?_)] at h
  · rw [List.map_append, List.append_assoc]
    exact h
  · obtain ⟨j, hj, rfl⟩ := List.getElem_of_mem hb
    have hj2 : j < i - k := by
      rw [exL, List.length_drop, List.length_take] at hj
      omega
    have hx : (s.extract k i).data.toList[j] = s[k + j]'(by omega) := by
      have : (s.extract k i).data.toList[j]? = s.data.toList[k + j]? := by
        rw [exL, List.drop_take, List.getElem?_take, if_pos hj2, List.getElem?_drop]
      rw [List.getElem?_eq_getElem hj, List.getElem?_eq_getElem (show k + j < s.data.toList.length by omega), Option.some.injEq] at this
      exact this
    rw [hx]
    exact hno _ (by omega) (by omega) (by omega)
theorem CutI.fin {s : ByteArray} {acc : List ByteArray} {k : Nat} (h : CutI s acc k) (hk : k ≤ s.size) (hno : ∀ j (hj : j < s.size), k ≤ j → j < s.size → s[j] ≠ 10) : acc ++ [s.extract k s.size] = linesB s := by
  have hl := blen s
  unfold CutI at h
  rw [cutL_miss (fun b hb => ?_)] at h
  · unfold linesB
    rw [← h, List.map_append, List.map_map]
    have e1 : (fun l : List UInt8 => (⟨l.toArray⟩ : ByteArray)) ∘ (fun x : ByteArray => x.data.toList) = id := rfl
    rw [e1, List.map_id]
    refine congrArg (acc ++ ·) ?_
    show [s.extract k s.size] = [_]
    refine congrArg (fun x => [x]) (inL ?_)
    rw [cut_l]
  · obtain ⟨j, hj, rfl⟩ := List.getElem_of_mem hb
    rw [List.length_drop] at hj
    rw [List.getElem_drop]
    exact hno (k + j) (by omega) (by omega) (by omega)
section
attribute [local irreducible] vcApp
theorem parts8_p (s : ByteArray) (hs : s.size ≤ 4000000000) : APure Tryz.prog 65 [.s s, .int .u8 10] (.sl .no 1 (strL (linesB s))) [] := by
  have hmx : maxLen = 9223372036854775807 := rfl
  refine APure.of rfl (ACalls.of_vc T_ok mixed Tryz.func65 rfl Tryz.call65 ?_)
  refine vc_loop [5, 6, 7] (fun g vals st' => ∃ (i from' : Nat) (acc : List ByteArray) (a : AV), i + g = s.size ∧ vals = [a, .i from', .i i] ∧ Acc 0 st'.tk 1 a (strL acc) ∧ from' ≤ i ∧ acc.length ≤ from' ∧ i ≤ s.size ∧ (∀ j (hj : j < s.size), from' ≤ j → j < i → s[j] ≠ 10) ∧ CutI s acc from') s.size rfl ⟨0, 0, [], .nilS, by omega, rfl, .nil, Nat.le_refl _, Nat.le_refl _, Nat.zero_le _, fun j _ _ h => by omega, rfl⟩ ?_
  rintro g vals st' ⟨i, from', acc, a, hi, rfl, hA, hf, hal, his, hno, hC⟩
  rcases hA.form with rfl | ⟨t, e, rfl⟩
  · skip
    refine cnd_split (fun hd => ?_) (fun hd => ?_)
    · have hd := of_decide_eq_true hd
      have i1 : i < s.size := by omega
      refine ⟨i, i1, rfl, ?_⟩
      refine cnd_split (fun hb => ?_) (fun hb => ?_)
      · have hb : s[i] = 10 := UInt8.toNat_inj.1 (by have hb : (s[i].toNat : Int) = 10 := beq_iff_eq.1 hb; show s[i].toNat = 10; omega)
        refine ⟨i, rfl, from', rfl, hf, by omega, ?_⟩
        refine Acc.app (n := 0) (i := ti9) hA (Nat.zero_le _) (List.cons_ne_nil _ _) ?_ ?_ (fun t1 e1 tk1 q0 q1 q2 q3 => ?_)
        · show ((strL acc).length + 1) * 16 ≤ _; rw [strL_len]; omega
        · show (strL acc).length + 1 ≤ _; rw [strL_len]; omega
        intro c hc
        rw [IntWalk.i64_in _ (by omega)] at hc
        obtain rfl : c = ((i + 1 : Nat) : Int) := by omega
        intro c2 hc2
        rw [IntWalk.i64_in _ (by omega)] at hc2
        obtain rfl : c2 = ((i + 1 : Nat) : Int) := by omega
        refine ⟨g - 1, by omega, i + 1, i + 1, acc ++ [s.extract from' i], _, by omega, rfl, ?_, Nat.le_refl _, by rw [List.length_append]; show _ + 1 ≤ _; omega, by omega, fun j hj h1 h2 => by omega, hC.hit i1 hf hno hb⟩
        rw [strL_appL]
        exact .own _ _ _ q0 q1
      · have hb : s[i] ≠ 10 := fun e => by rw [e] at hb; exact absurd rfl (beq_eq_false_iff_ne.1 hb)
        intro c2 hc2
        rw [IntWalk.i64_in _ (by omega)] at hc2
        obtain rfl : c2 = ((i + 1 : Nat) : Int) := by omega
        refine ⟨g - 1, by omega, i + 1, from', acc, _, by omega, rfl, hA, by omega, hal, by omega, fun j hj h1 h2 => ?_, hC⟩
        by_cases e : j = i
        · subst e; exact hb
        · exact hno j hj h1 (by omega)
    · have hd := of_decide_eq_false hd
      obtain rfl : i = s.size := by omega
      refine ⟨from', rfl, hf, Nat.le_refl _, ?_⟩
      refine Acc.app (n := 0) (i := ti9) hA (Nat.zero_le _) (List.cons_ne_nil _ _) ?_ ?_ (fun t1 e1 tk1 q0 q1 q2 q3 => ?_)
      · show ((strL acc).length + 1) * 16 ≤ _; rw [strL_len]; omega
      · show (strL acc).length + 1 ≤ _; rw [strL_len]; omega
      have hfin := hC.fin hf hno
      show AV.sl .no 1 (strL acc ++ [[.s (s.extract from' s.size)]]) = AV.sl .no 1 (strL (linesB s))
      rw [← hfin, strL_appL]
      rfl
  · skip
    refine cnd_split (fun hd => ?_) (fun hd => ?_)
    · have hd := of_decide_eq_true hd
      have i1 : i < s.size := by omega
      refine ⟨i, i1, rfl, ?_⟩
      refine cnd_split (fun hb => ?_) (fun hb => ?_)
      · have hb : s[i] = 10 := UInt8.toNat_inj.1 (by have hb : (s[i].toNat : Int) = 10 := beq_iff_eq.1 hb; show s[i].toNat = 10; omega)
        refine ⟨i, rfl, from', rfl, hf, by omega, ?_⟩
        refine Acc.app (n := 0) (i := ti9) hA (Nat.zero_le _) (List.cons_ne_nil _ _) ?_ ?_ (fun t1 e1 tk1 q0 q1 q2 q3 => ?_)
        · show ((strL acc).length + 1) * 16 ≤ _; rw [strL_len]; omega
        · show (strL acc).length + 1 ≤ _; rw [strL_len]; omega
        intro c hc
        rw [IntWalk.i64_in _ (by omega)] at hc
        obtain rfl : c = ((i + 1 : Nat) : Int) := by omega
        intro c2 hc2
        rw [IntWalk.i64_in _ (by omega)] at hc2
        obtain rfl : c2 = ((i + 1 : Nat) : Int) := by omega
        refine ⟨g - 1, by omega, i + 1, i + 1, acc ++ [s.extract from' i], _, by omega, rfl, ?_, Nat.le_refl _, by rw [List.length_append]; show _ + 1 ≤ _; omega, by omega, fun j hj h1 h2 => by omega, hC.hit i1 hf hno hb⟩
        rw [strL_appL]
        exact .own _ _ _ q0 q1
      · have hb : s[i] ≠ 10 := fun e => by rw [e] at hb; exact absurd rfl (beq_eq_false_iff_ne.1 hb)
        intro c2 hc2
        rw [IntWalk.i64_in _ (by omega)] at hc2
        obtain rfl : c2 = ((i + 1 : Nat) : Int) := by omega
        refine ⟨g - 1, by omega, i + 1, from', acc, _, by omega, rfl, hA, by omega, hal, by omega, fun j hj h1 h2 => ?_, hC⟩
        by_cases e : j = i
        · subst e; exact hb
        · exact hno j hj h1 (by omega)
    · have hd := of_decide_eq_false hd
      obtain rfl : i = s.size := by omega
      refine ⟨from', rfl, hf, Nat.le_refl _, ?_⟩
      refine Acc.app (n := 0) (i := ti9) hA (Nat.zero_le _) (List.cons_ne_nil _ _) ?_ ?_ (fun t1 e1 tk1 q0 q1 q2 q3 => ?_)
      · show ((strL acc).length + 1) * 16 ≤ _; rw [strL_len]; omega
      · show (strL acc).length + 1 ≤ _; rw [strL_len]; omega
      have hfin := hC.fin hf hno
      show AV.sl .no 1 (strL acc ++ [[.s (s.extract from' s.size)]]) = AV.sl .no 1 (strL (linesB s))
      rw [← hfin, strL_appL]
      rfl
end
theorem check35_p (l : List Rl) (hl : l.length ≤ 1000000) (hr : ∀ r ∈ l, r.Ok) : APure Tryz.prog 34 [.sl .no 8 (rlL l)] (.tup [.i (checkL l).1, .i (checkL l).2]) [] := by
  have el := rlL_len l
  refine APure.of rfl (ACalls.of_vc T_ok mixed Tryz.func34 rfl Tryz.call34 ?_)
  refine vc_loop [9] (fun g vals st' => ∃ k : Nat, k + g = l.length ∧ vals = [.i k] ∧ chkL l 0 = chkL (l.drop k) k) l.length rfl ⟨0, by omega, rfl, rfl⟩ ?_
  rintro g vals st' ⟨k, hk, rfl, hq⟩
  refine cnd_split (fun hd => ?_) (fun hd => ?_)
  · have hd := of_decide_eq_true hd
    have k1 : k < l.length := by omega
    have q1 := rcheckR_p l[k] (hr _ (List.getElem_mem k1))
    rw [chkL_at k1] at hq
    refine ⟨k, _, rfl, rlL_at k1, ?_⟩
    refine ⟨_, last_at _ _, ?_⟩
    refine ⟨_, last_upd _ _ _, ?_⟩
    refine .p rfl q1 ?_
    have c09 := checkR_02 l[k]
    generalize checkR l[k] = c at hq c09
    refine cnd_split (fun h2 => ?_) (fun h2 => ?_)
    · have h2 : c ≠ 0 := bne_iff_ne.1 h2
      rw [if_neg h2] at hq
      obtain rfl : c = 9 := c09.resolve_left h2
      unfold checkL
      rw [hq, if_pos (fun h => by cases h)]
      rfl
    · have h2 : c = 0 := bne_eq_false_iff_eq.1 h2
      rw [if_pos h2] at hq
      intro c hc
      rw [IntWalk.i64_in _ (by omega)] at hc
      obtain rfl : c = ((k + 1 : Nat) : Int) := by omega
      exact ⟨g - 1, by omega, k + 1, by omega, rfl, hq⟩
  · have hd := of_decide_eq_false hd
    have hkl : k = l.length := by omega
    rw [hkl, List.drop_length] at hq
    have hq : chkL l 0 = (0, 0) := hq
    unfold checkL
    rw [hq, if_neg (fun h => h rfl)]
    refine cnd_split (fun h2 => ?_) (fun h2 => ?_)
    · have h2 := of_decide_eq_true h2
      rw [if_pos (by omega)]
      rfl
    · have h2 := of_decide_eq_false h2
      rw [if_neg (by omega)]
      rfl
theorem check35R_p (l : List Rl) (hl : l.length ≤ 1000000) (hr : ∀ r ∈ l, r.Ok) : APure Tryz.prog 35 [.sl .no 8 (rlL l)] (.tup [.i (checkL l).1, .i (checkL l).2]) [] := by
  have el := rlL_len l
  refine APure.of rfl (ACalls.of_vc T_ok mixed Tryz.func35 rfl Tryz.call35 ?_)
  refine vc_loop [4] (fun g vals st' => ∃ k : Nat, k + g = l.length ∧ vals = [.i k] ∧ chkL l 0 = chkL (l.drop k) k) l.length rfl ⟨0, by omega, rfl, rfl⟩ ?_
  rintro g vals st' ⟨k, hk, rfl, hq⟩
  refine cnd_split (fun hd => ?_) (fun hd => ?_)
  · have hd := of_decide_eq_true hd
    have k1 : k < l.length := by omega
    have q1 := rcheck32_p l[k] (hr _ (List.getElem_mem k1))
    rw [chkL_at k1] at hq
    refine ⟨k, _, rfl, rlL_at k1, ?_⟩
    refine .p rfl q1 ?_
    have c09 := checkR_02 l[k]
    generalize checkR l[k] = c at hq c09
    refine cnd_split (fun h2 => ?_) (fun h2 => ?_)
    · have h2 : c ≠ 0 := bne_iff_ne.1 h2
      rw [if_neg h2] at hq
      unfold checkL
      rw [hq, if_pos (fun h => by cases h)]
      rfl
    · have h2 : c = 0 := bne_eq_false_iff_eq.1 h2
      rw [if_pos h2] at hq
      intro c hc
      rw [IntWalk.i64_in _ (by omega)] at hc
      obtain rfl : c = ((k + 1 : Nat) : Int) := by omega
      exact ⟨g - 1, by omega, k + 1, by omega, rfl, hq⟩
  · have hd := of_decide_eq_false hd
    have hkl : k = l.length := by omega
    rw [hkl, List.drop_length] at hq
    have hq : chkL l 0 = (0, 0) := hq
    unfold checkL
    rw [hq, if_neg (fun h => h rfl)]
    refine cnd_split (fun h2 => ?_) (fun h2 => ?_)
    · have h2 := of_decide_eq_true h2
      rw [if_pos (by omega)]
      rfl
    · have h2 := of_decide_eq_false h2
      rw [if_neg (by omega)]
      rfl
theorem Acc.argV {n : Nat} {tk : List Nat} {sz : Nat} {a : AV} {es : List (List AV)} (h : Acc n tk sz a es) {es' : List (List AV)} (he : es = es') : argV a (.sl .no sz es') := by
  subst he
  cases h with
  | nil => exact .inr (.inr ⟨rfl, sz, rfl⟩)
  | own t e es hn ht => exact .inr (.inl rfl)
theorem Acc.resC {n : Nat} {tk : List Nat} {sz : Nat} {a : AV} {es : List (List AV)} {st : St} (h : Acc n tk sz a es) {es' : List (List AV)} (he : es = es') : resC st a (.sl .no sz es') := by
  subst he
  cases h with
  | nil => exact .inr (.inl ⟨rfl, sz, rfl⟩)
  | own t e es hn ht => exact .inl ⟨rfl, rfl⟩
section
attribute [local irreducible] vcApp
theorem few35_p (l : List Rl) : APure Tryz.prog 33 [.sl .no 8 (rlL l)] (.sl .no 8 (rlL ((l.take 70).map fewR))) [] := by
  have hmx : maxLen = 9223372036854775807 := rfl
  have el := rlL_len l
  refine APure.ofX rfl ?_
  refine ACalls.of_vc T_ok mixed Tryz.func33 rfl Tryz.call33 ?_
  refine vc_loop [4, 3] (fun g vals st' => ∃ (k : Nat) (a' : AV), k + g = (l.take 70).length ∧ vals = [.i k, a'] ∧ Acc 0 st'.tk 8 a' (rlL ((l.take k).map fewR))) (l.take 70).length rfl ⟨0, .nilS, by omega, rfl, .nil⟩ ?_
  rintro g vals st' ⟨k, a', hk, rfl, hA⟩
  have h70 : (l.take 70).length = min 70 l.length := List.length_take
  have ee : ∀ k1 : k < l.length, (l.take (k + 1)).map fewR = (l.take k).map fewR ++ [fewR l[k]] := fun k1 => by rw [List.take_succ_eq_append_getElem k1, List.map_append]; rfl
  have fin : (l.take k).length = (l.take 70).length → (l.take k).map fewR = (l.take 70).map fewR := fun e => by
    congr 1
    rw [List.length_take] at e
    by_cases hc : l.length ≤ 70
    · rw [List.take_of_length_le (by omega), List.take_of_length_le (by omega)]
    · rw [show k = 70 by omega]
  have hlk : (l.take k).length = min k l.length := List.length_take
  rcases hA.form with rfl | ⟨t, e, rfl⟩
  · refine cnd_split (fun hd => ?_) (fun hd => ?_)
    · have hd := of_decide_eq_true hd
      have k1 : k < l.length := by omega
      refine cnd_split (fun h7 => ?_) (fun h7 => ?_)
      · have h7 := of_decide_eq_true h7
        refine ⟨k, _, rfl, rlL_at k1, ?_⟩
        refine .p rfl (few32_p l[k]) ?_
        refine Acc.app (i := ti29) hA (Nat.zero_le _) (List.cons_ne_nil _ _) ?_ ?_ (fun t1 e1 tk1 q0 q1 q2 q3 => ?_)
        · show ((rlL _).length + 1) * 112 ≤ _; rw [rlL_len, List.length_map]; omega
        · show (rlL _).length + 1 ≤ _; rw [rlL_len, List.length_map]; omega
        intro c hc
        rw [IntWalk.i64_in _ (by omega)] at hc
        obtain rfl : c = ((k + 1 : Nat) : Int) := by omega
        refine ⟨g - 1, by omega, k + 1, _, by omega, rfl, ?_⟩
        rw [ee k1, ← rlL_snoc]
        exact .own _ _ _ q0 q1
      · have h7 := of_decide_eq_false h7
        exact .inl (hA.resC (congrArg rlL (fin (by omega))))
    · have hd := of_decide_eq_false hd
      exact .inl (hA.resC (congrArg rlL (fin (by omega))))
  · refine cnd_split (fun hd => ?_) (fun hd => ?_)
    · have hd := of_decide_eq_true hd
      have k1 : k < l.length := by omega
      refine cnd_split (fun h7 => ?_) (fun h7 => ?_)
      · have h7 := of_decide_eq_true h7
        refine ⟨k, _, rfl, rlL_at k1, ?_⟩
        refine .p rfl (few32_p l[k]) ?_
        refine Acc.app (i := ti29) hA (Nat.zero_le _) (List.cons_ne_nil _ _) ?_ ?_ (fun t1 e1 tk1 q0 q1 q2 q3 => ?_)
        · show ((rlL _).length + 1) * 112 ≤ _; rw [rlL_len, List.length_map]; omega
        · show (rlL _).length + 1 ≤ _; rw [rlL_len, List.length_map]; omega
        intro c hc
        rw [IntWalk.i64_in _ (by omega)] at hc
        obtain rfl : c = ((k + 1 : Nat) : Int) := by omega
        refine ⟨g - 1, by omega, k + 1, _, by omega, rfl, ?_⟩
        rw [ee k1, ← rlL_snoc]
        exact .own _ _ _ q0 q1
      · have h7 := of_decide_eq_false h7
        exact .inl (hA.resC (congrArg rlL (fin (by omega))))
    · have hd := of_decide_eq_false hd
      exact .inl (hA.resC (congrArg rlL (fin (by omega))))
end
theorem eq_upto {l m : List Rl} (hl : l.length = m.length) (h : ∀ j (h1 : j < l.length) (h2 : j < m.length), l[j] = m[j]) : l = m := List.ext_getElem hl h
theorem sameAll_p (l m : List Rl) (hl : l.length ≤ 1000000) (hm : m.length ≤ 1000000) (h1 : ∀ r ∈ l, r.Ok) (h2 : ∀ r ∈ m, r.Ok) : APure Tryz.prog 31 [.sl .no 8 (rlL l), .sl .no 8 (rlL m)] (.b (decide (l = m))) [] := by
  have el := rlL_len l
  have em := rlL_len m
  refine APure.of rfl (ACalls.of_vc T_ok mixed Tryz.func31 rfl Tryz.call31 ?_)
  refine cnd_split (fun h0 => ?_) (fun h0 => ?_)
  · have h0 : l.length ≠ m.length := by
      have : ((rlL l).length : Int) ≠ (rlL m).length := bne_iff_ne.1 h0
      omega
    exact retb (decide_eq_false (fun e => h0 (by rw [e]))).symm
  have h0 : l.length = m.length := by
    have : ((rlL l).length : Int) = (rlL m).length := bne_eq_false_iff_eq.1 h0
    omega
  refine vc_loop [5] (fun g vals st' => ∃ k : Nat, k + g = l.length ∧ vals = [.i k] ∧ ∀ j (h1 : j < l.length) (h2 : j < m.length), j < k → l[j] = m[j]) l.length rfl ⟨0, by omega, rfl, fun j _ _ h => by omega⟩ ?_
  rintro g vals st' ⟨k, hk, rfl, ha⟩
  refine cnd_split (fun hd => ?_) (fun hd => ?_)
  · have hd := of_decide_eq_true hd
    have k1 : k < l.length := by omega
    have k2 : k < m.length := by omega
    have q := rsame32_p l[k] m[k] (h1 _ (List.getElem_mem k1)) (h2 _ (List.getElem_mem k2))
    refine .e (by kernel_rfl) ?_
    refine ⟨k, _, rfl, rlL_at k1, ?_⟩
    refine ⟨k, _, rfl, rlL_at k2, ?_⟩
    refine .p rfl q ?_
    refine cnd_split (fun h3 => ?_) (fun h3 => ?_)
    · have h3 : l[k] ≠ m[k] := by simpa using h3
      exact retb (decide_eq_false (fun e => h3 (by subst e; rfl))).symm
    · have h3 : l[k] = m[k] := by simpa using h3
      intro c hc
      rw [IntWalk.i64_in _ (by omega)] at hc
      obtain rfl : c = ((k + 1 : Nat) : Int) := by omega
      refine ⟨g - 1, by omega, k + 1, by omega, rfl, fun j j1 j2 hjk => ?_⟩
      by_cases e : j = k
      · subst e; exact h3
      · exact ha j j1 j2 (by omega)
  · have hd := of_decide_eq_false hd
    exact retb (decide_eq_true (eq_upto h0 (fun j j1 j2 => ha j j1 j2 (by omega)))).symm
theorem eqFunc_p (l m : List Rl) (hl : l.length ≤ 1000000) (hm : m.length ≤ 1000000) (h1 : ∀ r ∈ l, r.Ok) (h2 : ∀ r ∈ m, r.Ok) : APure Tryz.prog 66 [.sl .no 8 (rlL l), .sl .no 8 (rlL m), .lit (.func (.func 67) #[] #[])] (.b (decide (l = m))) [] := by
  have el := rlL_len l
  have em := rlL_len m
  refine APure.of rfl (ACalls.of_vc T_ok mixed Tryz.func66 rfl Tryz.call66 ?_)
  refine cnd_split (fun h0 => ?_) (fun h0 => ?_)
  · have h0 : l.length ≠ m.length := by
      have : ((rlL l).length : Int) ≠ (rlL m).length := bne_iff_ne.1 h0
      omega
    exact retb (decide_eq_false (fun e => h0 (by rw [e]))).symm
  have h0 : l.length = m.length := by
    have : ((rlL l).length : Int) = (rlL m).length := bne_eq_false_iff_eq.1 h0
    omega
  refine vc_loop [17] (fun g vals st' => ∃ k : Nat, k + g = l.length ∧ vals = [.i k] ∧ ∀ j (h1 : j < l.length) (h2 : j < m.length), j < k → l[j] = m[j]) l.length rfl ⟨0, by omega, rfl, fun j _ _ h => by omega⟩ ?_
  rintro g vals st' ⟨k, hk, rfl, ha⟩
  refine cnd_split (fun hd => ?_) (fun hd => ?_)
  · have hd := of_decide_eq_true hd
    have k1 : k < l.length := by omega
    have k2 : k < m.length := by omega
    have q := rsame_p l[k] m[k] (h1 _ (List.getElem_mem k1)) (h2 _ (List.getElem_mem k2))
    refine ⟨k, _, rfl, rlL_at k1, ?_⟩
    refine ⟨_, last_at _ _, ?_⟩
    refine ⟨k, _, rfl, rlL_at k2, ?_⟩
    refine ⟨_, last_at _ _, ?_⟩
    refine ⟨_, st_ne (by simp) (ap (last_upd _ _ _)), ?_⟩
    refine ⟨_, last_upd _ _ _, ?_⟩
    refine .p rfl q ?_
    refine cnd_split (fun h3 => ?_) (fun h3 => ?_)
    · have h3 : l[k] ≠ m[k] := by simpa using h3
      exact retb (decide_eq_false (fun e => h3 (by subst e; rfl))).symm
    · have h3 : l[k] = m[k] := by simpa using h3
      intro c hc
      rw [IntWalk.i64_in _ (by omega)] at hc
      obtain rfl : c = ((k + 1 : Nat) : Int) := by omega
      refine ⟨g - 1, by omega, k + 1, by omega, rfl, fun j j1 j2 hjk => ?_⟩
      by_cases e : j = k
      · subst e; exact h3
      · exact ha j j1 j2 (by omega)
  · have hd := of_decide_eq_false hd
    exact retb (decide_eq_true (eq_upto h0 (fun j j1 j2 => ha j j1 j2 (by omega)))).symm
theorem csame_p (l m : List Rl) (hl : l.length ≤ 1000000) (hm : m.length ≤ 1000000) (h1 : ∀ r ∈ l, r.Ok) (h2 : ∀ r ∈ m, r.Ok) : APure Tryz.prog 32 [.sl .no 8 (rlL l), .sl .no 8 (rlL m)] (.b (decide (l = m))) [] := by
  have h := eqFunc_p l m hl hm h1 h2
  refine APure.of rfl (ACalls.of_vc T_ok mixed Tryz.func32 rfl Tryz.call32 ?_)
  refine .p rfl h ?_
  rfl
section
variable {st : St}
def tkt : AV → Option Nat
  | .sl (.own t _) _ _ => some t
  | _ => none
theorem Acc.appS {i : TI} {a : AV} {l : List UInt8} {s : ByteArray} {K : AV → St → Prop} (hi : i.size = 1) (hbt : i.bytes = 1) (h : Acc 0 st.tk 1 a (u8L l)) (hb : l.length + s.size ≤ 140737488355328)
    (hK0 : s.size = 0 → tkt a = none → K a st)
    (hK : ∀ t e tk', tk'[t]? = some e → st.tk.length ≤ tk'.length → (tkt a = some t ∨ (tkt a = none ∧ t = st.tk.length)) → (∀ q, q < st.tk.length → q ≠ t → tk'[q]? = st.tk[q]?) → K (.sl (.own t e) 1 (u8L (l ++ s.data.toList))) ⟨st.heap, tk'⟩) : vcApp i a (.s s) st K := by
  have hmx : maxLen = 9223372036854775807 := rfl
  have e1 : u8L (l ++ s.data.toList) = u8L l ++ u8L s.data.toList := by simp [u8L]
  have hsl := blen s
  have hul := u8L_len s.data.toList
  have hll := u8L_len l
  rw [e1] at hK
  unfold vcApp srcA
  rw [hi, hbt]
  simp only [decide_true]
  have hq : (s.data.toList.map fun b => [AV.u8 b]) = u8L s.data.toList := rfl
  rw [hq]
  generalize u8L s.data.toList = ys at *
  generalize u8L l = es at *
  cases h with
  | nil =>
    refine ⟨fun e => hK0 (by rw [e] at hul; simp at hul; omega) rfl, fun hy => ⟨by omega, by omega, .inl ?_⟩⟩
    refine hK _ _ _ (by simp) (by simp) (.inr ⟨rfl, rfl⟩) (fun t ht _ => ?_)
    rw [List.getElem?_append_left (by omega)]
  | own t e es h1 h2 =>
    have hlt := (List.getElem?_eq_some_iff.1 h2).1
    refine ⟨h2, by omega, by omega, hK _ _ _ (by rw [List.getElem?_set_self hlt]) (by simp) (.inl rfl) (fun t' _ ht' => ?_)⟩
    rw [List.getElem?_set_ne (Ne.symm ht')]
end
def tBy (l : List UInt8) : ByteArray := ⟨l.toArray⟩
theorem tBy_l (l : List UInt8) : (tBy l).data.toList = l := by
  unfold tBy
  show l.toArray.toList = l
  rw [List.toList_toArray]
theorem tBy_size (l : List UInt8) : (tBy l).size = l.length := by rw [← blen, tBy_l]
theorem tBy_app (l : List UInt8) (x : ByteArray) : tBy l ++ x = tBy (l ++ x.data.toList) := by
  apply inL
  rw [app_l, tBy_l, tBy_l]
def catL (l : List ByteArray) : List UInt8 := l.flatMap fun x => x.data.toList
theorem catL_take {l : List ByteArray} {k : Nat} (h : k < l.length) : catL (l.take (k + 1)) = catL (l.take k) ++ l[k].data.toList := by
  unfold catL
  rw [List.take_succ_eq_append_getElem h, List.flatMap_append]
  simp
theorem catL_le (l : List ByteArray) (k : Nat) : (catL (l.take k)).length ≤ (catL l).length := by
  have h : catL l = catL (l.take k) ++ catL (l.drop k) := by
    unfold catL
    rw [← List.flatMap_append, List.take_append_drop]
  rw [h, List.length_append]
  omega
section
variable {st : St} {R : AV → St → Prop} {p : Nat} {a : AV} {Lb : List UInt8} {m : Nat}
theorem qnew_a (h : R (.ptr st.heap.length 0) ⟨st.heap ++ [[.nilS, .i 1048576]], st.tk⟩) : ACalls Tryz.prog 68 [.i 1048576] st R := by
  refine ACalls.of_vc T_ok mixed Tryz.func68 rfl Tryz.call68 ?_
  exact h
theorem acc_nil {n : Nat} {tk : List Nat} (hA : Acc n tk 1 .nilS (u8L Lb)) : Lb = [] := by
  have hl := u8L_len Lb
  generalize hes : u8L Lb = es at hA hl
  cases hA
  exact List.eq_nil_of_length_eq_zero hl.symm
theorem qleft_a (hp : st.heap[p]? = some [a, .i m]) (hA : Acc 0 st.tk 1 a (u8L Lb)) (hz : Lb.length ≤ m) (hm : m ≤ 1099511627776) (h : R (.i ((m - Lb.length : Nat) : Int)) st) : ACalls Tryz.prog 99 [.ptr p 0] st R := by
  have hl := u8L_len Lb
  rcases hA.form with rfl | ⟨t, e, rfl⟩
  · have h0 := acc_nil hA
    subst h0
    refine ACalls.of_vc T_ok mixed Tryz.func99 rfl Tryz.call99 ?_
    refine .e (by kernel_rfl) ?_
    refine ⟨_, hp, ?_⟩
    refine ⟨_, hp, ?_⟩
    intro c hc
    rw [IntWalk.i64_in _ (by omega)] at hc
    obtain rfl : c = ((m - 0 : Nat) : Int) := by omega
    exact h
  · refine ACalls.of_vc T_ok mixed Tryz.func99 rfl Tryz.call99 ?_
    refine .e (by kernel_rfl) ?_
    refine ⟨_, hp, ?_⟩
    refine ⟨_, hp, ?_⟩
    intro c hc
    rw [IntWalk.i64_in _ (by omega)] at hc
    obtain rfl : c = ((m - Lb.length : Nat) : Int) := by omega
    exact h
theorem qtext_a (hp : st.heap[p]? = some [a, .i m]) (hA : Acc 0 st.tk 1 a (u8L Lb)) (h : R (.s (tBy Lb)) st) : ACalls Tryz.prog 100 [.ptr p 0] st R := by
  rcases hA.form with rfl | ⟨t, e, rfl⟩
  · have h0 := acc_nil hA
    subst h0
    refine ACalls.of_vc T_ok mixed Tryz.func100 rfl Tryz.call100 ?_
    refine ⟨_, hp, ?_⟩
    exact h
  · refine ACalls.of_vc T_ok mixed Tryz.func100 rfl Tryz.call100 ?_
    refine ⟨_, hp, ?_⟩
    refine ⟨tBy Lb, ?_, ?_⟩
    · rw [tBy_l]; rfl
    · exact h
theorem qtake_a (hp : st.heap[p]? = some [a, .i m]) (hA : Acc 0 st.tk 1 a (u8L Lb)) (h : R (.s (tBy Lb)) ⟨st.heap.set p [.nilS, .i m], st.tk⟩) : ACalls Tryz.prog 70 [.ptr p 0] st R := by
  refine ACalls.of_vc T_ok mixed Tryz.func70 rfl Tryz.call70 ?_
  refine .s (qtext_a hp hA ?_)
  refine ⟨_, hp, ?_⟩
  rcases hA.form with rfl | ⟨t, e, rfl⟩
  · exact h
  · exact h
attribute [local irreducible] vcApp
theorem qput_a {tg : Tk} (l : List ByteArray) (hl : l.length ≤ 1000000) (hp : st.heap[p]? = some [a, .i m]) (hA : Acc 0 st.tk 1 a (u8L Lb)) (hz : Lb.length + (catL l).length ≤ m) (hm : m ≤ 1099511627776)
    (h : ∀ a' st', st'.heap[p]? = some [a', .i m] → Acc 0 st'.tk 1 a' (u8L (Lb ++ catL l)) → Mv 0 (· = p) st st' → R (.i 0) st') : ACalls Tryz.prog 69 [.ptr p 0, .sl tg 1 (strL l)] st R := by
  have el := strL_len l
  refine ACalls.of_vc T_ok mixed Tryz.func69 rfl Tryz.call69 ?_
  refine .s (qleft_a hp hA (by omega) hm ?_)
  refine vc_loop [5, 16] (fun g vals st' => ∃ k : Nat, k + g = l.length ∧ vals = [.i ((m - Lb.length - (catL (l.take k)).length : Nat) : Int), .i k] ∧ st = st') l.length rfl ⟨0, by omega, rfl, rfl⟩ ?_
  rintro g vals st1 ⟨k, hk, rfl, rfl⟩
  have hcl := catL_le l k
  refine cnd_split (fun hd => ?_) (fun hd => ?_)
  · have hd := of_decide_eq_true hd
    have k1 : k < l.length := by omega
    have hct := congrArg List.length (catL_take k1)
    rw [List.length_append, blen] at hct
    have hc2 := catL_le l (k + 1)
    refine ⟨k, _, rfl, strL_at k1, ?_⟩
    refine cnd_split (fun h2 => ?_) (fun h2 => ?_)
    · have h2 := of_decide_eq_true h2
      omega
    · intro c hc
      rw [IntWalk.i64_in _ (by omega)] at hc
      obtain rfl : c = ((m - Lb.length - (catL (l.take (k + 1))).length : Nat) : Int) := by omega
      intro c hc
      rw [IntWalk.i64_in _ (by omega)] at hc
      obtain rfl : c = ((k + 1 : Nat) : Int) := by omega
      exact ⟨g - 1, by omega, k + 1, by omega, rfl, rfl⟩
  · have hd := of_decide_eq_false hd
    refine vc_loop [31] (fun g vals st' => ∃ (k : Nat) (a2 : AV), k + g = l.length ∧ vals = [.i k] ∧ st'.heap[p]? = some [a2, .i m] ∧ Acc 0 st'.tk 1 a2 (u8L (Lb ++ catL (l.take k))) ∧ Mv 0 (· = p) st st') l.length rfl ⟨0, a, by omega, rfl, hp, by rw [List.take_zero]; show Acc _ _ _ _ (u8L (Lb ++ [])); rw [List.append_nil]; exact hA, .refl (Nat.zero_le _)⟩ ?_
    rintro g vals st2 ⟨k, a2, hk, rfl, hp2, hA2, m2⟩
    have hcl := catL_le l k
    rcases hA2.form with rfl | ⟨t, e, rfl⟩
    · skip
      refine cnd_split (fun hd => ?_) (fun hd => ?_)
      · have hd := of_decide_eq_true hd
        have k1 : k < l.length := by omega
        have hct := catL_take k1
        have hlb := blen l[k]
        have hc2 := catL_le l (k + 1)
        rw [hct, List.length_append] at hc2
        refine ⟨k, _, rfl, strL_at k1, ?_⟩
        refine ⟨_, hp2, ?_⟩
        refine Acc.appS rfl rfl hA2 (by rw [List.length_append]; omega) (fun hz ht => ?_) (fun t9 e9 tk9 q0 q1 q2 q3 => ?_)
        · refine ⟨_, hp2, ?_⟩
          intro c hc
          rw [IntWalk.i64_in _ (by omega)] at hc
          obtain rfl : c = ((k + 1 : Nat) : Int) := by omega
          refine ⟨g - 1, by omega, k + 1, _, by omega, rfl, st_eq hp2, ?_, m2.set (fun _ => rfl) _⟩
          have h0 : l[k].data.toList = [] := List.eq_nil_of_length_eq_zero (by omega)
          rw [hct, h0, List.append_nil]
          exact hA2
        · refine ⟨_, hp2, ?_⟩
          intro c hc
          rw [IntWalk.i64_in _ (by omega)] at hc
          obtain rfl : c = ((k + 1 : Nat) : Int) := by omega
          refine ⟨g - 1, by omega, k + 1, _, by omega, rfl, st_eq hp2, ?_, (m2.tks (Nat.zero_le _) (fun t ht => by omega)).set (fun _ => rfl) _⟩
          rw [hct, ← List.append_assoc]
          exact .own _ _ _ (Nat.zero_le _) q0
      · have hd := of_decide_eq_false hd
        obtain rfl : k = l.length := by omega
        simp only [List.take_length] at hA2 hp2
        exact h _ _ hp2 hA2 m2
    · skip
      refine cnd_split (fun hd => ?_) (fun hd => ?_)
      · have hd := of_decide_eq_true hd
        have k1 : k < l.length := by omega
        have hct := catL_take k1
        have hlb := blen l[k]
        have hc2 := catL_le l (k + 1)
        rw [hct, List.length_append] at hc2
        refine ⟨k, _, rfl, strL_at k1, ?_⟩
        refine ⟨_, hp2, ?_⟩
        refine Acc.appS rfl rfl hA2 (by rw [List.length_append]; omega) (fun hz ht => ?_) (fun t9 e9 tk9 q0 q1 q2 q3 => ?_)
        · refine ⟨_, hp2, ?_⟩
          intro c hc
          rw [IntWalk.i64_in _ (by omega)] at hc
          obtain rfl : c = ((k + 1 : Nat) : Int) := by omega
          refine ⟨g - 1, by omega, k + 1, _, by omega, rfl, st_eq hp2, ?_, m2.set (fun _ => rfl) _⟩
          have h0 : l[k].data.toList = [] := List.eq_nil_of_length_eq_zero (by omega)
          rw [hct, h0, List.append_nil]
          exact hA2
        · refine ⟨_, hp2, ?_⟩
          intro c hc
          rw [IntWalk.i64_in _ (by omega)] at hc
          obtain rfl : c = ((k + 1 : Nat) : Int) := by omega
          refine ⟨g - 1, by omega, k + 1, _, by omega, rfl, st_eq hp2, ?_, (m2.tks (Nat.zero_le _) (fun t ht => by omega)).set (fun _ => rfl) _⟩
          rw [hct, ← List.append_assoc]
          exact .own _ _ _ (Nat.zero_le _) q0
      · have hd := of_decide_eq_false hd
        obtain rfl : k = l.length := by omega
        simp only [List.take_length] at hA2 hp2
        exact h _ _ hp2 hA2 m2
end
end Go.Proofs.YtgaidgblihnldaaGreatDoor
