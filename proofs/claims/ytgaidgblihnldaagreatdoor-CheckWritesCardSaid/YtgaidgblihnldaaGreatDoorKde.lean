/- Programs of rules: written and read; the three laws. No statement of its own. -/
import Derived.Test.YtgaidgblihnldaaGreatDoorKbc
import Derived.Test.YtgaidgblihnldaaGreatDoorOr
set_option linter.unusedSimpArgs false
set_option linter.unusedVariables false
set_option maxRecDepth 100000
namespace Go.Proofs.YtgaidgblihnldaaGreatDoor
open Go.RowKit Go.Deep
def nlB : ByteArray := ⟨#[10]⟩
theorem printL_app (a b : List Rl) : printL (a ++ b) = printL a ++ printL b := by simp [printL]
theorem printL_take {l : List Rl} {k : Nat} (h : k < l.length) : printL (l.take (k + 1)) = printL (l.take k) ++ catL [textB l[k], nlB] := by
  rw [List.take_succ_eq_append_getElem h, printL_app]
  simp [printL, catL, nlB]
theorem printL_le (l : List Rl) (k : Nat) : (printL (l.take k)).length ≤ (printL l).length := by
  have h := printL_app (l.take k) (l.drop k)
  rw [List.take_append_drop] at h
  rw [h, List.length_append]
  omega
theorem printL_bound {B : Nat} : ∀ {l : List Rl}, (∀ r ∈ l, (textB r).size ≤ B) → (printL l).length ≤ l.length * (B + 1)
  | [], _ => Nat.zero_le _
  | r :: l, h => by
    have h1 := h r (.head _)
    have h2 := printL_bound (fun x hx => h x (.tail _ hx))
    have e : printL (r :: l) = ((textB r).data.toList ++ [10]) ++ printL l := by simp [printL]
    have e3 : (r :: l).length * (B + 1) = l.length * (B + 1) + (B + 1) := by rw [List.length_cons, Nat.add_mul, Nat.one_mul]
    rw [e, List.length_append, List.length_append, blen, e3]
    show _ + 1 + _ ≤ _
    omega
def printR (l : List Rl) : ByteArray × Int := if (checkL l).2 = 0 then (tBy (printL l), 0) else (⟨#[]⟩, (checkL l).2)
theorem cprint_p (l : List Rl) (hl : l.length ≤ 1000) (hr : ∀ r ∈ l, r.Ok) (hz : (checkL l).2 = 0 → (printL l).length ≤ 1048576) : APure Tryz.prog 36 [.sl .no 8 (rlL l)] (.tup [.s (printR l).1, .i (printR l).2]) [] := by
  have hmx : maxLen = 9223372036854775807 := rfl
  have el := rlL_len l
  have hc := check35_p l (by omega) hr
  by_cases h0 : (checkL l).2 = 0
  · have e : printR l = (tBy (printL l), 0) := by unfold printR; rw [if_pos h0]
    have hz := hz h0
    obtain ⟨hok, h64⟩ := checkL_ok h0
    rw [e]
    rw [h0] at hc
    refine APure.of rfl (ACalls.of_vc T_ok mixed Tryz.func36 rfl Tryz.call36 ?_)
    refine .p rfl hc ?_
    refine .s (qnew_a ?_)
    refine vc_loop [22] (fun g vals st' => ∃ (k : Nat) (a : AV), k + g = l.length ∧ vals = [.i k] ∧ st'.heap[0]? = some [a, .i ((1048576 : Nat) : Int)] ∧ Acc 0 st'.tk 1 a (u8L (printL (l.take k)))) l.length rfl ⟨0, .nilS, by omega, rfl, rfl, .nil⟩ ?_
    rintro g vals st' ⟨k, a, hk, rfl, hp, hA⟩
    refine cnd_split (fun hd => ?_) (fun hd => ?_)
    · have hd := of_decide_eq_true hd
      have k1 : k < l.length := by omega
      have ht := rtext_p l[k] (hr _ (List.getElem_mem k1))
      rw [textR_ok (hok _ (List.getElem_mem k1))] at ht
      have hpt := printL_take k1
      have hpl := printL_le l (k + 1)
      rw [hpt, List.length_append] at hpl
      have hlt := lt_of hp
      refine ⟨k, _, rfl, rlL_at k1, ?_⟩
      refine ⟨_, last_at _ _, ?_⟩
      refine ⟨_, last_upd _ _ _, ?_⟩
      refine .p rfl ht ?_
      refine .s (qput_a (a := a) (m := 1048576) (Lb := printL (l.take k)) [textB l[k], nlB] (by show 2 ≤ _; omega) (st_ne (n := 0) (by omega) (ap hp)) hA (by omega) (by omega) fun a' st2 hp2 hA2 m2 => ?_)
      intro c hc
      rw [IntWalk.i64_in _ (by omega)] at hc
      obtain rfl : c = ((k + 1 : Nat) : Int) := by omega
      refine ⟨g - 1, by omega, k + 1, a', by omega, rfl, hp2, ?_⟩
      rw [hpt]
      exact hA2
    · have hd := of_decide_eq_false hd
      obtain rfl : k = l.length := by omega
      refine .s (qtake_a (m := 1048576) hp hA ?_)
      rw [List.take_length]
      rfl
  · have e : printR l = (⟨#[]⟩, (checkL l).2) := by unfold printR; rw [if_neg h0]
    rw [e]
    clear hz e
    generalize (checkL l).2 = c at *
    refine APure.of rfl (ACalls.of_vc T_ok mixed Tryz.func36 rfl Tryz.call36 ?_)
    refine .p rfl hc ?_
    refine cnd_split (fun h2 => ?_) (fun h2 => ?_)
    · rfl
    · exact absurd (bne_eq_false_iff_eq.1 h2) h0
theorem print35_p (l : List Rl) (hl : l.length ≤ 1000) (hr : ∀ r ∈ l, r.Ok) (hok : ∀ r ∈ l, checkR r = 0) (hz : (printL l).length ≤ 1048576) : APure Tryz.prog 37 [.sl .no 8 (rlL l)] (.s (tBy (printL l))) [] := by
  have hmx : maxLen = 9223372036854775807 := rfl
  have el := rlL_len l
  refine APure.of rfl (ACalls.of_vc T_ok mixed Tryz.func37 rfl Tryz.call37 ?_)
  refine vc_loop [3, 4] (fun g vals st' => ∃ k : Nat, k + g = l.length ∧ vals = [.s (tBy (printL (l.take k))), .i k]) l.length rfl ⟨0, by omega, rfl⟩ ?_
  rintro g vals st' ⟨k, hk, rfl⟩
  refine cnd_split (fun hd => ?_) (fun hd => ?_)
  · have hd := of_decide_eq_true hd
    have k1 : k < l.length := by omega
    have ht := text34_p l[k] (hr _ (List.getElem_mem k1))
    rw [textR_ok (hok _ (List.getElem_mem k1))] at ht
    have hpt := printL_take k1
    have hpl := printL_le l (k + 1)
    have hct : (catL [textB l[k], nlB]).length = (textB l[k]).size + 1 := by simp [catL, nlB]
    have hcc : catL [textB l[k], nlB] = (textB l[k]).data.toList ++ [10] := by simp [catL, nlB]
    rw [hpt, List.length_append, hct] at hpl
    refine ⟨k, _, rfl, rlL_at k1, ?_⟩
    refine .p rfl ht ?_
    refine ⟨by rw [tBy_size]; show _ + (textB l[k]).size ≤ _; omega, ?_⟩
    refine ⟨by rw [app_size, tBy_size]; show _ + (textB l[k]).size + 1 ≤ _; omega, ?_⟩
    intro c hc
    rw [IntWalk.i64_in _ (by omega)] at hc
    obtain rfl : c = ((k + 1 : Nat) : Int) := by omega
    refine ⟨g - 1, by omega, k + 1, by omega, ?_⟩
    refine congrArg (fun x => [AV.s x, AV.i ((k + 1 : Nat) : Int)]) ?_
    rw [hpt, hcc, tBy_app, tBy_app]
    refine congrArg tBy ?_
    rw [List.append_assoc]
  · have hd := of_decide_eq_false hd
    obtain rfl : k = l.length := by omega
    refine congrArg AV.s ?_
    rw [List.take_length]
section
attribute [local irreducible] vcApp
set_option maxHeartbeats 1000000 in
theorem cread_p (s : ByteArray) (hs : s.size ≤ 1048576) (hL : ∀ x ∈ linesB s, x.size ≤ 100000) : APure Tryz.prog 29 [.s s] (.tup [.sl .no 8 (rlL (readP s).1), .i (readP s).2.1, .i (readP s).2.2]) [] := by
  have hmx : maxLen = 9223372036854775807 := rfl
  have hsp := split_p s (by omega)
  have hP : readA (linesB s) 0 [] = readP s := by unfold readP; rw [if_neg (by omega)]
  have hll := linesB_len s
  generalize readP s = P at *
  generalize linesB s = L at *
  have el := strL_len L
  refine APure.ofX rfl ?_
  refine ACalls.of_vc T_ok mixed Tryz.func29 rfl Tryz.call29 ?_
  refine cnd_split (fun h0 => ?_) (fun h0 => ?_)
  · have h0 := of_decide_eq_true h0
    omega
  refine .p rfl hsp ?_
  refine vc_loop [5, 16] (fun g vals st' => ∃ (k : Nat) (acc : List Rl) (a : AV), k + g = L.length ∧ vals = [a, .i k] ∧ Acc 0 st'.tk 8 a (rlL acc) ∧ acc.length ≤ 64 ∧ readA (L.drop k) k acc = P) L.length rfl ⟨0, [], .nilS, by omega, rfl, .nil, Nat.zero_le _, hP⟩ ?_
  rintro g vals st' ⟨k, acc, a, hk, rfl, hA, hal, hq⟩
  have ea := rlL_len acc
  rcases hA.form with rfl | ⟨t, e, rfl⟩
  · have hac : acc.length = 0 := by
      generalize hes : rlL acc = es at hA ea
      cases hA
      exact ea.symm
    refine cnd_split (fun hd => ?_) (fun hd => ?_)
    rotate_left
    · have hd := of_decide_eq_false hd
      rw [List.drop_of_length_le (by omega)] at hq
      subst hq
      exact .inr ⟨_, _, rfl, rfl, hA.resC rfl, .inl ⟨rfl, rfl⟩, .inl ⟨rfl, rfl⟩, trivial⟩
    have hd := of_decide_eq_true hd
    have k1 : k < L.length := by omega
    have hx := hL _ (List.getElem_mem k1)
    have hsk := skip_p L[k] (by omega)
    have hpa := parseP_p L[k] (by omega)
    rw [readA_at k1] at hq
    have herr : errA L[k] acc.length = if (readRl L[k]).2 = 0 ∧ acc.length = 64 then 3 else (readRl L[k]).2 := rfl
    refine ⟨k, _, rfl, strL_at k1, ?_⟩
    refine .p rfl hsk ?_
    generalize readRl L[k] = X at *
    obtain ⟨x, e⟩ := X
    refine cnd_split (fun hs => ?_) (fun hs => ?_)
    · rw [if_pos hs] at hq
      intro c hc
      rw [IntWalk.i64_in _ (by omega)] at hc
      obtain rfl : c = ((k + 1 : Nat) : Int) := by omega
      exact ⟨g - 1, by omega, k + 1, acc, _, by omega, rfl, hA, hal, hq⟩
    rw [if_neg (by rw [hs]; decide)] at hq
    refine .p rfl hpa ?_
    refine ⟨_, last_at _ _, ?_⟩
    refine cnd_split (fun he => ?_) (fun he => ?_)
    · have he : e = 0 := beq_iff_eq.1 he
      subst he
      rw [if_neg (fun h => by omega)] at herr
      have herr : errA L[k] acc.length = 0 := herr
      rw [if_neg (by rw [herr]; decide)] at hq
      refine ⟨_, last_upd _ _ _, ?_⟩
      refine Acc.app (n := 0) (i := ti29) hA (Nat.zero_le _) (List.cons_ne_nil _ _) ?_ ?_ (fun t1 e1 tk1 q0 q1 q2 q3 => ?_)
      · show ((rlL acc).length + 1) * 112 ≤ _; rw [rlL_len]; omega
      · show (rlL acc).length + 1 ≤ _; rw [rlL_len]; omega
      intro c hc
      rw [IntWalk.i64_in _ (by omega)] at hc
      obtain rfl : c = ((k + 1 : Nat) : Int) := by omega
      refine ⟨g - 1, by omega, k + 1, acc ++ [x], _, by omega, rfl, ?_, by rw [List.length_append]; show _ + 1 ≤ _; omega, hq⟩
      rw [← rlL_snoc]
      exact .own _ _ _ q0 q1
    · have he : e ≠ 0 := beq_eq_false_iff_ne.1 he
      rw [if_neg (fun h => he h.1)] at herr
      refine cnd_split (fun h2 => ?_) (fun h2 => absurd (bne_eq_false_iff_eq.1 h2) he)
      rw [if_pos (by rw [herr]; exact he)] at hq
      rw [herr] at hq
      intro c hc
      rw [IntWalk.i64_in _ (by omega)] at hc
      obtain rfl : c = ((k + 1 : Nat) : Int) := by omega
      subst hq
      exact .inr ⟨_, _, rfl, rfl, .inr (.inl ⟨rfl, 8, rfl⟩), .inl ⟨rfl, rfl⟩, .inl ⟨rfl, rfl⟩, trivial⟩
  · skip
    refine cnd_split (fun hd => ?_) (fun hd => ?_)
    rotate_left
    · have hd := of_decide_eq_false hd
      rw [List.drop_of_length_le (by omega)] at hq
      subst hq
      exact .inr ⟨_, _, rfl, rfl, hA.resC rfl, .inl ⟨rfl, rfl⟩, .inl ⟨rfl, rfl⟩, trivial⟩
    have hd := of_decide_eq_true hd
    have k1 : k < L.length := by omega
    have hx := hL _ (List.getElem_mem k1)
    have hsk := skip_p L[k] (by omega)
    have hpa := parseP_p L[k] (by omega)
    rw [readA_at k1] at hq
    have herr : errA L[k] acc.length = if (readRl L[k]).2 = 0 ∧ acc.length = 64 then 3 else (readRl L[k]).2 := rfl
    refine ⟨k, _, rfl, strL_at k1, ?_⟩
    refine .p rfl hsk ?_
    generalize readRl L[k] = X at *
    obtain ⟨x, e⟩ := X
    refine cnd_split (fun hs => ?_) (fun hs => ?_)
    · rw [if_pos hs] at hq
      intro c hc
      rw [IntWalk.i64_in _ (by omega)] at hc
      obtain rfl : c = ((k + 1 : Nat) : Int) := by omega
      exact ⟨g - 1, by omega, k + 1, acc, _, by omega, rfl, hA, hal, hq⟩
    rw [if_neg (by rw [hs]; decide)] at hq
    refine .p rfl hpa ?_
    refine ⟨_, last_at _ _, ?_⟩
    refine cnd_split (fun he => ?_) (fun he => ?_)
    · have he : e = 0 := beq_iff_eq.1 he
      subst he
      refine cnd_split (fun h6 => ?_) (fun h6 => ?_)
      · have h6 : acc.length = 64 := by
          have : ((rlL acc).length : Int) = 64 := beq_iff_eq.1 h6
          omega
        rw [if_pos ⟨rfl, h6⟩] at herr
        rw [if_pos (by rw [herr]; decide)] at hq
        rw [herr] at hq
        intro c hc
        rw [IntWalk.i64_in _ (by omega)] at hc
        obtain rfl : c = ((k + 1 : Nat) : Int) := by omega
        subst hq
        exact .inr ⟨_, _, rfl, rfl, .inr (.inl ⟨rfl, 8, rfl⟩), .inl ⟨rfl, rfl⟩, .inl ⟨rfl, rfl⟩, trivial⟩
      · have h6 : acc.length ≠ 64 := by
          have : ((rlL acc).length : Int) ≠ 64 := beq_eq_false_iff_ne.1 h6
          omega
        rw [if_neg (fun h => h6 h.2)] at herr
        have herr : errA L[k] acc.length = 0 := herr
        rw [if_neg (by rw [herr]; decide)] at hq
        refine ⟨_, last_upd _ _ _, ?_⟩
        refine Acc.app (n := 0) (i := ti29) hA (Nat.zero_le _) (List.cons_ne_nil _ _) ?_ ?_ (fun t1 e1 tk1 q0 q1 q2 q3 => ?_)
        · show ((rlL acc).length + 1) * 112 ≤ _; rw [rlL_len]; omega
        · show (rlL acc).length + 1 ≤ _; rw [rlL_len]; omega
        intro c hc
        rw [IntWalk.i64_in _ (by omega)] at hc
        obtain rfl : c = ((k + 1 : Nat) : Int) := by omega
        refine ⟨g - 1, by omega, k + 1, acc ++ [x], _, by omega, rfl, ?_, by rw [List.length_append]; show _ + 1 ≤ _; omega, hq⟩
        rw [← rlL_snoc]
        exact .own _ _ _ q0 q1
    · have he : e ≠ 0 := beq_eq_false_iff_ne.1 he
      rw [if_neg (fun h => he h.1)] at herr
      refine cnd_split (fun h2 => ?_) (fun h2 => absurd (bne_eq_false_iff_eq.1 h2) he)
      rw [if_pos (by rw [herr]; exact he)] at hq
      rw [herr] at hq
      intro c hc
      rw [IntWalk.i64_in _ (by omega)] at hc
      obtain rfl : c = ((k + 1 : Nat) : Int) := by omega
      subst hq
      exact .inr ⟨_, _, rfl, rfl, .inr (.inl ⟨rfl, 8, rfl⟩), .inl ⟨rfl, rfl⟩, .inl ⟨rfl, rfl⟩, trivial⟩
theorem retA {cs cs' : List AV} (h : CellsW cs cs') : resV (.agg cs) (.agg cs') := .inl (.inl (.inr ⟨cs, cs', rfl, rfl, h⟩))
set_option maxHeartbeats 1000000 in
theorem read35_p (s : ByteArray) (hs : s.size ≤ 1048576) (hL : ∀ x ∈ linesB s, x.size ≤ 100000) : APure Tryz.prog 30 [.s s] (.agg [.sl .no 8 (rlL (readP s).1), .i (readP s).2.1, .i (readP s).2.2]) [] := by
  have hmx : maxLen = 9223372036854775807 := rfl
  have hsp := parts8_p s (by omega)
  have hP : readA (linesB s) 0 [] = readP s := by unfold readP; rw [if_neg (by omega)]
  have hll := linesB_len s
  generalize readP s = P at *
  generalize linesB s = L at *
  have el := strL_len L
  refine APure.ofG rfl ?_
  refine ACalls.of_vc T_ok mixed Tryz.func30 rfl Tryz.call30 ?_
  refine cnd_split (fun h0 => ?_) (fun h0 => ?_)
  · have h0 := of_decide_eq_true h0
    omega
  refine ⟨_, rfl, ?_⟩
  refine .p rfl hsp ?_
  refine vc_loop [5] (fun g vals st' => ∃ (k : Nat) (acc : List Rl) (a : AV), k + g = L.length ∧ vals = [.i k] ∧ st'.heap[0]? = some [.nilS, .i 0, .i 0] ∧ st'.heap[1]? = some [a, .i 0, .i 0] ∧ Acc 0 st'.tk 8 a (rlL acc) ∧ acc.length ≤ 64 ∧ readA (L.drop k) k acc = P) L.length rfl ⟨0, [], .nilS, by omega, rfl, rfl, rfl, .nil, Nat.zero_le _, hP⟩ ?_
  rintro g vals st' ⟨k, acc, a, hk, rfl, hp0, hp1, hA, hal, hq⟩
  have ea := rlL_len acc
  rcases hA.form with rfl | ⟨t, e, rfl⟩
  · have hrl : rlL acc = [] := by
      generalize hes : rlL acc = es at hA ea
      cases hA
      rfl
    have hac : acc.length = 0 := by rw [hrl] at ea; exact ea.symm
    refine cnd_split (fun hd => ?_) (fun hd => ?_)
    rotate_left
    · have hd := of_decide_eq_false hd
      rw [List.drop_of_length_le (by omega)] at hq
      subst hq
      refine ⟨_, hp1, ?_⟩
      refine ⟨_, hp0, ?_⟩
      refine ⟨_, st_eq hp0, ?_⟩
      refine retA ?_
      exact ⟨.inr ⟨rfl, 8, congrArg (AV.sl .no 8) hrl⟩, .inl ⟨rfl, rfl⟩, .inl ⟨rfl, rfl⟩, trivial⟩
    have hd := of_decide_eq_true hd
    have k1 : k < L.length := by omega
    have hx := hL _ (List.getElem_mem k1)
    have hsk := skip33_p L[k] (by omega)
    have hpa := parse33_p L[k] (by omega)
    rw [readA_at k1] at hq
    have herr : errA L[k] acc.length = if (readRl L[k]).2 = 0 ∧ acc.length = 64 then 3 else (readRl L[k]).2 := rfl
    refine ⟨k, _, rfl, strL_at k1, ?_⟩
    refine .p rfl hsk ?_
    generalize readRl L[k] = X at *
    obtain ⟨x, e⟩ := X
    refine cnd_split (fun hs => ?_) (fun hs => ?_)
    · rw [if_pos hs] at hq
      intro c hc
      rw [IntWalk.i64_in _ (by omega)] at hc
      obtain rfl : c = ((k + 1 : Nat) : Int) := by omega
      exact ⟨g - 1, by omega, k + 1, acc, _, by omega, rfl, hp0, hp1, hA, hal, hq⟩
    rw [if_neg (by rw [hs]; decide)] at hq
    have hlt := lt_of hp1
    have hn0 : ∀ z c : List AV, ((st'.heap ++ [z]).set st'.heap.length c)[0]? = some [.nilS, .i 0, .i 0] := fun z c => st_ne (n := 0) (by omega) (ap hp0)
    have hn1 := fun z c : List AV => st_ne (x := c) (n := 1) (m := st'.heap.length) (by omega) (ap (x := z) hp1)
    refine ⟨k, _, rfl, strL_at k1, ?_⟩
    refine .p rfl hpa ?_
    refine ⟨_, last_at _ _, ?_⟩
    refine cnd_split (fun he => ?_) (fun he => ?_)
    · have he : e = 0 := beq_iff_eq.1 he
      subst he
      rw [if_neg (fun h => by omega)] at herr
      refine ⟨_, hn1 _ _, ?_⟩
      have herr : errA L[k] acc.length = 0 := herr
      rw [if_neg (by rw [herr]; decide)] at hq
      refine ⟨_, hn1 _ _, ?_⟩
      refine ⟨_, last_upd _ _ _, ?_⟩
      refine Acc.app (n := 0) (i := ti29) hA (Nat.zero_le _) (List.cons_ne_nil _ _) ?_ ?_ (fun t1 e1 tk1 q0 q1 q2 q3 => ?_)
      · show ((rlL acc).length + 1) * 112 ≤ _; rw [rlL_len]; omega
      · show (rlL acc).length + 1 ≤ _; rw [rlL_len]; omega
      refine ⟨_, hn1 _ _, ?_⟩
      intro c hc
      rw [IntWalk.i64_in _ (by omega)] at hc
      obtain rfl : c = ((k + 1 : Nat) : Int) := by omega
      refine ⟨g - 1, by omega, k + 1, acc ++ [x], _, by omega, rfl, st_ne (n := 0) (by decide) (hn0 _ _), st_eq (hn1 _ _), ?_, by rw [List.length_append]; show _ + 1 ≤ _; omega, hq⟩
      rw [← rlL_snoc]
      exact .own _ _ _ q0 q1
    · have he : e ≠ 0 := beq_eq_false_iff_ne.1 he
      rw [if_neg (fun h => he h.1)] at herr
      refine cnd_split (fun h2 => ?_) (fun h2 => absurd (bne_eq_false_iff_eq.1 h2) he)
      rw [if_pos (by rw [herr]; exact he)] at hq
      rw [herr] at hq
      intro c hc
      rw [IntWalk.i64_in _ (by omega)] at hc
      obtain rfl : c = ((k + 1 : Nat) : Int) := by omega
      subst hq
      refine ⟨_, hn0 _ _, ?_⟩
      refine ⟨_, st_eq (hn0 _ _), ?_⟩
      refine retA ?_
      exact ⟨.inr ⟨rfl, 8, rfl⟩, .inl ⟨rfl, rfl⟩, .inl ⟨rfl, rfl⟩, trivial⟩
  · skip
    refine cnd_split (fun hd => ?_) (fun hd => ?_)
    rotate_left
    · have hd := of_decide_eq_false hd
      rw [List.drop_of_length_le (by omega)] at hq
      subst hq
      refine ⟨_, hp1, ?_⟩
      refine ⟨_, hp0, ?_⟩
      refine ⟨_, st_eq hp0, ?_⟩
      refine retA ?_
      exact ⟨.inl ⟨rfl, rfl⟩, .inl ⟨rfl, rfl⟩, .inl ⟨rfl, rfl⟩, trivial⟩
    have hd := of_decide_eq_true hd
    have k1 : k < L.length := by omega
    have hx := hL _ (List.getElem_mem k1)
    have hsk := skip33_p L[k] (by omega)
    have hpa := parse33_p L[k] (by omega)
    rw [readA_at k1] at hq
    have herr : errA L[k] acc.length = if (readRl L[k]).2 = 0 ∧ acc.length = 64 then 3 else (readRl L[k]).2 := rfl
    refine ⟨k, _, rfl, strL_at k1, ?_⟩
    refine .p rfl hsk ?_
    generalize readRl L[k] = X at *
    obtain ⟨x, e⟩ := X
    refine cnd_split (fun hs => ?_) (fun hs => ?_)
    · rw [if_pos hs] at hq
      intro c hc
      rw [IntWalk.i64_in _ (by omega)] at hc
      obtain rfl : c = ((k + 1 : Nat) : Int) := by omega
      exact ⟨g - 1, by omega, k + 1, acc, _, by omega, rfl, hp0, hp1, hA, hal, hq⟩
    rw [if_neg (by rw [hs]; decide)] at hq
    have hlt := lt_of hp1
    have hn0 : ∀ z c : List AV, ((st'.heap ++ [z]).set st'.heap.length c)[0]? = some [.nilS, .i 0, .i 0] := fun z c => st_ne (n := 0) (by omega) (ap hp0)
    have hn1 := fun z c : List AV => st_ne (x := c) (n := 1) (m := st'.heap.length) (by omega) (ap (x := z) hp1)
    refine ⟨k, _, rfl, strL_at k1, ?_⟩
    refine .p rfl hpa ?_
    refine ⟨_, last_at _ _, ?_⟩
    refine cnd_split (fun he => ?_) (fun he => ?_)
    · have he : e = 0 := beq_iff_eq.1 he
      subst he
      refine ⟨_, hn1 _ _, ?_⟩
      refine cnd_split (fun h6 => ?_) (fun h6 => ?_)
      · have h6 : acc.length = 64 := by
          have : ((rlL acc).length : Int) = 64 := beq_iff_eq.1 h6
          omega
        rw [if_pos ⟨rfl, h6⟩] at herr
        rw [if_pos (by rw [herr]; decide)] at hq
        rw [herr] at hq
        intro c hc
        rw [IntWalk.i64_in _ (by omega)] at hc
        obtain rfl : c = ((k + 1 : Nat) : Int) := by omega
        subst hq
        refine ⟨_, hn0 _ _, ?_⟩
        refine ⟨_, st_eq (hn0 _ _), ?_⟩
        refine retA ?_
        exact ⟨.inr ⟨rfl, 8, rfl⟩, .inl ⟨rfl, rfl⟩, .inl ⟨rfl, rfl⟩, trivial⟩
      · have h6 : acc.length ≠ 64 := by
          have : ((rlL acc).length : Int) ≠ 64 := beq_eq_false_iff_ne.1 h6
          omega
        rw [if_neg (fun h => h6 h.2)] at herr
        have herr : errA L[k] acc.length = 0 := herr
        rw [if_neg (by rw [herr]; decide)] at hq
        refine ⟨_, hn1 _ _, ?_⟩
        refine ⟨_, last_upd _ _ _, ?_⟩
        refine Acc.app (n := 0) (i := ti29) hA (Nat.zero_le _) (List.cons_ne_nil _ _) ?_ ?_ (fun t1 e1 tk1 q0 q1 q2 q3 => ?_)
        · show ((rlL acc).length + 1) * 112 ≤ _; rw [rlL_len]; omega
        · show (rlL acc).length + 1 ≤ _; rw [rlL_len]; omega
        refine ⟨_, hn1 _ _, ?_⟩
        intro c hc
        rw [IntWalk.i64_in _ (by omega)] at hc
        obtain rfl : c = ((k + 1 : Nat) : Int) := by omega
        refine ⟨g - 1, by omega, k + 1, acc ++ [x], _, by omega, rfl, st_ne (n := 0) (by decide) (hn0 _ _), st_eq (hn1 _ _), ?_, by rw [List.length_append]; show _ + 1 ≤ _; omega, hq⟩
        rw [← rlL_snoc]
        exact .own _ _ _ q0 q1
    · have he : e ≠ 0 := beq_eq_false_iff_ne.1 he
      rw [if_neg (fun h => he h.1)] at herr
      refine cnd_split (fun h2 => ?_) (fun h2 => absurd (bne_eq_false_iff_eq.1 h2) he)
      rw [if_pos (by rw [herr]; exact he)] at hq
      rw [herr] at hq
      intro c hc
      rw [IntWalk.i64_in _ (by omega)] at hc
      obtain rfl : c = ((k + 1 : Nat) : Int) := by omega
      subst hq
      refine ⟨_, hn0 _ _, ?_⟩
      refine ⟨_, st_eq (hn0 _ _), ?_⟩
      refine retA ?_
      exact ⟨.inr ⟨rfl, 8, rfl⟩, .inl ⟨rfl, rfl⟩, .inl ⟨rfl, rfl⟩, trivial⟩
end
def l35 : ByteArray := ⟨#[35, 32, 120, 10, 114, 101, 113, 117, 101, 115, 116, 32, 114, 101, 109, 111, 118, 101, 32, 65]⟩
def rl35 : Rl := ⟨1, 0, ⟨#[]⟩, ⟨#[]⟩, 3, ⟨#[65]⟩, ⟨#[]⟩, []⟩
theorem read_l35 : readP l35 = ([rl35], 0, 0) := by kernel_rfl
theorem awake35_p : APure Tryz.prog 28 [] (.b true) [] := by
  have h := cread_p l35 (by decide) (fun x hx => Nat.le_trans (linesB_size hx) (by decide))
  rw [read_l35] at h
  refine APure.of rfl (ACalls.of_vc T_ok mixed Tryz.func28 rfl Tryz.call28 ?_)
  refine .p rfl h ?_
  refine ⟨0, _, rfl, rfl, ?_⟩
  intro q hq
  obtain rfl : q = true := hq.2 rfl
  rfl
theorem checkReads_p (s : ByteArray) : APure Tryz.prog 9 [.s s] (.b true) [] := by
  have hz : (s.extract 0 (if 9000 < s.size then 9000 else s.size)).size ≤ 9000 := by
    rw [ByteArray.size_extract]
    split <;> omega
  have hmin := minI_at s.size 9000
  generalize hc : s.extract 0 (if 9000 < s.size then 9000 else s.size) = c at *
  have hL : ∀ x ∈ linesB c, x.size ≤ 100000 := fun x hx => Nat.le_trans (linesB_size hx) (by omega)
  have h1 := cread_p c (by omega) hL
  have h2 := read35_p c (by omega) hL
  have hok : (readP c).1.length ≤ 64 ∧ ∀ r ∈ (readP c).1, r.Ok := by
    unfold readP
    split
    · exact ⟨Nat.zero_le _, fun r hr => by cases hr⟩
    · exact readA_ok _ 0 [] hL (Nat.zero_le _) (fun r hr => by cases hr)
  generalize readP c = P at *
  obtain ⟨l, n, e⟩ := P
  obtain ⟨o1, o2⟩ := hok
  have h3 := sameAll_p l l (by have : l.length ≤ 64 := o1; omega) (by have : l.length ≤ 64 := o1; omega) o2 o2
  have h4 := csame_p l l (by have : l.length ≤ 64 := o1; omega) (by have : l.length ≤ 64 := o1; omega) o2 o2
  rw [decide_eq_true rfl] at h3 h4
  subst hc
  clear o1 o2 hz hL
  refine APure.of rfl (ACalls.of_vc T_ok mixed Tryz.func9 rfl Tryz.call9 ?_)
  refine .p rfl awake35_p ?_
  refine ⟨_, hmin, Nat.zero_le _, by split <;> omega, ?_⟩
  refine .p rfl h1 ?_
  refine .p rfl h2 ?_
  refine ⟨_, rfl, ?_⟩
  refine ⟨_, rfl, ?_⟩
  refine .p rfl h3 ?_
  refine ⟨_, rfl, ?_⟩
  refine cnd_split (fun h => ?_) (fun h => ?_)
  case refine_2 => exact absurd rfl (beq_eq_false_iff_ne.1 h)
  refine ⟨_, rfl, ?_⟩
  refine cnd_split (fun h => ?_) (fun h => ?_)
  case refine_2 => exact absurd rfl (beq_eq_false_iff_ne.1 h)
  refine ⟨_, rfl, ?_⟩
  refine .p rfl h4 ?_
  rfl
theorem fewL_ok (l0 : List Rl) : ((l0.take 70).map fewR).length ≤ 70 ∧ (∀ r ∈ (l0.take 70).map fewR, r.Ok ∧ (textB r).size ≤ 10300) := by
  refine ⟨by rw [List.length_map, List.length_take]; omega, fun r hr => ?_⟩
  obtain ⟨q, _, rfl⟩ := List.mem_map.1 hr
  refine ⟨fewR_ok q, ?_⟩
  have h := textB_size (fewR q)
  have h1 : (fewR q).ga.size ≤ 60 := cut60_size _
  have h2 : (fewR q).gb.size ≤ 60 := cut60_size _
  have h3 : (fewR q).nm.size ≤ 60 := cut60_size _
  have h4 : (fewR q).un.size ≤ 60 := cut60_size _
  have h5 : (fewR q).ps.length ≤ 40 := fewT_len _
  have h6 : sumT (fewR q).ps ≤ 2400 := fewT_sum _
  omega
theorem checkSame_p (a b : List Rl) : APure Tryz.prog 10 [.sl .no 8 (rlL a), .sl .no 8 (rlL b)] (.b true) [] := by
  have f1 := few35_p a
  have f2 := few35_p b
  obtain ⟨a1, a2⟩ := fewL_ok a
  obtain ⟨b1, b2⟩ := fewL_ok b
  generalize (a.take 70).map fewR = x at *
  generalize (b.take 70).map fewR = y at *
  have s1 := csame_p x y (by omega) (by omega) (fun r hr => (a2 r hr).1) (fun r hr => (b2 r hr).1)
  have s2 := sameAll_p x y (by omega) (by omega) (fun r hr => (a2 r hr).1) (fun r hr => (b2 r hr).1)
  have s3 := csame_p x x (by omega) (by omega) (fun r hr => (a2 r hr).1) (fun r hr => (a2 r hr).1)
  rw [decide_eq_true rfl] at s3
  generalize decide (x = y) = t at *
  refine APure.of rfl (ACalls.of_vc T_ok mixed Tryz.func10 rfl Tryz.call10 ?_)
  refine .p rfl awake35_p ?_
  refine .p rfl f1 ?_
  refine .p rfl f2 ?_
  refine .p rfl s1 ?_
  refine .p rfl s2 ?_
  refine cnd_split (fun h => ?_) (fun h => ?_)
  case refine_2 => exact absurd rfl (beq_eq_false_iff_ne.1 h)
  refine .p rfl s3 ?_
  rfl
theorem checkWrites_p (l0 : List Rl) : APure Tryz.prog 11 [.sl .no 8 (rlL l0)] (.b true) [] := by
  have f1 := few35_p l0
  obtain ⟨a1, a2⟩ := fewL_ok l0
  generalize (l0.take 70).map fewR = l at *
  have hr : ∀ r ∈ l, r.Ok := fun r hr => (a2 r hr).1
  have c1 := check35_p l (by omega) hr
  have c2 := check35R_p l (by omega) hr
  have hb : (checkL l).2 = 0 → (printL l).length ≤ 1048576 := fun h => by
    have h1 := (checkL_ok h).2
    have h2 := printL_bound (fun r hr => (a2 r hr).2)
    have h3 : l.length * 10301 ≤ 64 * 10301 := Nat.mul_le_mul_right _ h1
    omega
  have c3 := cprint_p l (by omega) hr hb
  by_cases h0 : (checkL l).2 = 0
  · obtain ⟨hok, h64⟩ := checkL_ok h0
    have hbz := hb h0
    have e : printR l = (tBy (printL l), 0) := by unfold printR; rw [if_pos h0]
    have e0 : checkL l = (0, 0) := by
      unfold checkL
      have hz : (chkL l 0).2 = 0 := (chkL_all l 0).2 hok
      have hk : ∀ (l : List Rl) (i : Nat), (∀ r ∈ l, checkR r = 0) → chkL l i = (0, 0) := by
        intro l
        induction l with
        | nil => intro i _; rfl
        | cons r rs ih => intro i h; rw [chkL, if_pos (h r (.head _)), ih _ (fun x hx => h x (.tail _ hx))]
      rw [if_neg (by rw [hz]; decide), if_neg (by omega)]
    have hzs : (tBy (printL l)).size ≤ 1048576 := by rw [tBy_size]; exact hbz
    have hrp := read_print hok h64 (tBy_l (printL l)) hzs
    have hLn : ∀ x ∈ linesB (tBy (printL l)), x.size ≤ 100000 := fun x hx => by
      unfold linesB at hx
      rw [tBy_l, cut_print hok, List.map_append, List.map_map] at hx
      rcases List.mem_append.1 hx with hx | hx
      · obtain ⟨r, hr', rfl⟩ := List.mem_map.1 hx
        have := (a2 r hr').2
        show (textB r).size ≤ _
        omega
      · have : x = ⟨#[]⟩ := by simpa using hx
        rw [this]
        exact Nat.zero_le _
    have d1 := cread_p (tBy (printL l)) hzs hLn
    have d2 := print35_p l (by omega) hr hok hbz
    have d3 := sameAll_p l l (by omega) (by omega) hr hr
    rw [decide_eq_true rfl] at d3
    rw [hrp] at d1
    rw [e] at c3
    rw [e0] at c1 c2
    clear hb hbz hok hzs hrp hLn e e0 h0 a2 hr
    generalize tBy (printL l) = t at *
    refine APure.of rfl (ACalls.of_vc T_ok mixed Tryz.func11 rfl Tryz.call11 ?_)
    refine .p rfl awake35_p ?_
    refine .p rfl f1 ?_
    refine .p rfl c1 ?_
    refine .p rfl c2 ?_
    refine .p rfl c3 ?_
    refine .p rfl d1 ?_
    refine .p rfl d2 ?_
    intro q hq
    obtain rfl : q = true := hq.2 rfl
    refine .p rfl d3 ?_
    rfl
  · have e : printR l = (⟨#[]⟩, (checkL l).2) := by unfold printR; rw [if_neg h0]
    rw [e] at c3
    clear hb e a2 hr
    generalize checkL l = C at *
    obtain ⟨k, e⟩ := C
    have h0 : e ≠ 0 := h0
    refine APure.of rfl (ACalls.of_vc T_ok mixed Tryz.func11 rfl Tryz.call11 ?_)
    refine .p rfl awake35_p ?_
    refine .p rfl f1 ?_
    refine .p rfl c1 ?_
    refine .p rfl c2 ?_
    refine .p rfl c3 ?_
    refine cnd_split (fun h => ?_) (fun h => ?_)
    · exact absurd rfl (bne_iff_ne.1 h)
    refine cnd_split (fun h => ?_) (fun h => ?_)
    · exact absurd rfl (bne_iff_ne.1 h)
    refine cnd_split (fun h => ?_) (fun h => ?_)
    · exact absurd rfl (bne_iff_ne.1 h)
    refine cnd_split (fun h => ?_) (fun h => absurd (bne_eq_false_iff_eq.1 h) h0)
    intro q hq
    obtain rfl : q = true := hq.2 rfl
    rfl
instance : Inhabited Rl := ⟨⟨0, 0, ⟨#[]⟩, ⟨#[]⟩, 0, ⟨#[]⟩, ⟨#[]⟩, []⟩⟩
section
variable {W : World} {H : Type} {enc : TypeId × Value → H} {b2 base : Nat} {spare : Nat → Bool} {held : Bool} {v : Value} {d : DataW H} {p : List MemPlace}
theorem opens_rules (W : World) : Opens Tryz.prog W 58 1 (fun l : List Rl => [AV.sl .no 8 (rlL l)]) (fun l => ∀ r ∈ l, True) :=
  Opens.slice Tryz.underlying58 (by kernel_rfl) (by omega) (opens_rule W)
theorem open_rules (hval : Value.okWide Tryz.prog W .any base 58 v) (hx : DataW.Trod enc Tryz.prog W b2 spare held 58 v d p) : ∃ l : List Rl, AtR W (.sl .no 8 (rlL l)) v ∧ ∀ r ∈ l, True :=
  Opens.row Tryz.underlying58 (opens_rules W) hval hx
end
end Go.Proofs.YtgaidgblihnldaaGreatDoor
