/- Lines of rules with other blanks between their words: RuletextBlanks. No statement of its own. -/
import Derived.Test.YtgaidgblihnldaaGreatDoorR36
import Derived.Test.YtgaidgblihnldaaGreatDoorQt
import Derived.Test.YtgaidgblihnldaaGreatDoorRm
set_option linter.unusedSimpArgs false
set_option linter.unusedVariables false
set_option maxRecDepth 100000
namespace Go.Proofs.YtgaidgblihnldaaGreatDoor
open Go.RowKit
def bytL (l : List Int) : List (List AV) := l.map fun z => [AV.int .u8 z]
def sumS : List Wd → Nat
  | [] => 0
  | w :: r => w.1.size + sumS r
theorem sumS_app (a b : List Wd) : sumS (a ++ b) = sumS a + sumS b := by
  induction a with
  | nil => simp [sumS]
  | cons x a ih => simp only [List.cons_append, sumS, ih]; omega
theorem sumS_take {l : List Wd} {k : Nat} (h : k < l.length) : sumS (l.take (k + 1)) = sumS (l.take k) + l[k].1.size := by
  rw [List.take_succ_eq_append_getElem h, sumS_app]
  rfl
theorem sumS_le (l : List Wd) (k : Nat) : sumS (l.take k) ≤ sumS l := by
  have h := sumS_app (l.take k) (l.drop k)
  rw [List.take_append_drop] at h
  omega
theorem wordS_len {s t : ByteArray} {k e : Nat} (hk : k ≤ s.size) (h : wordS s k = some (t, e)) : t.size + k ≤ e := by
  by_cases h0 : tw tokI s k = 0
  · rw [wordS_no h0] at h
    cases hf : frontS s k with
    | none => rw [hf] at h; cases h
    | some x =>
      rw [hf] at h
      obtain ⟨v, i⟩ := x
      cases h
      unfold frontS at hf
      split at hf
      · have := frontW_le _ _ _ _ _ rfl hf
        show (List.toArray v).size + k ≤ _
        rw [List.size_toArray]
        have h9 : ([] : List UInt8).length = 0 := rfl
        omega
      · cases hf
  · rw [wordS_tok h0] at h
    cases h
    rw [ByteArray.size_extract]
    omega
theorem words_sum {s : ByteArray} : ∀ (z k : Nat), s.size - k = z → k ≤ s.size → sumS (wordsW s k).1 ≤ z := by
  intro z
  induction z using Nat.strongRecOn with
  | _ z ih =>
    intro k hz hk
    by_cases hlt : k < s.size
    · cases hs : wordS s k with
      | none => rw [wordsW_none hlt hs]; exact Nat.zero_le _
      | some x =>
        obtain ⟨t, e⟩ := x
        have l1 := wordS_le hk hs
        have h1 := wordS_len hk hs
        cases hg : gapS s e with
        | none =>
          rw [wordsW_gap hlt hs hg]
          show t.size + 0 ≤ z
          omega
        | some j =>
          have l2 := gapS_le l1.2 hg
          rw [wordsW_some hlt hs hg]
          have i1 := ih (s.size - j) (by omega) j rfl l2.2
          show t.size + sumS _ ≤ z
          omega
    · rw [wordsW_end (by omega)]
      exact Nat.zero_le _
theorem wordsR_sum (s : ByteArray) : sumS (wordsR s).1 ≤ s.size := by
  have := tw_le blkI s 0 (Nat.zero_le _)
  have h1 := words_sum (s := s) _ (tw blkI s 0) rfl (by omega)
  unfold wordsR
  omega
theorem prtW_len (w : Wd) : (prtW w).length ≤ 2 * w.1.size + 2 := by
  have := quoteL_len w.1.data.toList
  rw [blen] at this
  have h2 := blen w.1
  unfold prtW
  split
  · simp only [List.length_cons, List.length_append, List.length_nil]; omega
  · omega
theorem lnL_app (a : List (List UInt8 × Wd)) (x : List UInt8 × Wd) : lnL (a ++ [x]) = lnL a ++ (x.1 ++ prtW x.2) := by
  induction a with
  | nil => simp [lnL]
  | cons y a ih => simp only [List.cons_append, lnL, ih, List.append_assoc]
/-- blanks, one and another by turns -/
def sepL : Nat → List UInt8
  | 0 => []
  | k + 1 => sepL k ++ [if k % 2 = 0 then 32 else 9]
theorem sepL_blk : ∀ k, BlkL (sepL k)
  | 0 => fun b hb => by cases hb
  | k + 1 => fun b hb => by
    rcases List.mem_append.1 hb with hb | hb
    · exact sepL_blk k b hb
    · simp only [List.mem_cons, List.mem_nil_iff, or_false] at hb
      subst hb
      split <;> rfl
theorem sepL_len : ∀ k, (sepL k).length = k
  | 0 => rfl
  | k + 1 => by simp [sepL, sepL_len k]
def toBy (l : List UInt8) : ByteArray := ⟨l.toArray⟩
theorem toBy_l (l : List UInt8) : (toBy l).data.toList = l := by
  unfold toBy
  show l.toArray.toList = l
  rw [List.toList_toArray]
theorem toBy_size (l : List UInt8) : (toBy l).size = l.length := by rw [← blen, toBy_l]
theorem toBy_app (l : List UInt8) (x : ByteArray) : toBy l ++ x = toBy (l ++ x.data.toList) := by
  apply inL
  rw [app_l, toBy_l, toBy_l]
/-- what stands behind some words -/
structure LnI (l : List Wd) (i : Nat) (L : List UInt8) : Prop where
  ex : ∃ ys : List (List UInt8 × Wd), ys.map (·.2) = l.take i ∧ (∀ x ∈ ys, x.1 ≠ [] ∧ BlkL x.1 ∧ WdOk x.2) ∧ L = lnL ys
  le : L.length ≤ 5 * i + 2 * sumS (l.take i)
theorem LnI.zero (l : List Wd) : LnI l 0 [] := ⟨⟨[], rfl, (fun x hx => by cases hx), rfl⟩, Nat.zero_le _⟩
theorem LnI.next {l : List Wd} {i n : Nat} {L : List UInt8} (h : LnI l i L) (hi : i < l.length) (hw : WdOk l[i]) (h1 : 1 ≤ n) (h3 : n ≤ 3) : LnI l (i + 1) (L ++ sepL n ++ prtW l[i]) := by
  obtain ⟨⟨ys, e1, e2, rfl⟩, h4⟩ := h
  refine ⟨⟨ys ++ [(sepL n, l[i])], ?_, fun x hx => ?_, ?_⟩, ?_⟩
  · rw [List.map_append, e1, List.take_succ_eq_append_getElem hi]; rfl
  · rcases List.mem_append.1 hx with hx | hx
    · exact e2 x hx
    · simp only [List.mem_cons, List.mem_nil_iff, or_false] at hx
      subst hx
      refine ⟨fun e => ?_, sepL_blk n, hw⟩
      have := sepL_len n
      rw [show sepL n = [] from e] at this
      have : (0 : Nat) = n := this
      omega
  · rw [lnL_app, List.append_assoc]
  · have := prtW_len l[i]
    rw [List.length_append, List.length_append, sepL_len, sumS_take hi]
    omega
theorem LnI.words {l : List Wd} {L : List UInt8} (h : LnI l l.length L) (hl : l ≠ []) : wordsR (toBy (L ++ [32])) = (l, true) := by
  obtain ⟨⟨ys, e1, e2, rfl⟩, _⟩ := h
  rw [List.take_length] at e1
  cases ys with
  | nil => exact absurd e1.symm hl
  | cons x r =>
    obtain ⟨y, w⟩ := x
    have hx := e2 _ (.head _)
    rw [words_of (s := toBy (lnL ((y, w) :: r) ++ [32])) (z := [32]) (y := y) (fun b hb => by simp at hb; subst hb; rfl) hx.2.1 r w hx.2.2 (fun x hx => e2 x (.tail _ hx)) (by
      rw [toBy_l]
      simp [lnL])]
    rw [← e1]
    rfl
theorem quote33_p (s : ByteArray) (hs : s.size ≤ 1099511627776) : APure Tryz.prog 24 [.s s] (.tup [.s (quoteR s).1, .b ((quoteR s).2 == 0)]) [] := by
  have h := quote5_p s hs
  refine APure.of rfl (ACalls.of_vc T_ok mixed Tryz.func24 rfl Tryz.call24 ?_)
  refine .p rfl h ?_
  rfl
theorem read_words {s t : ByteArray} (h : (wordsR s).2 = true) (h2 : wordsR t = wordsR s) : readRl t = readRl s := by rw [readRl_L, readRl_L, h2]
set_option maxHeartbeats 1000000 in
theorem ruletextBlanks_p (s : ByteArray) (by' : List Int) (hby : ∀ z ∈ by', 0 ≤ z ∧ z < 256) : APure Tryz.prog 5 [.s s, .sl .no 1 (bytL by')] (.b true) [] := by
  have hmx : maxLen = 9223372036854775807 := rfl
  have hz := cut400_size s
  have hp := parseP_p (cut400 s) (by omega)
  have hW := words33_p (cut400 s) (by omega)
  have hok := readRl_ok (s := cut400 s) (by omega)
  obtain ⟨z1, z2⟩ := wordsR_size (cut400 s)
  have z3 := wordsR_sum (cut400 s)
  have z4 := wordsR_ok (cut400 s)
  have hread : ∀ t, (wordsR (cut400 s)).2 = true → wordsR t = wordsR (cut400 s) → readRl t = readRl (cut400 s) := fun t h h2 => read_words h h2
  have hshort : (readRl (cut400 s)).2 = 0 → (wordsR (cut400 s)).1 ≠ [] := fun h e => by
    rw [readRl_L] at h
    split at h
    · rw [e] at h; cases h
    · cases h
  have hokk : (readRl (cut400 s)).2 = 0 → (wordsR (cut400 s)).2 = true := fun h => by
    rw [readRl_L] at h
    split at h
    · assumption
    · cases h
  generalize readRl (cut400 s) = X at *
  generalize wordsR (cut400 s) = Y at *
  obtain ⟨x, e⟩ := X
  obtain ⟨l, ok⟩ := Y
  have hs := rsame32_p x x hok hok
  rw [decide_eq_true rfl] at hs
  clear hok
  have hxc : ∃ xc : List AV, x.av = .agg xc ∧ xc = [.i x.sd, .i x.gk, .s x.ga, .s x.gb, .i x.ac, .s x.nm, .s x.un, .sl .no 2 (prtL x.ps)] := ⟨_, rfl, rfl⟩
  obtain ⟨sd, gk, ga, gb, ac, nm, un, ps⟩ := x
  have hwl := wdL_len l
  have hbyl : (bytL by').length = by'.length := by simp [bytL]
  refine APure.of rfl (ACalls.of_vc T_ok mixed Tryz.func5 rfl Tryz.call5 ?_)
  refine .p rfl awake33_p ?_
  refine ⟨_, minI_at s.size 400, Nat.zero_le _, by split <;> omega, ?_⟩
  refine .p rfl hp ?_
  refine ⟨_, rfl, ?_⟩
  refine .p rfl hW ?_
  refine cnd_split (fun h => ?_) (fun h => ?_)
  · refine retb ?_
    exact h
  have h0 : e = 0 := bne_eq_false_iff_eq.1 h
  subst h0
  obtain rfl : ok = true := hokk rfl
  have hread := fun t => hread t rfl
  have hwl : (wdL l).length = l.length := wdL_len l
  have hshort : l ≠ [] := hshort rfl
  have z1 : l.length ≤ 400 := by have : l.length ≤ (cut400 s).size := z1; omega
  have z3 : sumS l ≤ 400 := by have : sumS l ≤ (cut400 s).size := z3; omega
  have z4 : ∀ w ∈ l, WdOk w := z4
  have z2 : ∀ w ∈ l, w.1.size ≤ 400 := fun w hw => Nat.le_trans (z2 w hw) hz
  clear hokk
  refine vc_loop [9, 10] (fun g vals st' => ∃ (i : Nat) (Lb : List UInt8), i + g = l.length ∧ vals = [.s (toBy Lb), .i i] ∧ LnI l i Lb ∧ st' = ⟨[[.i sd, .i gk, .s ga, .s gb, .i ac, .s nm, .s un, .sl .no 2 (prtL ps)]], []⟩) l.length rfl ⟨0, [], by omega, rfl, .zero l, rfl⟩ ?_
  rintro g vals st1 ⟨i, Lb, hi, rfl, hL, rfl⟩
  have hsle := sumS_le l i
  have hLle := hL.le
  refine cnd_split (fun hd => ?_) (fun hd => ?_)
  · have hd : (i : Int) < ((wdL l).length : Int) := of_decide_eq_true hd
    have i1 : i < l.length := by omega
    have hwk : WdOk l[i] := z4 _ (List.getElem_mem i1)
    have hwz : l[i].1.size ≤ 400 := z2 _ (List.getElem_mem i1)
    have hat : (wdL l)[i]? = some [.s l[i].1, .b l[i].2] := by simp [wdL, i1]
    have fin : ∀ n, 1 ≤ n → n ≤ 3 → LnI l (i + 1) (Lb ++ sepL n ++ prtW l[i]) := fun n h1 h3 => hL.next i1 hwk h1 h3
    have hq : l[i].2 = true → quoteR l[i].1 = (quoteB l[i].1, 0) := fun h => by
      unfold WdOk at hwk
      rw [if_pos h] at hwk
      unfold quoteR
      rw [if_pos hwk]
    have hp1 : l[i].2 = true → (prtW l[i]) = (quoteB l[i].1).data.toList := fun h => by unfold prtW; rw [if_pos h, quoteB_l]
    have hp2 : l[i].2 = false → (prtW l[i]) = l[i].1.data.toList := fun h => by unfold prtW; rw [if_neg (by rw [h]; decide)]
    generalize l[i] = wd at *
    obtain ⟨wt, wq⟩ := wd
    have hQ := quote33_p wt (by have : wt.size ≤ 400 := hwz; omega)
    have hqs := quoteB_size wt
    have hwz : wt.size ≤ 400 := hwz
    have hlong : ∀ n, (sepL n).length = n := sepL_len
    refine cnd_split (fun hb => ?_) (fun hb => ?_)
    · have hb := of_decide_eq_true hb
      have b1 : i < by'.length := by omega
      have hbat : (bytL by')[i]? = some [.int .u8 by'[i]] := by simp [bytL, b1]
      have hbz := hby _ (List.getElem_mem b1)
      refine ⟨i, _, rfl, hbat, ?_⟩
      refine ⟨by decide, ?_⟩
      intro c hc
      have hr : 0 ≤ by'[i].tmod 3 ∧ by'[i].tmod 3 < 3 := by rw [Int.tmod_eq_emod_of_nonneg hbz.1]; omega
      rw [IntWalk.i64_in _ (by omega)] at hc
      intro c2 hc2
      rw [IntWalk.i64_in _ (by omega)] at hc2
      obtain ⟨N, hN, rfl⟩ : ∃ N : Nat, (1 ≤ N ∧ N ≤ 3) ∧ c2 = (N : Int) := ⟨c2.toNat, by omega, by omega⟩
      refine vc_loop [9, 12] (fun g vals st' => ∃ k : Nat, k + g = N ∧ vals = [.s (toBy (Lb ++ sepL k)), .i k] ∧ st' = ⟨[[.i sd, .i gk, .s ga, .s gb, .i ac, .s nm, .s un, .sl .no 2 (prtL ps)]], []⟩) N rfl ⟨0, by omega, by rw [show sepL 0 = [] from rfl, List.append_nil]; rfl, rfl⟩ ?_
      rintro g2 vals2 st2 ⟨k, hk2, rfl, rfl⟩
      have hsl := sepL_len k
      refine cnd_split (fun hd2 => ?_) (fun hd2 => ?_)
      · have hd2 := of_decide_eq_true hd2
        refine ⟨by decide, ?_⟩
        refine ⟨by decide, ?_⟩
        intro c3 hc3
        have hk4 : k < 3 := by omega
        have hm : (k : Int).tmod 2 = ((k % 2 : Nat) : Int) := by rw [Int.tmod_eq_emod_of_nonneg (by omega)]; omega
        rw [hm] at hc3
        rw [IntWalk.i64_in _ (by omega)] at hc3
        refine ⟨k % 2 + 1, by omega, k % 2, hm, by omega, by show k % 2 + 1 ≤ 2; omega, ?_⟩
        refine ⟨by rw [toBy_size, List.length_append, ByteArray.size_extract]; show _ + (min _ 2 - _) ≤ _; omega, ?_⟩
        intro c hc
        rw [IntWalk.i64_in _ (by omega)] at hc
        obtain rfl : c = ((k + 1 : Nat) : Int) := by omega
        refine ⟨g2 - 1, by omega, k + 1, by omega, ?_, rfl⟩
        refine congrArg (fun x => [AV.s x, AV.i ((k + 1 : Nat) : Int)]) ?_
        rw [toBy_app]
        refine congrArg toBy ?_
        rw [List.append_assoc]
        refine congrArg (Lb ++ ·) ?_
        show _ = sepL k ++ [if k % 2 = 0 then 32 else 9]
        refine congrArg (sepL k ++ ·) ?_
        obtain rfl | rfl | rfl : k = 0 ∨ k = 1 ∨ k = 2 := by omega
        · rfl
        · rfl
        · rfl
      · have hd2 := of_decide_eq_false hd2
        obtain rfl : k = N := by omega
        have hf := fin _ hN.1 hN.2
        have hfl := hf.le
        have hsl2 := sumS_le l (i + 1)
        refine ⟨i, _, rfl, hat, ?_⟩
        cases wq with
        | true =>
          rw [hq rfl] at hQ
          have hp1 := hp1 rfl
          refine ⟨i, _, rfl, hat, ?_⟩
          refine .p rfl hQ ?_
          refine ⟨by rw [toBy_size, List.length_append]; show _ + (quoteB wt).size ≤ _; omega, ?_⟩
          intro c hc
          rw [IntWalk.i64_in _ (by omega)] at hc
          obtain rfl : c = ((i + 1 : Nat) : Int) := by omega
          refine ⟨g - 1, by omega, i + 1, _, by omega, ?_, hf, rfl⟩
          refine congrArg (fun x => [AV.s x, AV.i ((i + 1 : Nat) : Int)]) ?_
          rw [hp1, toBy_app]
        | false =>
          have hp2 := hp2 rfl
          refine ⟨i, _, rfl, hat, ?_⟩
          refine ⟨by rw [toBy_size, List.length_append]; show _ + wt.size ≤ _; omega, ?_⟩
          intro c hc
          rw [IntWalk.i64_in _ (by omega)] at hc
          obtain rfl : c = ((i + 1 : Nat) : Int) := by omega
          refine ⟨g - 1, by omega, i + 1, _, by omega, ?_, hf, rfl⟩
          refine congrArg (fun x => [AV.s x, AV.i ((i + 1 : Nat) : Int)]) ?_
          rw [hp2, toBy_app]
    · have hN : 1 ≤ 1 ∧ 1 ≤ 3 := by omega
      refine vc_loop [9, 12] (fun g vals st' => ∃ k : Nat, k + g = 1 ∧ vals = [.s (toBy (Lb ++ sepL k)), .i k] ∧ st' = ⟨[[.i sd, .i gk, .s ga, .s gb, .i ac, .s nm, .s un, .sl .no 2 (prtL ps)]], []⟩) 1 rfl ⟨0, by omega, by rw [show sepL 0 = [] from rfl, List.append_nil]; rfl, rfl⟩ ?_
      rintro g2 vals2 st2 ⟨k, hk2, rfl, rfl⟩
      have hsl := sepL_len k
      refine cnd_split (fun hd2 => ?_) (fun hd2 => ?_)
      · have hd2 := of_decide_eq_true hd2
        refine ⟨by decide, ?_⟩
        refine ⟨by decide, ?_⟩
        intro c3 hc3
        have hk4 : k < 3 := by omega
        have hm : (k : Int).tmod 2 = ((k % 2 : Nat) : Int) := by rw [Int.tmod_eq_emod_of_nonneg (by omega)]; omega
        rw [hm] at hc3
        rw [IntWalk.i64_in _ (by omega)] at hc3
        refine ⟨k % 2 + 1, by omega, k % 2, hm, by omega, by show k % 2 + 1 ≤ 2; omega, ?_⟩
        refine ⟨by rw [toBy_size, List.length_append, ByteArray.size_extract]; show _ + (min _ 2 - _) ≤ _; omega, ?_⟩
        intro c hc
        rw [IntWalk.i64_in _ (by omega)] at hc
        obtain rfl : c = ((k + 1 : Nat) : Int) := by omega
        refine ⟨g2 - 1, by omega, k + 1, by omega, ?_, rfl⟩
        refine congrArg (fun x => [AV.s x, AV.i ((k + 1 : Nat) : Int)]) ?_
        rw [toBy_app]
        refine congrArg toBy ?_
        rw [List.append_assoc]
        refine congrArg (Lb ++ ·) ?_
        show _ = sepL k ++ [if k % 2 = 0 then 32 else 9]
        refine congrArg (sepL k ++ ·) ?_
        obtain rfl | rfl | rfl : k = 0 ∨ k = 1 ∨ k = 2 := by omega
        · rfl
        · rfl
        · rfl
      · have hd2 := of_decide_eq_false hd2
        obtain rfl : k = 1 := by omega
        have hf := fin _ hN.1 hN.2
        have hfl := hf.le
        have hsl2 := sumS_le l (i + 1)
        refine ⟨i, _, rfl, hat, ?_⟩
        cases wq with
        | true =>
          rw [hq rfl] at hQ
          have hp1 := hp1 rfl
          refine ⟨i, _, rfl, hat, ?_⟩
          refine .p rfl hQ ?_
          refine ⟨by rw [toBy_size, List.length_append]; show _ + (quoteB wt).size ≤ _; omega, ?_⟩
          intro c hc
          rw [IntWalk.i64_in _ (by omega)] at hc
          obtain rfl : c = ((i + 1 : Nat) : Int) := by omega
          refine ⟨g - 1, by omega, i + 1, _, by omega, ?_, hf, rfl⟩
          refine congrArg (fun x => [AV.s x, AV.i ((i + 1 : Nat) : Int)]) ?_
          rw [hp1, toBy_app]
        | false =>
          have hp2 := hp2 rfl
          refine ⟨i, _, rfl, hat, ?_⟩
          refine ⟨by rw [toBy_size, List.length_append]; show _ + wt.size ≤ _; omega, ?_⟩
          intro c hc
          rw [IntWalk.i64_in _ (by omega)] at hc
          obtain rfl : c = ((i + 1 : Nat) : Int) := by omega
          refine ⟨g - 1, by omega, i + 1, _, by omega, ?_, hf, rfl⟩
          refine congrArg (fun x => [AV.s x, AV.i ((i + 1 : Nat) : Int)]) ?_
          rw [hp2, toBy_app]
  · have hd : ¬ (i : Int) < ((wdL l).length : Int) := of_decide_eq_false hd
    obtain rfl : i = l.length := by omega
    have hw := hL.words hshort
    have hrd := hread _ hw
    have hfs : (toBy (Lb ++ [32])).size ≤ 100000 := by rw [toBy_size, List.length_append]; show _ + 1 ≤ _; omega
    have hpp := parseP_p (toBy (Lb ++ [32])) hfs
    rw [hrd] at hpp
    have e32 : toBy Lb ++ (⟨#[32]⟩ : ByteArray) = toBy (Lb ++ [32]) := toBy_app _ _
    rw [← e32] at hpp
    refine ⟨by rw [toBy_size]; show _ + 1 ≤ _; omega, ?_⟩
    refine .p rfl hpp ?_
    refine ⟨_, rfl, ?_⟩
    refine ⟨_, rfl, ?_⟩
    refine ⟨_, rfl, ?_⟩
    refine .p rfl hs ?_
    rfl
end Go.Proofs.YtgaidgblihnldaaGreatDoor
