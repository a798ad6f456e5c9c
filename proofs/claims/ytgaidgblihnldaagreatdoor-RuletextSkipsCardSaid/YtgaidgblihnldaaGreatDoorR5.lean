/- Lines of rules, as the document reads them: the whole line. No statement of its own. -/
import Derived.Test.YtgaidgblihnldaaGreatDoorR4
set_option linter.unusedSimpArgs false
set_option linter.unusedVariables false
set_option maxRecDepth 100000
namespace Go.Proofs.YtgaidgblihnldaaGreatDoor
open Go.RowKit
theorem wordS_size {s t : ByteArray} {k e : Nat} (hk : k ≤ s.size) (h : wordS s k = some (t, e)) : t.size ≤ s.size := by
  by_cases h0 : tw tokI s k = 0
  · rw [wordS_no h0] at h
    cases hf : frontS s k with
    | none => rw [hf] at h; cases h
    | some x =>
      rw [hf] at h
      obtain ⟨v, i⟩ := x
      cases h
      unfold frontS at hf
      split at hf
      · have := frontW_le _ _ _ _ _ rfl hf
        show (List.toArray v).size ≤ _
        rw [List.size_toArray]
        have h9 : ([] : List UInt8).length = 0 := rfl
        omega
      · cases hf
  · rw [wordS_tok h0] at h
    cases h
    rw [ByteArray.size_extract]
    omega
theorem words_size {s : ByteArray} : ∀ (z k : Nat), s.size - k = z → k ≤ s.size → (wordsW s k).1.length ≤ z ∧ ∀ w ∈ (wordsW s k).1, w.1.size ≤ s.size := by
  intro z
  induction z using Nat.strongRecOn with
  | _ z ih =>
    intro k hz hk
    by_cases hlt : k < s.size
    · cases hs : wordS s k with
      | none => rw [wordsW_none hlt hs]; exact ⟨Nat.zero_le _, fun w hw => by cases hw⟩
      | some x =>
        obtain ⟨t, e⟩ := x
        have l1 := wordS_le hk hs
        have h1 := wordS_size hk hs
        cases hg : gapS s e with
        | none =>
          rw [wordsW_gap hlt hs hg]
          refine ⟨by show 1 ≤ z; omega, fun w hw => ?_⟩
          simp at hw
          subst hw
          exact h1
        | some j =>
          have l2 := gapS_le l1.2 hg
          rw [wordsW_some hlt hs hg]
          obtain ⟨i1, i2⟩ := ih (s.size - j) (by omega) j rfl l2.2
          refine ⟨by rw [List.length_cons]; omega, fun w hw => ?_⟩
          rcases List.mem_cons.1 hw with hw | hw
          · subst hw; exact h1
          · exact i2 w hw
    · rw [wordsW_end (by omega)]
      exact ⟨Nat.zero_le _, fun w hw => by cases hw⟩
theorem wordsR_size (s : ByteArray) : (wordsR s).1.length ≤ s.size ∧ ∀ w ∈ (wordsR s).1, w.1.size ≤ s.size := by
  have := tw_le blkI s 0 (Nat.zero_le _)
  obtain ⟨h1, h2⟩ := words_size (s := s) _ (tw blkI s 0) rfl (by omega)
  exact ⟨by unfold wordsR; omega, h2⟩
def readL (l : List Wd) (ok : Bool) : Rl × Int := if ok = true then outR (ruleL l) else (zeroR, 2)
theorem readL_none {l : List Wd} {ok : Bool} (h : ruleL l = none) : readL l ok = (zeroR, 2) := by
  unfold readL
  split
  · rw [h]; rfl
  · rfl
def gd0 : Gd := (0, ⟨#[]⟩, ⟨#[]⟩)
theorem ruleL_bad {a : ByteArray} {l : List Wd} (h1 : a ≠ kReq) (h2 : a ≠ kRes) : ruleL ((a, false) :: l) = none := by
  unfold ruleL sideL
  simp [nameL, h1, h2]
theorem side_is {a : ByteArray} {sd : Int} (h : a = kReq ∧ sd = 1 ∨ a = kRes ∧ sd = 2) (l : List Wd) : sideL ((a, false) :: l) = some (sd, l) := by
  have n1 : kRes ≠ kReq := by decide +kernel
  rcases h with ⟨rfl, rfl⟩ | ⟨rfl, rfl⟩
  · simp [sideL, nameL]
  · simp [sideL, nameL, n1]
theorem readL_act {a w : ByteArray} {sd : Int} {r : List Wd} {ok : Bool} (h : a = kReq ∧ sd = 1 ∨ a = kRes ∧ sd = 2) (hw : w ≠ kIf) : readL ((a, false) :: (w, false) :: r) ok = actR sd gd0 ((w, false) :: r) ok := by
  unfold readL actR ruleL
  rw [side_is h]
  simp only [nameL]
  rw [if_neg hw]
  rfl
theorem tl2_nameL {sd : Int} {g : Gd} {l : List Wd} : (match nameL l with | none => none | some (w, k) => tailL sd g w k) = tl2 sd g l := by
  match l with
  | [] => rfl
  | (w, true) :: r => rfl
  | (w, false) :: r => rfl
theorem readL_if {a : ByteArray} {sd : Int} {r : List Wd} {ok : Bool} (h : a = kReq ∧ sd = 1 ∨ a = kRes ∧ sd = 2) : readL ((a, false) :: (kIf, false) :: r) ok = match guardL r with
    | none => (zeroR, 2)
    | some (g, k) => actR sd g k ok := by
  have e : ruleL ((a, false) :: (kIf, false) :: r) = match guardL r with
      | none => none
      | some (g, k) => tl2 sd g k := by
    unfold ruleL
    rw [side_is h]
    simp only [nameL, if_true]
    cases guardL r with
    | none => rfl
    | some x => exact tl2_nameL
  unfold readL actR
  rw [e]
  cases guardL r with
  | none => split <;> rfl
  | some x => rfl
theorem guardL_has {n : ByteArray} {r : List Wd} : guardL ((kHas, false) :: (n, false) :: r) = some ((1, n, ⟨#[]⟩), r) := by simp [guardL, nameL]
theorem guardL_lacks {n : ByteArray} {r : List Wd} : guardL ((kLacks, false) :: (n, false) :: r) = some ((2, n, ⟨#[]⟩), r) := by
  have n1 : kLacks ≠ kHas := by decide +kernel
  simp [guardL, nameL, n1]
theorem guardL_is {n v : ByteArray} {q : Bool} {r : List Wd} : guardL ((kIs, false) :: (n, false) :: (v, q) :: r) = if q = true then some ((3, n, v), r) else none := by
  have n2 : kIs ≠ kHas := by decide +kernel
  have n3 : kIs ≠ kLacks := by decide +kernel
  cases q <;> simp [guardL, nameL, valueL, n2, n3]
theorem guardL_other {w n : ByteArray} {r : List Wd} (h1 : w ≠ kHas) (h2 : w ≠ kLacks) (h3 : w ≠ kIs) : guardL ((w, false) :: (n, false) :: r) = none := by simp [guardL, nameL, h1, h2, h3]
theorem drop_wdL (l : List Wd) (n : Nat) : ((wdL l).drop n).take ((wdL l).length - n) = wdL (l.drop n) := by
  rw [List.take_of_length_le (by simp)]
  unfold wdL
  rw [List.map_drop]
theorem side_rest {x : Wd} {r i : List Wd} {sd : Int} (h : sideL (x :: r) = some (sd, i)) : i = r := by
  obtain ⟨a, q⟩ := x
  cases q with
  | true => cases h
  | false =>
    unfold sideL at h
    simp only [nameL] at h
    split at h
    · cases h; rfl
    · split at h
      · cases h; rfl
      · cases h
theorem ruleL_short {l : List Wd} (h : l.length < 3) : ruleL l = none := by
  match l, h with
  | [], _ => rfl
  | x :: r, h =>
    unfold ruleL
    cases hs : sideL (x :: r) with
    | none => rfl
    | some y =>
      obtain ⟨sd, i⟩ := y
      obtain rfl := side_rest hs
      match i, h with
      | [], _ => rfl
      | [(w, true)], _ => rfl
      | [(w, false)], _ =>
        simp only [nameL]
        split <;> rfl
theorem guard_short {c : Wd} {r : List Wd} {sd : Int} {ok : Bool} (h : r.length < 2) : (match guardL (c :: r) with | none => (zeroR, 2) | some (g, k) => actR sd g k ok) = (zeroR, 2) := by
  have key : ∀ g k, guardL (c :: r) = some (g, k) → k = [] := by
    intro g k hg
    obtain ⟨w, q⟩ := c
    cases q with
    | true => cases hg
    | false =>
      match r, h with
      | [], _ => cases hg
      | [(n, true)], _ => cases hg
      | [(n, false)], _ =>
        unfold guardL at hg
        simp only [nameL, valueL] at hg
        split at hg
        · cases hg; rfl
        · split at hg
          · cases hg; rfl
          · split at hg
            · cases hg
            · cases hg
  cases hg : guardL (c :: r) with
  | none => rfl
  | some x =>
    obtain ⟨g, k⟩ := x
    obtain rfl := key g k hg
    show actR sd g [] ok = _
    unfold actR
    split <;> rfl
set_option maxHeartbeats 1000000 in
theorem parse33_p (s : ByteArray) (hs : s.size ≤ 100000) : APure Tryz.prog 20 [.s s] (.tup [(readRl s).1.av, .i (readRl s).2]) [] := by
  have hW := words33_p s (by omega)
  obtain ⟨z1, z2⟩ := wordsR_size s
  rw [readRl_L]
  show APure _ _ _ (.tup [(readL (wordsR s).1 (wordsR s).2).1.av, .i (readL (wordsR s).1 (wordsR s).2).2]) []
  generalize (wordsR s).1 = l at *
  generalize (wordsR s).2 = ok at *
  have hwl := wdL_len l
  refine APure.ofG rfl ?_
  refine ACalls.of_vc T_ok mixed Tryz.func20 rfl Tryz.call20 ?_
  refine .p rfl hW ?_
  refine ⟨_, rfl, ?_⟩
  match l, z1, z2, hwl with
  | [], _, _, _ =>
    rw [readL_none rfl]
    refine ⟨_, rfl, ?_⟩
    refine ⟨_, rfl, ?_⟩
    refine retV rfl ?_
    exact ⟨.inl (.inr ⟨_, _, rfl, rfl, .inl ⟨rfl, rfl⟩, .inl ⟨rfl, rfl⟩, .inl ⟨rfl, rfl⟩, .inl ⟨rfl, rfl⟩, .inl ⟨rfl, rfl⟩, .inl ⟨rfl, rfl⟩, .inl ⟨rfl, rfl⟩, .inr ⟨rfl, 2, rfl⟩, trivial⟩), .inl (.inl ⟨rfl, rfl⟩), trivial⟩
  | [x], _, _, _ =>
    rw [readL_none (ruleL_short (by show 1 < 3; omega))]
    refine ⟨_, rfl, ?_⟩
    refine ⟨_, rfl, ?_⟩
    refine retV rfl ?_
    exact ⟨.inl (.inr ⟨_, _, rfl, rfl, .inl ⟨rfl, rfl⟩, .inl ⟨rfl, rfl⟩, .inl ⟨rfl, rfl⟩, .inl ⟨rfl, rfl⟩, .inl ⟨rfl, rfl⟩, .inl ⟨rfl, rfl⟩, .inl ⟨rfl, rfl⟩, .inr ⟨rfl, 2, rfl⟩, trivial⟩), .inl (.inl ⟨rfl, rfl⟩), trivial⟩
  | [x, y], _, _, _ =>
    rw [readL_none (ruleL_short (by show 2 < 3; omega))]
    refine ⟨_, rfl, ?_⟩
    refine ⟨_, rfl, ?_⟩
    refine retV rfl ?_
    exact ⟨.inl (.inr ⟨_, _, rfl, rfl, .inl ⟨rfl, rfl⟩, .inl ⟨rfl, rfl⟩, .inl ⟨rfl, rfl⟩, .inl ⟨rfl, rfl⟩, .inl ⟨rfl, rfl⟩, .inl ⟨rfl, rfl⟩, .inl ⟨rfl, rfl⟩, .inr ⟨rfl, 2, rfl⟩, trivial⟩), .inl (.inl ⟨rfl, rfl⟩), trivial⟩
  | (a, q1) :: (w, q2) :: (c, q3) :: r, z1, z2, hwl =>
    refine ⟨0, _, rfl, rfl, ?_⟩
    cases q1 with
    | true =>
      rw [readL_none rfl]
      refine ⟨_, rfl, ?_⟩
      refine ⟨_, rfl, ?_⟩
      refine retV rfl ?_
      exact ⟨.inl (.inr ⟨_, _, rfl, rfl, .inl ⟨rfl, rfl⟩, .inl ⟨rfl, rfl⟩, .inl ⟨rfl, rfl⟩, .inl ⟨rfl, rfl⟩, .inl ⟨rfl, rfl⟩, .inl ⟨rfl, rfl⟩, .inl ⟨rfl, rfl⟩, .inr ⟨rfl, 2, rfl⟩, trivial⟩), .inl (.inl ⟨rfl, rfl⟩), trivial⟩
    | false =>
    refine ⟨1, _, rfl, rfl, ?_⟩
    cases q2 with
    | true =>
      have e9 : ruleL ((a, false) :: (w, true) :: (c, q3) :: r) = none := by
        unfold ruleL
        cases hs9 : sideL ((a, false) :: (w, true) :: (c, q3) :: r) with
        | none => rfl
        | some y =>
          obtain ⟨sd, i⟩ := y
          obtain rfl := side_rest hs9
          rfl
      rw [readL_none e9]
      refine ⟨_, rfl, ?_⟩
      refine ⟨_, rfl, ?_⟩
      refine retV rfl ?_
      exact ⟨.inl (.inr ⟨_, _, rfl, rfl, .inl ⟨rfl, rfl⟩, .inl ⟨rfl, rfl⟩, .inl ⟨rfl, rfl⟩, .inl ⟨rfl, rfl⟩, .inl ⟨rfl, rfl⟩, .inl ⟨rfl, rfl⟩, .inl ⟨rfl, rfl⟩, .inr ⟨rfl, 2, rfl⟩, trivial⟩), .inl (.inl ⟨rfl, rfl⟩), trivial⟩
    | false =>
    refine ⟨0, _, rfl, rfl, ?_⟩
    intro t1 ht1
    cases t1 with
    | true =>
      obtain rfl : a = kReq := ht1.1 rfl
      refine ⟨_, rfl, ?_⟩
      refine ⟨1, rfl, by simp only [List.length_cons] at hwl; omega, Nat.le_refl _, ?_⟩
      refine ⟨1, _, rfl, rfl, ?_⟩
      intro t3 ht3
      cases t3 with
      | false =>
        have n3 : w ≠ kIf := fun e => by cases ht3.2 e
        rw [readL_act (.inl ⟨rfl, rfl⟩) n3]
        refine ⟨_, rfl, ?_⟩
        refine .w (args' := [(base0 1 gd0).av, .sl .no 2 (wdL ((w, false) :: (c, q3) :: r)), .b ok]) rfl ⟨.inl (.inr ⟨_, _, rfl, rfl, ⟨.inl ⟨rfl, rfl⟩, .inl ⟨rfl, rfl⟩, .inl ⟨rfl, rfl⟩, .inl ⟨rfl, rfl⟩, .inl ⟨rfl, rfl⟩, .inl ⟨rfl, rfl⟩, .inl ⟨rfl, rfl⟩, .inr ⟨rfl, 2, rfl⟩, trivial⟩⟩), .inl (.inl ⟨congrArg (AV.sl .no 2) (drop_wdL ((kReq, false) :: (w, false) :: (c, q3) :: r) 1).symm, rfl⟩), .inl (.inl ⟨rfl, rfl⟩), trivial⟩ (act33_p 1 gd0 ((w, false) :: (c, q3) :: r) ok (by simp only [List.length_cons] at z1 ⊢; omega) (fun w9 hw9 => Nat.le_trans (z2 w9 (List.mem_of_mem_drop (i := 1) hw9)) hs) (by exact Nat.zero_le _) (by exact Nat.zero_le _)) ?_
        refine ⟨_, rfl, ?_⟩
        refine ⟨_, rfl, ?_⟩
        refine retV rfl ?_
        exact ⟨.inl (.inl ⟨rfl, rfl⟩), .inl (.inl ⟨rfl, rfl⟩), trivial⟩
      | true =>
      obtain rfl : w = kIf := ht3.1 rfl
      rw [readL_if (.inl ⟨rfl, rfl⟩)]
      match r, z1, z2, hwl with
      | [], _, _, _ =>
        rw [guard_short (by show 0 < 2; omega)]
        refine ⟨_, rfl, ?_⟩
        refine ⟨_, rfl, ?_⟩
        refine retV rfl ?_
        exact ⟨.inl (.inr ⟨_, _, rfl, rfl, .inl ⟨rfl, rfl⟩, .inl ⟨rfl, rfl⟩, .inl ⟨rfl, rfl⟩, .inl ⟨rfl, rfl⟩, .inl ⟨rfl, rfl⟩, .inl ⟨rfl, rfl⟩, .inl ⟨rfl, rfl⟩, .inr ⟨rfl, 2, rfl⟩, trivial⟩), .inl (.inl ⟨rfl, rfl⟩), trivial⟩
      | [_], _, _, _ =>
        rw [guard_short (by show 1 < 2; omega)]
        refine ⟨_, rfl, ?_⟩
        refine ⟨_, rfl, ?_⟩
        refine retV rfl ?_
        exact ⟨.inl (.inr ⟨_, _, rfl, rfl, .inl ⟨rfl, rfl⟩, .inl ⟨rfl, rfl⟩, .inl ⟨rfl, rfl⟩, .inl ⟨rfl, rfl⟩, .inl ⟨rfl, rfl⟩, .inl ⟨rfl, rfl⟩, .inl ⟨rfl, rfl⟩, .inr ⟨rfl, 2, rfl⟩, trivial⟩), .inl (.inl ⟨rfl, rfl⟩), trivial⟩
      | (n, qn) :: (v, qv) :: r, z1, z2, hwl =>
      have hn : n.size ≤ s.size := z2 (n, qn) (by simp)
      have hv : v.size ≤ s.size := z2 (v, qv) (by simp)
      refine ⟨2, _, rfl, rfl, ?_⟩
      cases q3 with
      | true =>
        have e9 : guardL ((c, true) :: (n, qn) :: (v, qv) :: r) = none := rfl
        simp only [e9]
        refine ⟨_, rfl, ?_⟩
        refine ⟨_, rfl, ?_⟩
        refine retV rfl ?_
        exact ⟨.inl (.inr ⟨_, _, rfl, rfl, .inl ⟨rfl, rfl⟩, .inl ⟨rfl, rfl⟩, .inl ⟨rfl, rfl⟩, .inl ⟨rfl, rfl⟩, .inl ⟨rfl, rfl⟩, .inl ⟨rfl, rfl⟩, .inl ⟨rfl, rfl⟩, .inr ⟨rfl, 2, rfl⟩, trivial⟩), .inl (.inl ⟨rfl, rfl⟩), trivial⟩
      | false =>
      refine ⟨3, _, rfl, rfl, ?_⟩
      cases qn with
      | true =>
        have e9 : guardL ((c, false) :: (n, true) :: (v, qv) :: r) = none := rfl
        simp only [e9]
        refine ⟨_, rfl, ?_⟩
        refine ⟨_, rfl, ?_⟩
        refine retV rfl ?_
        exact ⟨.inl (.inr ⟨_, _, rfl, rfl, .inl ⟨rfl, rfl⟩, .inl ⟨rfl, rfl⟩, .inl ⟨rfl, rfl⟩, .inl ⟨rfl, rfl⟩, .inl ⟨rfl, rfl⟩, .inl ⟨rfl, rfl⟩, .inl ⟨rfl, rfl⟩, .inr ⟨rfl, 2, rfl⟩, trivial⟩), .inl (.inl ⟨rfl, rfl⟩), trivial⟩
      | false =>
      refine ⟨3, _, rfl, rfl, ?_⟩
      refine ⟨_, rfl, ?_⟩
      refine ⟨4, rfl, by simp only [List.length_cons] at hwl; omega, Nat.le_refl _, ?_⟩
      refine ⟨2, _, rfl, rfl, ?_⟩
      intro t4 ht4
      cases t4 with
      | true =>
        obtain rfl : c = kHas := ht4.1 rfl
        rw [guardL_has]
        refine ⟨_, rfl, ?_⟩
        refine ⟨_, rfl, ?_⟩
        refine .w (args' := [(base0 1 (1, n, ⟨#[]⟩)).av, .sl .no 2 (wdL ((v, qv) :: r)), .b ok]) rfl ⟨.inl (.inr ⟨_, _, rfl, rfl, ⟨.inl ⟨rfl, rfl⟩, .inl ⟨rfl, rfl⟩, .inl ⟨rfl, rfl⟩, .inl ⟨rfl, rfl⟩, .inl ⟨rfl, rfl⟩, .inl ⟨rfl, rfl⟩, .inl ⟨rfl, rfl⟩, .inr ⟨rfl, 2, rfl⟩, trivial⟩⟩), .inl (.inl ⟨congrArg (AV.sl .no 2) (drop_wdL ((kReq, false) :: (kIf, false) :: (kHas, false) :: (n, false) :: (v, qv) :: r) 4).symm, rfl⟩), .inl (.inl ⟨rfl, rfl⟩), trivial⟩ (act33_p 1 (1, n, ⟨#[]⟩) ((v, qv) :: r) ok (by simp only [List.length_cons] at z1 ⊢; omega) (fun w9 hw9 => Nat.le_trans (z2 w9 (List.mem_of_mem_drop (i := 4) hw9)) hs) (by exact Nat.le_trans hn hs) (by exact Nat.zero_le _)) ?_
        refine ⟨_, rfl, ?_⟩
        refine ⟨_, rfl, ?_⟩
        refine retV rfl ?_
        exact ⟨.inl (.inl ⟨rfl, rfl⟩), .inl (.inl ⟨rfl, rfl⟩), trivial⟩
      | false =>
      have n4 : c ≠ kHas := fun e => by cases ht4.2 e
      intro t5 ht5
      cases t5 with
      | true =>
        obtain rfl : c = kLacks := ht5.1 rfl
        rw [guardL_lacks]
        refine ⟨_, rfl, ?_⟩
        refine ⟨_, rfl, ?_⟩
        refine .w (args' := [(base0 1 (2, n, ⟨#[]⟩)).av, .sl .no 2 (wdL ((v, qv) :: r)), .b ok]) rfl ⟨.inl (.inr ⟨_, _, rfl, rfl, ⟨.inl ⟨rfl, rfl⟩, .inl ⟨rfl, rfl⟩, .inl ⟨rfl, rfl⟩, .inl ⟨rfl, rfl⟩, .inl ⟨rfl, rfl⟩, .inl ⟨rfl, rfl⟩, .inl ⟨rfl, rfl⟩, .inr ⟨rfl, 2, rfl⟩, trivial⟩⟩), .inl (.inl ⟨congrArg (AV.sl .no 2) (drop_wdL ((kReq, false) :: (kIf, false) :: (kLacks, false) :: (n, false) :: (v, qv) :: r) 4).symm, rfl⟩), .inl (.inl ⟨rfl, rfl⟩), trivial⟩ (act33_p 1 (2, n, ⟨#[]⟩) ((v, qv) :: r) ok (by simp only [List.length_cons] at z1 ⊢; omega) (fun w9 hw9 => Nat.le_trans (z2 w9 (List.mem_of_mem_drop (i := 4) hw9)) hs) (by exact Nat.le_trans hn hs) (by exact Nat.zero_le _)) ?_
        refine ⟨_, rfl, ?_⟩
        refine ⟨_, rfl, ?_⟩
        refine retV rfl ?_
        exact ⟨.inl (.inl ⟨rfl, rfl⟩), .inl (.inl ⟨rfl, rfl⟩), trivial⟩
      | false =>
      have n5 : c ≠ kLacks := fun e => by cases ht5.2 e
      intro t6 ht6
      cases t6 with
      | true =>
        obtain rfl : c = kIs := ht6.1 rfl
        rw [guardL_is]
        refine ⟨4, _, rfl, rfl, ?_⟩
        cases qv with
        | false =>
          refine ⟨_, rfl, ?_⟩
          refine ⟨_, rfl, ?_⟩
          refine retV rfl ?_
          exact ⟨.inl (.inr ⟨_, _, rfl, rfl, .inl ⟨rfl, rfl⟩, .inl ⟨rfl, rfl⟩, .inl ⟨rfl, rfl⟩, .inl ⟨rfl, rfl⟩, .inl ⟨rfl, rfl⟩, .inl ⟨rfl, rfl⟩, .inl ⟨rfl, rfl⟩, .inr ⟨rfl, 2, rfl⟩, trivial⟩), .inl (.inl ⟨rfl, rfl⟩), trivial⟩
        | true =>
        refine ⟨_, rfl, ?_⟩
        refine ⟨4, _, rfl, rfl, ?_⟩
        refine ⟨_, rfl, ?_⟩
        refine ⟨5, rfl, by simp only [List.length_cons] at hwl; omega, Nat.le_refl _, ?_⟩
        refine ⟨_, rfl, ?_⟩
        refine .w (args' := [(base0 1 (3, n, v)).av, .sl .no 2 (wdL r), .b ok]) rfl ⟨.inl (.inr ⟨_, _, rfl, rfl, ⟨.inl ⟨rfl, rfl⟩, .inl ⟨rfl, rfl⟩, .inl ⟨rfl, rfl⟩, .inl ⟨rfl, rfl⟩, .inl ⟨rfl, rfl⟩, .inl ⟨rfl, rfl⟩, .inl ⟨rfl, rfl⟩, .inr ⟨rfl, 2, rfl⟩, trivial⟩⟩), .inl (.inl ⟨congrArg (AV.sl .no 2) (drop_wdL ((kReq, false) :: (kIf, false) :: (kIs, false) :: (n, false) :: (v, true) :: r) 5).symm, rfl⟩), .inl (.inl ⟨rfl, rfl⟩), trivial⟩ (act33_p 1 (3, n, v) r ok (by simp only [List.length_cons] at z1 ⊢; omega) (fun w9 hw9 => Nat.le_trans (z2 w9 (List.mem_of_mem_drop (i := 5) hw9)) hs) (by exact Nat.le_trans hn hs) (by exact Nat.le_trans hv hs)) ?_
        refine ⟨_, rfl, ?_⟩
        refine ⟨_, rfl, ?_⟩
        refine retV rfl ?_
        exact ⟨.inl (.inl ⟨rfl, rfl⟩), .inl (.inl ⟨rfl, rfl⟩), trivial⟩
      | false =>
      have n6 : c ≠ kIs := fun e => by cases ht6.2 e
      rw [guardL_other n4 n5 n6]
      refine ⟨_, rfl, ?_⟩
      refine ⟨_, rfl, ?_⟩
      refine retV rfl ?_
      exact ⟨.inl (.inr ⟨_, _, rfl, rfl, .inl ⟨rfl, rfl⟩, .inl ⟨rfl, rfl⟩, .inl ⟨rfl, rfl⟩, .inl ⟨rfl, rfl⟩, .inl ⟨rfl, rfl⟩, .inl ⟨rfl, rfl⟩, .inl ⟨rfl, rfl⟩, .inr ⟨rfl, 2, rfl⟩, trivial⟩), .inl (.inl ⟨rfl, rfl⟩), trivial⟩
    | false =>
    have n1 : a ≠ kReq := fun e => by cases ht1.2 e
    intro t2 ht2
    cases t2 with
    | true =>
      obtain rfl : a = kRes := ht2.1 rfl
      refine ⟨_, rfl, ?_⟩
      refine ⟨1, rfl, by simp only [List.length_cons] at hwl; omega, Nat.le_refl _, ?_⟩
      refine ⟨1, _, rfl, rfl, ?_⟩
      intro t3 ht3
      cases t3 with
      | false =>
        have n3 : w ≠ kIf := fun e => by cases ht3.2 e
        rw [readL_act (.inr ⟨rfl, rfl⟩) n3]
        refine ⟨_, rfl, ?_⟩
        refine .w (args' := [(base0 2 gd0).av, .sl .no 2 (wdL ((w, false) :: (c, q3) :: r)), .b ok]) rfl ⟨.inl (.inr ⟨_, _, rfl, rfl, ⟨.inl ⟨rfl, rfl⟩, .inl ⟨rfl, rfl⟩, .inl ⟨rfl, rfl⟩, .inl ⟨rfl, rfl⟩, .inl ⟨rfl, rfl⟩, .inl ⟨rfl, rfl⟩, .inl ⟨rfl, rfl⟩, .inr ⟨rfl, 2, rfl⟩, trivial⟩⟩), .inl (.inl ⟨congrArg (AV.sl .no 2) (drop_wdL ((kRes, false) :: (w, false) :: (c, q3) :: r) 1).symm, rfl⟩), .inl (.inl ⟨rfl, rfl⟩), trivial⟩ (act33_p 2 gd0 ((w, false) :: (c, q3) :: r) ok (by simp only [List.length_cons] at z1 ⊢; omega) (fun w9 hw9 => Nat.le_trans (z2 w9 (List.mem_of_mem_drop (i := 1) hw9)) hs) (by exact Nat.zero_le _) (by exact Nat.zero_le _)) ?_
        refine ⟨_, rfl, ?_⟩
        refine ⟨_, rfl, ?_⟩
        refine retV rfl ?_
        exact ⟨.inl (.inl ⟨rfl, rfl⟩), .inl (.inl ⟨rfl, rfl⟩), trivial⟩
      | true =>
      obtain rfl : w = kIf := ht3.1 rfl
      rw [readL_if (.inr ⟨rfl, rfl⟩)]
      match r, z1, z2, hwl with
      | [], _, _, _ =>
        rw [guard_short (by show 0 < 2; omega)]
        refine ⟨_, rfl, ?_⟩
        refine ⟨_, rfl, ?_⟩
        refine retV rfl ?_
        exact ⟨.inl (.inr ⟨_, _, rfl, rfl, .inl ⟨rfl, rfl⟩, .inl ⟨rfl, rfl⟩, .inl ⟨rfl, rfl⟩, .inl ⟨rfl, rfl⟩, .inl ⟨rfl, rfl⟩, .inl ⟨rfl, rfl⟩, .inl ⟨rfl, rfl⟩, .inr ⟨rfl, 2, rfl⟩, trivial⟩), .inl (.inl ⟨rfl, rfl⟩), trivial⟩
      | [_], _, _, _ =>
        rw [guard_short (by show 1 < 2; omega)]
        refine ⟨_, rfl, ?_⟩
        refine ⟨_, rfl, ?_⟩
        refine retV rfl ?_
        exact ⟨.inl (.inr ⟨_, _, rfl, rfl, .inl ⟨rfl, rfl⟩, .inl ⟨rfl, rfl⟩, .inl ⟨rfl, rfl⟩, .inl ⟨rfl, rfl⟩, .inl ⟨rfl, rfl⟩, .inl ⟨rfl, rfl⟩, .inl ⟨rfl, rfl⟩, .inr ⟨rfl, 2, rfl⟩, trivial⟩), .inl (.inl ⟨rfl, rfl⟩), trivial⟩
      | (n, qn) :: (v, qv) :: r, z1, z2, hwl =>
      have hn : n.size ≤ s.size := z2 (n, qn) (by simp)
      have hv : v.size ≤ s.size := z2 (v, qv) (by simp)
      refine ⟨2, _, rfl, rfl, ?_⟩
      cases q3 with
      | true =>
        have e9 : guardL ((c, true) :: (n, qn) :: (v, qv) :: r) = none := rfl
        simp only [e9]
        refine ⟨_, rfl, ?_⟩
        refine ⟨_, rfl, ?_⟩
        refine retV rfl ?_
        exact ⟨.inl (.inr ⟨_, _, rfl, rfl, .inl ⟨rfl, rfl⟩, .inl ⟨rfl, rfl⟩, .inl ⟨rfl, rfl⟩, .inl ⟨rfl, rfl⟩, .inl ⟨rfl, rfl⟩, .inl ⟨rfl, rfl⟩, .inl ⟨rfl, rfl⟩, .inr ⟨rfl, 2, rfl⟩, trivial⟩), .inl (.inl ⟨rfl, rfl⟩), trivial⟩
      | false =>
      refine ⟨3, _, rfl, rfl, ?_⟩
      cases qn with
      | true =>
        have e9 : guardL ((c, false) :: (n, true) :: (v, qv) :: r) = none := rfl
        simp only [e9]
        refine ⟨_, rfl, ?_⟩
        refine ⟨_, rfl, ?_⟩
        refine retV rfl ?_
        exact ⟨.inl (.inr ⟨_, _, rfl, rfl, .inl ⟨rfl, rfl⟩, .inl ⟨rfl, rfl⟩, .inl ⟨rfl, rfl⟩, .inl ⟨rfl, rfl⟩, .inl ⟨rfl, rfl⟩, .inl ⟨rfl, rfl⟩, .inl ⟨rfl, rfl⟩, .inr ⟨rfl, 2, rfl⟩, trivial⟩), .inl (.inl ⟨rfl, rfl⟩), trivial⟩
      | false =>
      refine ⟨3, _, rfl, rfl, ?_⟩
      refine ⟨_, rfl, ?_⟩
      refine ⟨4, rfl, by simp only [List.length_cons] at hwl; omega, Nat.le_refl _, ?_⟩
      refine ⟨2, _, rfl, rfl, ?_⟩
      intro t4 ht4
      cases t4 with
      | true =>
        obtain rfl : c = kHas := ht4.1 rfl
        rw [guardL_has]
        refine ⟨_, rfl, ?_⟩
        refine ⟨_, rfl, ?_⟩
        refine .w (args' := [(base0 2 (1, n, ⟨#[]⟩)).av, .sl .no 2 (wdL ((v, qv) :: r)), .b ok]) rfl ⟨.inl (.inr ⟨_, _, rfl, rfl, ⟨.inl ⟨rfl, rfl⟩, .inl ⟨rfl, rfl⟩, .inl ⟨rfl, rfl⟩, .inl ⟨rfl, rfl⟩, .inl ⟨rfl, rfl⟩, .inl ⟨rfl, rfl⟩, .inl ⟨rfl, rfl⟩, .inr ⟨rfl, 2, rfl⟩, trivial⟩⟩), .inl (.inl ⟨congrArg (AV.sl .no 2) (drop_wdL ((kRes, false) :: (kIf, false) :: (kHas, false) :: (n, false) :: (v, qv) :: r) 4).symm, rfl⟩), .inl (.inl ⟨rfl, rfl⟩), trivial⟩ (act33_p 2 (1, n, ⟨#[]⟩) ((v, qv) :: r) ok (by simp only [List.length_cons] at z1 ⊢; omega) (fun w9 hw9 => Nat.le_trans (z2 w9 (List.mem_of_mem_drop (i := 4) hw9)) hs) (by exact Nat.le_trans hn hs) (by exact Nat.zero_le _)) ?_
        refine ⟨_, rfl, ?_⟩
        refine ⟨_, rfl, ?_⟩
        refine retV rfl ?_
        exact ⟨.inl (.inl ⟨rfl, rfl⟩), .inl (.inl ⟨rfl, rfl⟩), trivial⟩
      | false =>
      have n4 : c ≠ kHas := fun e => by cases ht4.2 e
      intro t5 ht5
      cases t5 with
      | true =>
        obtain rfl : c = kLacks := ht5.1 rfl
        rw [guardL_lacks]
        refine ⟨_, rfl, ?_⟩
        refine ⟨_, rfl, ?_⟩
        refine .w (args' := [(base0 2 (2, n, ⟨#[]⟩)).av, .sl .no 2 (wdL ((v, qv) :: r)), .b ok]) rfl ⟨.inl (.inr ⟨_, _, rfl, rfl, ⟨.inl ⟨rfl, rfl⟩, .inl ⟨rfl, rfl⟩, .inl ⟨rfl, rfl⟩, .inl ⟨rfl, rfl⟩, .inl ⟨rfl, rfl⟩, .inl ⟨rfl, rfl⟩, .inl ⟨rfl, rfl⟩, .inr ⟨rfl, 2, rfl⟩, trivial⟩⟩), .inl (.inl ⟨congrArg (AV.sl .no 2) (drop_wdL ((kRes, false) :: (kIf, false) :: (kLacks, false) :: (n, false) :: (v, qv) :: r) 4).symm, rfl⟩), .inl (.inl ⟨rfl, rfl⟩), trivial⟩ (act33_p 2 (2, n, ⟨#[]⟩) ((v, qv) :: r) ok (by simp only [List.length_cons] at z1 ⊢; omega) (fun w9 hw9 => Nat.le_trans (z2 w9 (List.mem_of_mem_drop (i := 4) hw9)) hs) (by exact Nat.le_trans hn hs) (by exact Nat.zero_le _)) ?_
        refine ⟨_, rfl, ?_⟩
        refine ⟨_, rfl, ?_⟩
        refine retV rfl ?_
        exact ⟨.inl (.inl ⟨rfl, rfl⟩), .inl (.inl ⟨rfl, rfl⟩), trivial⟩
      | false =>
      have n5 : c ≠ kLacks := fun e => by cases ht5.2 e
      intro t6 ht6
      cases t6 with
      | true =>
        obtain rfl : c = kIs := ht6.1 rfl
        rw [guardL_is]
        refine ⟨4, _, rfl, rfl, ?_⟩
        cases qv with
        | false =>
          refine ⟨_, rfl, ?_⟩
          refine ⟨_, rfl, ?_⟩
          refine retV rfl ?_
          exact ⟨.inl (.inr ⟨_, _, rfl, rfl, .inl ⟨rfl, rfl⟩, .inl ⟨rfl, rfl⟩, .inl ⟨rfl, rfl⟩, .inl ⟨rfl, rfl⟩, .inl ⟨rfl, rfl⟩, .inl ⟨rfl, rfl⟩, .inl ⟨rfl, rfl⟩, .inr ⟨rfl, 2, rfl⟩, trivial⟩), .inl (.inl ⟨rfl, rfl⟩), trivial⟩
        | true =>
        refine ⟨_, rfl, ?_⟩
        refine ⟨4, _, rfl, rfl, ?_⟩
        refine ⟨_, rfl, ?_⟩
        refine ⟨5, rfl, by simp only [List.length_cons] at hwl; omega, Nat.le_refl _, ?_⟩
        refine ⟨_, rfl, ?_⟩
        refine .w (args' := [(base0 2 (3, n, v)).av, .sl .no 2 (wdL r), .b ok]) rfl ⟨.inl (.inr ⟨_, _, rfl, rfl, ⟨.inl ⟨rfl, rfl⟩, .inl ⟨rfl, rfl⟩, .inl ⟨rfl, rfl⟩, .inl ⟨rfl, rfl⟩, .inl ⟨rfl, rfl⟩, .inl ⟨rfl, rfl⟩, .inl ⟨rfl, rfl⟩, .inr ⟨rfl, 2, rfl⟩, trivial⟩⟩), .inl (.inl ⟨congrArg (AV.sl .no 2) (drop_wdL ((kRes, false) :: (kIf, false) :: (kIs, false) :: (n, false) :: (v, true) :: r) 5).symm, rfl⟩), .inl (.inl ⟨rfl, rfl⟩), trivial⟩ (act33_p 2 (3, n, v) r ok (by simp only [List.length_cons] at z1 ⊢; omega) (fun w9 hw9 => Nat.le_trans (z2 w9 (List.mem_of_mem_drop (i := 5) hw9)) hs) (by exact Nat.le_trans hn hs) (by exact Nat.le_trans hv hs)) ?_
        refine ⟨_, rfl, ?_⟩
        refine ⟨_, rfl, ?_⟩
        refine retV rfl ?_
        exact ⟨.inl (.inl ⟨rfl, rfl⟩), .inl (.inl ⟨rfl, rfl⟩), trivial⟩
      | false =>
      have n6 : c ≠ kIs := fun e => by cases ht6.2 e
      rw [guardL_other n4 n5 n6]
      refine ⟨_, rfl, ?_⟩
      refine ⟨_, rfl, ?_⟩
      refine retV rfl ?_
      exact ⟨.inl (.inr ⟨_, _, rfl, rfl, .inl ⟨rfl, rfl⟩, .inl ⟨rfl, rfl⟩, .inl ⟨rfl, rfl⟩, .inl ⟨rfl, rfl⟩, .inl ⟨rfl, rfl⟩, .inl ⟨rfl, rfl⟩, .inl ⟨rfl, rfl⟩, .inr ⟨rfl, 2, rfl⟩, trivial⟩), .inl (.inl ⟨rfl, rfl⟩), trivial⟩
    | false =>
    have n2 : a ≠ kRes := fun e => by cases ht2.2 e
    rw [readL_none (ruleL_bad n1 n2)]
    refine ⟨_, rfl, ?_⟩
    refine ⟨_, rfl, ?_⟩
    refine retV rfl ?_
    exact ⟨.inl (.inr ⟨_, _, rfl, rfl, .inl ⟨rfl, rfl⟩, .inl ⟨rfl, rfl⟩, .inl ⟨rfl, rfl⟩, .inl ⟨rfl, rfl⟩, .inl ⟨rfl, rfl⟩, .inl ⟨rfl, rfl⟩, .inl ⟨rfl, rfl⟩, .inr ⟨rfl, 2, rfl⟩, trivial⟩), .inl (.inl ⟨rfl, rfl⟩), trivial⟩
end Go.Proofs.YtgaidgblihnldaaGreatDoor
