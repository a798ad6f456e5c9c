/- Lines of rules, as the document reads them. No statement of its own. -/
import Derived.Test.YtgaidgblihnldaaGreatDoorRpz
import Derived.Test.YtgaidgblihnldaaGreatDoorRwy
import Derived.Test.YtgaidgblihnldaaGreatDoorRuR
import Derived.Test.YtgaidgblihnldaaGreatDoorWo
import Derived.Test.YtgaidgblihnldaaGreatDoorTmC
import Derived.Test.YtgaidgblihnldaaGreatDoorRuF
set_option linter.unusedSimpArgs false
set_option linter.unusedVariables false
set_option maxRecDepth 100000
namespace Go.Proofs.YtgaidgblihnldaaGreatDoor
open Go.RowKit
def wdL (l : List Wd) : List (List AV) := l.map fun w => [AV.s w.1, AV.b w.2]
theorem wdL_len (l : List Wd) : (wdL l).length = l.length := by simp [wdL]
theorem wdL_app (l : List Wd) (w : Wd) : wdL l ++ [[.s w.1, .b w.2]] = wdL (l ++ [w]) := by simp [wdL]
theorem Acc.argW {n : Nat} {tk : List Nat} {sz : Nat} {a : AV} {es : List (List AV)} (h : Acc n tk sz a es) : argW a (.sl .no sz es) := by
  cases h with
  | nil => exact .inr ⟨rfl, sz, rfl⟩
  | own t e es h1 h2 => exact .inl (.inl ⟨rfl, rfl⟩)
attribute [local irreducible] vcApp
/-- what is known at the head of the words' loop -/
def WInv (s : ByteArray) (acc : List Wd) (i : Nat) : Prop :=
  (match gapS s i with
  | none => (acc, false)
  | some j => (acc ++ (wordsW s j).1, (wordsW s j).2)) = wordsR s
theorem WInv.start (s : ByteArray) : WInv s [] 0 := by
  unfold WInv
  have : gapS s 0 = some (tw blkI s 0) := by unfold gapS; rw [if_neg (fun hh => hh.2.1 rfl), Nat.zero_add]
  rw [this]
  rfl
theorem WInv.next {s : ByteArray} {acc : List Wd} {i j e : Nat} {t : ByteArray} (h : WInv s acc i) (hg : gapS s i = some j) (hj : j < s.size) (hw : wordS s j = some (t, e)) : WInv s (acc ++ [(t, atB s j 34)]) e := by
  unfold WInv at h ⊢
  rw [hg] at h
  simp only at h
  rw [← h]
  cases hg2 : gapS s e with
  | none => rw [wordsW_gap hj hw hg2]
  | some j2 =>
    rw [wordsW_some hj hw hg2]
    simp
theorem wordR_cut {s : ByteArray} {m : Nat} (hm : m ≤ s.size) : wordR (s.extract m s.size) = match wordS s m with
    | none => (⟨#[]⟩, 0)
    | some (v, j) => (v, ((j - m : Nat) : Int)) := by
  unfold wordR
  rw [cut_word s m hm]
  cases wordS s m with
  | none => rfl
  | some x => rfl
set_option maxHeartbeats 1000000 in
theorem words33_p (s : ByteArray) (hs : s.size ≤ 1000000) : APure Tryz.prog 23 [.s s] (.tup [.sl .no 2 (wdL (wordsR s).1), .b (wordsR s).2]) [] := by
  have hmx : maxLen = 9223372036854775807 := rfl
  refine APure.ofG rfl ?_
  refine ACalls.of_vc T_ok mixed Tryz.func23 rfl Tryz.call23 ?_
  refine vc_loop [4, 5] (fun g vals st' => ∃ (i : Nat) (a : AV) (acc : List Wd), i + g = s.size ∧ vals = [a, .i i] ∧ acc.length ≤ i ∧ Acc 0 st'.tk 2 a (wdL acc) ∧ WInv s acc i) s.size rfl ⟨0, _, [], by omega, rfl, Nat.le_refl _, .nil, WInv.start s⟩ ?_
  rintro g vals st1 ⟨i, a, acc, hg, rfl, hal, hA, hW⟩
  have hi : i ≤ s.size := by omega
  have hl1 := tw_le blkI s i hi
  have hlen := wdL_len acc
  generalize hes : wdL acc = es at hA hlen
  cases hA with
  | nil =>
    refine vc_loopx 2 [5] (fun g vals st' => ∃ m : Nat, m + g = (s).size ∧ i ≤ m ∧ vals = [.i m] ∧ st' = st1 ∧ ∀ j (hj : j < (s).size), i ≤ j → j < m → blkI ((s)[j].toNat : Int) = true) ((s).size - (i)) (fun vals st' => vals = [.i (i + tw blkI (s) (i) : Nat)] ∧ st' = st1) rfl ⟨i, by omega, Nat.le_refl _, rfl, rfl, fun j _ h1 h2 => absurd h2 (by omega)⟩ ?_ ?_
    · rintro g vals st' ⟨m, hm, hm1, rfl, rfl, hall⟩
      refine cnd_split (fun hd => ?_) (fun hd => ?_)
      · have hd := of_decide_eq_true hd
        have m1 : m < (s).size := by omega
        refine ⟨m, m1, rfl, ?_⟩
        refine .p rfl ((fun n _ _ => blank1_p n) _ (by omega) (by have := (s)[m].toNat_lt; omega)) ?_
        refine cnd_split (fun h1 => ?_) (fun h1 => ?_)
        · intro c hc
          rw [IntWalk.i64_in _ (by omega)] at hc
          obtain rfl : c = ((m + 1 : Nat) : Int) := by omega
          refine ⟨g - 1, by omega, m + 1, by omega, by omega, rfl, rfl, fun j hj h0 hjm => ?_⟩
          by_cases e : j = m
          · subst e; exact h1
          · exact hall j hj h0 (by omega)
        · exact ⟨congrArg (fun x : Nat => [AV.i (x : Int)]) (tw_at hall hm1 (by omega) (fun _ => h1)).symm, rfl⟩
      · have hd := of_decide_eq_false hd
        exact ⟨congrArg (fun x : Nat => [AV.i (x : Int)]) (tw_at hall hm1 (by omega) (fun h => absurd h (by omega))).symm, rfl⟩
    rintro vals st' ⟨rfl, rfl⟩
    refine cnd_split (fun h1 => ?_) (fun h1 => ?_)
    · have h1 : i + tw blkI s i = s.size := by have := beq_iff_eq.1 h1; omega
      have hg : gapS s i = some (i + tw blkI s i) := by unfold gapS; rw [if_neg (by omega)]
      unfold WInv at hW
      rw [hg, h1] at hW
      simp only [wordsW_end (Nat.le_refl s.size), List.append_nil] at hW
      rw [← hW]
      show resV _ (.tup [.sl .no 2 (wdL acc), _])
      rw [hes]
      exact .inr ⟨_, _, rfl, rfl, .inr ⟨rfl, 2, rfl⟩, .inl (.inl ⟨rfl, rfl⟩), trivial⟩
    have h1 : i + tw blkI s i < s.size := by have := beq_eq_false_iff_ne.1 h1; omega
    have bad : (acc, false) = wordsR s → resV (.tup [.nilS, .b false]) (.tup [.sl .no 2 (wdL (wordsR s).1), .b (wordsR s).2]) := fun hb => by
      rw [← hb]
      show resV _ (.tup [.sl .no 2 (wdL acc), _])
      rw [hes]
      exact .inr ⟨_, _, rfl, rfl, .inr ⟨rfl, 2, rfl⟩, .inl (.inl ⟨rfl, rfl⟩), trivial⟩
    have goon : ¬ (tw blkI s i = 0 ∧ i ≠ 0) → gapS s i = some (i + tw blkI s i) := fun hc => by unfold gapS; rw [if_neg (fun hh => hc ⟨hh.1, hh.2.1⟩)]
    have gap0 : tw blkI s i = 0 ∧ i ≠ 0 → (acc, false) = wordsR s := fun hb => by
      have hg : gapS s i = none := by unfold gapS; rw [if_pos ⟨hb.1, hb.2, by omega⟩]
      unfold WInv at hW
      rw [hg] at hW
      exact hW
    refine cnd_split (fun h2 => ?_) (fun h2 => ?_)
    · have h2 : tw blkI s i = 0 := by have := beq_iff_eq.1 h2; omega
      refine cnd_split (fun h3 => ?_) (fun h3 => ?_)
      · have h3 := of_decide_eq_true h3
        exact bad (gap0 ⟨h2, by omega⟩)
      · have h3 := of_decide_eq_false h3
        have hg := goon (fun hh => by omega)
        refine ⟨_, rfl, by omega, Nat.le_refl _, ?_⟩
        refine .p rfl (word5M_p _ (by rw [ByteArray.size_extract]; omega)) ?_
        cases hw : wordS s (i + tw blkI s i) with
        | none =>
          have hr : wordR (s.extract (i + tw blkI s i) s.size) = (⟨#[]⟩, 0) := by rw [wordR_cut (by omega), hw]
          rw [hr]
          refine bad ?_
          unfold WInv at hW
          rw [hg] at hW
          simp only [wordsW_none h1 hw, List.append_nil] at hW
          exact hW
        | some x =>
          obtain ⟨v, e⟩ := x
          have hle := wordS_le (by omega) hw
          have hr : wordR (s.extract (i + tw blkI s i) s.size) = (v, ((e - (i + tw blkI s i) : Nat) : Int)) := by rw [wordR_cut (by omega), hw]
          rw [hr]
          refine cnd_split (fun h4 => ?_) (fun h4 => ?_)
          · have h4 := beq_iff_eq.1 h4
            omega
          · refine ⟨_, h1, rfl, ?_⟩
            refine Acc.app (n := 0) (i := ti52) (es := []) .nil (Nat.zero_le _) (List.cons_ne_nil _ _) ?_ ?_ (fun t9 e9 tk9 z0 z1 z2 z3 => ?_)
            · show (([] : List (List AV)).length + 1) * 24 ≤ _; omega
            · show ([] : List (List AV)).length + 1 ≤ _; omega
            intro c hc
            rw [IntWalk.i64_in _ (by omega)] at hc
            obtain rfl : c = ((e : Nat) : Int) := by omega
            refine ⟨s.size - e, by omega, e, _, acc ++ [(v, atB s (i + tw blkI s i) 34)], by omega, rfl, by simp; omega, ?_, hW.next hg h1 hw⟩
            rw [← wdL_app, hes, atB_lt h1]
            exact .own _ _ _ z0 z1
    · have h2 : tw blkI s i ≠ 0 := by have := beq_eq_false_iff_ne.1 h2; omega
      have hg := goon (fun hh => h2 hh.1)
      refine ⟨_, rfl, by omega, Nat.le_refl _, ?_⟩
      refine .p rfl (word5M_p _ (by rw [ByteArray.size_extract]; omega)) ?_
      cases hw : wordS s (i + tw blkI s i) with
      | none =>
        have hr : wordR (s.extract (i + tw blkI s i) s.size) = (⟨#[]⟩, 0) := by rw [wordR_cut (by omega), hw]
        rw [hr]
        refine bad ?_
        unfold WInv at hW
        rw [hg] at hW
        simp only [wordsW_none h1 hw, List.append_nil] at hW
        exact hW
      | some x =>
        obtain ⟨v, e⟩ := x
        have hle := wordS_le (by omega) hw
        have hr : wordR (s.extract (i + tw blkI s i) s.size) = (v, ((e - (i + tw blkI s i) : Nat) : Int)) := by rw [wordR_cut (by omega), hw]
        rw [hr]
        refine cnd_split (fun h4 => ?_) (fun h4 => ?_)
        · have h4 := beq_iff_eq.1 h4
          omega
        · refine ⟨_, h1, rfl, ?_⟩
          refine Acc.app (n := 0) (i := ti52) (es := []) .nil (Nat.zero_le _) (List.cons_ne_nil _ _) ?_ ?_ (fun t9 e9 tk9 z0 z1 z2 z3 => ?_)
          · show (([] : List (List AV)).length + 1) * 24 ≤ _; omega
          · show ([] : List (List AV)).length + 1 ≤ _; omega
          intro c hc
          rw [IntWalk.i64_in _ (by omega)] at hc
          obtain rfl : c = ((e : Nat) : Int) := by omega
          refine ⟨s.size - e, by omega, e, _, acc ++ [(v, atB s (i + tw blkI s i) 34)], by omega, rfl, by simp; omega, ?_, hW.next hg h1 hw⟩
          rw [← wdL_app, hes, atB_lt h1]
          exact .own _ _ _ z0 z1
  | own t0 e0 es q0 q1 =>
    refine vc_loopx 2 [5] (fun g vals st' => ∃ m : Nat, m + g = (s).size ∧ i ≤ m ∧ vals = [.i m] ∧ st' = st1 ∧ ∀ j (hj : j < (s).size), i ≤ j → j < m → blkI ((s)[j].toNat : Int) = true) ((s).size - (i)) (fun vals st' => vals = [.i (i + tw blkI (s) (i) : Nat)] ∧ st' = st1) rfl ⟨i, by omega, Nat.le_refl _, rfl, rfl, fun j _ h1 h2 => absurd h2 (by omega)⟩ ?_ ?_
    · rintro g vals st' ⟨m, hm, hm1, rfl, rfl, hall⟩
      refine cnd_split (fun hd => ?_) (fun hd => ?_)
      · have hd := of_decide_eq_true hd
        have m1 : m < (s).size := by omega
        refine ⟨m, m1, rfl, ?_⟩
        refine .p rfl ((fun n _ _ => blank1_p n) _ (by omega) (by have := (s)[m].toNat_lt; omega)) ?_
        refine cnd_split (fun h1 => ?_) (fun h1 => ?_)
        · intro c hc
          rw [IntWalk.i64_in _ (by omega)] at hc
          obtain rfl : c = ((m + 1 : Nat) : Int) := by omega
          refine ⟨g - 1, by omega, m + 1, by omega, by omega, rfl, rfl, fun j hj h0 hjm => ?_⟩
          by_cases e : j = m
          · subst e; exact h1
          · exact hall j hj h0 (by omega)
        · exact ⟨congrArg (fun x : Nat => [AV.i (x : Int)]) (tw_at hall hm1 (by omega) (fun _ => h1)).symm, rfl⟩
      · have hd := of_decide_eq_false hd
        exact ⟨congrArg (fun x : Nat => [AV.i (x : Int)]) (tw_at hall hm1 (by omega) (fun h => absurd h (by omega))).symm, rfl⟩
    rintro vals st' ⟨rfl, rfl⟩
    refine cnd_split (fun h1 => ?_) (fun h1 => ?_)
    · have h1 : i + tw blkI s i = s.size := by have := beq_iff_eq.1 h1; omega
      have hg : gapS s i = some (i + tw blkI s i) := by unfold gapS; rw [if_neg (by omega)]
      unfold WInv at hW
      rw [hg, h1] at hW
      simp only [wordsW_end (Nat.le_refl s.size), List.append_nil] at hW
      rw [← hW]
      show resV _ (.tup [.sl .no 2 (wdL acc), _])
      rw [hes]
      exact .inr ⟨_, _, rfl, rfl, .inl (.inl ⟨rfl, rfl⟩), .inl (.inl ⟨rfl, rfl⟩), trivial⟩
    have h1 : i + tw blkI s i < s.size := by have := beq_eq_false_iff_ne.1 h1; omega
    have bad : (acc, false) = wordsR s → resV (.tup [(.sl (.own t0 e0) 2 es), .b false]) (.tup [.sl .no 2 (wdL (wordsR s).1), .b (wordsR s).2]) := fun hb => by
      rw [← hb]
      show resV _ (.tup [.sl .no 2 (wdL acc), _])
      rw [hes]
      exact .inr ⟨_, _, rfl, rfl, .inl (.inl ⟨rfl, rfl⟩), .inl (.inl ⟨rfl, rfl⟩), trivial⟩
    have goon : ¬ (tw blkI s i = 0 ∧ i ≠ 0) → gapS s i = some (i + tw blkI s i) := fun hc => by unfold gapS; rw [if_neg (fun hh => hc ⟨hh.1, hh.2.1⟩)]
    have gap0 : tw blkI s i = 0 ∧ i ≠ 0 → (acc, false) = wordsR s := fun hb => by
      have hg : gapS s i = none := by unfold gapS; rw [if_pos ⟨hb.1, hb.2, by omega⟩]
      unfold WInv at hW
      rw [hg] at hW
      exact hW
    refine cnd_split (fun h2 => ?_) (fun h2 => ?_)
    · have h2 : tw blkI s i = 0 := by have := beq_iff_eq.1 h2; omega
      refine cnd_split (fun h3 => ?_) (fun h3 => ?_)
      · have h3 := of_decide_eq_true h3
        exact bad (gap0 ⟨h2, by omega⟩)
      · have h3 := of_decide_eq_false h3
        have hg := goon (fun hh => by omega)
        refine ⟨_, rfl, by omega, Nat.le_refl _, ?_⟩
        refine .p rfl (word5M_p _ (by rw [ByteArray.size_extract]; omega)) ?_
        cases hw : wordS s (i + tw blkI s i) with
        | none =>
          have hr : wordR (s.extract (i + tw blkI s i) s.size) = (⟨#[]⟩, 0) := by rw [wordR_cut (by omega), hw]
          rw [hr]
          refine bad ?_
          unfold WInv at hW
          rw [hg] at hW
          simp only [wordsW_none h1 hw, List.append_nil] at hW
          exact hW
        | some x =>
          obtain ⟨v, e⟩ := x
          have hle := wordS_le (by omega) hw
          have hr : wordR (s.extract (i + tw blkI s i) s.size) = (v, ((e - (i + tw blkI s i) : Nat) : Int)) := by rw [wordR_cut (by omega), hw]
          rw [hr]
          refine cnd_split (fun h4 => ?_) (fun h4 => ?_)
          · have h4 := beq_iff_eq.1 h4
            omega
          · refine ⟨_, h1, rfl, ?_⟩
            refine Acc.app (n := 0) (i := ti52) (es := es) (.own _ _ _ q0 q1) (Nat.zero_le _) (List.cons_ne_nil _ _) ?_ ?_ (fun t9 e9 tk9 z0 z1 z2 z3 => ?_)
            · show ((es : List (List AV)).length + 1) * 24 ≤ _; omega
            · show (es : List (List AV)).length + 1 ≤ _; omega
            intro c hc
            rw [IntWalk.i64_in _ (by omega)] at hc
            obtain rfl : c = ((e : Nat) : Int) := by omega
            refine ⟨s.size - e, by omega, e, _, acc ++ [(v, atB s (i + tw blkI s i) 34)], by omega, rfl, by simp; omega, ?_, hW.next hg h1 hw⟩
            rw [← wdL_app, hes, atB_lt h1]
            exact .own _ _ _ z0 z1
    · have h2 : tw blkI s i ≠ 0 := by have := beq_eq_false_iff_ne.1 h2; omega
      have hg := goon (fun hh => h2 hh.1)
      refine ⟨_, rfl, by omega, Nat.le_refl _, ?_⟩
      refine .p rfl (word5M_p _ (by rw [ByteArray.size_extract]; omega)) ?_
      cases hw : wordS s (i + tw blkI s i) with
      | none =>
        have hr : wordR (s.extract (i + tw blkI s i) s.size) = (⟨#[]⟩, 0) := by rw [wordR_cut (by omega), hw]
        rw [hr]
        refine bad ?_
        unfold WInv at hW
        rw [hg] at hW
        simp only [wordsW_none h1 hw, List.append_nil] at hW
        exact hW
      | some x =>
        obtain ⟨v, e⟩ := x
        have hle := wordS_le (by omega) hw
        have hr : wordR (s.extract (i + tw blkI s i) s.size) = (v, ((e - (i + tw blkI s i) : Nat) : Int)) := by rw [wordR_cut (by omega), hw]
        rw [hr]
        refine cnd_split (fun h4 => ?_) (fun h4 => ?_)
        · have h4 := beq_iff_eq.1 h4
          omega
        · refine ⟨_, h1, rfl, ?_⟩
          refine Acc.app (n := 0) (i := ti52) (es := es) (.own _ _ _ q0 q1) (Nat.zero_le _) (List.cons_ne_nil _ _) ?_ ?_ (fun t9 e9 tk9 z0 z1 z2 z3 => ?_)
          · show ((es : List (List AV)).length + 1) * 24 ≤ _; omega
          · show (es : List (List AV)).length + 1 ≤ _; omega
          intro c hc
          rw [IntWalk.i64_in _ (by omega)] at hc
          obtain rfl : c = ((e : Nat) : Int) := by omega
          refine ⟨s.size - e, by omega, e, _, acc ++ [(v, atB s (i + tw blkI s i) 34)], by omega, rfl, by simp; omega, ?_, hW.next hg h1 hw⟩
          rw [← wdL_app, hes, atB_lt h1]
          exact .own _ _ _ z0 z1
def shapeB (l : List Wd) (want : ByteArray) : Bool := decide (l.map (fun w => w.2) = want.data.toList.map fun b => ((b.toNat : Int) == 118))
theorem shape33_p (l : List Wd) (want : ByteArray) (hl : l.length ≤ 1000000) (hw : want.size ≤ 1000) : APure Tryz.prog 86 [.sl .no 2 (wdL l), .s want] (.b (shapeB l want)) [] := by
  have el := wdL_len l
  have wl := blen want
  refine APure.of rfl (ACalls.of_vc T_ok mixed Tryz.func86 rfl Tryz.call86 ?_)
  refine cnd_split (fun h0 => ?_) (fun h0 => ?_)
  · have h0 : l.length ≠ want.size := by
      have : ((wdL l).length : Int) ≠ want.size := by simpa using h0
      omega
    refine retb (decide_eq_false (fun e => h0 ?_)).symm
    have := congrArg List.length e
    simp only [List.length_map] at this
    omega
  have h0 : l.length = want.size := by
    have : ((wdL l).length : Int) = want.size := by simpa using h0
    omega
  refine vc_loop [5] (fun g vals st' => ∃ k : Nat, k + g = want.size ∧ vals = [.i k] ∧ ∀ j (hj : j < l.length) (hj2 : j < want.size), j < k → l[j].2 = ((want[j].toNat : Int) == 118)) want.size rfl ⟨0, by omega, rfl, fun j _ _ h => absurd h (by omega)⟩ ?_
  rintro g vals st1 ⟨k, hk, rfl, ha⟩
  refine cnd_split (fun hd => ?_) (fun hd => ?_)
  · have hd := of_decide_eq_true hd
    have k1 : k < want.size := by omega
    have k2 : k < l.length := by omega
    have hat : (wdL l)[k]? = some [.s l[k].1, .b l[k].2] := by simp [wdL, k2]
    refine .e (by kernel_rfl) ?_
    refine ⟨k, _, rfl, hat, ?_⟩
    refine ⟨k, k1, rfl, ?_⟩
    refine cnd_split (fun h2 => ?_) (fun h2 => ?_)
    · have h2 : l[k].2 ≠ ((want[k].toNat : Int) == 118) := by simpa using h2
      refine retb (decide_eq_false (fun e => h2 ?_)).symm
      have e2 := congrArg (fun x => x[k]?) e
      simp only [List.getElem?_map, List.getElem?_eq_getElem k2, List.getElem?_eq_getElem (show k < want.data.toList.length by omega), Option.map_some, Option.some.injEq] at e2
      exact e2
    · have h2 : l[k].2 = ((want[k].toNat : Int) == 118) := by simpa using h2
      intro c hc
      rw [IntWalk.i64_in _ (by omega)] at hc
      obtain rfl : c = ((k + 1 : Nat) : Int) := by omega
      refine ⟨g - 1, by omega, k + 1, by omega, rfl, fun j hj hj2 hjk => ?_⟩
      by_cases e : j = k
      · subst e; exact h2
      · exact ha j hj hj2 (by omega)
  · have hd := of_decide_eq_false hd
    refine retb (decide_eq_true ?_).symm
    apply List.ext_getElem?
    intro j
    by_cases hj : j < l.length
    · simp only [List.getElem?_map, List.getElem?_eq_getElem hj, List.getElem?_eq_getElem (show j < want.data.toList.length by omega), Option.map_some, Option.some.injEq]
      exact ha j hj (by omega) (by omega)
    · rw [List.getElem?_eq_none (by simp; omega), List.getElem?_eq_none (by simp; omega)]
/-- a rule, of the words behind its guard -/
def tl2 (sd : Int) (g : Gd) (l : List Wd) : Option (Rl × Bool) := match l with
  | (w, false) :: r => tailL sd g w r
  | _ => none
def actR (sd : Int) (g : Gd) (l : List Wd) (ok : Bool) : Rl × Int := if ok = true then outR (tl2 sd g l) else (zeroR, 2)
def base0 (sd : Int) (g : Gd) : Rl := ⟨sd, g.1, g.2.1, g.2.2, 0, ⟨#[]⟩, ⟨#[]⟩, []⟩
def kNNV : ByteArray := ⟨#[110, 110, 118]⟩
def kNN : ByteArray := ⟨#[110, 110]⟩
def kNNN : ByteArray := ⟨#[110, 110, 110]⟩
theorem nnv_iff (l : List Wd) : shapeB l kNNV = true ↔ ∃ a b c, l = [(a, false), (b, false), (c, true)] := by
  unfold shapeB
  rw [decide_eq_true_eq]
  constructor
  · intro h
    have hl := congrArg List.length h
    rw [List.length_map, List.length_map] at hl
    have hl : l.length = 3 := hl
    match l, h, hl with
    | [(a, q), (b, q2), (c, q3)], h, _ =>
      have h : [q, q2, q3] = [false, false, true] := h
      simp at h
      obtain ⟨rfl, rfl, rfl⟩ := h
      exact ⟨a, b, c, rfl⟩
  · rintro ⟨a, b, c, rfl⟩
    rfl
theorem nn_iff (l : List Wd) : shapeB l kNN = true ↔ ∃ a b, l = [(a, false), (b, false)] := by
  unfold shapeB
  rw [decide_eq_true_eq]
  constructor
  · intro h
    have hl := congrArg List.length h
    rw [List.length_map, List.length_map] at hl
    have hl : l.length = 2 := hl
    match l, h, hl with
    | [(a, q), (b, q2)], h, _ =>
      have h : [q, q2] = [false, false] := h
      simp at h
      obtain ⟨rfl, rfl⟩ := h
      exact ⟨a, b, rfl⟩
  · rintro ⟨a, b, rfl⟩
    rfl
theorem nnn_iff (l : List Wd) : shapeB l kNNN = true ↔ ∃ a b c, l = [(a, false), (b, false), (c, false)] := by
  unfold shapeB
  rw [decide_eq_true_eq]
  constructor
  · intro h
    have hl := congrArg List.length h
    rw [List.length_map, List.length_map] at hl
    have hl : l.length = 3 := hl
    match l, h, hl with
    | [(a, q), (b, q2), (c, q3)], h, _ =>
      have h : [q, q2, q3] = [false, false, false] := h
      simp at h
      obtain ⟨rfl, rfl, rfl⟩ := h
      exact ⟨a, b, c, rfl⟩
  · rintro ⟨a, b, c, rfl⟩
    rfl
theorem set_shape {sd : Int} {g : Gd} {a b : ByteArray} {q2 : Bool} {r : List Wd} {x : Rl × Bool} (ha : a = kSet ∨ a = kAdd) (h : tailL sd g a ((b, q2) :: r) = some x) : shapeB ((a, false) :: (b, q2) :: r) kNNV = true := by
  refine (nnv_iff _).2 ?_
  have set : ∀ z, setL z r = none ∨ ∃ c l, r = (c, true) :: l ∧ ∃ y, setL z r = some (y, l) := fun z => by
    match r with
    | [] => exact .inl rfl
    | (c, false) :: l => exact .inl rfl
    | (c, true) :: l =>
      by_cases e : (parseT c).2 = 0 ∨ (parseT c).2 = 3
      · exact .inr ⟨c, l, rfl, _, by simp only [setL, partsL, valueL]; rw [if_pos e]⟩
      · exact .inl (by simp only [setL, partsL, valueL]; rw [if_neg e])
  cases q2 with
  | true => cases h
  | false =>
    simp only [tailL, nameL] at h
    have hact : ∃ z, actL a r = setL z r := by
      rcases ha with rfl | rfl
      · exact ⟨1, by unfold actL; rw [if_pos rfl]⟩
      · exact ⟨2, by unfold actL; rw [if_neg (by decide +kernel), if_pos rfl]⟩
    obtain ⟨z, hz⟩ := hact
    rw [hz] at h
    rcases set z with hs | ⟨c, l, rfl, y, hs⟩
    · rw [hs] at h; cases h
    · rw [hs] at h
      obtain ⟨z, to, ps, bb⟩ := y
      simp only at h
      split at h
      · cases h
      · rename_i hl
        have hl : l = [] := Decidable.byContradiction hl
        subst hl
        exact ⟨a, b, c, rfl⟩
theorem rem_shape {sd : Int} {g : Gd} {b : ByteArray} {q2 : Bool} {r : List Wd} {x : Rl × Bool} (h : tailL sd g kRem ((b, q2) :: r) = some x) : shapeB ((kRem, false) :: (b, q2) :: r) kNN = true := by
  refine (nn_iff _).2 ?_
  cases q2 with
  | true => cases h
  | false =>
    simp only [tailL, nameL] at h
    have hact : actL kRem r = some ((3, ⟨#[]⟩, [], false), r) := by
      unfold actL
      rw [if_neg (by decide +kernel), if_neg (by decide +kernel), if_pos rfl]
    rw [hact] at h
    simp only at h
    split at h
    · cases h
    · rename_i hl
      have hl : r = [] := Decidable.byContradiction hl
      subst hl
      exact ⟨kRem, b, rfl⟩
theorem ren_shape {sd : Int} {g : Gd} {b : ByteArray} {q2 : Bool} {r : List Wd} {x : Rl × Bool} (h : tailL sd g kRen ((b, q2) :: r) = some x) : shapeB ((kRen, false) :: (b, q2) :: r) kNNN = true := by
  refine (nnn_iff _).2 ?_
  cases q2 with
  | true => cases h
  | false =>
    simp only [tailL, nameL] at h
    have hact : actL kRen r = renL r := by
      unfold actL
      rw [if_neg (by decide +kernel), if_neg (by decide +kernel), if_neg (by decide +kernel), if_pos rfl]
    rw [hact] at h
    match r, h with
    | (c, false) :: l, h =>
      simp only [renL, nameL] at h
      split at h
      · cases h
      · rename_i hl
        have hl : l = [] := Decidable.byContradiction hl
        subst hl
        exact ⟨kRen, b, c, rfl⟩
theorem other_act {sd : Int} {g : Gd} {a : ByteArray} {l : List Wd} (h1 : a ≠ kSet) (h2 : a ≠ kAdd) (h3 : a ≠ kRem) (h4 : a ≠ kRen) : tailL sd g a l = none := by
  unfold tailL
  cases nameL l with
  | none => rfl
  | some x =>
    have : actL a x.2 = none := by
      unfold actL
      rw [if_neg h1, if_neg h2, if_neg h3, if_neg h4]
    simp only [this]
theorem parseT_or (s : ByteArray) : (parseT s).2 = 0 ∨ (parseT s).2 = 2 ∨ (parseT s).2 = 3 := by
  unfold parseT
  split
  · exact .inr (.inl rfl)
  · split
    · exact .inr (.inr rfl)
    · exact .inl rfl
theorem retV {us vs : List AV} {r : AV} (h : r = .tup us) (hw : ArgsW us vs) : resV r (.tup vs) := .inr ⟨us, vs, h, rfl, hw⟩
def finR (x : Rl) : Rl × Int := if checkR x = 0 then (x, 0) else (zeroR, 9)
theorem outR_no (x : Rl) : outR (some (x, false)) = finR x := by
  unfold outR finR
  simp only [Bool.false_eq_true, if_false]
  split
  · rfl
  · rename_i h
    rcases checkR_or x with h2 | h2
    · exact absurd h2 h
    · rw [h2]
theorem actR_set {sd : Int} {g : Gd} {a b c : ByteArray} {z : Int} (haz : a = kSet ∧ z = 1 ∨ a = kAdd ∧ z = 2) : actR sd g [(a, false), (b, false), (c, true)] true =
    if (parseT c).2 = 2 then (zeroR, 2) else if (parseT c).2 ≠ 0 then (zeroR, (parseT c).2) else finR ⟨sd, g.1, g.2.1, g.2.2, z, b, ⟨#[]⟩, (parseT c).1⟩ := by
  have n1 : kAdd ≠ kSet := by decide +kernel
  unfold actR
  rw [if_pos rfl]
  rcases parseT_or c with h | h | h <;> rcases haz with ⟨rfl, rfl⟩ | ⟨rfl, rfl⟩
  · simp [tl2, tailL, nameL, actL, setL, partsL, valueL, h, outR_no]
  · simp [tl2, tailL, nameL, actL, setL, partsL, valueL, h, n1, outR_no]
  · simp [tl2, tailL, nameL, actL, setL, partsL, valueL, h, outR]
  · simp [tl2, tailL, nameL, actL, setL, partsL, valueL, h, n1, outR]
  · simp [tl2, tailL, nameL, actL, setL, partsL, valueL, h, outR]
  · simp [tl2, tailL, nameL, actL, setL, partsL, valueL, h, n1, outR]
theorem actR_rem {sd : Int} {g : Gd} {b : ByteArray} : actR sd g [(kRem, false), (b, false)] true = finR ⟨sd, g.1, g.2.1, g.2.2, 3, b, ⟨#[]⟩, []⟩ := by
  have n2 : kRem ≠ kSet := by decide +kernel
  have n3 : kRem ≠ kAdd := by decide +kernel
  unfold actR
  rw [if_pos rfl]
  simp [tl2, tailL, nameL, actL, n2, n3, outR_no]
theorem actR_ren {sd : Int} {g : Gd} {b c : ByteArray} : actR sd g [(kRen, false), (b, false), (c, false)] true = finR ⟨sd, g.1, g.2.1, g.2.2, 4, b, c, []⟩ := by
  have n4 : kRen ≠ kSet := by decide +kernel
  have n5 : kRen ≠ kAdd := by decide +kernel
  have n6 : kRen ≠ kRem := by decide +kernel
  unfold actR
  rw [if_pos rfl]
  simp [tl2, tailL, nameL, actL, renL, n4, n5, n6, outR_no]
set_option maxHeartbeats 1000000 in
theorem act33_p (sd : Int) (g : Gd) (l : List Wd) (ok : Bool) (hl : l.length ≤ 100000) (hz : ∀ w ∈ l, w.1.size ≤ 100000) (h1 : g.2.1.size ≤ 100000) (h2 : g.2.2.size ≤ 100000) :
    APure Tryz.prog 48 [(base0 sd g).av, .sl .no 2 (wdL l), .b ok] (.tup [(actR sd g l ok).1.av, .i (actR sd g l ok).2]) [] := by
  have bad : tl2 sd g l = none → actR sd g l ok = (zeroR, 2) := fun h => by
    unfold actR
    split
    · rw [h]; rfl
    · rfl
  have hok : ok = false → actR sd g l ok = (zeroR, 2) := fun h => by
    unfold actR
    rw [if_neg (by rw [h]; decide)]
  have hwl := wdL_len l
  obtain ⟨gk, ga, gb⟩ := g
  have h1 : ga.size ≤ 100000 := h1
  have h2 : gb.size ≤ 100000 := h2
  match l, hl, hz, bad, hok, hwl with
  | [], _, _, bad, _, _ =>
    rw [bad rfl]
    show APure _ _ [.agg [.i sd, .i gk, .s ga, .s gb, .i 0, .s ⟨#[]⟩, .s ⟨#[]⟩, .sl .no 2 []], .sl .no 2 [], .b ok] _ _
    refine APure.ofG rfl ?_
    refine ACalls.of_vc T_ok mixed Tryz.func48 rfl Tryz.call48 ?_
    refine ⟨_, rfl, ?_⟩
    refine ⟨_, rfl, ?_⟩
    refine retV rfl ?_
    exact ⟨.inl (.inr ⟨_, _, rfl, rfl, .inl ⟨rfl, rfl⟩, .inl ⟨rfl, rfl⟩, .inl ⟨rfl, rfl⟩, .inl ⟨rfl, rfl⟩, .inl ⟨rfl, rfl⟩, .inl ⟨rfl, rfl⟩, .inl ⟨rfl, rfl⟩, .inr ⟨rfl, 2, rfl⟩, trivial⟩), .inl (.inl ⟨rfl, rfl⟩), trivial⟩
  | [(w, q)], _, _, bad, _, _ =>
    rw [bad (by cases q <;> rfl)]
    show APure _ _ [.agg [.i sd, .i gk, .s ga, .s gb, .i 0, .s ⟨#[]⟩, .s ⟨#[]⟩, .sl .no 2 []], .sl .no 2 [[.s w, .b q]], .b ok] _ _
    refine APure.ofG rfl ?_
    refine ACalls.of_vc T_ok mixed Tryz.func48 rfl Tryz.call48 ?_
    refine ⟨_, rfl, ?_⟩
    refine ⟨_, rfl, ?_⟩
    refine retV rfl ?_
    exact ⟨.inl (.inr ⟨_, _, rfl, rfl, .inl ⟨rfl, rfl⟩, .inl ⟨rfl, rfl⟩, .inl ⟨rfl, rfl⟩, .inl ⟨rfl, rfl⟩, .inl ⟨rfl, rfl⟩, .inl ⟨rfl, rfl⟩, .inl ⟨rfl, rfl⟩, .inr ⟨rfl, 2, rfl⟩, trivial⟩), .inl (.inl ⟨rfl, rfl⟩), trivial⟩
  | (a, q) :: (b, q2) :: r, hl, hz, bad, hok, hwl =>
    have hb : b.size ≤ 100000 := hz (b, q2) (by simp)
    show APure _ _ [.agg [.i sd, .i gk, .s ga, .s gb, .i 0, .s ⟨#[]⟩, .s ⟨#[]⟩, .sl .no 2 []], .sl .no 2 (wdL ((a, q) :: (b, q2) :: r)), .b ok] _ _
    have hsp := shape33_p ((a, q) :: (b, q2) :: r)
    have hll : ((a, q) :: (b, q2) :: r).length = r.length + 2 := rfl
    refine APure.ofG rfl ?_
    refine ACalls.of_vc T_ok mixed Tryz.func48 rfl Tryz.call48 ?_
    refine cnd_split (fun hd => ?_) (fun hd => ?_)
    rotate_left
    · have hd := of_decide_eq_false hd
      omega
    refine ⟨0, _, rfl, rfl, ?_⟩
    cases q with
    | true =>
      rw [bad rfl]
      refine ⟨_, rfl, ?_⟩
      refine ⟨_, rfl, ?_⟩
      refine retV rfl ?_
      exact ⟨.inl (.inr ⟨_, _, rfl, rfl, .inl ⟨rfl, rfl⟩, .inl ⟨rfl, rfl⟩, .inl ⟨rfl, rfl⟩, .inl ⟨rfl, rfl⟩, .inl ⟨rfl, rfl⟩, .inl ⟨rfl, rfl⟩, .inl ⟨rfl, rfl⟩, .inr ⟨rfl, 2, rfl⟩, trivial⟩), .inl (.inl ⟨rfl, rfl⟩), trivial⟩
    | false =>
      refine ⟨1, _, rfl, rfl, ?_⟩
      refine ⟨_, rfl, ?_⟩
      refine ⟨0, _, rfl, rfl, ?_⟩
      intro t1 ht1
      cases t1 with
      | true =>
        obtain rfl : a = kSet := ht1.1 rfl
        refine ⟨_, rfl, ?_⟩
        refine ⟨0, _, rfl, rfl, ?_⟩
        intro t2 ht2
        cases t2 with
        | true => exact absurd (ht2.1 rfl) (by decide +kernel)
        | false =>
        refine .p rfl (hsp kNNV (by omega) (by decide)) ?_
        cases hsh : shapeB ((kSet, false) :: (b, q2) :: r) kNNV with
        | false =>
          rw [bad (by
            show tailL sd (gk, ga, gb) kSet ((b, q2) :: r) = none
            cases ht : tailL sd (gk, ga, gb) kSet ((b, q2) :: r) with
            | none => rfl
            | some x => rw [set_shape (.inl rfl) ht] at hsh; cases hsh)]
          refine ⟨_, rfl, ?_⟩
          refine ⟨_, rfl, ?_⟩
          refine retV rfl ?_
          exact ⟨.inl (.inr ⟨_, _, rfl, rfl, .inl ⟨rfl, rfl⟩, .inl ⟨rfl, rfl⟩, .inl ⟨rfl, rfl⟩, .inl ⟨rfl, rfl⟩, .inl ⟨rfl, rfl⟩, .inl ⟨rfl, rfl⟩, .inl ⟨rfl, rfl⟩, .inr ⟨rfl, 2, rfl⟩, trivial⟩), .inl (.inl ⟨rfl, rfl⟩), trivial⟩
        | true =>
          obtain ⟨_, _, c, e9⟩ := (nnv_iff _).1 hsh
          simp only [List.cons.injEq, Prod.mk.injEq] at e9
          obtain ⟨-, ⟨-, rfl⟩, rfl⟩ := e9
          have hc : c.size ≤ 100000 := hz (c, true) (by simp)
          have hpl := parseT_len c
          refine ⟨2, _, rfl, rfl, ?_⟩
          refine .p rfl (parse31_p c (by omega)) ?_
          refine ⟨_, rfl, ?_⟩
          cases ok with
          | false =>
            rw [hok rfl]
            refine cnd_split (fun e2 => ?_) (fun e2 => ?_)
            · skip
              refine ⟨_, rfl, ?_⟩
              refine ⟨_, rfl, ?_⟩
              refine retV rfl ?_
              exact ⟨.inl (.inr ⟨_, _, rfl, rfl, .inl ⟨rfl, rfl⟩, .inl ⟨rfl, rfl⟩, .inl ⟨rfl, rfl⟩, .inl ⟨rfl, rfl⟩, .inl ⟨rfl, rfl⟩, .inl ⟨rfl, rfl⟩, .inl ⟨rfl, rfl⟩, .inr ⟨rfl, 2, rfl⟩, trivial⟩), .inl (.inl ⟨rfl, rfl⟩), trivial⟩
            · skip
              refine ⟨_, rfl, ?_⟩
              refine ⟨_, rfl, ?_⟩
              refine retV rfl ?_
              exact ⟨.inl (.inr ⟨_, _, rfl, rfl, .inl ⟨rfl, rfl⟩, .inl ⟨rfl, rfl⟩, .inl ⟨rfl, rfl⟩, .inl ⟨rfl, rfl⟩, .inl ⟨rfl, rfl⟩, .inl ⟨rfl, rfl⟩, .inl ⟨rfl, rfl⟩, .inr ⟨rfl, 2, rfl⟩, trivial⟩), .inl (.inl ⟨rfl, rfl⟩), trivial⟩
          | true =>
            rw [actR_set (z := 1) (.inl ⟨rfl, rfl⟩)]
            refine cnd_split (fun e2 => ?_) (fun e2 => ?_)
            · have e2 : (parseT c).2 = 2 := beq_iff_eq.1 e2
              rw [if_pos e2]
              refine ⟨_, rfl, ?_⟩
              refine ⟨_, rfl, ?_⟩
              refine retV rfl ?_
              exact ⟨.inl (.inr ⟨_, _, rfl, rfl, .inl ⟨rfl, rfl⟩, .inl ⟨rfl, rfl⟩, .inl ⟨rfl, rfl⟩, .inl ⟨rfl, rfl⟩, .inl ⟨rfl, rfl⟩, .inl ⟨rfl, rfl⟩, .inl ⟨rfl, rfl⟩, .inr ⟨rfl, 2, rfl⟩, trivial⟩), .inl (.inl ⟨rfl, rfl⟩), trivial⟩
            have e2 : (parseT c).2 ≠ 2 := beq_eq_false_iff_ne.1 e2
            rw [if_neg e2]
            refine cnd_split (fun e3 => ?_) (fun e3 => ?_)
            · have e3 : (parseT c).2 ≠ 0 := by simpa using e3
              rw [if_pos e3]
              refine ⟨_, rfl, ?_⟩
              refine ⟨_, rfl, ?_⟩
              refine retV rfl ?_
              exact ⟨.inl (.inr ⟨_, _, rfl, rfl, .inl ⟨rfl, rfl⟩, .inl ⟨rfl, rfl⟩, .inl ⟨rfl, rfl⟩, .inl ⟨rfl, rfl⟩, .inl ⟨rfl, rfl⟩, .inl ⟨rfl, rfl⟩, .inl ⟨rfl, rfl⟩, .inr ⟨rfl, 2, rfl⟩, trivial⟩), .inl (.inl ⟨rfl, rfl⟩), trivial⟩
            have e3 : (parseT c).2 = 0 := by simpa using e3
            rw [if_neg (fun h => h e3)]
            refine ⟨_, rfl, ?_⟩
            refine .p rfl (rcheck32_p (⟨sd, gk, ga, gb, 1, b, ⟨#[]⟩, (parseT c).1⟩ : Rl) ⟨h1, h2, hb, by show 0 ≤ 100000; omega, by show (parseT c).1.length ≤ 1000; omega, by show sumT (parseT c).1 ≤ 1000000; omega⟩) ?_
            refine cnd_split (fun e5 => ?_) (fun e5 => ?_)
            · have e5 : checkR (⟨sd, gk, ga, gb, 1, b, ⟨#[]⟩, (parseT c).1⟩ : Rl) ≠ 0 := by simpa using e5
              have e6 : finR (⟨sd, gk, ga, gb, 1, b, ⟨#[]⟩, (parseT c).1⟩ : Rl) = (zeroR, 9) := by unfold finR; rw [if_neg e5]
              rw [e6]
              refine ⟨_, rfl, ?_⟩
              refine ⟨_, rfl, ?_⟩
              refine retV rfl ?_
              exact ⟨.inl (.inr ⟨_, _, rfl, rfl, .inl ⟨rfl, rfl⟩, .inl ⟨rfl, rfl⟩, .inl ⟨rfl, rfl⟩, .inl ⟨rfl, rfl⟩, .inl ⟨rfl, rfl⟩, .inl ⟨rfl, rfl⟩, .inl ⟨rfl, rfl⟩, .inr ⟨rfl, 2, rfl⟩, trivial⟩), .inl (.inl ⟨rfl, rfl⟩), trivial⟩
            · have e5 : checkR (⟨sd, gk, ga, gb, 1, b, ⟨#[]⟩, (parseT c).1⟩ : Rl) = 0 := by simpa using e5
              have e6 : finR (⟨sd, gk, ga, gb, 1, b, ⟨#[]⟩, (parseT c).1⟩ : Rl) = ((⟨sd, gk, ga, gb, 1, b, ⟨#[]⟩, (parseT c).1⟩ : Rl), 0) := by unfold finR; rw [if_pos e5]
              rw [e6]
              refine ⟨_, rfl, ?_⟩
              refine ⟨_, rfl, ?_⟩
              refine ⟨_, rfl, ?_⟩
              refine retV rfl ?_
              exact ⟨.inl (.inl ⟨rfl, rfl⟩), .inl (.inl ⟨rfl, rfl⟩), trivial⟩
      | false =>
        have n1 : a ≠ kSet := fun e => by cases ht1.2 e
        intro t2 ht2
        cases t2 with
        | true =>
          obtain rfl : a = kAdd := ht2.1 rfl
          refine ⟨_, rfl, ?_⟩
          refine ⟨0, _, rfl, rfl, ?_⟩
          intro t3 ht3
          cases t3 with
          | false => cases ht3.2 rfl
          | true =>
          refine ⟨_, rfl, ?_⟩
          refine .p rfl (hsp kNNV (by omega) (by decide)) ?_
          cases hsh : shapeB ((kAdd, false) :: (b, q2) :: r) kNNV with
          | false =>
            rw [bad (by
              show tailL sd (gk, ga, gb) kAdd ((b, q2) :: r) = none
              cases ht : tailL sd (gk, ga, gb) kAdd ((b, q2) :: r) with
              | none => rfl
              | some x => rw [set_shape (.inr rfl) ht] at hsh; cases hsh)]
            refine ⟨_, rfl, ?_⟩
            refine ⟨_, rfl, ?_⟩
            refine retV rfl ?_
            exact ⟨.inl (.inr ⟨_, _, rfl, rfl, .inl ⟨rfl, rfl⟩, .inl ⟨rfl, rfl⟩, .inl ⟨rfl, rfl⟩, .inl ⟨rfl, rfl⟩, .inl ⟨rfl, rfl⟩, .inl ⟨rfl, rfl⟩, .inl ⟨rfl, rfl⟩, .inr ⟨rfl, 2, rfl⟩, trivial⟩), .inl (.inl ⟨rfl, rfl⟩), trivial⟩
          | true =>
            obtain ⟨_, _, c, e9⟩ := (nnv_iff _).1 hsh
            simp only [List.cons.injEq, Prod.mk.injEq] at e9
            obtain ⟨-, ⟨-, rfl⟩, rfl⟩ := e9
            have hc : c.size ≤ 100000 := hz (c, true) (by simp)
            have hpl := parseT_len c
            refine ⟨2, _, rfl, rfl, ?_⟩
            refine .p rfl (parse31_p c (by omega)) ?_
            refine ⟨_, rfl, ?_⟩
            cases ok with
            | false =>
              rw [hok rfl]
              refine cnd_split (fun e2 => ?_) (fun e2 => ?_)
              · skip
                refine ⟨_, rfl, ?_⟩
                refine ⟨_, rfl, ?_⟩
                refine retV rfl ?_
                exact ⟨.inl (.inr ⟨_, _, rfl, rfl, .inl ⟨rfl, rfl⟩, .inl ⟨rfl, rfl⟩, .inl ⟨rfl, rfl⟩, .inl ⟨rfl, rfl⟩, .inl ⟨rfl, rfl⟩, .inl ⟨rfl, rfl⟩, .inl ⟨rfl, rfl⟩, .inr ⟨rfl, 2, rfl⟩, trivial⟩), .inl (.inl ⟨rfl, rfl⟩), trivial⟩
              · skip
                refine ⟨_, rfl, ?_⟩
                refine ⟨_, rfl, ?_⟩
                refine retV rfl ?_
                exact ⟨.inl (.inr ⟨_, _, rfl, rfl, .inl ⟨rfl, rfl⟩, .inl ⟨rfl, rfl⟩, .inl ⟨rfl, rfl⟩, .inl ⟨rfl, rfl⟩, .inl ⟨rfl, rfl⟩, .inl ⟨rfl, rfl⟩, .inl ⟨rfl, rfl⟩, .inr ⟨rfl, 2, rfl⟩, trivial⟩), .inl (.inl ⟨rfl, rfl⟩), trivial⟩
            | true =>
              rw [actR_set (z := 2) (.inr ⟨rfl, rfl⟩)]
              refine cnd_split (fun e2 => ?_) (fun e2 => ?_)
              · have e2 : (parseT c).2 = 2 := beq_iff_eq.1 e2
                rw [if_pos e2]
                refine ⟨_, rfl, ?_⟩
                refine ⟨_, rfl, ?_⟩
                refine retV rfl ?_
                exact ⟨.inl (.inr ⟨_, _, rfl, rfl, .inl ⟨rfl, rfl⟩, .inl ⟨rfl, rfl⟩, .inl ⟨rfl, rfl⟩, .inl ⟨rfl, rfl⟩, .inl ⟨rfl, rfl⟩, .inl ⟨rfl, rfl⟩, .inl ⟨rfl, rfl⟩, .inr ⟨rfl, 2, rfl⟩, trivial⟩), .inl (.inl ⟨rfl, rfl⟩), trivial⟩
              have e2 : (parseT c).2 ≠ 2 := beq_eq_false_iff_ne.1 e2
              rw [if_neg e2]
              refine cnd_split (fun e3 => ?_) (fun e3 => ?_)
              · have e3 : (parseT c).2 ≠ 0 := by simpa using e3
                rw [if_pos e3]
                refine ⟨_, rfl, ?_⟩
                refine ⟨_, rfl, ?_⟩
                refine retV rfl ?_
                exact ⟨.inl (.inr ⟨_, _, rfl, rfl, .inl ⟨rfl, rfl⟩, .inl ⟨rfl, rfl⟩, .inl ⟨rfl, rfl⟩, .inl ⟨rfl, rfl⟩, .inl ⟨rfl, rfl⟩, .inl ⟨rfl, rfl⟩, .inl ⟨rfl, rfl⟩, .inr ⟨rfl, 2, rfl⟩, trivial⟩), .inl (.inl ⟨rfl, rfl⟩), trivial⟩
              have e3 : (parseT c).2 = 0 := by simpa using e3
              rw [if_neg (fun h => h e3)]
              refine ⟨_, rfl, ?_⟩
              refine .p rfl (rcheck32_p (⟨sd, gk, ga, gb, 2, b, ⟨#[]⟩, (parseT c).1⟩ : Rl) ⟨h1, h2, hb, by show 0 ≤ 100000; omega, by show (parseT c).1.length ≤ 1000; omega, by show sumT (parseT c).1 ≤ 1000000; omega⟩) ?_
              refine cnd_split (fun e5 => ?_) (fun e5 => ?_)
              · have e5 : checkR (⟨sd, gk, ga, gb, 2, b, ⟨#[]⟩, (parseT c).1⟩ : Rl) ≠ 0 := by simpa using e5
                have e6 : finR (⟨sd, gk, ga, gb, 2, b, ⟨#[]⟩, (parseT c).1⟩ : Rl) = (zeroR, 9) := by unfold finR; rw [if_neg e5]
                rw [e6]
                refine ⟨_, rfl, ?_⟩
                refine ⟨_, rfl, ?_⟩
                refine retV rfl ?_
                exact ⟨.inl (.inr ⟨_, _, rfl, rfl, .inl ⟨rfl, rfl⟩, .inl ⟨rfl, rfl⟩, .inl ⟨rfl, rfl⟩, .inl ⟨rfl, rfl⟩, .inl ⟨rfl, rfl⟩, .inl ⟨rfl, rfl⟩, .inl ⟨rfl, rfl⟩, .inr ⟨rfl, 2, rfl⟩, trivial⟩), .inl (.inl ⟨rfl, rfl⟩), trivial⟩
              · have e5 : checkR (⟨sd, gk, ga, gb, 2, b, ⟨#[]⟩, (parseT c).1⟩ : Rl) = 0 := by simpa using e5
                have e6 : finR (⟨sd, gk, ga, gb, 2, b, ⟨#[]⟩, (parseT c).1⟩ : Rl) = ((⟨sd, gk, ga, gb, 2, b, ⟨#[]⟩, (parseT c).1⟩ : Rl), 0) := by unfold finR; rw [if_pos e5]
                rw [e6]
                refine ⟨_, rfl, ?_⟩
                refine ⟨_, rfl, ?_⟩
                refine ⟨_, rfl, ?_⟩
                refine retV rfl ?_
                exact ⟨.inl (.inl ⟨rfl, rfl⟩), .inl (.inl ⟨rfl, rfl⟩), trivial⟩
        | false =>
          have n2 : a ≠ kAdd := fun e => by cases ht2.2 e
          intro t3 ht3
          cases t3 with
          | true =>
            obtain rfl : a = kRem := ht3.1 rfl
            refine ⟨_, rfl, ?_⟩
            refine .p rfl (hsp kNN (by omega) (by decide)) ?_
            cases hsh : shapeB ((kRem, false) :: (b, q2) :: r) kNN with
            | false =>
              rw [bad (by
                show tailL sd (gk, ga, gb) kRem ((b, q2) :: r) = none
                cases ht : tailL sd (gk, ga, gb) kRem ((b, q2) :: r) with
                | none => rfl
                | some x => rw [rem_shape ht] at hsh; cases hsh)]
              refine ⟨_, rfl, ?_⟩
              refine ⟨_, rfl, ?_⟩
              refine retV rfl ?_
              exact ⟨.inl (.inr ⟨_, _, rfl, rfl, .inl ⟨rfl, rfl⟩, .inl ⟨rfl, rfl⟩, .inl ⟨rfl, rfl⟩, .inl ⟨rfl, rfl⟩, .inl ⟨rfl, rfl⟩, .inl ⟨rfl, rfl⟩, .inl ⟨rfl, rfl⟩, .inr ⟨rfl, 2, rfl⟩, trivial⟩), .inl (.inl ⟨rfl, rfl⟩), trivial⟩
            | true =>
              obtain ⟨_, _, e9⟩ := (nn_iff _).1 hsh
              simp only [List.cons.injEq, Prod.mk.injEq] at e9
              obtain ⟨-, ⟨-, rfl⟩, rfl⟩ := e9
              cases ok with
              | false =>
                rw [hok rfl]
                refine ⟨_, rfl, ?_⟩
                refine ⟨_, rfl, ?_⟩
                refine retV rfl ?_
                exact ⟨.inl (.inr ⟨_, _, rfl, rfl, .inl ⟨rfl, rfl⟩, .inl ⟨rfl, rfl⟩, .inl ⟨rfl, rfl⟩, .inl ⟨rfl, rfl⟩, .inl ⟨rfl, rfl⟩, .inl ⟨rfl, rfl⟩, .inl ⟨rfl, rfl⟩, .inr ⟨rfl, 2, rfl⟩, trivial⟩), .inl (.inl ⟨rfl, rfl⟩), trivial⟩
              | true =>
                rw [actR_rem]
                refine ⟨_, rfl, ?_⟩
                refine .p rfl (rcheck32_p (⟨sd, gk, ga, gb, 3, b, ⟨#[]⟩, []⟩ : Rl) ⟨h1, h2, hb, by show 0 ≤ 100000; omega, by show 0 ≤ 1000; omega, by show 0 ≤ 1000000; omega⟩) ?_
                refine cnd_split (fun e5 => ?_) (fun e5 => ?_)
                · have e5 : checkR (⟨sd, gk, ga, gb, 3, b, ⟨#[]⟩, []⟩ : Rl) ≠ 0 := by simpa using e5
                  have e6 : finR (⟨sd, gk, ga, gb, 3, b, ⟨#[]⟩, []⟩ : Rl) = (zeroR, 9) := by unfold finR; rw [if_neg e5]
                  rw [e6]
                  refine ⟨_, rfl, ?_⟩
                  refine ⟨_, rfl, ?_⟩
                  refine retV rfl ?_
                  exact ⟨.inl (.inr ⟨_, _, rfl, rfl, .inl ⟨rfl, rfl⟩, .inl ⟨rfl, rfl⟩, .inl ⟨rfl, rfl⟩, .inl ⟨rfl, rfl⟩, .inl ⟨rfl, rfl⟩, .inl ⟨rfl, rfl⟩, .inl ⟨rfl, rfl⟩, .inr ⟨rfl, 2, rfl⟩, trivial⟩), .inl (.inl ⟨rfl, rfl⟩), trivial⟩
                · have e5 : checkR (⟨sd, gk, ga, gb, 3, b, ⟨#[]⟩, []⟩ : Rl) = 0 := by simpa using e5
                  have e6 : finR (⟨sd, gk, ga, gb, 3, b, ⟨#[]⟩, []⟩ : Rl) = ((⟨sd, gk, ga, gb, 3, b, ⟨#[]⟩, []⟩ : Rl), 0) := by unfold finR; rw [if_pos e5]
                  rw [e6]
                  refine ⟨_, rfl, ?_⟩
                  refine ⟨_, rfl, ?_⟩
                  refine ⟨_, rfl, ?_⟩
                  refine retV rfl ?_
                  exact ⟨.inl (.inl ⟨rfl, rfl⟩), .inl (.inl ⟨rfl, rfl⟩), trivial⟩
          | false =>
            have n3 : a ≠ kRem := fun e => by cases ht3.2 e
            intro t4 ht4
            cases t4 with
            | true =>
              obtain rfl : a = kRen := ht4.1 rfl
              refine ⟨_, rfl, ?_⟩
              refine .p rfl (hsp kNNN (by omega) (by decide)) ?_
              cases hsh : shapeB ((kRen, false) :: (b, q2) :: r) kNNN with
              | false =>
                rw [bad (by
                  show tailL sd (gk, ga, gb) kRen ((b, q2) :: r) = none
                  cases ht : tailL sd (gk, ga, gb) kRen ((b, q2) :: r) with
                  | none => rfl
                  | some x => rw [ren_shape ht] at hsh; cases hsh)]
                refine ⟨_, rfl, ?_⟩
                refine ⟨_, rfl, ?_⟩
                refine retV rfl ?_
                exact ⟨.inl (.inr ⟨_, _, rfl, rfl, .inl ⟨rfl, rfl⟩, .inl ⟨rfl, rfl⟩, .inl ⟨rfl, rfl⟩, .inl ⟨rfl, rfl⟩, .inl ⟨rfl, rfl⟩, .inl ⟨rfl, rfl⟩, .inl ⟨rfl, rfl⟩, .inr ⟨rfl, 2, rfl⟩, trivial⟩), .inl (.inl ⟨rfl, rfl⟩), trivial⟩
              | true =>
                obtain ⟨_, _, c, e9⟩ := (nnn_iff _).1 hsh
                simp only [List.cons.injEq, Prod.mk.injEq] at e9
                obtain ⟨-, ⟨-, rfl⟩, rfl⟩ := e9
                have hc : c.size ≤ 100000 := hz (c, false) (by simp)
                refine ⟨2, _, rfl, rfl, ?_⟩
                refine ⟨_, rfl, ?_⟩
                cases ok with
                | false =>
                  rw [hok rfl]
                  refine ⟨_, rfl, ?_⟩
                  refine ⟨_, rfl, ?_⟩
                  refine retV rfl ?_
                  exact ⟨.inl (.inr ⟨_, _, rfl, rfl, .inl ⟨rfl, rfl⟩, .inl ⟨rfl, rfl⟩, .inl ⟨rfl, rfl⟩, .inl ⟨rfl, rfl⟩, .inl ⟨rfl, rfl⟩, .inl ⟨rfl, rfl⟩, .inl ⟨rfl, rfl⟩, .inr ⟨rfl, 2, rfl⟩, trivial⟩), .inl (.inl ⟨rfl, rfl⟩), trivial⟩
                | true =>
                  rw [actR_ren]
                  refine ⟨_, rfl, ?_⟩
                  refine .p rfl (rcheck32_p (⟨sd, gk, ga, gb, 4, b, c, []⟩ : Rl) ⟨h1, h2, hb, hc, by show 0 ≤ 1000; omega, by show 0 ≤ 1000000; omega⟩) ?_
                  refine cnd_split (fun e5 => ?_) (fun e5 => ?_)
                  · have e5 : checkR (⟨sd, gk, ga, gb, 4, b, c, []⟩ : Rl) ≠ 0 := by simpa using e5
                    have e6 : finR (⟨sd, gk, ga, gb, 4, b, c, []⟩ : Rl) = (zeroR, 9) := by unfold finR; rw [if_neg e5]
                    rw [e6]
                    refine ⟨_, rfl, ?_⟩
                    refine ⟨_, rfl, ?_⟩
                    refine retV rfl ?_
                    exact ⟨.inl (.inr ⟨_, _, rfl, rfl, .inl ⟨rfl, rfl⟩, .inl ⟨rfl, rfl⟩, .inl ⟨rfl, rfl⟩, .inl ⟨rfl, rfl⟩, .inl ⟨rfl, rfl⟩, .inl ⟨rfl, rfl⟩, .inl ⟨rfl, rfl⟩, .inr ⟨rfl, 2, rfl⟩, trivial⟩), .inl (.inl ⟨rfl, rfl⟩), trivial⟩
                  · have e5 : checkR (⟨sd, gk, ga, gb, 4, b, c, []⟩ : Rl) = 0 := by simpa using e5
                    have e6 : finR (⟨sd, gk, ga, gb, 4, b, c, []⟩ : Rl) = ((⟨sd, gk, ga, gb, 4, b, c, []⟩ : Rl), 0) := by unfold finR; rw [if_pos e5]
                    rw [e6]
                    refine ⟨_, rfl, ?_⟩
                    refine ⟨_, rfl, ?_⟩
                    refine ⟨_, rfl, ?_⟩
                    refine retV rfl ?_
                    exact ⟨.inl (.inl ⟨rfl, rfl⟩), .inl (.inl ⟨rfl, rfl⟩), trivial⟩
            | false =>
              have n4 : a ≠ kRen := fun e => by cases ht4.2 e
              rw [bad (other_act n1 n2 n3 n4)]
              refine ⟨_, rfl, ?_⟩
              refine ⟨_, rfl, ?_⟩
              refine retV rfl ?_
              exact ⟨.inl (.inr ⟨_, _, rfl, rfl, .inl ⟨rfl, rfl⟩, .inl ⟨rfl, rfl⟩, .inl ⟨rfl, rfl⟩, .inl ⟨rfl, rfl⟩, .inl ⟨rfl, rfl⟩, .inl ⟨rfl, rfl⟩, .inl ⟨rfl, rfl⟩, .inr ⟨rfl, 2, rfl⟩, trivial⟩), .inl (.inl ⟨rfl, rfl⟩), trivial⟩
theorem wordS_size {s t : ByteArray} {k e : Nat} (hk : k ≤ s.size) (h : wordS s k = some (t, e)) : t.size ≤ s.size := by
  by_cases h0 : tw tokI s k = 0
  · rw [wordS_no h0] at h
    cases hf : frontS s k with
    | none => rw [hf] at h; cases h
    | some x =>
      rw [hf] at h
      obtain ⟨v, i⟩ := x
      cases h
      unfold frontS at hf
      split at hf
      · have := frontW_le _ _ _ _ _ rfl hf
        show (List.toArray v).size ≤ _
        rw [List.size_toArray]
        have h9 : ([] : List UInt8).length = 0 := rfl
        omega
      · cases hf
  · rw [wordS_tok h0] at h
    cases h
    rw [ByteArray.size_extract]
    omega
theorem words_size {s : ByteArray} : ∀ (z k : Nat), s.size - k = z → k ≤ s.size → (wordsW s k).1.length ≤ z ∧ ∀ w ∈ (wordsW s k).1, w.1.size ≤ s.size := by
  intro z
  induction z using Nat.strongRecOn with
  | _ z ih =>
    intro k hz hk
    by_cases hlt : k < s.size
    · cases hs : wordS s k with
      | none => rw [wordsW_none hlt hs]; exact ⟨Nat.zero_le _, fun w hw => by cases hw⟩
      | some x =>
        obtain ⟨t, e⟩ := x
        have l1 := wordS_le hk hs
        have h1 := wordS_size hk hs
        cases hg : gapS s e with
        | none =>
          rw [wordsW_gap hlt hs hg]
          refine ⟨by show 1 ≤ z; omega, fun w hw => ?_⟩
          simp at hw
          subst hw
          exact h1
        | some j =>
          have l2 := gapS_le l1.2 hg
          rw [wordsW_some hlt hs hg]
          obtain ⟨i1, i2⟩ := ih (s.size - j) (by omega) j rfl l2.2
          refine ⟨by rw [List.length_cons]; omega, fun w hw => ?_⟩
          rcases List.mem_cons.1 hw with hw | hw
          · subst hw; exact h1
          · exact i2 w hw
    · rw [wordsW_end (by omega)]
      exact ⟨Nat.zero_le _, fun w hw => by cases hw⟩
theorem wordsR_size (s : ByteArray) : (wordsR s).1.length ≤ s.size ∧ ∀ w ∈ (wordsR s).1, w.1.size ≤ s.size := by
  have := tw_le blkI s 0 (Nat.zero_le _)
  obtain ⟨h1, h2⟩ := words_size (s := s) _ (tw blkI s 0) rfl (by omega)
  exact ⟨by unfold wordsR; omega, h2⟩
def readL (l : List Wd) (ok : Bool) : Rl × Int := if ok = true then outR (ruleL l) else (zeroR, 2)
theorem readL_none {l : List Wd} {ok : Bool} (h : ruleL l = none) : readL l ok = (zeroR, 2) := by
  unfold readL
  split
  · rw [h]; rfl
  · rfl
def gd0 : Gd := (0, ⟨#[]⟩, ⟨#[]⟩)
theorem ruleL_bad {a : ByteArray} {l : List Wd} (h1 : a ≠ kReq) (h2 : a ≠ kRes) : ruleL ((a, false) :: l) = none := by
  unfold ruleL sideL
  simp [nameL, h1, h2]
theorem side_is {a : ByteArray} {sd : Int} (h : a = kReq ∧ sd = 1 ∨ a = kRes ∧ sd = 2) (l : List Wd) : sideL ((a, false) :: l) = some (sd, l) := by
  have n1 : kRes ≠ kReq := by decide +kernel
  rcases h with ⟨rfl, rfl⟩ | ⟨rfl, rfl⟩
  · simp [sideL, nameL]
  · simp [sideL, nameL, n1]
theorem readL_act {a w : ByteArray} {sd : Int} {r : List Wd} {ok : Bool} (h : a = kReq ∧ sd = 1 ∨ a = kRes ∧ sd = 2) (hw : w ≠ kIf) : readL ((a, false) :: (w, false) :: r) ok = actR sd gd0 ((w, false) :: r) ok := by
  unfold readL actR ruleL
  rw [side_is h]
  simp only [nameL]
  rw [if_neg hw]
  rfl
theorem tl2_nameL {sd : Int} {g : Gd} {l : List Wd} : (match nameL l with | none => none | some (w, k) => tailL sd g w k) = tl2 sd g l := by
  match l with
  | [] => rfl
  | (w, true) :: r => rfl
  | (w, false) :: r => rfl
theorem readL_if {a : ByteArray} {sd : Int} {r : List Wd} {ok : Bool} (h : a = kReq ∧ sd = 1 ∨ a = kRes ∧ sd = 2) : readL ((a, false) :: (kIf, false) :: r) ok = match guardL r with
    | none => (zeroR, 2)
    | some (g, k) => actR sd g k ok := by
  have e : ruleL ((a, false) :: (kIf, false) :: r) = match guardL r with
      | none => none
      | some (g, k) => tl2 sd g k := by
    unfold ruleL
    rw [side_is h]
    simp only [nameL, if_true]
    cases guardL r with
    | none => rfl
    | some x => exact tl2_nameL
  unfold readL actR
  rw [e]
  cases guardL r with
  | none => split <;> rfl
  | some x => rfl
theorem guardL_has {n : ByteArray} {r : List Wd} : guardL ((kHas, false) :: (n, false) :: r) = some ((1, n, ⟨#[]⟩), r) := by simp [guardL, nameL]
theorem guardL_lacks {n : ByteArray} {r : List Wd} : guardL ((kLacks, false) :: (n, false) :: r) = some ((2, n, ⟨#[]⟩), r) := by
  have n1 : kLacks ≠ kHas := by decide +kernel
  simp [guardL, nameL, n1]
theorem guardL_is {n v : ByteArray} {q : Bool} {r : List Wd} : guardL ((kIs, false) :: (n, false) :: (v, q) :: r) = if q = true then some ((3, n, v), r) else none := by
  have n2 : kIs ≠ kHas := by decide +kernel
  have n3 : kIs ≠ kLacks := by decide +kernel
  cases q <;> simp [guardL, nameL, valueL, n2, n3]
theorem guardL_other {w n : ByteArray} {r : List Wd} (h1 : w ≠ kHas) (h2 : w ≠ kLacks) (h3 : w ≠ kIs) : guardL ((w, false) :: (n, false) :: r) = none := by simp [guardL, nameL, h1, h2, h3]
theorem drop_wdL (l : List Wd) (n : Nat) : ((wdL l).drop n).take ((wdL l).length - n) = wdL (l.drop n) := by
  rw [List.take_of_length_le (by simp)]
  unfold wdL
  rw [List.map_drop]
theorem side_rest {x : Wd} {r i : List Wd} {sd : Int} (h : sideL (x :: r) = some (sd, i)) : i = r := by
  obtain ⟨a, q⟩ := x
  cases q with
  | true => cases h
  | false =>
    unfold sideL at h
    simp only [nameL] at h
    split at h
    · cases h; rfl
    · split at h
      · cases h; rfl
      · cases h
theorem ruleL_short {l : List Wd} (h : l.length < 3) : ruleL l = none := by
  match l, h with
  | [], _ => rfl
  | x :: r, h =>
    unfold ruleL
    cases hs : sideL (x :: r) with
    | none => rfl
    | some y =>
      obtain ⟨sd, i⟩ := y
      obtain rfl := side_rest hs
      match i, h with
      | [], _ => rfl
      | [(w, true)], _ => rfl
      | [(w, false)], _ =>
        simp only [nameL]
        split <;> rfl
theorem guard_short {c : Wd} {r : List Wd} {sd : Int} {ok : Bool} (h : r.length < 2) : (match guardL (c :: r) with | none => (zeroR, 2) | some (g, k) => actR sd g k ok) = (zeroR, 2) := by
  have key : ∀ g k, guardL (c :: r) = some (g, k) → k = [] := by
    intro g k hg
    obtain ⟨w, q⟩ := c
    cases q with
    | true => cases hg
    | false =>
      match r, h with
      | [], _ => cases hg
      | [(n, true)], _ => cases hg
      | [(n, false)], _ =>
        unfold guardL at hg
        simp only [nameL, valueL] at hg
        split at hg
        · cases hg; rfl
        · split at hg
          · cases hg; rfl
          · split at hg
            · cases hg
            · cases hg
  cases hg : guardL (c :: r) with
  | none => rfl
  | some x =>
    obtain ⟨g, k⟩ := x
    obtain rfl := key g k hg
    show actR sd g [] ok = _
    unfold actR
    split <;> rfl
set_option maxHeartbeats 1000000 in
theorem parse33_p (s : ByteArray) (hs : s.size ≤ 100000) : APure Tryz.prog 20 [.s s] (.tup [(readRl s).1.av, .i (readRl s).2]) [] := by
  have hW := words33_p s (by omega)
  obtain ⟨z1, z2⟩ := wordsR_size s
  rw [readRl_L]
  show APure _ _ _ (.tup [(readL (wordsR s).1 (wordsR s).2).1.av, .i (readL (wordsR s).1 (wordsR s).2).2]) []
  generalize (wordsR s).1 = l at *
  generalize (wordsR s).2 = ok at *
  have hwl := wdL_len l
  refine APure.ofG rfl ?_
  refine ACalls.of_vc T_ok mixed Tryz.func20 rfl Tryz.call20 ?_
  refine .p rfl hW ?_
  refine ⟨_, rfl, ?_⟩
  match l, z1, z2, hwl with
  | [], _, _, _ =>
    rw [readL_none rfl]
    refine ⟨_, rfl, ?_⟩
    refine ⟨_, rfl, ?_⟩
    refine retV rfl ?_
    exact ⟨.inl (.inr ⟨_, _, rfl, rfl, .inl ⟨rfl, rfl⟩, .inl ⟨rfl, rfl⟩, .inl ⟨rfl, rfl⟩, .inl ⟨rfl, rfl⟩, .inl ⟨rfl, rfl⟩, .inl ⟨rfl, rfl⟩, .inl ⟨rfl, rfl⟩, .inr ⟨rfl, 2, rfl⟩, trivial⟩), .inl (.inl ⟨rfl, rfl⟩), trivial⟩
  | [x], _, _, _ =>
    rw [readL_none (ruleL_short (by show 1 < 3; omega))]
    refine ⟨_, rfl, ?_⟩
    refine ⟨_, rfl, ?_⟩
    refine retV rfl ?_
    exact ⟨.inl (.inr ⟨_, _, rfl, rfl, .inl ⟨rfl, rfl⟩, .inl ⟨rfl, rfl⟩, .inl ⟨rfl, rfl⟩, .inl ⟨rfl, rfl⟩, .inl ⟨rfl, rfl⟩, .inl ⟨rfl, rfl⟩, .inl ⟨rfl, rfl⟩, .inr ⟨rfl, 2, rfl⟩, trivial⟩), .inl (.inl ⟨rfl, rfl⟩), trivial⟩
  | [x, y], _, _, _ =>
    rw [readL_none (ruleL_short (by show 2 < 3; omega))]
    refine ⟨_, rfl, ?_⟩
    refine ⟨_, rfl, ?_⟩
    refine retV rfl ?_
    exact ⟨.inl (.inr ⟨_, _, rfl, rfl, .inl ⟨rfl, rfl⟩, .inl ⟨rfl, rfl⟩, .inl ⟨rfl, rfl⟩, .inl ⟨rfl, rfl⟩, .inl ⟨rfl, rfl⟩, .inl ⟨rfl, rfl⟩, .inl ⟨rfl, rfl⟩, .inr ⟨rfl, 2, rfl⟩, trivial⟩), .inl (.inl ⟨rfl, rfl⟩), trivial⟩
  | (a, q1) :: (w, q2) :: (c, q3) :: r, z1, z2, hwl =>
    refine ⟨0, _, rfl, rfl, ?_⟩
    cases q1 with
    | true =>
      rw [readL_none rfl]
      refine ⟨_, rfl, ?_⟩
      refine ⟨_, rfl, ?_⟩
      refine retV rfl ?_
      exact ⟨.inl (.inr ⟨_, _, rfl, rfl, .inl ⟨rfl, rfl⟩, .inl ⟨rfl, rfl⟩, .inl ⟨rfl, rfl⟩, .inl ⟨rfl, rfl⟩, .inl ⟨rfl, rfl⟩, .inl ⟨rfl, rfl⟩, .inl ⟨rfl, rfl⟩, .inr ⟨rfl, 2, rfl⟩, trivial⟩), .inl (.inl ⟨rfl, rfl⟩), trivial⟩
    | false =>
    refine ⟨1, _, rfl, rfl, ?_⟩
    cases q2 with
    | true =>
      have e9 : ruleL ((a, false) :: (w, true) :: (c, q3) :: r) = none := by
        unfold ruleL
        cases hs9 : sideL ((a, false) :: (w, true) :: (c, q3) :: r) with
        | none => rfl
        | some y =>
          obtain ⟨sd, i⟩ := y
          obtain rfl := side_rest hs9
          rfl
      rw [readL_none e9]
      refine ⟨_, rfl, ?_⟩
      refine ⟨_, rfl, ?_⟩
      refine retV rfl ?_
      exact ⟨.inl (.inr ⟨_, _, rfl, rfl, .inl ⟨rfl, rfl⟩, .inl ⟨rfl, rfl⟩, .inl ⟨rfl, rfl⟩, .inl ⟨rfl, rfl⟩, .inl ⟨rfl, rfl⟩, .inl ⟨rfl, rfl⟩, .inl ⟨rfl, rfl⟩, .inr ⟨rfl, 2, rfl⟩, trivial⟩), .inl (.inl ⟨rfl, rfl⟩), trivial⟩
    | false =>
    refine ⟨0, _, rfl, rfl, ?_⟩
    intro t1 ht1
    cases t1 with
    | true =>
      obtain rfl : a = kReq := ht1.1 rfl
      refine ⟨_, rfl, ?_⟩
      refine ⟨1, rfl, by simp only [List.length_cons] at hwl; omega, Nat.le_refl _, ?_⟩
      refine ⟨1, _, rfl, rfl, ?_⟩
      intro t3 ht3
      cases t3 with
      | false =>
        have n3 : w ≠ kIf := fun e => by cases ht3.2 e
        rw [readL_act (.inl ⟨rfl, rfl⟩) n3]
        refine ⟨_, rfl, ?_⟩
        refine .w (args' := [(base0 1 gd0).av, .sl .no 2 (wdL ((w, false) :: (c, q3) :: r)), .b ok]) rfl ⟨.inl (.inr ⟨_, _, rfl, rfl, ⟨.inl ⟨rfl, rfl⟩, .inl ⟨rfl, rfl⟩, .inl ⟨rfl, rfl⟩, .inl ⟨rfl, rfl⟩, .inl ⟨rfl, rfl⟩, .inl ⟨rfl, rfl⟩, .inl ⟨rfl, rfl⟩, .inr ⟨rfl, 2, rfl⟩, trivial⟩⟩), .inl (.inl ⟨congrArg (AV.sl .no 2) (drop_wdL ((kReq, false) :: (w, false) :: (c, q3) :: r) 1).symm, rfl⟩), .inl (.inl ⟨rfl, rfl⟩), trivial⟩ (act33_p 1 gd0 ((w, false) :: (c, q3) :: r) ok (by simp only [List.length_cons] at z1 ⊢; omega) (fun w9 hw9 => Nat.le_trans (z2 w9 (List.mem_of_mem_drop (i := 1) hw9)) hs) (by exact Nat.zero_le _) (by exact Nat.zero_le _)) ?_
        refine ⟨_, rfl, ?_⟩
        refine ⟨_, rfl, ?_⟩
        refine retV rfl ?_
        exact ⟨.inl (.inl ⟨rfl, rfl⟩), .inl (.inl ⟨rfl, rfl⟩), trivial⟩
      | true =>
      obtain rfl : w = kIf := ht3.1 rfl
      rw [readL_if (.inl ⟨rfl, rfl⟩)]
      match r, z1, z2, hwl with
      | [], _, _, _ =>
        rw [guard_short (by show 0 < 2; omega)]
        refine ⟨_, rfl, ?_⟩
        refine ⟨_, rfl, ?_⟩
        refine retV rfl ?_
        exact ⟨.inl (.inr ⟨_, _, rfl, rfl, .inl ⟨rfl, rfl⟩, .inl ⟨rfl, rfl⟩, .inl ⟨rfl, rfl⟩, .inl ⟨rfl, rfl⟩, .inl ⟨rfl, rfl⟩, .inl ⟨rfl, rfl⟩, .inl ⟨rfl, rfl⟩, .inr ⟨rfl, 2, rfl⟩, trivial⟩), .inl (.inl ⟨rfl, rfl⟩), trivial⟩
      | [_], _, _, _ =>
        rw [guard_short (by show 1 < 2; omega)]
        refine ⟨_, rfl, ?_⟩
        refine ⟨_, rfl, ?_⟩
        refine retV rfl ?_
        exact ⟨.inl (.inr ⟨_, _, rfl, rfl, .inl ⟨rfl, rfl⟩, .inl ⟨rfl, rfl⟩, .inl ⟨rfl, rfl⟩, .inl ⟨rfl, rfl⟩, .inl ⟨rfl, rfl⟩, .inl ⟨rfl, rfl⟩, .inl ⟨rfl, rfl⟩, .inr ⟨rfl, 2, rfl⟩, trivial⟩), .inl (.inl ⟨rfl, rfl⟩), trivial⟩
      | (n, qn) :: (v, qv) :: r, z1, z2, hwl =>
      have hn : n.size ≤ s.size := z2 (n, qn) (by simp)
      have hv : v.size ≤ s.size := z2 (v, qv) (by simp)
      refine ⟨2, _, rfl, rfl, ?_⟩
      cases q3 with
      | true =>
        have e9 : guardL ((c, true) :: (n, qn) :: (v, qv) :: r) = none := rfl
        simp only [e9]
        refine ⟨_, rfl, ?_⟩
        refine ⟨_, rfl, ?_⟩
        refine retV rfl ?_
        exact ⟨.inl (.inr ⟨_, _, rfl, rfl, .inl ⟨rfl, rfl⟩, .inl ⟨rfl, rfl⟩, .inl ⟨rfl, rfl⟩, .inl ⟨rfl, rfl⟩, .inl ⟨rfl, rfl⟩, .inl ⟨rfl, rfl⟩, .inl ⟨rfl, rfl⟩, .inr ⟨rfl, 2, rfl⟩, trivial⟩), .inl (.inl ⟨rfl, rfl⟩), trivial⟩
      | false =>
      refine ⟨3, _, rfl, rfl, ?_⟩
      cases qn with
      | true =>
        have e9 : guardL ((c, false) :: (n, true) :: (v, qv) :: r) = none := rfl
        simp only [e9]
        refine ⟨_, rfl, ?_⟩
        refine ⟨_, rfl, ?_⟩
        refine retV rfl ?_
        exact ⟨.inl (.inr ⟨_, _, rfl, rfl, .inl ⟨rfl, rfl⟩, .inl ⟨rfl, rfl⟩, .inl ⟨rfl, rfl⟩, .inl ⟨rfl, rfl⟩, .inl ⟨rfl, rfl⟩, .inl ⟨rfl, rfl⟩, .inl ⟨rfl, rfl⟩, .inr ⟨rfl, 2, rfl⟩, trivial⟩), .inl (.inl ⟨rfl, rfl⟩), trivial⟩
      | false =>
      refine ⟨3, _, rfl, rfl, ?_⟩
      refine ⟨_, rfl, ?_⟩
      refine ⟨4, rfl, by simp only [List.length_cons] at hwl; omega, Nat.le_refl _, ?_⟩
      refine ⟨2, _, rfl, rfl, ?_⟩
      intro t4 ht4
      cases t4 with
      | true =>
        obtain rfl : c = kHas := ht4.1 rfl
        rw [guardL_has]
        refine ⟨_, rfl, ?_⟩
        refine ⟨_, rfl, ?_⟩
        refine .w (args' := [(base0 1 (1, n, ⟨#[]⟩)).av, .sl .no 2 (wdL ((v, qv) :: r)), .b ok]) rfl ⟨.inl (.inr ⟨_, _, rfl, rfl, ⟨.inl ⟨rfl, rfl⟩, .inl ⟨rfl, rfl⟩, .inl ⟨rfl, rfl⟩, .inl ⟨rfl, rfl⟩, .inl ⟨rfl, rfl⟩, .inl ⟨rfl, rfl⟩, .inl ⟨rfl, rfl⟩, .inr ⟨rfl, 2, rfl⟩, trivial⟩⟩), .inl (.inl ⟨congrArg (AV.sl .no 2) (drop_wdL ((kReq, false) :: (kIf, false) :: (kHas, false) :: (n, false) :: (v, qv) :: r) 4).symm, rfl⟩), .inl (.inl ⟨rfl, rfl⟩), trivial⟩ (act33_p 1 (1, n, ⟨#[]⟩) ((v, qv) :: r) ok (by simp only [List.length_cons] at z1 ⊢; omega) (fun w9 hw9 => Nat.le_trans (z2 w9 (List.mem_of_mem_drop (i := 4) hw9)) hs) (by exact Nat.le_trans hn hs) (by exact Nat.zero_le _)) ?_
        refine ⟨_, rfl, ?_⟩
        refine ⟨_, rfl, ?_⟩
        refine retV rfl ?_
        exact ⟨.inl (.inl ⟨rfl, rfl⟩), .inl (.inl ⟨rfl, rfl⟩), trivial⟩
      | false =>
      have n4 : c ≠ kHas := fun e => by cases ht4.2 e
      intro t5 ht5
      cases t5 with
      | true =>
        obtain rfl : c = kLacks := ht5.1 rfl
        rw [guardL_lacks]
        refine ⟨_, rfl, ?_⟩
        refine ⟨_, rfl, ?_⟩
        refine .w (args' := [(base0 1 (2, n, ⟨#[]⟩)).av, .sl .no 2 (wdL ((v, qv) :: r)), .b ok]) rfl ⟨.inl (.inr ⟨_, _, rfl, rfl, ⟨.inl ⟨rfl, rfl⟩, .inl ⟨rfl, rfl⟩, .inl ⟨rfl, rfl⟩, .inl ⟨rfl, rfl⟩, .inl ⟨rfl, rfl⟩, .inl ⟨rfl, rfl⟩, .inl ⟨rfl, rfl⟩, .inr ⟨rfl, 2, rfl⟩, trivial⟩⟩), .inl (.inl ⟨congrArg (AV.sl .no 2) (drop_wdL ((kReq, false) :: (kIf, false) :: (kLacks, false) :: (n, false) :: (v, qv) :: r) 4).symm, rfl⟩), .inl (.inl ⟨rfl, rfl⟩), trivial⟩ (act33_p 1 (2, n, ⟨#[]⟩) ((v, qv) :: r) ok (by simp only [List.length_cons] at z1 ⊢; omega) (fun w9 hw9 => Nat.le_trans (z2 w9 (List.mem_of_mem_drop (i := 4) hw9)) hs) (by exact Nat.le_trans hn hs) (by exact Nat.zero_le _)) ?_
        refine ⟨_, rfl, ?_⟩
        refine ⟨_, rfl, ?_⟩
        refine retV rfl ?_
        exact ⟨.inl (.inl ⟨rfl, rfl⟩), .inl (.inl ⟨rfl, rfl⟩), trivial⟩
      | false =>
      have n5 : c ≠ kLacks := fun e => by cases ht5.2 e
      intro t6 ht6
      cases t6 with
      | true =>
        obtain rfl : c = kIs := ht6.1 rfl
        rw [guardL_is]
        refine ⟨4, _, rfl, rfl, ?_⟩
        cases qv with
        | false =>
          refine ⟨_, rfl, ?_⟩
          refine ⟨_, rfl, ?_⟩
          refine retV rfl ?_
          exact ⟨.inl (.inr ⟨_, _, rfl, rfl, .inl ⟨rfl, rfl⟩, .inl ⟨rfl, rfl⟩, .inl ⟨rfl, rfl⟩, .inl ⟨rfl, rfl⟩, .inl ⟨rfl, rfl⟩, .inl ⟨rfl, rfl⟩, .inl ⟨rfl, rfl⟩, .inr ⟨rfl, 2, rfl⟩, trivial⟩), .inl (.inl ⟨rfl, rfl⟩), trivial⟩
        | true =>
        refine ⟨_, rfl, ?_⟩
        refine ⟨4, _, rfl, rfl, ?_⟩
        refine ⟨_, rfl, ?_⟩
        refine ⟨5, rfl, by simp only [List.length_cons] at hwl; omega, Nat.le_refl _, ?_⟩
        refine ⟨_, rfl, ?_⟩
        refine .w (args' := [(base0 1 (3, n, v)).av, .sl .no 2 (wdL r), .b ok]) rfl ⟨.inl (.inr ⟨_, _, rfl, rfl, ⟨.inl ⟨rfl, rfl⟩, .inl ⟨rfl, rfl⟩, .inl ⟨rfl, rfl⟩, .inl ⟨rfl, rfl⟩, .inl ⟨rfl, rfl⟩, .inl ⟨rfl, rfl⟩, .inl ⟨rfl, rfl⟩, .inr ⟨rfl, 2, rfl⟩, trivial⟩⟩), .inl (.inl ⟨congrArg (AV.sl .no 2) (drop_wdL ((kReq, false) :: (kIf, false) :: (kIs, false) :: (n, false) :: (v, true) :: r) 5).symm, rfl⟩), .inl (.inl ⟨rfl, rfl⟩), trivial⟩ (act33_p 1 (3, n, v) r ok (by simp only [List.length_cons] at z1 ⊢; omega) (fun w9 hw9 => Nat.le_trans (z2 w9 (List.mem_of_mem_drop (i := 5) hw9)) hs) (by exact Nat.le_trans hn hs) (by exact Nat.le_trans hv hs)) ?_
        refine ⟨_, rfl, ?_⟩
        refine ⟨_, rfl, ?_⟩
        refine retV rfl ?_
        exact ⟨.inl (.inl ⟨rfl, rfl⟩), .inl (.inl ⟨rfl, rfl⟩), trivial⟩
      | false =>
      have n6 : c ≠ kIs := fun e => by cases ht6.2 e
      rw [guardL_other n4 n5 n6]
      refine ⟨_, rfl, ?_⟩
      refine ⟨_, rfl, ?_⟩
      refine retV rfl ?_
      exact ⟨.inl (.inr ⟨_, _, rfl, rfl, .inl ⟨rfl, rfl⟩, .inl ⟨rfl, rfl⟩, .inl ⟨rfl, rfl⟩, .inl ⟨rfl, rfl⟩, .inl ⟨rfl, rfl⟩, .inl ⟨rfl, rfl⟩, .inl ⟨rfl, rfl⟩, .inr ⟨rfl, 2, rfl⟩, trivial⟩), .inl (.inl ⟨rfl, rfl⟩), trivial⟩
    | false =>
    have n1 : a ≠ kReq := fun e => by cases ht1.2 e
    intro t2 ht2
    cases t2 with
    | true =>
      obtain rfl : a = kRes := ht2.1 rfl
      refine ⟨_, rfl, ?_⟩
      refine ⟨1, rfl, by simp only [List.length_cons] at hwl; omega, Nat.le_refl _, ?_⟩
      refine ⟨1, _, rfl, rfl, ?_⟩
      intro t3 ht3
      cases t3 with
      | false =>
        have n3 : w ≠ kIf := fun e => by cases ht3.2 e
        rw [readL_act (.inr ⟨rfl, rfl⟩) n3]
        refine ⟨_, rfl, ?_⟩
        refine .w (args' := [(base0 2 gd0).av, .sl .no 2 (wdL ((w, false) :: (c, q3) :: r)), .b ok]) rfl ⟨.inl (.inr ⟨_, _, rfl, rfl, ⟨.inl ⟨rfl, rfl⟩, .inl ⟨rfl, rfl⟩, .inl ⟨rfl, rfl⟩, .inl ⟨rfl, rfl⟩, .inl ⟨rfl, rfl⟩, .inl ⟨rfl, rfl⟩, .inl ⟨rfl, rfl⟩, .inr ⟨rfl, 2, rfl⟩, trivial⟩⟩), .inl (.inl ⟨congrArg (AV.sl .no 2) (drop_wdL ((kRes, false) :: (w, false) :: (c, q3) :: r) 1).symm, rfl⟩), .inl (.inl ⟨rfl, rfl⟩), trivial⟩ (act33_p 2 gd0 ((w, false) :: (c, q3) :: r) ok (by simp only [List.length_cons] at z1 ⊢; omega) (fun w9 hw9 => Nat.le_trans (z2 w9 (List.mem_of_mem_drop (i := 1) hw9)) hs) (by exact Nat.zero_le _) (by exact Nat.zero_le _)) ?_
        refine ⟨_, rfl, ?_⟩
        refine ⟨_, rfl, ?_⟩
        refine retV rfl ?_
        exact ⟨.inl (.inl ⟨rfl, rfl⟩), .inl (.inl ⟨rfl, rfl⟩), trivial⟩
      | true =>
      obtain rfl : w = kIf := ht3.1 rfl
      rw [readL_if (.inr ⟨rfl, rfl⟩)]
      match r, z1, z2, hwl with
      | [], _, _, _ =>
        rw [guard_short (by show 0 < 2; omega)]
        refine ⟨_, rfl, ?_⟩
        refine ⟨_, rfl, ?_⟩
        refine retV rfl ?_
        exact ⟨.inl (.inr ⟨_, _, rfl, rfl, .inl ⟨rfl, rfl⟩, .inl ⟨rfl, rfl⟩, .inl ⟨rfl, rfl⟩, .inl ⟨rfl, rfl⟩, .inl ⟨rfl, rfl⟩, .inl ⟨rfl, rfl⟩, .inl ⟨rfl, rfl⟩, .inr ⟨rfl, 2, rfl⟩, trivial⟩), .inl (.inl ⟨rfl, rfl⟩), trivial⟩
      | [_], _, _, _ =>
        rw [guard_short (by show 1 < 2; omega)]
        refine ⟨_, rfl, ?_⟩
        refine ⟨_, rfl, ?_⟩
        refine retV rfl ?_
        exact ⟨.inl (.inr ⟨_, _, rfl, rfl, .inl ⟨rfl, rfl⟩, .inl ⟨rfl, rfl⟩, .inl ⟨rfl, rfl⟩, .inl ⟨rfl, rfl⟩, .inl ⟨rfl, rfl⟩, .inl ⟨rfl, rfl⟩, .inl ⟨rfl, rfl⟩, .inr ⟨rfl, 2, rfl⟩, trivial⟩), .inl (.inl ⟨rfl, rfl⟩), trivial⟩
      | (n, qn) :: (v, qv) :: r, z1, z2, hwl =>
      have hn : n.size ≤ s.size := z2 (n, qn) (by simp)
      have hv : v.size ≤ s.size := z2 (v, qv) (by simp)
      refine ⟨2, _, rfl, rfl, ?_⟩
      cases q3 with
      | true =>
        have e9 : guardL ((c, true) :: (n, qn) :: (v, qv) :: r) = none := rfl
        simp only [e9]
        refine ⟨_, rfl, ?_⟩
        refine ⟨_, rfl, ?_⟩
        refine retV rfl ?_
        exact ⟨.inl (.inr ⟨_, _, rfl, rfl, .inl ⟨rfl, rfl⟩, .inl ⟨rfl, rfl⟩, .inl ⟨rfl, rfl⟩, .inl ⟨rfl, rfl⟩, .inl ⟨rfl, rfl⟩, .inl ⟨rfl, rfl⟩, .inl ⟨rfl, rfl⟩, .inr ⟨rfl, 2, rfl⟩, trivial⟩), .inl (.inl ⟨rfl, rfl⟩), trivial⟩
      | false =>
      refine ⟨3, _, rfl, rfl, ?_⟩
      cases qn with
      | true =>
        have e9 : guardL ((c, false) :: (n, true) :: (v, qv) :: r) = none := rfl
        simp only [e9]
        refine ⟨_, rfl, ?_⟩
        refine ⟨_, rfl, ?_⟩
        refine retV rfl ?_
        exact ⟨.inl (.inr ⟨_, _, rfl, rfl, .inl ⟨rfl, rfl⟩, .inl ⟨rfl, rfl⟩, .inl ⟨rfl, rfl⟩, .inl ⟨rfl, rfl⟩, .inl ⟨rfl, rfl⟩, .inl ⟨rfl, rfl⟩, .inl ⟨rfl, rfl⟩, .inr ⟨rfl, 2, rfl⟩, trivial⟩), .inl (.inl ⟨rfl, rfl⟩), trivial⟩
      | false =>
      refine ⟨3, _, rfl, rfl, ?_⟩
      refine ⟨_, rfl, ?_⟩
      refine ⟨4, rfl, by simp only [List.length_cons] at hwl; omega, Nat.le_refl _, ?_⟩
      refine ⟨2, _, rfl, rfl, ?_⟩
      intro t4 ht4
      cases t4 with
      | true =>
        obtain rfl : c = kHas := ht4.1 rfl
        rw [guardL_has]
        refine ⟨_, rfl, ?_⟩
        refine ⟨_, rfl, ?_⟩
        refine .w (args' := [(base0 2 (1, n, ⟨#[]⟩)).av, .sl .no 2 (wdL ((v, qv) :: r)), .b ok]) rfl ⟨.inl (.inr ⟨_, _, rfl, rfl, ⟨.inl ⟨rfl, rfl⟩, .inl ⟨rfl, rfl⟩, .inl ⟨rfl, rfl⟩, .inl ⟨rfl, rfl⟩, .inl ⟨rfl, rfl⟩, .inl ⟨rfl, rfl⟩, .inl ⟨rfl, rfl⟩, .inr ⟨rfl, 2, rfl⟩, trivial⟩⟩), .inl (.inl ⟨congrArg (AV.sl .no 2) (drop_wdL ((kRes, false) :: (kIf, false) :: (kHas, false) :: (n, false) :: (v, qv) :: r) 4).symm, rfl⟩), .inl (.inl ⟨rfl, rfl⟩), trivial⟩ (act33_p 2 (1, n, ⟨#[]⟩) ((v, qv) :: r) ok (by simp only [List.length_cons] at z1 ⊢; omega) (fun w9 hw9 => Nat.le_trans (z2 w9 (List.mem_of_mem_drop (i := 4) hw9)) hs) (by exact Nat.le_trans hn hs) (by exact Nat.zero_le _)) ?_
        refine ⟨_, rfl, ?_⟩
        refine ⟨_, rfl, ?_⟩
        refine retV rfl ?_
        exact ⟨.inl (.inl ⟨rfl, rfl⟩), .inl (.inl ⟨rfl, rfl⟩), trivial⟩
      | false =>
      have n4 : c ≠ kHas := fun e => by cases ht4.2 e
      intro t5 ht5
      cases t5 with
      | true =>
        obtain rfl : c = kLacks := ht5.1 rfl
        rw [guardL_lacks]
        refine ⟨_, rfl, ?_⟩
        refine ⟨_, rfl, ?_⟩
        refine .w (args' := [(base0 2 (2, n, ⟨#[]⟩)).av, .sl .no 2 (wdL ((v, qv) :: r)), .b ok]) rfl ⟨.inl (.inr ⟨_, _, rfl, rfl, ⟨.inl ⟨rfl, rfl⟩, .inl ⟨rfl, rfl⟩, .inl ⟨rfl, rfl⟩, .inl ⟨rfl, rfl⟩, .inl ⟨rfl, rfl⟩, .inl ⟨rfl, rfl⟩, .inl ⟨rfl, rfl⟩, .inr ⟨rfl, 2, rfl⟩, trivial⟩⟩), .inl (.inl ⟨congrArg (AV.sl .no 2) (drop_wdL ((kRes, false) :: (kIf, false) :: (kLacks, false) :: (n, false) :: (v, qv) :: r) 4).symm, rfl⟩), .inl (.inl ⟨rfl, rfl⟩), trivial⟩ (act33_p 2 (2, n, ⟨#[]⟩) ((v, qv) :: r) ok (by simp only [List.length_cons] at z1 ⊢; omega) (fun w9 hw9 => Nat.le_trans (z2 w9 (List.mem_of_mem_drop (i := 4) hw9)) hs) (by exact Nat.le_trans hn hs) (by exact Nat.zero_le _)) ?_
        refine ⟨_, rfl, ?_⟩
        refine ⟨_, rfl, ?_⟩
        refine retV rfl ?_
        exact ⟨.inl (.inl ⟨rfl, rfl⟩), .inl (.inl ⟨rfl, rfl⟩), trivial⟩
      | false =>
      have n5 : c ≠ kLacks := fun e => by cases ht5.2 e
      intro t6 ht6
      cases t6 with
      | true =>
        obtain rfl : c = kIs := ht6.1 rfl
        rw [guardL_is]
        refine ⟨4, _, rfl, rfl, ?_⟩
        cases qv with
        | false =>
          refine ⟨_, rfl, ?_⟩
          refine ⟨_, rfl, ?_⟩
          refine retV rfl ?_
          exact ⟨.inl (.inr ⟨_, _, rfl, rfl, .inl ⟨rfl, rfl⟩, .inl ⟨rfl, rfl⟩, .inl ⟨rfl, rfl⟩, .inl ⟨rfl, rfl⟩, .inl ⟨rfl, rfl⟩, .inl ⟨rfl, rfl⟩, .inl ⟨rfl, rfl⟩, .inr ⟨rfl, 2, rfl⟩, trivial⟩), .inl (.inl ⟨rfl, rfl⟩), trivial⟩
        | true =>
        refine ⟨_, rfl, ?_⟩
        refine ⟨4, _, rfl, rfl, ?_⟩
        refine ⟨_, rfl, ?_⟩
        refine ⟨5, rfl, by simp only [List.length_cons] at hwl; omega, Nat.le_refl _, ?_⟩
        refine ⟨_, rfl, ?_⟩
        refine .w (args' := [(base0 2 (3, n, v)).av, .sl .no 2 (wdL r), .b ok]) rfl ⟨.inl (.inr ⟨_, _, rfl, rfl, ⟨.inl ⟨rfl, rfl⟩, .inl ⟨rfl, rfl⟩, .inl ⟨rfl, rfl⟩, .inl ⟨rfl, rfl⟩, .inl ⟨rfl, rfl⟩, .inl ⟨rfl, rfl⟩, .inl ⟨rfl, rfl⟩, .inr ⟨rfl, 2, rfl⟩, trivial⟩⟩), .inl (.inl ⟨congrArg (AV.sl .no 2) (drop_wdL ((kRes, false) :: (kIf, false) :: (kIs, false) :: (n, false) :: (v, true) :: r) 5).symm, rfl⟩), .inl (.inl ⟨rfl, rfl⟩), trivial⟩ (act33_p 2 (3, n, v) r ok (by simp only [List.length_cons] at z1 ⊢; omega) (fun w9 hw9 => Nat.le_trans (z2 w9 (List.mem_of_mem_drop (i := 5) hw9)) hs) (by exact Nat.le_trans hn hs) (by exact Nat.le_trans hv hs)) ?_
        refine ⟨_, rfl, ?_⟩
        refine ⟨_, rfl, ?_⟩
        refine retV rfl ?_
        exact ⟨.inl (.inl ⟨rfl, rfl⟩), .inl (.inl ⟨rfl, rfl⟩), trivial⟩
      | false =>
      have n6 : c ≠ kIs := fun e => by cases ht6.2 e
      rw [guardL_other n4 n5 n6]
      refine ⟨_, rfl, ?_⟩
      refine ⟨_, rfl, ?_⟩
      refine retV rfl ?_
      exact ⟨.inl (.inr ⟨_, _, rfl, rfl, .inl ⟨rfl, rfl⟩, .inl ⟨rfl, rfl⟩, .inl ⟨rfl, rfl⟩, .inl ⟨rfl, rfl⟩, .inl ⟨rfl, rfl⟩, .inl ⟨rfl, rfl⟩, .inl ⟨rfl, rfl⟩, .inr ⟨rfl, 2, rfl⟩, trivial⟩), .inl (.inl ⟨rfl, rfl⟩), trivial⟩
    | false =>
    have n2 : a ≠ kRes := fun e => by cases ht2.2 e
    rw [readL_none (ruleL_bad n1 n2)]
    refine ⟨_, rfl, ?_⟩
    refine ⟨_, rfl, ?_⟩
    refine retV rfl ?_
    exact ⟨.inl (.inr ⟨_, _, rfl, rfl, .inl ⟨rfl, rfl⟩, .inl ⟨rfl, rfl⟩, .inl ⟨rfl, rfl⟩, .inl ⟨rfl, rfl⟩, .inl ⟨rfl, rfl⟩, .inl ⟨rfl, rfl⟩, .inl ⟨rfl, rfl⟩, .inr ⟨rfl, 2, rfl⟩, trivial⟩), .inl (.inl ⟨rfl, rfl⟩), trivial⟩
def l33 : ByteArray := ⟨#[114, 101, 113, 117, 101, 115, 116, 32, 105, 102, 32, 108, 97, 99, 107, 115, 32, 88, 45, 65, 32, 115, 101, 116, 32, 88, 45, 65, 32, 34, 118, 32, 36, 123, 104, 111, 115, 116, 125, 34]⟩
def rl33 : Rl := ⟨1, 2, ⟨#[88, 45, 65]⟩, ⟨#[]⟩, 1, ⟨#[88, 45, 65]⟩, ⟨#[]⟩, [(1, ⟨#[118, 32]⟩), (2, ⟨#[104, 111, 115, 116]⟩)]⟩
theorem read33 : readRl l33 = (rl33, 0) := by kernel_rfl
theorem zeroR_ok : zeroR.Ok := ⟨Nat.zero_le _, Nat.zero_le _, Nat.zero_le _, Nat.zero_le _, Nat.zero_le _, Nat.zero_le _⟩
theorem readRl_ok {s : ByteArray} (hs : s.size ≤ 100000) : (readRl s).1.Ok := by
  unfold readRl
  cases h : ruleS s with
  | none => exact zeroR_ok
  | some y =>
    obtain ⟨x, b⟩ := y
    have := ruleS_ok hs h
    simp only
    split
    · exact zeroR_ok
    · split
      · exact this
      · exact zeroR_ok
theorem readRl_check {s : ByteArray} (h : (readRl s).2 = 0) : checkR (readRl s).1 = 0 := by
  unfold readRl at h ⊢
  cases hr : ruleS s with
  | none => rw [hr] at h; cases h
  | some y =>
    obtain ⟨x, b⟩ := y
    rw [hr] at h
    simp only at h ⊢
    split at h
    · cases h
    · rename_i hb
      rw [if_neg hb]
      split at h
      · rename_i hc; rw [if_pos hc]; exact hc
      · rename_i hc; exact absurd h hc
theorem awake33_p : APure Tryz.prog 18 [] (.b true) [] := by
  have hp := parseP_p l33 (by decide)
  rw [read33] at hp
  have hs := rsame32_p rl33 rl33 ⟨by decide, by decide, by decide, by decide, by decide, by decide⟩ ⟨by decide, by decide, by decide, by decide, by decide, by decide⟩
  rw [decide_eq_true rfl] at hs
  refine APure.of rfl (ACalls.of_vc T_ok mixed Tryz.func18 rfl Tryz.call18 ?_)
  refine .p rfl hp ?_
  refine ⟨_, rfl, ?_⟩
  refine ⟨_, rfl, ?_⟩
  refine ⟨_, rfl, ?_⟩
  refine ⟨_, rfl, ?_⟩
  refine .w (args' := [rl33.av, rl33.av]) rfl ⟨.inl (.inr ⟨_, _, rfl, rfl, ⟨.inl ⟨rfl, rfl⟩, .inl ⟨rfl, rfl⟩, .inl ⟨rfl, rfl⟩, .inl ⟨rfl, rfl⟩, .inl ⟨rfl, rfl⟩, .inl ⟨rfl, rfl⟩, .inl ⟨rfl, rfl⟩, .inl ⟨rfl, rfl⟩, trivial⟩⟩), .inl (.inr ⟨_, _, rfl, rfl, ⟨.inl ⟨rfl, rfl⟩, .inl ⟨rfl, rfl⟩, .inl ⟨rfl, rfl⟩, .inl ⟨rfl, rfl⟩, .inl ⟨rfl, rfl⟩, .inl ⟨rfl, rfl⟩, .inl ⟨rfl, rfl⟩, .inl ⟨rfl, rfl⟩, trivial⟩⟩), trivial⟩ hs ?_
  rfl
theorem ruletextReads_p (s : ByteArray) : APure Tryz.prog 4 [.s s] (.b true) [] := by
  have hz := cut400_size s
  have hp := parseP_p (cut400 s) (by omega)
  have hd := parse33_p (cut400 s) (by omega)
  have hok := readRl_ok (s := cut400 s) (by omega)
  have hck := @readRl_check (cut400 s)
  generalize readRl (cut400 s) = X at *
  obtain ⟨x, e⟩ := X
  have hs := rsame32_p x x hok hok
  rw [decide_eq_true rfl] at hs
  have hc := rcheckR_p x hok
  have hck : e = 0 → checkR x = 0 := hck
  clear hok
  generalize checkR x = c at *
  obtain ⟨sd, gk, ga, gb, ac, nm, un, ps⟩ := x
  refine APure.of rfl (ACalls.of_vc T_ok mixed Tryz.func4 rfl Tryz.call4 ?_)
  refine .p rfl awake33_p ?_
  refine ⟨_, minI_at s.size 400, Nat.zero_le _, by split <;> omega, ?_⟩
  refine .p rfl hp ?_
  refine ⟨_, rfl, ?_⟩
  refine .p rfl hd ?_
  refine ⟨_, rfl, ?_⟩
  refine ⟨_, rfl, ?_⟩
  refine ⟨_, rfl, ?_⟩
  refine .p rfl hs ?_
  refine cnd_split (fun h => ?_) (fun h => ?_)
  case refine_2 => exact absurd rfl (beq_eq_false_iff_ne.1 h)
  refine cnd_split (fun h1 => ?_) (fun h1 => ?_)
  · rfl
  · have h0 : e = 0 := bne_eq_false_iff_eq.1 h1
    have hc0 := hck h0
    subst hc0
    refine ⟨_, rfl, ?_⟩
    refine .p rfl hc ?_
    rfl
end Go.Proofs.YtgaidgblihnldaaGreatDoor
