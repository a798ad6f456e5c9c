/- Lines of rules, as the document reads them. No statement of its own. -/
import Derived.Test.YtgaidgblihnldaaGreatDoorRz
import Derived.Test.YtgaidgblihnldaaGreatDoorRy
import Derived.Test.YtgaidgblihnldaaGreatDoorRuR
import Derived.Test.YtgaidgblihnldaaGreatDoorWo
set_option linter.unusedSimpArgs false
set_option linter.unusedVariables false
set_option maxRecDepth 100000
namespace Go.Proofs.YtgaidgblihnldaaGreatDoor
open Go.RowKit
def wdL (l : List Wd) : List (List AV) := l.map fun w => [AV.s w.1, AV.b w.2]
theorem wdL_len (l : List Wd) : (wdL l).length = l.length := by simp [wdL]
theorem wdL_app (l : List Wd) (w : Wd) : wdL l ++ [[.s w.1, .b w.2]] = wdL (l ++ [w]) := by simp [wdL]
theorem Acc.argW {n : Nat} {tk : List Nat} {sz : Nat} {a : AV} {es : List (List AV)} (h : Acc n tk sz a es) : argW a (.sl .no sz es) := by
  cases h with
  | nil => exact .inr ⟨rfl, sz, rfl⟩
  | own t e es h1 h2 => exact .inl (.inl ⟨rfl, rfl⟩)
attribute [local irreducible] vcApp
/-- what is known at the head of the words' loop -/
def WInv (s : ByteArray) (acc : List Wd) (i : Nat) : Prop :=
  (match gapS s i with
  | none => (acc, false)
  | some j => (acc ++ (wordsW s j).1, (wordsW s j).2)) = wordsR s
theorem WInv.start (s : ByteArray) : WInv s [] 0 := by
  unfold WInv
  have : gapS s 0 = some (tw blkI s 0) := by unfold gapS; rw [if_neg (fun hh => hh.2.1 rfl), Nat.zero_add]
  rw [this]
  rfl
theorem WInv.next {s : ByteArray} {acc : List Wd} {i j e : Nat} {t : ByteArray} (h : WInv s acc i) (hg : gapS s i = some j) (hj : j < s.size) (hw : wordS s j = some (t, e)) : WInv s (acc ++ [(t, atB s j 34)]) e := by
  unfold WInv at h ⊢
  rw [hg] at h
  simp only at h
  rw [← h]
  cases hg2 : gapS s e with
  | none => rw [wordsW_gap hj hw hg2]
  | some j2 =>
    rw [wordsW_some hj hw hg2]
    simp
theorem wordR_cut {s : ByteArray} {m : Nat} (hm : m ≤ s.size) : wordR (s.extract m s.size) = match wordS s m with
    | none => (⟨#[]⟩, 0)
    | some (v, j) => (v, ((j - m : Nat) : Int)) := by
  unfold wordR
  rw [cut_word s m hm]
  cases wordS s m with
  | none => rfl
  | some x => rfl
set_option maxHeartbeats 1000000 in
theorem words33_p (s : ByteArray) (hs : s.size ≤ 1000000) : APure Tryz.prog 23 [.s s] (.tup [.sl .no 2 (wdL (wordsR s).1), .b (wordsR s).2]) [] := by
  have hmx : maxLen = 9223372036854775807 := rfl
  refine APure.ofG rfl ?_
  refine ACalls.of_vc T_ok mixed Tryz.func23 rfl Tryz.call23 ?_
  refine vc_loop [4, 5] (fun g vals st' => ∃ (i : Nat) (a : AV) (acc : List Wd), i + g = s.size ∧ vals = [a, .i i] ∧ acc.length ≤ i ∧ Acc 0 st'.tk 2 a (wdL acc) ∧ WInv s acc i) s.size rfl ⟨0, _, [], by omega, rfl, Nat.le_refl _, .nil, WInv.start s⟩ ?_
  rintro g vals st1 ⟨i, a, acc, hg, rfl, hal, hA, hW⟩
  have hi : i ≤ s.size := by omega
  have hl1 := tw_le blkI s i hi
  have hlen := wdL_len acc
  generalize hes : wdL acc = es at hA hlen
  cases hA with
  | nil =>
    refine vc_loopx 2 [5] (fun g vals st' => ∃ m : Nat, m + g = (s).size ∧ i ≤ m ∧ vals = [.i m] ∧ st' = st1 ∧ ∀ j (hj : j < (s).size), i ≤ j → j < m → blkI ((s)[j].toNat : Int) = true) ((s).size - (i)) (fun vals st' => vals = [.i (i + tw blkI (s) (i) : Nat)] ∧ st' = st1) rfl ⟨i, by omega, Nat.le_refl _, rfl, rfl, fun j _ h1 h2 => absurd h2 (by omega)⟩ ?_ ?_
    · rintro g vals st' ⟨m, hm, hm1, rfl, rfl, hall⟩
      refine cnd_split (fun hd => ?_) (fun hd => ?_)
      · have hd := of_decide_eq_true hd
        have m1 : m < (s).size := by omega
        refine ⟨m, m1, rfl, ?_⟩
        refine .p rfl ((fun n _ _ => blank1_p n) _ (by omega) (by have := (s)[m].toNat_lt; omega)) ?_
        refine cnd_split (fun h1 => ?_) (fun h1 => ?_)
        · intro c hc
          rw [IntWalk.i64_in _ (by omega)] at hc
          obtain rfl : c = ((m + 1 : Nat) : Int) := by omega
          refine ⟨g - 1, by omega, m + 1, by omega, by omega, rfl, rfl, fun j hj h0 hjm => ?_⟩
          by_cases e : j = m
          · subst e; exact h1
          · exact hall j hj h0 (by omega)
        · exact ⟨congrArg (fun x : Nat => [AV.i (x : Int)]) (tw_at hall hm1 (by omega) (fun _ => h1)).symm, rfl⟩
      · have hd := of_decide_eq_false hd
        exact ⟨congrArg (fun x : Nat => [AV.i (x : Int)]) (tw_at hall hm1 (by omega) (fun h => absurd h (by omega))).symm, rfl⟩
    rintro vals st' ⟨rfl, rfl⟩
    refine cnd_split (fun h1 => ?_) (fun h1 => ?_)
    · have h1 : i + tw blkI s i = s.size := by have := beq_iff_eq.1 h1; omega
      have hg : gapS s i = some (i + tw blkI s i) := by unfold gapS; rw [if_neg (by omega)]
      unfold WInv at hW
      rw [hg, h1] at hW
      simp only [wordsW_end (Nat.le_refl s.size), List.append_nil] at hW
      rw [← hW]
      show resV _ (.tup [.sl .no 2 (wdL acc), _])
      rw [hes]
      exact .inr ⟨_, _, rfl, rfl, .inr ⟨rfl, 2, rfl⟩, .inl (.inl ⟨rfl, rfl⟩), trivial⟩
    have h1 : i + tw blkI s i < s.size := by have := beq_eq_false_iff_ne.1 h1; omega
    have bad : (acc, false) = wordsR s → resV (.tup [.nilS, .b false]) (.tup [.sl .no 2 (wdL (wordsR s).1), .b (wordsR s).2]) := fun hb => by
      rw [← hb]
      show resV _ (.tup [.sl .no 2 (wdL acc), _])
      rw [hes]
      exact .inr ⟨_, _, rfl, rfl, .inr ⟨rfl, 2, rfl⟩, .inl (.inl ⟨rfl, rfl⟩), trivial⟩
    have goon : ¬ (tw blkI s i = 0 ∧ i ≠ 0) → gapS s i = some (i + tw blkI s i) := fun hc => by unfold gapS; rw [if_neg (fun hh => hc ⟨hh.1, hh.2.1⟩)]
    have gap0 : tw blkI s i = 0 ∧ i ≠ 0 → (acc, false) = wordsR s := fun hb => by
      have hg : gapS s i = none := by unfold gapS; rw [if_pos ⟨hb.1, hb.2, by omega⟩]
      unfold WInv at hW
      rw [hg] at hW
      exact hW
    refine cnd_split (fun h2 => ?_) (fun h2 => ?_)
    · have h2 : tw blkI s i = 0 := by have := beq_iff_eq.1 h2; omega
      refine cnd_split (fun h3 => ?_) (fun h3 => ?_)
      · have h3 := of_decide_eq_true h3
        exact bad (gap0 ⟨h2, by omega⟩)
      · have h3 := of_decide_eq_false h3
        have hg := goon (fun hh => by omega)
        refine ⟨_, rfl, by omega, Nat.le_refl _, ?_⟩
        refine .p rfl (word5M_p _ (by rw [ByteArray.size_extract]; omega)) ?_
        cases hw : wordS s (i + tw blkI s i) with
        | none =>
          have hr : wordR (s.extract (i + tw blkI s i) s.size) = (⟨#[]⟩, 0) := by rw [wordR_cut (by omega), hw]
          rw [hr]
          refine bad ?_
          unfold WInv at hW
          rw [hg] at hW
          simp only [wordsW_none h1 hw, List.append_nil] at hW
          exact hW
        | some x =>
          obtain ⟨v, e⟩ := x
          have hle := wordS_le (by omega) hw
          have hr : wordR (s.extract (i + tw blkI s i) s.size) = (v, ((e - (i + tw blkI s i) : Nat) : Int)) := by rw [wordR_cut (by omega), hw]
          rw [hr]
          refine cnd_split (fun h4 => ?_) (fun h4 => ?_)
          · have h4 := beq_iff_eq.1 h4
            omega
          · refine ⟨_, h1, rfl, ?_⟩
            refine Acc.app (n := 0) (i := ti52) (es := []) .nil (Nat.zero_le _) (List.cons_ne_nil _ _) ?_ ?_ (fun t9 e9 tk9 z0 z1 z2 z3 => ?_)
            · show (([] : List (List AV)).length + 1) * 24 ≤ _; omega
            · show ([] : List (List AV)).length + 1 ≤ _; omega
            intro c hc
            rw [IntWalk.i64_in _ (by omega)] at hc
            obtain rfl : c = ((e : Nat) : Int) := by omega
            refine ⟨s.size - e, by omega, e, _, acc ++ [(v, atB s (i + tw blkI s i) 34)], by omega, rfl, by simp; omega, ?_, hW.next hg h1 hw⟩
            rw [← wdL_app, hes, atB_lt h1]
            exact .own _ _ _ z0 z1
    · have h2 : tw blkI s i ≠ 0 := by have := beq_eq_false_iff_ne.1 h2; omega
      have hg := goon (fun hh => h2 hh.1)
      refine ⟨_, rfl, by omega, Nat.le_refl _, ?_⟩
      refine .p rfl (word5M_p _ (by rw [ByteArray.size_extract]; omega)) ?_
      cases hw : wordS s (i + tw blkI s i) with
      | none =>
        have hr : wordR (s.extract (i + tw blkI s i) s.size) = (⟨#[]⟩, 0) := by rw [wordR_cut (by omega), hw]
        rw [hr]
        refine bad ?_
        unfold WInv at hW
        rw [hg] at hW
        simp only [wordsW_none h1 hw, List.append_nil] at hW
        exact hW
      | some x =>
        obtain ⟨v, e⟩ := x
        have hle := wordS_le (by omega) hw
        have hr : wordR (s.extract (i + tw blkI s i) s.size) = (v, ((e - (i + tw blkI s i) : Nat) : Int)) := by rw [wordR_cut (by omega), hw]
        rw [hr]
        refine cnd_split (fun h4 => ?_) (fun h4 => ?_)
        · have h4 := beq_iff_eq.1 h4
          omega
        · refine ⟨_, h1, rfl, ?_⟩
          refine Acc.app (n := 0) (i := ti52) (es := []) .nil (Nat.zero_le _) (List.cons_ne_nil _ _) ?_ ?_ (fun t9 e9 tk9 z0 z1 z2 z3 => ?_)
          · show (([] : List (List AV)).length + 1) * 24 ≤ _; omega
          · show ([] : List (List AV)).length + 1 ≤ _; omega
          intro c hc
          rw [IntWalk.i64_in _ (by omega)] at hc
          obtain rfl : c = ((e : Nat) : Int) := by omega
          refine ⟨s.size - e, by omega, e, _, acc ++ [(v, atB s (i + tw blkI s i) 34)], by omega, rfl, by simp; omega, ?_, hW.next hg h1 hw⟩
          rw [← wdL_app, hes, atB_lt h1]
          exact .own _ _ _ z0 z1
  | own t0 e0 es q0 q1 =>
    refine vc_loopx 2 [5] (fun g vals st' => ∃ m : Nat, m + g = (s).size ∧ i ≤ m ∧ vals = [.i m] ∧ st' = st1 ∧ ∀ j (hj : j < (s).size), i ≤ j → j < m → blkI ((s)[j].toNat : Int) = true) ((s).size - (i)) (fun vals st' => vals = [.i (i + tw blkI (s) (i) : Nat)] ∧ st' = st1) rfl ⟨i, by omega, Nat.le_refl _, rfl, rfl, fun j _ h1 h2 => absurd h2 (by omega)⟩ ?_ ?_
    · rintro g vals st' ⟨m, hm, hm1, rfl, rfl, hall⟩
      refine cnd_split (fun hd => ?_) (fun hd => ?_)
      · have hd := of_decide_eq_true hd
        have m1 : m < (s).size := by omega
        refine ⟨m, m1, rfl, ?_⟩
        refine .p rfl ((fun n _ _ => blank1_p n) _ (by omega) (by have := (s)[m].toNat_lt; omega)) ?_
        refine cnd_split (fun h1 => ?_) (fun h1 => ?_)
        · intro c hc
          rw [IntWalk.i64_in _ (by omega)] at hc
          obtain rfl : c = ((m + 1 : Nat) : Int) := by omega
          refine ⟨g - 1, by omega, m + 1, by omega, by omega, rfl, rfl, fun j hj h0 hjm => ?_⟩
          by_cases e : j = m
          · subst e; exact h1
          · exact hall j hj h0 (by omega)
        · exact ⟨congrArg (fun x : Nat => [AV.i (x : Int)]) (tw_at hall hm1 (by omega) (fun _ => h1)).symm, rfl⟩
      · have hd := of_decide_eq_false hd
        exact ⟨congrArg (fun x : Nat => [AV.i (x : Int)]) (tw_at hall hm1 (by omega) (fun h => absurd h (by omega))).symm, rfl⟩
    rintro vals st' ⟨rfl, rfl⟩
    refine cnd_split (fun h1 => ?_) (fun h1 => ?_)
    · have h1 : i + tw blkI s i = s.size := by have := beq_iff_eq.1 h1; omega
      have hg : gapS s i = some (i + tw blkI s i) := by unfold gapS; rw [if_neg (by omega)]
      unfold WInv at hW
      rw [hg, h1] at hW
      simp only [wordsW_end (Nat.le_refl s.size), List.append_nil] at hW
      rw [← hW]
      show resV _ (.tup [.sl .no 2 (wdL acc), _])
      rw [hes]
      exact .inr ⟨_, _, rfl, rfl, .inl (.inl ⟨rfl, rfl⟩), .inl (.inl ⟨rfl, rfl⟩), trivial⟩
    have h1 : i + tw blkI s i < s.size := by have := beq_eq_false_iff_ne.1 h1; omega
    have bad : (acc, false) = wordsR s → resV (.tup [(.sl (.own t0 e0) 2 es), .b false]) (.tup [.sl .no 2 (wdL (wordsR s).1), .b (wordsR s).2]) := fun hb => by
      rw [← hb]
      show resV _ (.tup [.sl .no 2 (wdL acc), _])
      rw [hes]
      exact .inr ⟨_, _, rfl, rfl, .inl (.inl ⟨rfl, rfl⟩), .inl (.inl ⟨rfl, rfl⟩), trivial⟩
    have goon : ¬ (tw blkI s i = 0 ∧ i ≠ 0) → gapS s i = some (i + tw blkI s i) := fun hc => by unfold gapS; rw [if_neg (fun hh => hc ⟨hh.1, hh.2.1⟩)]
    have gap0 : tw blkI s i = 0 ∧ i ≠ 0 → (acc, false) = wordsR s := fun hb => by
      have hg : gapS s i = none := by unfold gapS; rw [if_pos ⟨hb.1, hb.2, by omega⟩]
      unfold WInv at hW
      rw [hg] at hW
      exact hW
    refine cnd_split (fun h2 => ?_) (fun h2 => ?_)
    · have h2 : tw blkI s i = 0 := by have := beq_iff_eq.1 h2; omega
      refine cnd_split (fun h3 => ?_) (fun h3 => ?_)
      · have h3 := of_decide_eq_true h3
        exact bad (gap0 ⟨h2, by omega⟩)
      · have h3 := of_decide_eq_false h3
        have hg := goon (fun hh => by omega)
        refine ⟨_, rfl, by omega, Nat.le_refl _, ?_⟩
        refine .p rfl (word5M_p _ (by rw [ByteArray.size_extract]; omega)) ?_
        cases hw : wordS s (i + tw blkI s i) with
        | none =>
          have hr : wordR (s.extract (i + tw blkI s i) s.size) = (⟨#[]⟩, 0) := by rw [wordR_cut (by omega), hw]
          rw [hr]
          refine bad ?_
          unfold WInv at hW
          rw [hg] at hW
          simp only [wordsW_none h1 hw, List.append_nil] at hW
          exact hW
        | some x =>
          obtain ⟨v, e⟩ := x
          have hle := wordS_le (by omega) hw
          have hr : wordR (s.extract (i + tw blkI s i) s.size) = (v, ((e - (i + tw blkI s i) : Nat) : Int)) := by rw [wordR_cut (by omega), hw]
          rw [hr]
          refine cnd_split (fun h4 => ?_) (fun h4 => ?_)
          · have h4 := beq_iff_eq.1 h4
            omega
          · refine ⟨_, h1, rfl, ?_⟩
            refine Acc.app (n := 0) (i := ti52) (es := es) (.own _ _ _ q0 q1) (Nat.zero_le _) (List.cons_ne_nil _ _) ?_ ?_ (fun t9 e9 tk9 z0 z1 z2 z3 => ?_)
            · show ((es : List (List AV)).length + 1) * 24 ≤ _; omega
            · show (es : List (List AV)).length + 1 ≤ _; omega
            intro c hc
            rw [IntWalk.i64_in _ (by omega)] at hc
            obtain rfl : c = ((e : Nat) : Int) := by omega
            refine ⟨s.size - e, by omega, e, _, acc ++ [(v, atB s (i + tw blkI s i) 34)], by omega, rfl, by simp; omega, ?_, hW.next hg h1 hw⟩
            rw [← wdL_app, hes, atB_lt h1]
            exact .own _ _ _ z0 z1
    · have h2 : tw blkI s i ≠ 0 := by have := beq_eq_false_iff_ne.1 h2; omega
      have hg := goon (fun hh => h2 hh.1)
      refine ⟨_, rfl, by omega, Nat.le_refl _, ?_⟩
      refine .p rfl (word5M_p _ (by rw [ByteArray.size_extract]; omega)) ?_
      cases hw : wordS s (i + tw blkI s i) with
      | none =>
        have hr : wordR (s.extract (i + tw blkI s i) s.size) = (⟨#[]⟩, 0) := by rw [wordR_cut (by omega), hw]
        rw [hr]
        refine bad ?_
        unfold WInv at hW
        rw [hg] at hW
        simp only [wordsW_none h1 hw, List.append_nil] at hW
        exact hW
      | some x =>
        obtain ⟨v, e⟩ := x
        have hle := wordS_le (by omega) hw
        have hr : wordR (s.extract (i + tw blkI s i) s.size) = (v, ((e - (i + tw blkI s i) : Nat) : Int)) := by rw [wordR_cut (by omega), hw]
        rw [hr]
        refine cnd_split (fun h4 => ?_) (fun h4 => ?_)
        · have h4 := beq_iff_eq.1 h4
          omega
        · refine ⟨_, h1, rfl, ?_⟩
          refine Acc.app (n := 0) (i := ti52) (es := es) (.own _ _ _ q0 q1) (Nat.zero_le _) (List.cons_ne_nil _ _) ?_ ?_ (fun t9 e9 tk9 z0 z1 z2 z3 => ?_)
          · show ((es : List (List AV)).length + 1) * 24 ≤ _; omega
          · show (es : List (List AV)).length + 1 ≤ _; omega
          intro c hc
          rw [IntWalk.i64_in _ (by omega)] at hc
          obtain rfl : c = ((e : Nat) : Int) := by omega
          refine ⟨s.size - e, by omega, e, _, acc ++ [(v, atB s (i + tw blkI s i) 34)], by omega, rfl, by simp; omega, ?_, hW.next hg h1 hw⟩
          rw [← wdL_app, hes, atB_lt h1]
          exact .own _ _ _ z0 z1
end Go.Proofs.YtgaidgblihnldaaGreatDoor
