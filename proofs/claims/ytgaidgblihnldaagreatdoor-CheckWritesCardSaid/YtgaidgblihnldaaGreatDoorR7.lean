/- Lines without a rule: told by the program, and by the document. No statement of its own. -/
import Derived.Test.YtgaidgblihnldaaGreatDoorSx
import Derived.Test.YtgaidgblihnldaaGreatDoorR36
import Derived.Lib.TrimU
set_option linter.unusedSimpArgs false
set_option linter.unusedVariables false
set_option maxRecDepth 100000
namespace Go.Proofs.YtgaidgblihnldaaGreatDoor
open Go.RowKit
theorem blank_c (n : Int) (w : World) : Calls Tryz.prog 58 #[.int .u8 n] w fun e w' => e = .returned (.bool (blkI n)) ∧ w = w' := by
  cases h : (n == 32)
  all_goals
    go_enter Tryz.func58, Tryz.ntmps58
    go_wp2
    go_ret
    exact ⟨by simp [blkI, h], rfl⟩
def blkR (n : Nat) : Bool := decide (n < 128) && blkI (n : Int)
theorem skip1_c (n : Nat) (h : n ≤ 1114111) (w : World) : Calls Tryz.prog 57 #[.int .i32 (n : Int)] w fun e w' => e = .returned (.bool (blkR n)) ∧ w = w' := by
  by_cases h1 : n < 128
  · have hP := blank_c (n : Int) w
    have he : blkI (n : Int) = blkR n := by unfold blkR; rw [decide_eq_true h1, Bool.true_and]
    rw [he] at hP
    have hw : IntKind.u8.wrap (n : Int) = (n : Int) := by
      show (n : Int) % 256 = _
      omega
    have h2 : (n : Int) < 128 := by omega
    have HW := Lib.hid hw
    clear he h1
    generalize blkR n = b at *
    go_enter Tryz.func57, Tryz.ntmps57
    go_wp2_with (go_at_call 58; refine hP.mono ?_; rintro e w' ⟨rfl, rfl⟩)
    go_ret
    exact ⟨rfl, rfl⟩
  · have h2 : ¬ (n : Int) < 128 := by omega
    have he : blkR n = false := by unfold blkR; rw [decide_eq_false h1]; rfl
    rw [he]
    go_enter Tryz.func57, Tryz.ntmps57
    go_wp2_with fail
    go_ret
    exact ⟨rfl, rfl⟩
def idxB (s : ByteArray) : Int := if tw blkI s 0 = s.size then -1 else (tw blkI s 0 : Int)
theorem idx_end {s : ByteArray} {i : Nat} (h : ∀ j (hj : j < s.size), 0 ≤ j → j < i → blkI (s[j].toNat : Int) = true) (hi : s.size ≤ i) : idxB s = -1 := by
  have := tw_at (q := blkI) (s := s) (k := 0) (m := s.size) (fun j hj h0 h1 => h j hj h0 (by omega)) (Nat.zero_le _) (Nat.le_refl _) (fun hj => absurd hj (by omega))
  unfold idxB
  rw [if_pos (by omega)]
theorem idx_at {s : ByteArray} {i : Nat} (h : ∀ j (hj : j < s.size), 0 ≤ j → j < i → blkI (s[j].toNat : Int) = true) (hi : i < s.size) (hb : blkI (s[i].toNat : Int) = false) : idxB s = (i : Int) := by
  have := tw_at (q := blkI) (s := s) (k := 0) (m := i) h (Nat.zero_le _) (by omega) (fun hj => hb)
  unfold idxB
  rw [if_neg (by omega)]
  omega
theorem blk_high (n : Nat) (h : 128 ≤ n) : blkI (n : Int) = false := by
  unfold blkI
  rw [Bool.or_eq_false_iff]
  exact ⟨beq_eq_false_iff_ne.2 (by omega), beq_eq_false_iff_ne.2 (by omega)⟩
set_option maxHeartbeats 1000000 in
theorem idx_c (s : ByteArray) (w : World) : Calls Tryz.prog 93 #[.string s, .func (.func 57) #[] #[], .bool false] w fun e w' => e = .returned (.int .i64 (idxB s)) ∧ Chg w w' (fun _ => False) := by
  go_enter Tryz.func93, Tryz.ntmps93
  go_wp2_with fail
  go_loopg [] s.size (fun g wx => ∃ i : Nat, i + g = s.size ∧ wx.heap[w.heap.size]? = some (.stringIter s i) ∧ Chg w wx (fun _ => False) ∧ ∀ j (hj : j < s.size), 0 ≤ j → j < i → blkI (s[j].toNat : Int) = true)
  case atStart => exact ⟨0, by omega, World.iter_heap w s 0, (Chg.refl _ _).alloc _, fun j _ _ h => absurd h (by omega)⟩
  case round =>
    obtain ⟨i, hig, hit, hc, hno⟩ := hrel
    have HN := Lib.hid hno
    clear hno
    by_cases hi : i < s.size
    · by_cases ha : (s[i]'hi).toNat < 128
      · have hnx := fun ty => Lib.run_next_ascii_at (P := Tryz.prog) wr w.heap.size s i ty hit hi ha
        have hP := fun W => skip1_c (s[i]'hi).toNat (by omega) W
        cases hb : blkI ((s[i]'hi).toNat : Int) with
        | true =>
          have HB := Lib.hid hb
          have hR : blkR (s[i]'hi).toNat = true := by unfold blkR; rw [hb, decide_eq_true ha]; rfl
          rw [hR] at hP
          clear hb hR
          go_wp2_with (go_at_call 57; refine (hP _).mono ?_; rintro e w' ⟨rfl, rfl⟩)
          go_roundg (gk - 1)
          case measure => omega
          case rel =>
            refine ⟨i + 1, by omega, Lib.iterAt_heap wr _ s i _ hit, hc.next (Chg.iterAt wr _ s _) (fun j hj e => by omega), fun j hj h0 hjk => ?_⟩
            by_cases e : j = i
            · subst e; exact HB.out
            · exact HN.out j hj h0 (by omega)
        | false =>
          have HB := Lib.hid hb
          have hR : blkR (s[i]'hi).toNat = false := by unfold blkR; rw [hb, Bool.and_false]
          rw [hR] at hP
          clear hb hR
          go_wp2_with (go_at_call 57; refine (hP _).mono ?_; rintro e w' ⟨rfl, rfl⟩)
          go_ret
          exact ⟨by rw [idx_at HN.out hi HB.out] <;> rfl, hc.next (Chg.iterAt wr _ s _) (fun j hj e => by omega)⟩
      · have hnx := fun ty => Lib.run_next_any_at (P := Tryz.prog) wr w.heap.size s i ty hit hi
        have HB := Lib.hid (blk_high (s[i]'hi).toNat (by omega))
        obtain ⟨hr1, hr2⟩ := decode_high s i hi (by omega)
        have hr4 := Lib.rune_le s i
        generalize (Utf8.decode s i).1 = r at *
        generalize (Utf8.decode s i).2 = k at *
        have hP := fun W => skip1_c r (by omega) W
        have hR : blkR r = false := by unfold blkR; rw [decide_eq_false (by omega)]; rfl
        rw [hR] at hP
        clear hR ha
        go_wp2_with (go_at_call 57; refine (hP _).mono ?_; rintro e w' ⟨rfl, rfl⟩)
        go_ret
        exact ⟨by rw [idx_at HN.out hi HB.out] <;> rfl, hc.next (Chg.iterAt wr _ s _) (fun j hj e => by omega)⟩
    · have hnx := fun ty => Lib.run_next_end_at (P := Tryz.prog) wr w.heap.size s i ty hit (by omega)
      go_wp2_with fail
      go_ret
      exact ⟨by rw [idx_end HN.out (by omega)] <;> rfl, hc⟩
theorem tlf_c (s : ByteArray) (w : World) : Calls Tryz.prog 56 #[.string s, .func (.func 57) #[] #[]] w fun e w' => e = .returned (.string (s.extract (tw blkI s 0) s.size)) ∧ Chg w w' (fun _ => False) := by
  have hI := idx_c s w
  have hl := tw_le blkI s 0 (Nat.zero_le _)
  rw [Nat.zero_add] at hl
  by_cases h : tw blkI s 0 = s.size
  · have e0 : idxB s = -1 := by unfold idxB; rw [if_pos h]
    have e1 : s.extract (tw blkI s 0) s.size = .empty := by
      rw [h]
      refine (emp_iff _).2 ?_
      rw [ByteArray.size_extract]
      omega
    rw [e0] at hI
    rw [e1]
    go_enter Tryz.func56, Tryz.ntmps56
    go_wp2_with (go_at_call 93; refine hI.mono ?_; rintro e w' ⟨rfl, hc⟩)
    go_ret
    exact ⟨rfl, hc⟩
  · have e0 : idxB s = (tw blkI s 0 : Int) := by unfold idxB; rw [if_neg h]
    rw [e0] at hI
    generalize tw blkI s 0 = m at *
    clear e0
    go_enter Tryz.func56, Tryz.ntmps56
    go_wp2_with (go_at_call 93; refine hI.mono ?_; rintro e w' ⟨rfl, hc⟩)
    go_ret
    exact ⟨rfl, hc⟩
theorem tlf_p (s : ByteArray) : APure Tryz.prog 56 [.s s, .lit (.func (.func 57) #[] #[])] (.s (s.extract (tw blkI s 0) s.size)) [] :=
  APure.of_lits #[.string s, .func (.func 57) #[] #[]] (.inl rfl) rfl Tryz.call56 fun w _ => (tlf_c s w).mono fun e w1 ⟨he, hc⟩ => ⟨he, hc.below (Nat.le_refl _) (fun _ _ h => h)⟩
def skipB (s : ByteArray) : Bool := decide (tw blkI s 0 = s.size) || atB s (tw blkI s 0) 35
theorem skip_p (s : ByteArray) (hs : s.size ≤ 1099511627776) : APure Tryz.prog 25 [.s s] (.b (skipB s)) [] := by
  have hT := tlf_p s
  have hl := tw_le blkI s 0 (Nat.zero_le _)
  rw [Nat.zero_add] at hl
  have hS : skipB s = (decide (tw blkI s 0 = s.size) || atB s (tw blkI s 0) 35) := rfl
  have hx : ∀ h : 0 < (s.extract (tw blkI s 0) s.size).size, atB s (tw blkI s 0) 35 = (((s.extract (tw blkI s 0) s.size)[0].toNat : Int) == 35) := fun h => by
    rw [← atB_lt h, cut_atB, Nat.add_zero]
  have hz : (s.extract (tw blkI s 0) s.size).size = s.size - tw blkI s 0 := by rw [ByteArray.size_extract]; omega
  generalize s.extract (tw blkI s 0) s.size = t at *
  generalize tw blkI s 0 = m at *
  refine APure.of rfl (ACalls.of_vc T_ok mixed Tryz.func25 rfl Tryz.call25 ?_)
  refine .p rfl hT ?_
  intro q hq
  have hq := hq.trans (emp_iff _)
  cases q with
  | true => exact retb (by rw [hS, decide_eq_true (by have := hq.1 rfl; omega)]; rfl)
  | false =>
    have h0 : 0 < t.size := Nat.pos_of_ne_zero fun e => by cases hq.2 e
    refine ⟨0, h0, rfl, ?_⟩
    exact retb (by rw [hS, hx h0, decide_eq_false (by omega)]; rfl)
theorem skip33_p (s : ByteArray) (hs : s.size ≤ 1099511627776) : APure Tryz.prog 26 [.s s] (.b (skipB s)) [] := by
  have hmx : maxLen = 9223372036854775807 := rfl
  have hl := tw_le blkI s 0 (Nat.zero_le _)
  refine APure.of rfl (ACalls.of_vc T_ok mixed Tryz.func26 rfl Tryz.call26 ?_)
  refine vc_loopx 0 [3] (fun g vals st' => ∃ m : Nat, m + g = (s).size ∧ 0 ≤ m ∧ vals = [.i m] ∧ st' = ⟨[], []⟩ ∧ ∀ j (hj : j < (s).size), 0 ≤ j → j < m → blkI ((s)[j].toNat : Int) = true) ((s).size - (0)) (fun vals st' => vals = [.i (0 + tw blkI (s) (0) : Nat)] ∧ st' = ⟨[], []⟩) rfl ⟨0, by omega, Nat.le_refl _, rfl, rfl, fun j _ h1 h2 => absurd h2 (by omega)⟩ ?_ ?_
  · rintro g vals st' ⟨m, hm, hm1, rfl, rfl, hall⟩
    refine cnd_split (fun hd => ?_) (fun hd => ?_)
    · have hd := of_decide_eq_true hd
      have m1 : m < (s).size := by omega
      refine ⟨m, m1, rfl, ?_⟩
      refine .p rfl ((fun n _ _ => blank1_p n) _ (by omega) (by have := (s)[m].toNat_lt; omega)) ?_
      refine cnd_split (fun h1 => ?_) (fun h1 => ?_)
      · intro c hc
        rw [IntWalk.i64_in _ (by omega)] at hc
        obtain rfl : c = ((m + 1 : Nat) : Int) := by omega
        refine ⟨g - 1, by omega, m + 1, by omega, by omega, rfl, rfl, fun j hj h0 hjm => ?_⟩
        by_cases e : j = m
        · subst e; exact h1
        · exact hall j hj h0 (by omega)
      · exact ⟨congrArg (fun x : Nat => [AV.i (x : Int)]) (tw_at hall hm1 (by omega) (fun _ => h1)).symm, rfl⟩
    · have hd := of_decide_eq_false hd
      exact ⟨congrArg (fun x : Nat => [AV.i (x : Int)]) (tw_at hall hm1 (by omega) (fun h => absurd h (by omega))).symm, rfl⟩
  rintro vals st' ⟨rfl, rfl⟩
  have hS : skipB s = (decide (tw blkI s 0 = s.size) || atB s (tw blkI s 0) 35) := rfl
  refine cnd_split (fun h1 => ?_) (fun h1 => ?_)
  · have h1 : tw blkI s 0 = s.size := by have := beq_iff_eq.1 h1; omega
    exact retb (by rw [hS, decide_eq_true h1]; rfl)
  · have h1 : tw blkI s 0 ≠ s.size := by have := beq_eq_false_iff_ne.1 h1; omega
    refine ⟨0 + tw blkI s 0, by omega, rfl, ?_⟩
    refine retb ?_
    rw [hS, decide_eq_false h1, Bool.false_or, atB_lt (by omega)]
    simp only [Nat.zero_add]
/-- a line that is passed over is no rule -/
theorem skip_none {s : ByteArray} (h : skipB s = true) : (readRl s).2 = 2 := by
  have hl := tw_le blkI s 0 (Nat.zero_le _)
  rw [Nat.zero_add] at hl
  have hn : sideS s (tw blkI s 0) = none := by
    unfold sideS
    cases hn : nameS s (tw blkI s 0) with
    | none => rfl
    | some x =>
      obtain ⟨w, j⟩ := x
      have h0 : tw tokI s (tw blkI s 0) ≠ 0 := fun hc => by
        unfold nameS at hn
        rw [if_pos hc] at hn
        cases hn
      have hw : w = s.extract (tw blkI s 0) (tw blkI s 0 + tw tokI s (tw blkI s 0)) := by
        unfold nameS at hn
        rw [if_neg h0] at hn
        cases hg : gapS s (tw blkI s 0 + tw tokI s (tw blkI s 0)) with
        | none => rw [hg] at hn; cases hn
        | some i => rw [hg] at hn; cases hn; rfl
      obtain ⟨hlt, hq⟩ := tok_lt hl h0
      have h35 : atB s (tw blkI s 0) 35 = true := by
        unfold skipB at h
        rw [decide_eq_false (by omega), Bool.false_or] at h
        exact h
      have ha : atB w 0 35 = true := by
        unfold atB at h35 ⊢
        rw [hw, exL, List.drop_take, List.getElem?_take, if_pos (by omega), List.getElem?_drop, Nat.add_zero]
        exact h35
      have n1 : w ≠ kReq := fun e => by rw [e] at ha; exact absurd ha (by decide +kernel)
      have n2 : w ≠ kRes := fun e => by rw [e] at ha; exact absurd ha (by decide +kernel)
      simp only
      rw [if_neg n1, if_neg n2]
  unfold readRl ruleS
  rw [hn]
theorem ruletextSkips_p (s : ByteArray) : APure Tryz.prog 6 [.s s] (.b true) [] := by
  have hz := cut400_size s
  have hp := parseP_p (cut400 s) (by omega)
  have h1 := skip_p (cut400 s) (by omega)
  have h2 := skip33_p (cut400 s) (by omega)
  have hn := @skip_none (cut400 s)
  generalize skipB (cut400 s) = b at *
  generalize readRl (cut400 s) = X at *
  obtain ⟨x, e⟩ := X
  obtain ⟨sd, gk, ga, gb, ac, nm, un, ps⟩ := x
  refine APure.of rfl (ACalls.of_vc T_ok mixed Tryz.func6 rfl Tryz.call6 ?_)
  refine .p rfl awake33_p ?_
  refine ⟨_, minI_at s.size 400, Nat.zero_le _, by split <;> omega, ?_⟩
  refine .p rfl hp ?_
  refine ⟨_, rfl, ?_⟩
  refine .p rfl h1 ?_
  refine .p rfl h2 ?_
  refine cnd_split (fun h => ?_) (fun h => ?_)
  case refine_2 => exact absurd rfl (beq_eq_false_iff_ne.1 h)
  refine .p rfl h1 ?_
  cases b with
  | false => rfl
  | true =>
    have h0 : e = 2 := hn rfl
    subst h0
    rfl
end Go.Proofs.YtgaidgblihnldaaGreatDoor
