/- Laws of bodies: BodyNone, BodyLengths. No statement of its own. -/
import Derived.Test.YthcjiflmhjagiaaDoorBy
set_option linter.unusedSimpArgs false
set_option linter.unusedVariables false
set_option maxRecDepth 100000
namespace Go.Proofs.YthcjiflmhjagiaaDoor
open Go.RowKit
section
attribute [local irreducible] vcApp
variable {st : St} {p q L left n : Nat} {d : Dc} {ln tr : AV} {R : AV → St → Prop}
theorem feedB_chunk (hB : BI st p q 3 n left L false false d ln tr) (hI : d.In L) (hs : d.spent ≤ L) (hL : L ≤ 65536) (s : ByteArray) (hsz : s.size ≤ 70000000000000)
    (hR : ∀ st' s1 ln' tr' (o : ByteArray) (x : Rs), runD L d s.data.toList = x → o.data.toList = x.o → BI st' p q 3 n left L x.dn (x.e != 0) x.d ln' tr' → Kp q ln tr ln' tr' st s1 → st' = ⟨s1.heap.set p [.ptr q 0, .i 3, .i n, .i left, .b x.dn, .b (x.e != 0)], s1.tk⟩ → R (.tup [.i x.n, .s o, .b x.dn, .i x.e]) st') : ACalls Tryd.prog 45 [.ptr p 0, .s s] st R := by
  have h : st.heap[p]? = some [.ptr q 0, .i 3, .i n, .i left, .b false, .b false] := hB.h
  have hlt := lt_of h
  refine ACalls.of_vc T_ok mixed Tryd.func45 rfl Tryd.call45 ?_
  refine ⟨_, h, ?_⟩
  refine ⟨_, h, ?_⟩
  refine ⟨_, h, ?_⟩
  refine ⟨_, h, ?_⟩
  refine .s (feed_a hB.d hI hs hL s hsz (fun s1 ln' tr' o x hx ho kp hd => ?_))
  have h1 := (kp.heap p hlt hB.ne).trans h
  refine ⟨_, h1, ?_⟩
  refine ⟨_, st_eq h1, ?_⟩
  have := hR ⟨s1.heap.set p [.ptr q 0, .i 3, .i n, .i left, .b x.dn, .b (x.e != 0)], s1.tk⟩ s1 ln' tr' o x hx ho ⟨st_eq h1, ⟨st_ne hB.ne hd.h, hd.l, hd.t, hd.ne, hd.nz⟩, hB.ne⟩ kp rfl
  rw [← List.set_set (a := [.ptr q 0, .i 3, .i n, .i left, .b x.dn, .b false])] at this
  exact this
end
theorem awake21_p : APure Tryd.prog 43 [] (.b true) [] := by
  refine APure.of rfl ?_
  refine ACalls.of_vc T_ok mixed Tryd.func43 rfl Tryd.call43 ?_
  refine .s (newB21_a 2 3 9 (fun h => absurd h (by decide)) (fun _ st' p q n' L hn hL hB _ _ _ _ => ?_))
  obtain rfl : n' = 3 := by omega
  obtain rfl : L = 9 := by omega
  have hB : st'.heap[p]? = some [.nilP, .i 2, .i (3 : Nat), .i (3 : Nat), .b false, .b false] := hB.h
  refine .s (feedB_len (n := 3) ⟨#[97, 98, 99, 100]⟩ (by decide) (by decide) hB (fun m hm => ?_))
  obtain rfl : m = 3 := hm
  intro t ht
  cases t with
  | false => have := ht.2 (by decide); cases this
  | true =>
    refine .s (doneB_a (.inl rfl) (st_eq hB) ?_)
    rfl
theorem bodyNone_p (s : ByteArray) (k n lim : Int) : APure Tryd.prog 12 [.s s, .agg [.i k, .i n], .i lim] (.b true) [] := by
  have hm := may21_p k n lim
  refine APure.of rfl ?_
  refine ACalls.of_vc T_ok mixed Tryd.func12 rfl Tryd.call12 ?_
  refine .p rfl awake21_p ?_
  refine .s (feedB_nil ?_)
  refine .s (endB_nil ?_)
  refine ⟨_, rfl, ?_⟩
  refine .s (newB21_a k n lim (fun h st' hk => ?_) (fun h st' p q n' L hn hL hB ht hp hq hk => ?_))
  all_goals
    have h0 : st'.heap[0]? = some [.i k, .i n] := hk 0 (by show 0 < 1; decide)
    rw [h] at hm
    refine ⟨_, h0, ?_⟩
    refine .p rfl hm ?_
    intro t ht
    cases t with
    | false => have := ht.2 rfl; cases this
    | true =>
      refine .s (doneB_nil ?_)
      refine .s (keptB_nil ?_)
      refine .s (trlB_nil ?_)
      intro c hc
      rw [IntWalk.i64_in _ (by omega)] at hc
      obtain rfl : c = ((0 : Nat) : Int) := by omega
      rfl
theorem emp_decide {s : ByteArray} {t : Bool} (ht : t = true ↔ s = ⟨#[]⟩) : t = decide (s.size = 0) := by
  rw [Bool.eq_iff_iff, decide_eq_true_eq, ht]
  exact emp_iff s
set_option maxHeartbeats 1000000 in
theorem bodyLengths_p (s0 t0 : ByteArray) (k : Int) : APure Tryd.prog 10 [.s s0, .s t0, .i k] (.b true) [] := by
  have hmx : maxLen = 9223372036854775807 := rfl
  obtain ⟨m, hm, hm1, hm2, hm3⟩ := cutS 1000 s0
  have hmin := minI_at s0.size 1000
  rw [← hm] at hmin
  obtain ⟨s, hs⟩ : ∃ s, s = s0.extract 0 m := ⟨_, rfl⟩
  rw [← hs] at hm3
  obtain ⟨m2, hn, hn1, hn2, hn3⟩ := cutS 100 t0
  have hmin2 := minI_at t0.size 100
  rw [← hn] at hmin2
  obtain ⟨t, ht⟩ : ∃ t, t = t0.extract 0 m2 := ⟨_, rfl⟩
  rw [← ht] at hn3
  refine APure.of rfl ?_
  refine ACalls.of_vc T_ok mixed Tryd.func10 rfl Tryd.call10 ?_
  refine .p rfl awake21_p ?_
  refine .e (by kernel_rfl) ?_
  refine ⟨m, hmin, Nat.zero_le _, hm1, ?_⟩
  rw [← hs]
  refine ⟨m2, hmin2, Nat.zero_le _, hn1, ?_⟩
  rw [← ht]
  have hst : (s ++ t : ByteArray).size = s.size + t.size := app_size _ _
  have hq : mayB k s.size 0 = true ↔ (1 ≤ k ∧ k ≤ 4) ∧ (0 ≤ (s.size : Int) ∧ (s.size : Int) ≤ 1099511627776) ∧ (0 : Int) ≤ 0 ∧ (0 : Int) ≤ 65536 := by unfold mayB; rw [decide_eq_true_eq]
  refine .s (newB21_a k s.size 0 (fun h st' hk => ?_) (fun h st' p q n' L hn9 hL hB _ hp hq9 hk => ?_))
  · refine cnd_split (fun h1 => ?_) (fun h1 => ?_)
    · rfl
    · have h1 := of_decide_eq_false h1
      by_cases h4 : k ≤ 4
      · rw [hq.2 (by omega)] at h
        cases h
      · exact retb (decide_eq_true (by omega))
  · have h4 := (hq.1 h).1
    obtain rfl : n' = s.size := by omega
    have hL0 : L = 0 := by have hL : (0 : Int) = L := hL; omega
    refine ⟨by omega, ?_⟩
    obtain ⟨u, hu⟩ : ∃ u, u = (s ++ t : ByteArray) := ⟨_, rfl⟩
    rw [← hu] at hst ⊢
    obtain rfl | rfl | rfl | rfl : k = 1 ∨ k = 2 ∨ k = 3 ∨ k = 4 := by omega
    · have hB : st'.heap[p]? = some [.nilP, .i 1, .i s.size, .i s.size, .b true, .b false] := hB.h
      refine .s (feedB_done (.inl rfl) hB ?_)
      intro z hz
      cases z with
      | false => have := hz.2 rfl; cases this
      | true =>
        refine .s (doneB_a (.inl rfl) hB ?_)
        rfl
    · have hdn : decide ((2 : Int) = 1 ∨ (2 : Int) = 2 ∧ ((s.size : Nat) : Int) = 0) = decide (s.size = 0) := by
        rw [Bool.eq_iff_iff, decide_eq_true_eq, decide_eq_true_eq]; omega
      have hB := hB.h
      rw [hdn] at hB
      by_cases h0 : s.size = 0
      · rw [decide_eq_true h0] at hB
        refine .s (feedB_done (.inl rfl) hB ?_)
        intro z hz
        have hz := emp_decide hz
        rw [decide_eq_true h0] at hz
        subst hz
        refine .s (doneB_a (.inl rfl) hB ?_)
        rfl
      · rw [decide_eq_false h0] at hB
        refine .s (feedB_len u (by omega) (by omega) hB (fun m9 hm9 => ?_))
        obtain rfl : m9 = s.size := by omega
        intro z hz
        have hz := emp_decide hz
        rw [decide_eq_false h0] at hz
        subst hz
        refine cnd_split (fun _ => ?_) (fun h2 => absurd rfl (beq_eq_false_iff_ne.1 h2))
        intro z hz
        have he : u.extract 0 s.size = s := by
          apply toInj
          rw [hu, extB, List.drop_zero, app_l', ← blen s, List.take_left]
        have hz := hz.2 he
        subst hz
        refine cnd_split (fun _ => ?_) (fun h2 => absurd (Nat.sub_self _) (of_decide_eq_false h2))
        rfl
    · refine .s (feedB_chunk hB (Dc.new_In _) (Nat.zero_le _) (by omega) u (by omega) (fun st2 s1 ln' tr' o x hx ho hB2 kp he => ?_))
      have hle := runD_le (L := L) u.data.toList Dc.new
      rw [hx, blen] at hle
      intro c hc
      rw [IntWalk.i64_in _ (by omega)] at hc
      obtain rfl : c = ((s.size + t.size : Nat) : Int) := by omega
      refine cnd_split (fun _ => ?_) (fun h2 => absurd (by omega) (of_decide_eq_false h2))
      obtain ⟨xn, xo, xd, xe, xs⟩ := x
      cases xd with
      | true => rfl
      | false =>
        refine .s (doneB_a (.inr ⟨q, rfl⟩) hB2.h ?_)
        rfl
    · have hB : st'.heap[p]? = some [.nilP, .i 4, .i s.size, .i s.size, .b false, .b false] := hB.h
      refine .s (feedB_close u (by omega) hB ?_)
      refine .s (endB_close hB ?_)
      intro c hc
      rw [IntWalk.i64_in _ (by omega)] at hc
      obtain rfl : c = ((s.size + t.size : Nat) : Int) := by omega
      refine cnd_split (fun _ => ?_) (fun h2 => absurd (by omega) (beq_eq_false_iff_ne.1 h2))
      refine ⟨by omega, ?_⟩
      intro z hz
      have he : u.extract 0 u.size = s ++ t := by rw [← hu]; exact ext_allC u
      have hz := hz.2 he
      subst hz
      refine .s (doneB_a (.inl rfl) (st_eq hB) ?_)
      rfl
end Go.Proofs.YthcjiflmhjagiaaDoor
