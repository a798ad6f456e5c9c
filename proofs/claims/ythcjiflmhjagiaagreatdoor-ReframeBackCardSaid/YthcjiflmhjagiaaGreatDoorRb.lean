/- What goes on is read as it was: the law. No statement of its own. -/
import Derived.Test.YthcjiflmhjagiaaGreatDoorBz
import Derived.Test.YthcjiflmhjagiaaGreatDoorRg
import Derived.Test.YthcjiflmhjagiaaGreatDoorEa
set_option linter.unusedSimpArgs false
set_option linter.unusedVariables false
set_option maxRecDepth 100000
namespace Go.Proofs.YthcjiflmhjagiaaGreatDoor
open Go.RowKit
section
attribute [local irreducible] vcApp
variable {st : St} {p e size left2 n2 : Nat} {k n left : Int} {dn er : Bool} {x : AV} {R : AV → St → Prop}
theorem end42_cm {buf : ByteArray} (l : List Fld) (hl : l.length ≤ 1000) (hz : ∀ f ∈ l, f.1.size ≤ 1100000 ∧ f.2.size ≤ 1100000) (hpe : p ≠ e) (h : st.heap[p]? = some [(.ptr e 0), .i 3, .i n, .i left, .b false]) (hb : buf.size ≤ 10000000) (he : st.heap[e]? = some [.i size, .s buf, .b false])
    (hR1 : (lastW l).2 ≠ 0 → ∀ st', Mv 0 (fun q => q = p ∨ q = e) st st' → R (.tup [.s ⟨#[]⟩, .i (lastW l).2]) st')
    (hR2 : (lastW l).2 = 0 → ∀ st', Mv 0 (fun q => q = p ∨ q = e) st st' → R (.tup [.s (pieceW buf ++ (lastW l).1), .i 0]) st') : ACalls Tryz.prog 17 [.ptr p 0, .sl .no 2 (fldL l)] st R := by
  refine ACalls.of_vc T_ok mixed Tryz.func17 rfl Tryz.call17 ?_
  refine .s (ready42_f h ?_)
  refine ⟨_, h, ?_⟩
  refine ⟨_, h, ?_⟩
  refine .s (end20_a l hl hz hb he (fun h1 => ?_) (fun h1 st2 m2 h2 => ?_))
  · refine ⟨_, h, ?_⟩
    exact hR1 h1 _ ((Mv.refl (Nat.zero_le _)).set (fun _ => .inl rfl) _)
  · have h3 := m2.at' h (fun e => hpe e)
    refine ⟨_, h3, ?_⟩
    exact hR2 h1 _ ((m2.wide (fun q _ e => .inr e)).set (fun _ => .inl rfl) _)
theorem endB_done (hk : k = 2 ∨ k = 3) (hx : x = .nilP ∨ ∃ q, x = .ptr q 0) (h : st.heap[p]? = some [x, .i k, .i n, .i left, .b true, .b er]) (hR : R (.tup [.b true, .i 0]) st) : ACalls Tryz.prog 22 [.ptr p 0] st R := by
  rcases hk with rfl | rfl <;> rcases hx with rfl | ⟨q, rfl⟩
  all_goals
    refine ACalls.of_vc T_ok mixed Tryz.func22 rfl Tryz.call22 ?_
    refine ⟨_, h, ?_⟩
    refine ⟨_, h, ?_⟩
    exact hR
theorem trlB_a {q L : Nat} {d : Dc} {ln tr : AV} (hB : BI st p q 3 n2 left2 L dn er d ln tr) (hl : d.tr.length ≤ 1000000) (hR0 : d.tr = [] → R (.sl .tight 2 []) st) (hR : ∀ t e tk', st.tk.length ≤ tk'.length → (∀ q, q < st.tk.length → tk'[q]? = st.tk[q]?) → R (.sl (.own t e) 2 (fldL d.tr)) ⟨st.heap, tk'⟩) : ACalls Tryz.prog 23 [.ptr p 0] st R := by
  have h : st.heap[p]? = some [.ptr q 0, .i 3, .i n2, .i left2, .b dn, .b er] := hB.h
  refine ACalls.of_vc T_ok mixed Tryz.func23 rfl Tryz.call23 ?_
  refine ⟨_, h, ?_⟩
  refine .s (trlD_a hB.d hl (fun e => ?_) (fun t e tk' q1 q2 => ?_))
  · exact hR0 e
  · exact hR t e tk' q1 q2
theorem newB21_e {lim n' : Int} (hn : n' = n) (h1 : mayB k n lim = true)
    (h2 : ∀ st' p q (n'' L : Nat), n = n'' → lim = L → BI st' p q k n'' n'' L (decide (k = 1 ∨ k = 2 ∧ n = 0)) false Dc.new .nilS .nilS → st'.tk = st.tk → st.heap.length ≤ p → st.heap.length ≤ q → (∀ r, r < st.heap.length → st'.heap[r]? = st.heap[r]?) → R (.tup [.ptr p 0, .i 0]) st') :
    ACalls Tryz.prog 19 [.agg [.i k, .i n'], .i lim] st R := by
  subst hn
  exact newB21_a k n' lim (fun h => by rw [h1] at h; cases h) (fun _ => h2)
theorem end42_z {es : List (List AV)} (hle : left ≤ 0) (hk : k ≠ 3) (h : st.heap[p]? = some [.nilP, .i k, .i n, .i left, .b false]) (hR : ∀ st', Mv 0 (· = p) st st' → R (.tup [.s ⟨#[]⟩, .i 0]) st') : ACalls Tryz.prog 17 [.ptr p 0, .sl .no 2 es] st R :=
  end42_n (.inr ⟨_, rfl⟩) hk h (fun st' _ m => by rw [if_neg (by omega)]; exact hR st' m)
theorem min40 {a b : Int} (h0 : b ≤ 1099511627776) (h : a = b ∨ 1099511627776 < a ∧ b = 1099511627776) : ((fun a b : Int => if b < a then b else a) a 1099511627776) = b := by
  dsimp only
  split <;> omega
set_option maxHeartbeats 4000000 in
theorem reframeBack_p (k n size0 : Int) (hn0 : n ≤ 9223372036854775807) (s0 : ByteArray) (fs : List Fld) : APure Tryz.prog 4 [.agg [.i k, .i n, .i size0], .s s0, .sl .no 2 (fldL fs)] (.b true) [] := by
  have hmx : maxLen = 9223372036854775807 := rfl
  obtain ⟨m, hm, hm1, hm2, hm3⟩ := cutS 2000 s0
  have hmin := minI_at s0.size 2000
  rw [← hm] at hmin
  obtain ⟨s, hs⟩ : ∃ s, s = s0.extract 0 m := ⟨_, rfl⟩
  rw [← hs] at hm3
  have qf := few19_p fs
  have hgz : ∀ f ∈ (fs.take 105).map cutF, f.1.size ≤ 50 ∧ f.2.size ≤ 200 := fun f hf => by
    obtain ⟨q, _, rfl⟩ := List.mem_map.1 hf
    exact cutF_size q
  have hgl : ((fs.take 105).map cutF).length ≤ 105 := by rw [List.length_map, List.length_take]; omega
  generalize (fs.take 105).map cutF = gs at qf hgz hgl
  have hgz2 : ∀ f ∈ gs, f.1.size ≤ 1100000 ∧ f.2.size ≤ 1100000 := fun f hf => by have := hgz f hf; omega
  have ql := rlast_p gs (by omega) hgz2
  have hemp : (s ++ ⟨#[]⟩ : ByteArray) = s := ByteArray.append_empty
  have hemp2 : (⟨#[]⟩ ++ s : ByteArray) = s := ByteArray.empty_append
  have hwq : ∀ k n : Int, mayW k n size0 = true → (1 ≤ k ∧ k ≤ 4) ∧ 0 ≤ n ∧ 1 ≤ size0 ∧ size0 ≤ 65536 := fun k n h => by unfold mayW at h; exact of_decide_eq_true h
  refine APure.of rfl ?_
  refine ACalls.of_vc T_ok mixed Tryz.func4 rfl Tryz.call4 ?_
  refine .p rfl awake42_p ?_
  refine .x (by kernel_rfl) ?_
  refine ⟨m, hmin, Nat.zero_le _, hm1, ?_⟩
  rw [← hs]
  refine .p rfl qf ?_
  refine ⟨_, rfl, ?_⟩
  by_cases hk2 : k = 2
  · subst hk2
    refine ⟨_, rfl, ?_⟩
    refine ⟨_, rfl, ?_⟩
    refine ⟨_, rfl, ?_⟩
    refine ⟨_, rfl, ?_⟩
    have hz0 : ([[AV.i 2, .i s.size, .i size0]] : List (List AV))[0]? = some [.i 2, .i s.size, .i size0] := rfl
    refine .s (new42_k (fun hm st1 m0 => ?_) (fun hm st1 m0 e p left x hpe h h3 hn3 hl hp hp1 _ => ?_))
    · skip
      have z0 := m0.at' hz0 (fun h => h)
      refine ⟨_, z0, ?_⟩
      refine ⟨_, z0, ?_⟩
      refine .p rfl (may42_p _ _ _) ?_
      exact retb (by rw [hm]; rfl)
    · have hw := hwq _ _ hm
      have z0 := m0.at' hz0 (fun h => h)
      obtain rfl := hn3 (by decide)
      rw [if_pos rfl] at hl
      subst hl
      have hp0 : 1 ≤ p := hp1
      refine .s (put42_len (.inr rfl) h ⟨by omega, by omega⟩ (by omega) (fun hlt => absurd hlt (by omega)) (fun _ st2 h2 m2 => ?_))
      have z0 := m2.at' z0 (by show ¬ 0 = p; omega)
      refine .s (end42_z (by omega) (by decide) h2 (fun st3 m3 => ?_))
      have z0 := m3.at' z0 (by show ¬ 0 = p; omega)
      refine .p rfl ql ?_
      refine ⟨_, z0, ?_⟩
      refine ⟨_, z0, ?_⟩
      refine ⟨_, z0, ?_⟩
      refine .s (newB21_e (n := s.size) (min40 (by omega) (.inl rfl)) (decide_eq_true (by omega)) (fun st4 pb qb n4 L hn4 hL hB ht hpb hqb hk4 => ?_))
      obtain rfl : n4 = s.size := by omega
      have l3 := lt_of z0
      have z0 := (hk4 0 l3).trans z0
      have hB : st4.heap[pb]? = some [.nilP, .i 2, .i s.size, .i s.size, .b (decide ((2 : Int) = 1 ∨ (2 : Int) = 2 ∧ ((s.size : Nat) : Int) = 0)), .b false] := hB.h
      have hdn : decide ((2 : Int) = 1 ∨ (2 : Int) = 2 ∧ ((s.size : Nat) : Int) = 0) = decide (s.size = 0) := by
        rw [Bool.eq_iff_iff, decide_eq_true_eq, decide_eq_true_eq]; omega
      rw [hdn] at hB
      by_cases h0 : s.size = 0
      · rw [decide_eq_true h0] at hB
        refine .s (doneB_a (.inl rfl) hB ?_)
        refine ⟨by show s.size + 0 ≤ _; omega, ?_⟩
        rw [hemp]
        intro t ht
        obtain rfl := ht.2 ((emp_iff s).2 h0)
        intro t ht
        obtain rfl := ht.2 ((emp_iff s).2 h0)
        rfl
      · rw [decide_eq_false h0] at hB
        refine .s (doneB_a (.inl rfl) hB ?_)
        refine ⟨by show s.size + 0 ≤ _; omega, ?_⟩
        rw [hemp]
        refine .s (feedB_len s (by omega) (by omega) hB (fun m9 hm9 => ?_))
        obtain rfl : m9 = s.size := by omega
        rw [show decide (s.size - s.size = 0) = true by simp, ext_allC]
        refine .s (endB_done (.inl rfl) (.inl rfl) (st_eq hB) ?_)
        refine ⟨by show s.size + 0 ≤ _; omega, ?_⟩
        rw [hemp]
        refine cnd_split (fun h => absurd rfl (bne_iff_ne.1 h)) (fun _ => ?_)
        intro t ht
        obtain rfl := ht.2 rfl
        refine ⟨_, st_ne (Nat.ne_of_gt (Nat.lt_of_lt_of_le l3 hpb)) z0, ?_⟩
        rfl
  refine cnd_split (fun h => absurd (beq_iff_eq.1 h) hk2) (fun _ => ?_)
  refine ⟨_, rfl, ?_⟩
  have hz0 : ([[AV.i k, .i n, .i size0]] : List (List AV))[0]? = some [.i k, .i n, .i size0] := rfl
  refine cnd_split (fun h => ?_) (fun hk1 => ?_)
  · obtain rfl : k = 1 := beq_iff_eq.1 h
    refine ⟨_, rfl, ?_⟩
    refine ⟨_, rfl, ?_⟩
    refine .s (new42_k (fun hm st1 m0 => ?_) (fun hm st1 m0 e p left x hpe h h3 hn3 hl hp hp1 _ => ?_))
    · skip
      have z0 := m0.at' hz0 (fun h => h)
      refine ⟨_, z0, ?_⟩
      refine ⟨_, z0, ?_⟩
      refine .p rfl (may42_p _ _ _) ?_
      exact retb (by rw [hm]; rfl)
    · have hw := hwq _ _ hm
      have z0 := m0.at' hz0 (fun h => h)
      obtain rfl := hn3 (by decide)
      rw [if_neg (by decide)] at hl
      subst hl
      have hp0 : 1 ≤ p := hp1
      refine .s (put42_len (s := ⟨#[]⟩) (.inl rfl) h ⟨by omega, by omega⟩ (by decide) (fun hlt => absurd hlt (by decide)) (fun _ st2 h2 m2 => ?_))
      have z0 := m2.at' z0 (by show ¬ 0 = p; omega)
      refine .s (end42_z (by decide) (by decide) h2 (fun st3 m3 => ?_))
      have z0 := m3.at' z0 (by show ¬ 0 = p; omega)
      refine .p rfl ql ?_
      refine ⟨_, z0, ?_⟩
      refine ⟨_, z0, ?_⟩
      refine ⟨_, z0, ?_⟩
      obtain ⟨b, hb0, hb1, hb⟩ : ∃ b : Int, 0 ≤ b ∧ b ≤ 1099511627776 ∧ (n = b ∨ 1099511627776 < n ∧ b = 1099511627776) := by
        by_cases hh : 1099511627776 < n
        · exact ⟨1099511627776, by decide, by decide, .inr ⟨hh, rfl⟩⟩
        · exact ⟨n, hw.2.1, by omega, .inl rfl⟩
      refine .s (newB21_e (n := b) (min40 hb1 hb) (decide_eq_true (by omega)) (fun st4 pb qb n4 L hn4 hL hB ht hpb hqb hk4 => ?_))
      have hB : st4.heap[pb]? = some [.nilP, .i 1, .i n4, .i n4, .b true, .b false] := hB.h
      refine .s (doneB_a (.inl rfl) hB ?_)
      refine ⟨by decide, ?_⟩
      intro t ht
      obtain rfl := ht.2 rfl
      intro t ht
      obtain rfl := ht.2 rfl
      rfl
  have hk1 : k ≠ 1 := beq_eq_false_iff_ne.1 hk1
  refine ⟨_, rfl, ?_⟩
  refine ⟨_, rfl, ?_⟩
  refine .s (new42_k (fun hm st1 m0 => ?_) (fun hm st1 m0 e p left x hpe h h3 hn3 hl hp hp1 he1 => ?_))
  · skip
    have z0 := m0.at' hz0 (fun h => h)
    refine ⟨_, z0, ?_⟩
    refine ⟨_, z0, ?_⟩
    refine .p rfl (may42_p _ _ _) ?_
    exact retb (by rw [hm]; rfl)
  have hw := hwq _ _ hm
  have z0 := m0.at' hz0 (fun h => h)
  rw [if_neg hk2] at hl
  subst hl
  have hp0 : 1 ≤ p := hp1
  obtain ⟨b, hb0, hb1, hb⟩ : ∃ b : Int, 0 ≤ b ∧ b ≤ 1099511627776 ∧ (n = b ∨ 1099511627776 < n ∧ b = 1099511627776) := by
    by_cases hh : 1099511627776 < n
    · exact ⟨1099511627776, by decide, by decide, .inr ⟨hh, rfl⟩⟩
    · exact ⟨n, hw.2.1, by omega, .inl rfl⟩
  obtain rfl | rfl : k = 3 ∨ k = 4 := by omega
  · obtain ⟨rfl, h4⟩ := h3 rfl
    have he0 : 1 ≤ e := he1 rfl
    obtain ⟨size, rfl⟩ := Int.eq_ofNat_of_zero_le (show 0 ≤ size0 by omega)
    have hre := restE_le size s
    have hpu := putE_le (size := size) (s := s) (by omega)
    have hpi := pieceW_size (s := restE size s) (by omega)
    have hlw := lastW_size (l := gs) (by omega) hgz2
    have hrun := allE_run (size := size) s gs (by omega)
    refine .s (put42_chunk h (by omega) (by omega) (by rw [hemp2]; omega) h4 (fun st2 m2 h5 => ?_))
    rw [hemp2] at h5 ⊢
    have z0 := m2.at' z0 (by show ¬ 0 = e; omega)
    have hp2 := m2.at' h hpe
    refine .s (end42_cm gs (by omega) hgz2 hpe hp2 (by omega) h5 (fun hne st3 m3 => ?_) (fun heq st3 m3 => ?_))
    · have z0 := m3.at' z0 (by show ¬ (0 = p ∨ 0 = e); omega)
      refine .p rfl ql ?_
      refine ⟨_, z0, ?_⟩
      refine cnd_split (fun _ => ?_) (fun h => absurd (bne_eq_false_iff_eq.1 h) hne)
      refine cnd_split (fun _ => ?_) (fun h => absurd rfl (beq_eq_false_iff_ne.1 h))
      intro t ht
      obtain rfl := ht.2 rfl
      rfl
    · have z0 := m3.at' z0 (by show ¬ (0 = p ∨ 0 = e); omega)
      refine .p rfl ql ?_
      refine ⟨_, z0, ?_⟩
      refine cnd_split (fun h => absurd heq (bne_iff_ne.1 h)) (fun _ => ?_)
      refine ⟨_, z0, ?_⟩
      refine ⟨_, z0, ?_⟩
      refine .s (newB21_e (n := b) (min40 hb1 hb) (decide_eq_true (by omega)) (fun st4 pb qb n4 L hn4 hL hB ht hpb hqb hk4 => ?_))
      have l3 := lt_of z0
      have z0 := (hk4 0 l3).trans z0
      have hL : (65536 : Int) = L := hL
      obtain rfl : L = 65536 := by omega
      have hBh : st4.heap[pb]? = some [.ptr qb 0, .i 3, .i n4, .i n4, .b false, .b false] := hB.h
      refine .s (doneB_a (.inr ⟨qb, rfl⟩) hBh ?_)
      obtain ⟨X, hX, hXt, hXl⟩ := hrun heq hgz []
      rw [List.append_nil] at hX
      have hus : (putE size s ++ (pieceW (restE size s) ++ (lastW gs).1) : ByteArray).size = (putE size s).size + ((pieceW (restE size s)).size + (lastW gs).1.size) := by rw [app_size, app_size]
      have hus2 : (pieceW (restE size s) ++ (lastW gs).1 : ByteArray).size = (pieceW (restE size s)).size + (lastW gs).1.size := app_size _ _
      refine ⟨by rw [hus2]; omega, ?_⟩
      obtain ⟨u, hu⟩ : ∃ u, u = (putE size s ++ (pieceW (restE size s) ++ (lastW gs).1) : ByteArray) := ⟨_, rfl⟩
      rw [← hu] at hX hus ⊢
      refine .s (feedB_chunk hB (Dc.new_In _) (by decide) (by decide) u (by omega) (fun st5 s1 ln' tr' o x hx ho hB2 kp he => ?_))
      obtain rfl := hx.symm.trans hX
      have ho : o = s := by
        apply toInj
        rw [ho]
      subst ho
      have z5 : st5.heap[0]? = some [.i 3, .i n, .i size] := by
        rw [he]
        refine st_ne (Nat.ne_of_gt (Nat.lt_of_lt_of_le l3 hpb)) ((kp.heap 0 (lt_of z0) ?_).trans z0)
        have := Nat.lt_of_lt_of_le l3 hqb
        omega
      refine .s (endB_done (.inr rfl) (.inr ⟨qb, rfl⟩) hB2.h ?_)
      refine ⟨by rw [hus2]; omega, ?_⟩
      rw [← hu]
      refine cnd_split (fun h => absurd rfl (bne_iff_ne.1 h)) (fun _ => ?_)
      intro t ht
      obtain rfl := ht.2 rfl
      refine ⟨_, z5, ?_⟩
      refine .s (trlB_a hB2 (by show X.tr.length ≤ _; rw [hXt]; omega) (fun he => ?_) (fun t e tk' q1 q2 => ?_))
      · have he : X.tr = [] := he
        have hg0 : gs = [] := hXt.symm.trans he
        have q9 := same12D_p [] gs (by decide) (by omega)
        refine .p rfl q9 ?_
        exact retb (decide_eq_true hg0.symm)
      · have q9 := same12D_p X.tr gs (by rw [hXt]; omega) (by omega)
        refine .p rfl q9 ?_
        exact retb (decide_eq_true hXt)
  · obtain rfl := hn3 (by decide)
    refine .s (put42_close h ?_)
    refine .s (end42_z (by decide) (by decide) h (fun st3 m3 => ?_))
    have z0 := m3.at' z0 (by show ¬ 0 = p; omega)
    refine .p rfl ql ?_
    refine ⟨_, z0, ?_⟩
    refine ⟨_, z0, ?_⟩
    refine ⟨_, z0, ?_⟩
    refine .s (newB21_e (n := b) (min40 hb1 hb) (decide_eq_true (by omega)) (fun st4 pb qb n4 L hn4 hL hB ht hpb hqb hk4 => ?_))
    have l3 := lt_of z0
    have z0 := (hk4 0 l3).trans z0
    have hB : st4.heap[pb]? = some [.nilP, .i 4, .i n4, .i n4, .b false, .b false] := hB.h
    refine .s (doneB_a (.inl rfl) hB ?_)
    refine ⟨by show s.size + 0 ≤ _; omega, ?_⟩
    rw [hemp]
    refine .s (feedB_close s (by omega) hB ?_)
    rw [ext_allC]
    refine .s (endB_close hB ?_)
    refine ⟨by show s.size + 0 ≤ _; omega, ?_⟩
    rw [hemp]
    refine cnd_split (fun h => absurd rfl (bne_iff_ne.1 h)) (fun _ => ?_)
    intro t ht
    obtain rfl := ht.2 rfl
    refine ⟨_, st_ne (Nat.ne_of_gt (Nat.lt_of_lt_of_le l3 hpb)) z0, ?_⟩
    rfl
end
end Go.Proofs.YthcjiflmhjagiaaGreatDoor
