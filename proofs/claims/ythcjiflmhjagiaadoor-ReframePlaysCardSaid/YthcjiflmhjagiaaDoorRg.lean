/- The laws of a writer: what goes on, and in which frame. No statement of its own. -/
import Derived.Test.YthcjiflmhjagiaaDoorRf
set_option linter.unusedSimpArgs false
set_option linter.unusedVariables false
set_option maxRecDepth 100000
namespace Go.Proofs.YthcjiflmhjagiaaDoor
open Go.RowKit
theorem outW_out (k n m : Int) : outW (outW k n m).1 (outW k n m).2 m = outW k n m := by
  unfold outW
  by_cases h : k = 1 ∨ k = 2
  · rw [if_pos h, if_pos h]
  · rw [if_neg h]
    by_cases h2 : m = 1
    · rw [if_pos h2, if_neg (by decide)]
    · rw [if_neg h2, if_neg (by decide)]
theorem kept42_np : APure Tryd.prog 30 [.nilP] (.i 0) [] := by
  refine APure.of rfl (ACalls.of_vc T_ok mixed Tryd.func30 rfl Tryd.call30 ?_)
  rfl
theorem partW_emp (k : Int) (z : Nat) : partW k z (⟨#[]⟩ : ByteArray) = ⟨#[]⟩ := by
  unfold partW
  split
  · exact (putE_emp z).1
  · rfl
theorem partW_size {k : Int} {size : Nat} {s : ByteArray} (h : s.size ≤ 1000000) : (partW k size s).size ≤ 69 * s.size := by
  unfold partW
  split
  · exact putE_le (by omega)
  · omega
def Mx (k n : Int) : Int := if k = 2 then n else 0
/-- where a writer stands behind so much data -/
structure WI (st : St) (p : Nat) (k n : Int) (size : Nat) (took : ByteArray) : Prop where
  ex : ∃ x e, st.heap[p]? = some [x, .i k, .i n, .i (if k = 2 then n - took.size else 0), .b false] ∧ 0 < p ∧ (k = 3 → x = .ptr e 0 ∧ p ≠ e ∧ 0 < e ∧ st.heap[e]? = some [.i size, .s (restE size took), .b false]) ∧ (k ≠ 3 → x = .nilP)
  le : k = 1 ∨ k = 2 → (took.size : Int) ≤ Mx k n
section
variable {st : St} {p size : Nat} {k n : Int} {took : ByteArray} {R : AV → St → Prop}
theorem put42_any {x : ByteArray} (hW : WI st p k n size took) (hk : 1 ≤ k ∧ k ≤ 4) (hn : 0 ≤ n ∧ n ≤ 9223372036854775807) (z1 : 1 ≤ size) (z2 : size ≤ 65536) (hs : (took ++ x).size ≤ 900000)
    (hR1 : k = 1 ∨ k = 2 → Mx k n < took.size + x.size → R (.tup [.s ⟨#[]⟩, .i 3]) st)
    (hR2 : (k = 1 ∨ k = 2 → (took.size : Int) + x.size ≤ Mx k n) → ∀ st', Mv 0 (fun q => 0 < q) st st' → WI st' p k n size (took ++ x) → ∀ D, partW k size took ++ D = partW k size (took ++ x) → R (.tup [.s D, .i 0]) st') :
    ACalls Tryd.prog 28 [.ptr p 0, .s x] st R := by
  obtain ⟨⟨y, e, h, hp, h3, hn3⟩, hle⟩ := hW
  have hsz := app_size took x
  by_cases k12 : k = 1 ∨ k = 2
  · obtain rfl := hn3 (by omega)
    have hle := hle k12
    have hL : (if k = 2 then n - (took.size : Int) else 0) = Mx k n - took.size := by
      unfold Mx at hle ⊢
      split
      · rfl
      · rename_i h2
        rw [if_neg h2] at hle
        omega
    have hMn : 0 ≤ Mx k n ∧ Mx k n ≤ 9223372036854775807 := by
      unfold Mx
      split <;> omega
    rw [hL] at h
    refine put42_len k12 h (by omega) (by omega) (fun h1 => hR1 k12 (by omega)) (fun h1 st' h2 m2 => ?_)
    refine hR2 (fun _ => by omega) st' (m2.wide fun q _ e => by have e : q = p := e; omega) ⟨⟨.nilP, 0, ?_, hp, fun h => by omega, fun _ => rfl⟩, fun _ => by rw [hsz]; omega⟩ x (by unfold partW; rw [if_neg (by omega), if_neg (by omega)])
    rw [h2, show (if k = 2 then n - ((took ++ x).size : Int) else 0) = Mx k n - took.size - x.size from by
      rw [hsz]
      unfold Mx at hle h1 ⊢
      split
      · omega
      · rename_i hk2
        rw [if_neg hk2] at hle h1
        omega]
  · by_cases k3 : k = 3
    · obtain ⟨rfl, hpe, he0, he⟩ := h3 k3
      subst k3
      have hrl := restE_le size took
      obtain ⟨a1, a2⟩ := putE_app size took x
      refine put42_chunk h z1 z2 (by rw [app_size]; omega) he (fun st' m2 h2 => ?_)
      rw [← a2] at h2
      refine hR2 (fun h => absurd h k12) st' (m2.wide fun q _ e' => by have e' : q = e := e'; omega) ⟨⟨.ptr e 0, e, m2.at' h (fun e' => hpe e'), hp, fun _ => ⟨rfl, hpe, he0, h2⟩, fun h => absurd rfl h⟩, fun h => absurd h k12⟩ _ (by unfold partW; rw [if_pos rfl, if_pos rfl, a1])
    · obtain rfl : k = 4 := by omega
      refine put42_close h ?_
      exact hR2 (fun h => absurd h k12) st (.refl (Nat.zero_le _)) ⟨⟨y, e, h, hp, fun h => absurd h k3, hn3⟩, fun h => absurd h k12⟩ x (by unfold partW; rw [if_neg k3, if_neg k3])
theorem kept42_any (hW : WI st p k n size took) (z1 : 1 ≤ size) (hR : ∀ c : Nat, c < size → R (.i c) st) : ACalls Tryd.prog 30 [.ptr p 0] st R := by
  obtain ⟨⟨y, e, h, hp, h3, hn3⟩, hle⟩ := hW
  by_cases k3 : k = 3
  · obtain ⟨rfl, hpe, he0, he⟩ := h3 k3
    exact kept42_e h he (hR _ (restE_lt z1 took))
  · obtain rfl := hn3 k3
    exact kept42_n h (hR 0 z1)
theorem end42_any (hW : WI st p k n size took) (hk : 1 ≤ k ∧ k ≤ 4) (hn : 0 ≤ n ∧ n ≤ 9223372036854775807) (z1 : 1 ≤ size) (hs : took.size ≤ 900000)
    (hR : ∀ st', Mv 0 (fun q => 0 < q) st st' → ∀ (c : Int) (D : ByteArray), c = (wholeW k n size took []).2 → (c = 0 → partW k size took ++ D = (wholeW k n size took []).1) → D.size ≤ 1000000000 →
      (∀ R' : AV → St → Prop, (∀ st'', R' (.tup [.s ⟨#[]⟩, .i (if c = 0 then 8 else 0)]) st'') → ACalls Tryd.prog 28 [.ptr p 0, .s ⟨#[]⟩] st' R') → R (.tup [.s D, .i c]) st') :
    ACalls Tryd.prog 31 [.ptr p 0, .nilS] st R := by
  obtain ⟨⟨y, e, h, hp, h3, hn3⟩, hle⟩ := hW
  by_cases k3 : k = 3
  · obtain ⟨rfl, hpe, he0, he⟩ := h3 k3
    subst k3
    have hrl := restE_le size took
    have hpw := pieceW_size (s := restE size took) (by omega)
    have hl5 : (lastW []).1.size = 5 := by rw [lastW_nil]; rfl
    have hw : wholeW 3 n size took [] = (putE size took ++ (pieceW (restE size took) ++ (lastW []).1), 0) := by
      unfold wholeW
      rw [if_neg (by decide), if_neg (by rw [lastW_nil]; exact fun h => h rfl)]
    refine end42_c0 hpe h (by omega) he (fun st' m2 h2 => ?_)
    refine hR st' (m2.wide fun q _ e' => by have e' : q = p ∨ q = e := e'; omega) 0 _ (by rw [hw]) (fun _ => by rw [hw]; unfold partW; rw [if_pos rfl]) (by rw [app_size]; omega) (fun R' hR' => put42_done h2 ?_)
    have := hR' st'
    rw [if_pos rfl] at this
    exact this
  · obtain rfl := hn3 k3
    refine end42_n (.inl rfl) k3 h (fun st' h2 m2 => ?_)
    have mm := m2.wide (D := fun q => 0 < q) fun q _ e => by have e : q = p := e; omega
    by_cases hl : 0 < (if k = 2 then n - (took.size : Int) else 0)
    · have hk2 : k = 2 := Decidable.byContradiction fun hk2 => by rw [if_neg hk2] at hl; omega
      have hl2 := hl
      rw [if_pos hk2] at hl2
      have hw : wholeW k n size took [] = (⟨#[]⟩, 6) := by
        unfold wholeW
        rw [if_pos k3, if_pos ⟨hk2, by omega⟩]
      rw [if_pos hl]
      rw [decide_eq_false (by omega)] at h2
      refine hR st' mm 6 ⟨#[]⟩ (by rw [hw]) (fun h => by cases h) (Nat.zero_le _) (fun R' hR' => ?_)
      refine put42_len (.inr hk2) h2 (by rw [if_pos hk2]; omega) (Nat.zero_le _) (fun h => absurd h (by show ¬ _ < ((0 : Nat) : Int); omega)) (fun _ st3 _ _ => ?_)
      have := hR' st3
      rw [if_neg (by decide)] at this
      exact this
    · have hw : wholeW k n size took [] = (took, 0) := by
        unfold wholeW
        rw [if_pos k3, if_neg]
        rintro ⟨hk2, h9⟩
        rw [if_pos hk2] at hl
        omega
      rw [if_neg hl]
      rw [decide_eq_true (by omega)] at h2
      refine hR st' mm 0 ⟨#[]⟩ (by rw [hw]) (fun _ => by rw [hw]; unfold partW; rw [if_neg k3]; exact add_empB _) (Nat.zero_le _) (fun R' hR' => put42_done h2 ?_)
      have := hR' st'
      rw [if_pos rfl] at this
      exact this
end
theorem awake42_p : APure Tryd.prog 25 [] (.b true) [] := by
  have q1 := out42_p 4 0 1
  refine APure.of rfl ?_
  refine ACalls.of_vc T_ok mixed Tryd.func25 rfl Tryd.call25 ?_
  refine .s (new42_a (k := 2) (n := 3) (size := 9) (fun h => absurd h (by decide)) (fun _ st1 e p left x hpe h h3 hn3 hl hlt => ?_))
  obtain rfl := hn3 (by decide)
  rw [if_pos rfl] at hl
  subst hl
  refine .s (put42_len (.inr rfl) h (by omega) (by decide) (fun h => absurd h (by decide)) (fun _ st2 h2 m2 => ?_))
  refine .s (end42_n (.inl rfl) (by decide) h2 (fun st3 h4 m3 => ?_))
  rw [if_neg (by decide)]
  refine .p rfl q1 ?_
  refine ⟨by kernel_rfl, fun t ht => ?_⟩
  obtain rfl : t = true := ht.2 ⟨rfl, rfl, trivial⟩
  intro t ht
  obtain rfl : t = true := ht.2 rfl
  rfl
theorem reframeOut_p (k n m : Int) (s : ByteArray) : APure Tryd.prog 7 [.agg [.i k, .i n], .i m, .s s] (.b true) [] := by
  have q1 := out42_p k n m
  have q2 := rout42_p k n m
  have q3 := out42_p (outW k n m).1 (outW k n m).2 m
  rw [outW_out] at q3
  generalize (outW k n m).1 = a at *
  generalize (outW k n m).2 = b at *
  refine APure.of rfl ?_
  refine ACalls.of_vc T_ok mixed Tryd.func7 rfl Tryd.call7 ?_
  refine .p rfl awake42_p ?_
  refine .s (put42_nil ?_)
  refine .s (end42_nil ?_)
  refine ⟨_, rfl, ?_⟩
  refine .p rfl q1 ?_
  refine ⟨_, rfl, ?_⟩
  refine .x (by kernel_rfl) ?_
  refine ⟨_, rfl, ?_⟩
  refine ⟨_, rfl, ?_⟩
  refine .p rfl q2 ?_
  refine ⟨by kernel_rfl, fun t ht => ?_⟩
  obtain rfl : t = true := ht.2 ⟨rfl, rfl, trivial⟩
  refine ⟨_, rfl, ?_⟩
  refine .p rfl q3 ?_
  refine ⟨_, rfl, ?_⟩
  refine ⟨by kernel_rfl, fun t ht => ?_⟩
  obtain rfl : t = true := ht.2 ⟨rfl, rfl, trivial⟩
  refine .p rfl kept42_np ?_
  rfl
set_option maxHeartbeats 2000000 in
theorem reframePlays_p (k n size0 : Int) (hn0 : n ≤ 9223372036854775807) (s0 : ByteArray) (l : List Int) (hb : Byt l) : APure Tryd.prog 6 [.agg [.i k, .i n, .i size0], .s s0, .sl .no 1 (byL l)] (.b true) [] := by
  have hmx : maxLen = 9223372036854775807 := rfl
  obtain ⟨m, hm, hm1, hm2, hm3⟩ := cutS 2000 s0
  have hmin := minI_at s0.size 2000
  rw [← hm] at hmin
  obtain ⟨s, hs⟩ : ∃ s, s = s0.extract 0 m := ⟨_, rfl⟩
  rw [← hs] at hm3
  have q1 := cut16_p s l hb (by omega)
  have hcl := cutW_len (l.take 60) s
  rw [List.length_take] at hcl
  have hcc := cutW_cat (l.take 60) s
  generalize cutW (l.take 60) s = L at *
  have eL := strL_len L
  have q2 := may42_p k n size0
  have hsz : ∀ i, i ≤ L.length → (catB (L.take i)).size ≤ s.size := fun i hi => by
    have := catB_le hi
    rw [hcc] at this
    exact this
  refine APure.of rfl ?_
  refine ACalls.of_vc T_ok mixed Tryd.func6 rfl Tryd.call6 ?_
  refine .p rfl awake42_p ?_
  refine ⟨m, hmin, Nat.zero_le _, hm1, ?_⟩
  rw [← hs]
  refine ⟨_, rfl, ?_⟩
  refine ⟨_, rfl, ?_⟩
  refine .s (new42_k (k := k) (n := n) (size := size0) (fun hf st1 m1 => ?_) (fun hf st1 m1 e p left x hpe h h3 hn3 hl hlt hp0 he0 => ?_))
  · have hj := m1.at' (q := 0) (cs := [.i k, .i n, .i size0]) rfl (by simp)
    refine ⟨_, hj, ?_⟩
    refine ⟨_, hj, ?_⟩
    rw [hf] at q2
    refine .p rfl q2 ?_
    rfl
  · have hj := m1.at' (q := 0) (cs := [.i k, .i n, .i size0]) rfl (by simp)
    refine ⟨_, hj, ?_⟩
    refine ⟨_, hj, ?_⟩
    rw [hf] at q2
    refine .p rfl q2 ?_
    obtain ⟨hk, hn, hz1, hz2⟩ := of_decide_eq_true hf
    have hn : 0 ≤ n ∧ n ≤ 9223372036854775807 := ⟨hn, hn0⟩
    obtain ⟨size, rfl⟩ := Int.eq_ofNat_of_zero_le (show 0 ≤ size0 by omega)
    have z1 : 1 ≤ size := by omega
    have z2 : size ≤ 65536 := by omega
    have hre := (putE_emp size).2
    have hW0 : WI st1 p k n size ⟨#[]⟩ := by
      refine ⟨⟨x, e, ?_, hp0, fun hk3 => ⟨(h3 hk3).1, hpe, he0 hk3, by rw [hre]; exact (h3 hk3).2⟩, hn3⟩, fun hk12 => ?_⟩
      · rw [h, hl]
        show some [x, AV.i k, AV.i n, AV.i (if k = 2 then n else 0), AV.b false] = some [x, AV.i k, AV.i n, AV.i (if k = 2 then n - ((0 : Nat) : Int) else 0), AV.b false]
        rw [show n - ((0 : Nat) : Int) = n by omega]
      · unfold Mx
        show ((0 : Nat) : Int) ≤ _
        split <;> omega
    intro c hc
    rw [IntWalk.i64_in _ (by omega)] at hc
    obtain rfl : c = ((s.size + 1 : Nat) : Int) := by omega
    refine ⟨_, hj, ?_⟩
    refine cnd_split (fun hk1 => ?_) (fun hk1 => ?_)
    · have hk1 : k = 1 := beq_iff_eq.1 hk1
      have hM1 : k = 1 ∨ k = 2 → (0 : Int) = Mx k n := fun _ => by unfold Mx; rw [if_neg (by omega)]
      have hM2 : ¬ (k = 1 ∨ k = 2) → (0 : Int) = s.size + 1 := fun h => absurd (.inl hk1) h
      refine ⟨_, hj, ?_⟩
      refine cnd_split (fun hk2 => absurd (beq_iff_eq.1 hk2) (by omega)) (fun _ => ?_)
      refine .p rfl q1 ?_
      refine vc_loop [10, 11, 13] (fun g vals st' => ∃ (i : Nat) (took : ByteArray), i + g = L.length ∧ vals = [.s took, .s (partW k size took), .i i] ∧ st'.heap[0]? = some [.i k, .i n, .i size] ∧ WI st' p k n size took ∧ took.size ≤ (catB (L.take i)).size) L.length rfl ⟨0, ⟨#[]⟩, by omega, by rw [partW_emp]; rfl, hj, hW0, Nat.zero_le _⟩ ?_
      rintro g vals st1 ⟨i, took, hi, rfl, hh, hW, hts⟩
      refine cnd_split (fun hd => ?_) (fun hd => ?_)
      · have hd := of_decide_eq_true hd
        have i1 : i < L.length := by omega
        have hct := catB_take i1
        have hs1 := hsz (i + 1) (by omega)
        rw [hct, app_size] at hs1
        have hps := partW_size (k := k) (size := size) (s := took ++ L[i]) (by rw [app_size]; omega)
        rw [app_size took L[i]] at hps
        refine ⟨i, _, rfl, strL_at i1, ?_⟩
        refine .s (put42_any hW hk hn z1 z2 (by rw [app_size]; omega) (fun h1 h2 => ?_) (fun h1 st2 m2 hW2 D hD => ?_))
        · refine ⟨i, _, rfl, strL_at i1, ?_⟩
          intro c hc
          rw [IntWalk.i64_in _ (by omega)] at hc
          obtain rfl : c = ((took.size + L[i].size : Nat) : Int) := by omega
          refine cnd_split (fun h3 => ?_) (fun h3 => absurd (of_decide_eq_false h3) (by have := hM1 h1; omega))
          intro t ht
          obtain rfl : t = false := ht.2 rfl
          intro c hc
          rw [IntWalk.i64_in _ (by omega)] at hc
          obtain rfl : c = ((i + 1 : Nat) : Int) := by omega
          refine ⟨g - 1, by omega, i + 1, took, by omega, rfl, hh, hW, ?_⟩
          rw [hct, app_size]
          omega
        · have hh2 := m2.at' hh (by omega)
          refine ⟨i, _, rfl, strL_at i1, ?_⟩
          intro c hc
          rw [IntWalk.i64_in _ (by omega)] at hc
          obtain rfl : c = ((took.size + L[i].size : Nat) : Int) := by omega
          refine cnd_split (fun h3 => absurd (of_decide_eq_true h3) (by
            by_cases hk12 : k = 1 ∨ k = 2
            · have := h1 hk12; have := hM1 hk12; omega
            · have := hM2 hk12; omega)) (fun _ => ?_)
          refine ⟨i, _, rfl, strL_at i1, ?_⟩
          refine ⟨by show took.size + L[i].size ≤ _; omega, ?_⟩
          refine ⟨by rw [← app_size, hD]; omega, ?_⟩
          rw [hD]
          have q3 := part42_p k n size (took ++ L[i]) z1 z2 (by rw [app_size]; omega)
          refine .n (.one 0 (.one 1 (.one 2 (.one 3 (.one 4 (.one 5 (.one 6 (.one 7 (.one 8 (.one 9 (.one 10 (.one 11 (.one 12 (.one 13 (.one 15 (.one 16 (.one 14 (.one 17 (.one 18 .done))))))))))))))))))) (by kernel_rfl) ?_
          refine ⟨_, hh2, ?_⟩
          refine ⟨_, hh2, ?_⟩
          refine .p rfl q3 ?_
          intro t ht
          obtain rfl : t = false := ht.2 rfl
          refine ⟨_, hh2, ?_⟩
          refine .s (kept42_any hW2 z1 (fun c hc => ⟨.refl _, ?_⟩))
          refine cnd_split (fun h4 => absurd (of_decide_eq_true h4) (by omega)) (fun _ => ?_)
          intro c hc
          rw [IntWalk.i64_in _ (by omega)] at hc
          obtain rfl : c = ((i + 1 : Nat) : Int) := by omega
          refine ⟨g - 1, by omega, i + 1, took ++ L[i], by omega, rfl, hh2, hW2, ?_⟩
          rw [hct, app_size, app_size]
          omega
      · have hd := of_decide_eq_false hd
        have hsL := hsz i (by omega)
        have hps := partW_size (k := k) (size := size) (s := took) (by omega)
        have q4 := whole42_p k n size took [] z1 z2 (by omega) (by simp) (fun f h => by cases h)
        refine .s (end42_any hW hk hn z1 (by omega) (fun st2 m2 c D hc hD hDz hP => ?_))
        have hh2 := m2.at' hh (by omega)
        rw [← hc] at q4
        generalize (wholeW k n size took []).1 = w at *
        clear hc
        refine ⟨_, hh2, ?_⟩
        refine ⟨_, hh2, ?_⟩
        refine .w (args' := [.agg [.i k, .i n], .i size, .s took, .sl .no 2 []]) rfl ⟨.inl (.inl ⟨rfl, rfl⟩), .inl (.inl ⟨rfl, rfl⟩), .inl (.inl ⟨rfl, rfl⟩), .inr ⟨rfl, 2, rfl⟩, trivial⟩ q4 ?_
        refine cnd_split (fun h => absurd rfl (bne_iff_ne.1 h)) (fun _ => ?_)
        refine cnd_split (fun h => ?_) (fun h => ?_)
        · have h : c = 0 := beq_iff_eq.1 h
          have hD := hD h
          refine ⟨by rw [← app_size]; rw [app_size]; omega, ?_⟩
          rw [hD]
          intro t ht
          obtain rfl : t = false := ht.2 rfl
          refine .s (hP _ (fun st3 => ?_))
          rw [if_pos h]
          refine cnd_split (fun _ => ?_) (fun h2 => absurd h (beq_eq_false_iff_ne.1 h2))
          rfl
        · have h : c ≠ 0 := beq_eq_false_iff_ne.1 h
          refine .s (hP _ (fun st3 => ?_))
          rw [if_neg h]
          refine cnd_split (fun h2 => absurd (beq_iff_eq.1 h2) h) (fun _ => ?_)
          refine cnd_split (fun _ => ?_) (fun h2 => absurd (bne_eq_false_iff_eq.1 h2) h)
          rfl
    · have hk1 : k ≠ 1 := beq_eq_false_iff_ne.1 hk1
      refine ⟨_, hj, ?_⟩
      refine cnd_split (fun hk2 => ?_) (fun hk2 => ?_)
      · have hk2 : k = 2 := beq_iff_eq.1 hk2
        have hM1 : k = 1 ∨ k = 2 → n = Mx k n := fun _ => by unfold Mx; rw [if_pos hk2]
        have hM2 : ¬ (k = 1 ∨ k = 2) → n = s.size + 1 := fun h => absurd (.inr hk2) h
        refine ⟨_, hj, ?_⟩
        refine .p rfl q1 ?_
        refine vc_loop [10, 11, 13] (fun g vals st' => ∃ (i : Nat) (took : ByteArray), i + g = L.length ∧ vals = [.s took, .s (partW k size took), .i i] ∧ st'.heap[0]? = some [.i k, .i n, .i size] ∧ WI st' p k n size took ∧ took.size ≤ (catB (L.take i)).size) L.length rfl ⟨0, ⟨#[]⟩, by omega, by rw [partW_emp]; rfl, hj, hW0, Nat.zero_le _⟩ ?_
        rintro g vals st1 ⟨i, took, hi, rfl, hh, hW, hts⟩
        refine cnd_split (fun hd => ?_) (fun hd => ?_)
        · have hd := of_decide_eq_true hd
          have i1 : i < L.length := by omega
          have hct := catB_take i1
          have hs1 := hsz (i + 1) (by omega)
          rw [hct, app_size] at hs1
          have hps := partW_size (k := k) (size := size) (s := took ++ L[i]) (by rw [app_size]; omega)
          rw [app_size took L[i]] at hps
          refine ⟨i, _, rfl, strL_at i1, ?_⟩
          refine .s (put42_any hW hk hn z1 z2 (by rw [app_size]; omega) (fun h1 h2 => ?_) (fun h1 st2 m2 hW2 D hD => ?_))
          · refine ⟨i, _, rfl, strL_at i1, ?_⟩
            intro c hc
            rw [IntWalk.i64_in _ (by omega)] at hc
            obtain rfl : c = ((took.size + L[i].size : Nat) : Int) := by omega
            refine cnd_split (fun h3 => ?_) (fun h3 => absurd (of_decide_eq_false h3) (by have := hM1 h1; omega))
            intro t ht
            obtain rfl : t = false := ht.2 rfl
            intro c hc
            rw [IntWalk.i64_in _ (by omega)] at hc
            obtain rfl : c = ((i + 1 : Nat) : Int) := by omega
            refine ⟨g - 1, by omega, i + 1, took, by omega, rfl, hh, hW, ?_⟩
            rw [hct, app_size]
            omega
          · have hh2 := m2.at' hh (by omega)
            refine ⟨i, _, rfl, strL_at i1, ?_⟩
            intro c hc
            rw [IntWalk.i64_in _ (by omega)] at hc
            obtain rfl : c = ((took.size + L[i].size : Nat) : Int) := by omega
            refine cnd_split (fun h3 => absurd (of_decide_eq_true h3) (by
              by_cases hk12 : k = 1 ∨ k = 2
              · have := h1 hk12; have := hM1 hk12; omega
              · have := hM2 hk12; omega)) (fun _ => ?_)
            refine ⟨i, _, rfl, strL_at i1, ?_⟩
            refine ⟨by show took.size + L[i].size ≤ _; omega, ?_⟩
            refine ⟨by rw [← app_size, hD]; omega, ?_⟩
            rw [hD]
            have q3 := part42_p k n size (took ++ L[i]) z1 z2 (by rw [app_size]; omega)
            refine .n (.one 0 (.one 1 (.one 2 (.one 3 (.one 4 (.one 5 (.one 6 (.one 7 (.one 8 (.one 9 (.one 10 (.one 11 (.one 12 (.one 13 (.one 15 (.one 16 (.one 14 (.one 17 (.one 18 .done))))))))))))))))))) (by kernel_rfl) ?_
            refine ⟨_, hh2, ?_⟩
            refine ⟨_, hh2, ?_⟩
            refine .p rfl q3 ?_
            intro t ht
            obtain rfl : t = false := ht.2 rfl
            refine ⟨_, hh2, ?_⟩
            refine .s (kept42_any hW2 z1 (fun c hc => ⟨.refl _, ?_⟩))
            refine cnd_split (fun h4 => absurd (of_decide_eq_true h4) (by omega)) (fun _ => ?_)
            intro c hc
            rw [IntWalk.i64_in _ (by omega)] at hc
            obtain rfl : c = ((i + 1 : Nat) : Int) := by omega
            refine ⟨g - 1, by omega, i + 1, took ++ L[i], by omega, rfl, hh2, hW2, ?_⟩
            rw [hct, app_size, app_size]
            omega
        · have hd := of_decide_eq_false hd
          have hsL := hsz i (by omega)
          have hps := partW_size (k := k) (size := size) (s := took) (by omega)
          have q4 := whole42_p k n size took [] z1 z2 (by omega) (by simp) (fun f h => by cases h)
          refine .s (end42_any hW hk hn z1 (by omega) (fun st2 m2 c D hc hD hDz hP => ?_))
          have hh2 := m2.at' hh (by omega)
          rw [← hc] at q4
          generalize (wholeW k n size took []).1 = w at *
          clear hc
          refine ⟨_, hh2, ?_⟩
          refine ⟨_, hh2, ?_⟩
          refine .w (args' := [.agg [.i k, .i n], .i size, .s took, .sl .no 2 []]) rfl ⟨.inl (.inl ⟨rfl, rfl⟩), .inl (.inl ⟨rfl, rfl⟩), .inl (.inl ⟨rfl, rfl⟩), .inr ⟨rfl, 2, rfl⟩, trivial⟩ q4 ?_
          refine cnd_split (fun h => absurd rfl (bne_iff_ne.1 h)) (fun _ => ?_)
          refine cnd_split (fun h => ?_) (fun h => ?_)
          · have h : c = 0 := beq_iff_eq.1 h
            have hD := hD h
            refine ⟨by rw [← app_size]; rw [app_size]; omega, ?_⟩
            rw [hD]
            intro t ht
            obtain rfl : t = false := ht.2 rfl
            refine .s (hP _ (fun st3 => ?_))
            rw [if_pos h]
            refine cnd_split (fun _ => ?_) (fun h2 => absurd h (beq_eq_false_iff_ne.1 h2))
            rfl
          · have h : c ≠ 0 := beq_eq_false_iff_ne.1 h
            refine .s (hP _ (fun st3 => ?_))
            rw [if_neg h]
            refine cnd_split (fun h2 => absurd (beq_iff_eq.1 h2) h) (fun _ => ?_)
            refine cnd_split (fun _ => ?_) (fun h2 => absurd (bne_eq_false_iff_eq.1 h2) h)
            rfl
      · have hk2 : k ≠ 2 := beq_eq_false_iff_ne.1 hk2
        have hM1 : k = 1 ∨ k = 2 → (s.size : Int) + 1 = Mx k n := fun h => by omega
        have hM2 : ¬ (k = 1 ∨ k = 2) → (s.size : Int) + 1 = s.size + 1 := fun _ => rfl
        refine .p rfl q1 ?_
        refine vc_loop [10, 11, 13] (fun g vals st' => ∃ (i : Nat) (took : ByteArray), i + g = L.length ∧ vals = [.s took, .s (partW k size took), .i i] ∧ st'.heap[0]? = some [.i k, .i n, .i size] ∧ WI st' p k n size took ∧ took.size ≤ (catB (L.take i)).size) L.length rfl ⟨0, ⟨#[]⟩, by omega, by rw [partW_emp]; rfl, hj, hW0, Nat.zero_le _⟩ ?_
        rintro g vals st1 ⟨i, took, hi, rfl, hh, hW, hts⟩
        refine cnd_split (fun hd => ?_) (fun hd => ?_)
        · have hd := of_decide_eq_true hd
          have i1 : i < L.length := by omega
          have hct := catB_take i1
          have hs1 := hsz (i + 1) (by omega)
          rw [hct, app_size] at hs1
          have hps := partW_size (k := k) (size := size) (s := took ++ L[i]) (by rw [app_size]; omega)
          rw [app_size took L[i]] at hps
          refine ⟨i, _, rfl, strL_at i1, ?_⟩
          refine .s (put42_any hW hk hn z1 z2 (by rw [app_size]; omega) (fun h1 h2 => ?_) (fun h1 st2 m2 hW2 D hD => ?_))
          · refine ⟨i, _, rfl, strL_at i1, ?_⟩
            intro c hc
            rw [IntWalk.i64_in _ (by omega)] at hc
            obtain rfl : c = ((took.size + L[i].size : Nat) : Int) := by omega
            refine cnd_split (fun h3 => ?_) (fun h3 => absurd (of_decide_eq_false h3) (by have := hM1 h1; omega))
            intro t ht
            obtain rfl : t = false := ht.2 rfl
            intro c hc
            rw [IntWalk.i64_in _ (by omega)] at hc
            obtain rfl : c = ((i + 1 : Nat) : Int) := by omega
            refine ⟨g - 1, by omega, i + 1, took, by omega, rfl, hh, hW, ?_⟩
            rw [hct, app_size]
            omega
          · have hh2 := m2.at' hh (by omega)
            refine ⟨i, _, rfl, strL_at i1, ?_⟩
            intro c hc
            rw [IntWalk.i64_in _ (by omega)] at hc
            obtain rfl : c = ((took.size + L[i].size : Nat) : Int) := by omega
            refine cnd_split (fun h3 => absurd (of_decide_eq_true h3) (by
              by_cases hk12 : k = 1 ∨ k = 2
              · have := h1 hk12; have := hM1 hk12; omega
              · have := hM2 hk12; omega)) (fun _ => ?_)
            refine ⟨i, _, rfl, strL_at i1, ?_⟩
            refine ⟨by show took.size + L[i].size ≤ _; omega, ?_⟩
            refine ⟨by rw [← app_size, hD]; omega, ?_⟩
            rw [hD]
            have q3 := part42_p k n size (took ++ L[i]) z1 z2 (by rw [app_size]; omega)
            refine .n (.one 0 (.one 1 (.one 2 (.one 3 (.one 4 (.one 5 (.one 6 (.one 7 (.one 8 (.one 9 (.one 10 (.one 11 (.one 12 (.one 13 (.one 15 (.one 16 (.one 14 (.one 17 (.one 18 .done))))))))))))))))))) (by kernel_rfl) ?_
            refine ⟨_, hh2, ?_⟩
            refine ⟨_, hh2, ?_⟩
            refine .p rfl q3 ?_
            intro t ht
            obtain rfl : t = false := ht.2 rfl
            refine ⟨_, hh2, ?_⟩
            refine .s (kept42_any hW2 z1 (fun c hc => ⟨.refl _, ?_⟩))
            refine cnd_split (fun h4 => absurd (of_decide_eq_true h4) (by omega)) (fun _ => ?_)
            intro c hc
            rw [IntWalk.i64_in _ (by omega)] at hc
            obtain rfl : c = ((i + 1 : Nat) : Int) := by omega
            refine ⟨g - 1, by omega, i + 1, took ++ L[i], by omega, rfl, hh2, hW2, ?_⟩
            rw [hct, app_size, app_size]
            omega
        · have hd := of_decide_eq_false hd
          have hsL := hsz i (by omega)
          have hps := partW_size (k := k) (size := size) (s := took) (by omega)
          have q4 := whole42_p k n size took [] z1 z2 (by omega) (by simp) (fun f h => by cases h)
          refine .s (end42_any hW hk hn z1 (by omega) (fun st2 m2 c D hc hD hDz hP => ?_))
          have hh2 := m2.at' hh (by omega)
          rw [← hc] at q4
          generalize (wholeW k n size took []).1 = w at *
          clear hc
          refine ⟨_, hh2, ?_⟩
          refine ⟨_, hh2, ?_⟩
          refine .w (args' := [.agg [.i k, .i n], .i size, .s took, .sl .no 2 []]) rfl ⟨.inl (.inl ⟨rfl, rfl⟩), .inl (.inl ⟨rfl, rfl⟩), .inl (.inl ⟨rfl, rfl⟩), .inr ⟨rfl, 2, rfl⟩, trivial⟩ q4 ?_
          refine cnd_split (fun h => absurd rfl (bne_iff_ne.1 h)) (fun _ => ?_)
          refine cnd_split (fun h => ?_) (fun h => ?_)
          · have h : c = 0 := beq_iff_eq.1 h
            have hD := hD h
            refine ⟨by rw [← app_size]; rw [app_size]; omega, ?_⟩
            rw [hD]
            intro t ht
            obtain rfl : t = false := ht.2 rfl
            refine .s (hP _ (fun st3 => ?_))
            rw [if_pos h]
            refine cnd_split (fun _ => ?_) (fun h2 => absurd h (beq_eq_false_iff_ne.1 h2))
            rfl
          · have h : c ≠ 0 := beq_eq_false_iff_ne.1 h
            refine .s (hP _ (fun st3 => ?_))
            rw [if_neg h]
            refine cnd_split (fun h2 => absurd (beq_iff_eq.1 h2) h) (fun _ => ?_)
            refine cnd_split (fun _ => ?_) (fun h2 => absurd (bne_eq_false_iff_eq.1 h2) h)
            rfl
end Go.Proofs.YthcjiflmhjagiaaDoor
