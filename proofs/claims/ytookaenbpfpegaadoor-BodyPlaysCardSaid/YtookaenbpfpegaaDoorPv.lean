/- The law of bodies of any frame, in any pieces. No statement of its own. -/
import Derived.Test.YtookaenbpfpegaaDoorPu
set_option linter.unusedSimpArgs false
set_option linter.unusedVariables false
set_option maxRecDepth 100000
namespace Go.Proofs.YtookaenbpfpegaaDoor
open Go.RowKit
def fateC (F : Int × Int × List UInt8 × List Fld × Int) : List AV := [.i F.1, .i F.2.1, .s (toB F.2.2.1), .sl .no 2 (fldL F.2.2.2.1), .i F.2.2.2.2]
def fateV (F : Int × Int × List UInt8 × List Fld × Int) : AV := .agg (fateC F)
theorem of21_p (k : Int) (n L : Nat) (s : ByteArray) (hk : 1 ≤ k ∧ k ≤ 4) (hsz : s.size ≤ 1000000) (hL : L ≤ 65536) :
    APure Tryd.prog 11 [.agg [.i k, .i n], .i L, .s s] (fateV (fateF k n L s.data.toList)) [] := by
  have hbl := blen s
  have h0 : ([[AV.i k, .i n]] : List (List AV))[0]? = some [.i k, .i n] := rfl
  refine ACalls.toPureA rfl ?_
  obtain rfl | rfl | rfl | rfl : k = 1 ∨ k = 2 ∨ k = 3 ∨ k = 4 := by omega
  · refine ACalls.of_vc T_ok mixed Tryd.func11 rfl Tryd.call11 ?_
    refine ⟨_, rfl, ?_⟩
    refine ⟨_, rfl, ?_⟩
    refine ⟨_, rfl, ?_⟩
    exact ⟨_, rfl, .inl ⟨rfl, rfl⟩, .inl ⟨rfl, rfl⟩, .inl ⟨rfl, rfl⟩, .inr ⟨rfl, 2, rfl⟩, .inl ⟨rfl, rfl⟩, trivial⟩
  · rw [fate2, hbl]
    refine ACalls.of_vc T_ok mixed Tryd.func11 rfl Tryd.call11 ?_
    refine ⟨_, rfl, ?_⟩
    refine ⟨_, rfl, ?_⟩
    refine cnd_split (fun h => ?_) (fun h => ?_)
    · have h := of_decide_eq_true h
      rw [if_pos (by omega)]
      refine ⟨_, rfl, ?_⟩
      refine ⟨_, rfl, ?_⟩
      exact ⟨_, rfl, .inl ⟨rfl, rfl⟩, .inl ⟨rfl, rfl⟩, .inl ⟨by rw [toB_s]; rfl, rfl⟩, .inr ⟨rfl, 2, rfl⟩, .inl ⟨rfl, rfl⟩, trivial⟩
    · have h := of_decide_eq_false h
      rw [if_neg (by omega)]
      have hx : s.extract 0 n = toB (s.data.toList.take n) := by
        apply toInj
        rw [extB, toB_l, List.drop_zero]
      refine .e (by kernel_rfl) ?_
      refine ⟨_, rfl, ?_⟩
      refine ⟨_, rfl, ?_⟩
      refine ⟨n, rfl, Nat.zero_le _, by omega, ?_⟩
      rw [hx]
      refine ⟨_, rfl, ?_⟩
      refine ⟨_, rfl, ?_⟩
      exact ⟨_, rfl, .inl ⟨rfl, rfl⟩, .inl ⟨rfl, rfl⟩, .inl ⟨rfl, rfl⟩, .inr ⟨rfl, 2, rfl⟩, .inl ⟨rfl, rfl⟩, trivial⟩
  · have q1 := of19_p s L hsz hL
    rw [fate3]
    unfold Rs.fate fateA at q1
    have hn1 := fun hf => (runD_fin (L := L) s.data.toList [] Dc.new hf).2.2
    generalize runD L Dc.new s.data.toList = r at q1 hn1 ⊢
    by_cases hf : r.dn = true ∨ r.e ≠ 0
    · have hn1 := hn1 hf
      rw [if_pos hf] at q1 ⊢
      refine ACalls.of_vc T_ok mixed Tryd.func11 rfl Tryd.call11 ?_
      refine ⟨_, rfl, ?_⟩
      refine .p rfl q1 ?_
      refine ⟨_, rfl, ?_⟩
      refine ⟨_, rfl, ?_⟩
      refine cnd_split (fun h => absurd (beq_iff_eq.1 h) (by omega)) (fun _ => ?_)
      refine ⟨_, rfl, ?_⟩
      refine ⟨_, rfl, ?_⟩
      refine ⟨_, rfl, ?_⟩
      refine ⟨_, rfl, ?_⟩
      refine ⟨_, rfl, ?_⟩
      refine ⟨_, rfl, ?_⟩
      exact ⟨_, rfl, .inl ⟨rfl, rfl⟩, .inl ⟨rfl, rfl⟩, .inl ⟨rfl, rfl⟩, .inl ⟨rfl, rfl⟩, .inl ⟨rfl, rfl⟩, trivial⟩
    · rw [if_neg hf] at q1 ⊢
      refine ACalls.of_vc T_ok mixed Tryd.func11 rfl Tryd.call11 ?_
      refine ⟨_, rfl, ?_⟩
      refine .p rfl q1 ?_
      refine ⟨_, rfl, ?_⟩
      refine ⟨_, rfl, ?_⟩
      refine ⟨_, rfl, ?_⟩
      refine ⟨_, rfl, ?_⟩
      refine ⟨_, rfl, ?_⟩
      refine ⟨_, rfl, ?_⟩
      refine ⟨_, rfl, ?_⟩
      exact ⟨_, rfl, .inl ⟨rfl, rfl⟩, .inl ⟨rfl, rfl⟩, .inl ⟨rfl, rfl⟩, .inl ⟨rfl, rfl⟩, .inl ⟨rfl, rfl⟩, trivial⟩
  · refine ACalls.of_vc T_ok mixed Tryd.func11 rfl Tryd.call11 ?_
    refine ⟨_, rfl, ?_⟩
    refine ⟨_, rfl, ?_⟩
    refine ⟨_, rfl, ?_⟩
    exact ⟨_, rfl, .inl ⟨rfl, rfl⟩, .inl ⟨rfl, rfl⟩, .inl ⟨by rw [fate4, toB_s]; rfl, rfl⟩, .inr ⟨rfl, 2, rfl⟩, .inl ⟨rfl, rfl⟩, trivial⟩
theorem stepD_tr {L : Nat} {d : Dc} {b : UInt8} : (stepD L d b).1.tr.length ≤ d.tr.length + 1 := by
  have e1 : d.spend.tr = d.tr := by unfold Dc.spend; split <;> rfl
  unfold stepD
  split
  · dsimp only
    split <;> exact Nat.le_succ _
  split
  · split <;> split <;> exact Nat.le_succ _
  dsimp only
  rw [← e1]
  unfold linedD
  split
  · exact Nat.le_succ _
  split
  · exact Nat.le_succ _
  split
  · exact Nat.le_succ _
  unfold endD
  split
  · unfold sizeD
    split
    · exact Nat.le_succ _
    split
    · exact Nat.le_succ _
    split <;> exact Nat.le_succ _
  · unfold trailD
    split
    · exact Nat.le_succ _
    split
    · exact Nat.le_succ _
    split
    · exact Nat.le_succ _
    · show (d.spend.tr ++ _).length ≤ _
      rw [List.length_append]
      exact Nat.le_refl _
theorem runD_tr {L : Nat} : ∀ (l : List UInt8) (d : Dc), (runD L d l).d.tr.length ≤ d.tr.length + l.length
  | [], d => Nat.le_refl _
  | b :: r, d => by
    have h := stepD_tr (L := L) (d := d) (b := b)
    rw [runD]
    split
    · show (stepD L d b).1.tr.length ≤ _ + (r.length + 1); omega
    · have := runD_tr (L := L) r (stepD L d b).1
      show (runD L (stepD L d b).1 r).d.tr.length ≤ _ + (r.length + 1); omega
theorem catB_app : ∀ (a b : List ByteArray), catB (a ++ b) = catB a ++ catB b
  | [], b => by show catB b = ⟨#[]⟩ ++ catB b; apply toInj; rw [app_l']; rfl
  | x :: r, b => by rw [List.cons_append, catB_cons, catB_app r b, catB_cons, ByteArray.append_assoc]
theorem BQ.of {st : St} {p q L n : Nat} {k : Int} (hk : 1 ≤ k ∧ k ≤ 4) (hB : BI st p q k n n L (decide (k = 1 ∨ k = 2 ∧ (n : Int) = 0)) false Dc.new .nilS .nilS) : BQ st p q L k n [] := by
  obtain rfl | rfl | rfl | rfl : k = 1 ∨ k = 2 ∨ k = 3 ∨ k = 4 := by omega
  · exact .none rfl hB.h
  · refine .len rfl ?_
    have h := hB.h
    rw [show decide ((2 : Int) = 1 ∨ (2 : Int) = 2 ∧ (n : Int) = 0) = decide (n - ([] : List UInt8).length = 0) by rw [Bool.eq_iff_iff, decide_eq_true_eq, decide_eq_true_eq, List.length_nil]; omega] at h
    exact h
  · exact .chunk rfl .nilS .nilS hB
  · exact .close rfl hB.h
theorem fate_len (k : Int) (n L : Nat) (s : List UInt8) : (fateF k n L s).2.2.1.length ≤ s.length := by
  unfold fateF
  split
  · exact Nat.zero_le _
  split
  · split
    · exact Nat.le_refl _
    · show (s.take n).length ≤ _; rw [List.length_take]; omega
  split
  · exact Nat.le_refl _
  have h1 := runD_ole (L := L) s Dc.new
  have h2 := runD_le (L := L) s Dc.new
  split
  · show (runD L Dc.new s).o.length ≤ _; omega
  · show (runD L Dc.new s).o.length ≤ _; omega
set_option maxHeartbeats 4000000 in
theorem bodyPlays_p (k n : Int) (s0 : ByteArray) (l : List Int) (hb : Byt l) : APure Tryd.prog 3 [.agg [.i k, .i n], .s s0, .sl .no 1 (byL l)] (.b true) [] := by
  have hmx : maxLen = 9223372036854775807 := rfl
  obtain ⟨m, hm, hm1, hm2, hm3⟩ := cutS 5000 s0
  have hmin := minI_at s0.size 5000
  rw [← hm] at hmin
  obtain ⟨s, hs⟩ : ∃ s, s = s0.extract 0 m := ⟨_, rfl⟩
  rw [← hs] at hm3
  have q1 := cut16_p s l hb (by omega)
  have hcc := cutW_cat (l.take 60) s
  have hcl := cutW_len (l.take 60) s
  rw [List.length_take] at hcl
  generalize cutW (l.take 60) s = C at q1 hcc hcl
  have eC := strL_len C
  have hmay := may21_p k n 300
  refine APure.of rfl ?_
  refine ACalls.of_vc T_ok mixed Tryd.func3 rfl Tryd.call3 ?_
  refine .p rfl awake21_p ?_
  refine ⟨m, hmin, Nat.zero_le _, hm1, ?_⟩
  rw [← hs]
  refine ⟨_, rfl, ?_⟩
  refine .s (newB21_a k n 300 (fun h st' hk => ?_) (fun h st' p q n' L hn hL hB htk hp hq hk => ?_))
  · have h0 : st'.heap[0]? = some [.i k, .i n] := hk 0 (by show 0 < 1; decide)
    rw [h] at hmay
    refine ⟨_, h0, ?_⟩
    refine .p rfl hmay ?_
    rfl
  · have h0 : st'.heap[0]? = some [.i k, .i n] := hk 0 (by show 0 < 1; decide)
    have hk4 : 1 ≤ k ∧ k ≤ 4 ∧ n ≤ 1099511627776 := by
      unfold mayB at h
      have := of_decide_eq_true h
      omega
    rw [h] at hmay
    subst hn
    obtain rfl : L = 300 := by omega
    have hQ := BQ.of ⟨hk4.1, hk4.2.1⟩ hB
    have hp1 : 1 ≤ p := hp
    have hq1 : 1 ≤ q := hq
    have hpl := lt_of hB.h
    have hql := lt_of hB.d.h
    clear hB
    refine ⟨_, h0, ?_⟩
    refine .p rfl hmay ?_
    have d0 : doneF (fateF k n' 300 []) = ((fateF k n' 300 []).1 == 0) := by
      obtain rfl | rfl | rfl | rfl : k = 1 ∨ k = 2 ∨ k = 3 ∨ k = 4 := by omega
      · rfl
      · rw [fate2]
        split
        · rfl
        · show decide ((0 : Int) ≤ (n' : Nat) ∧ (0 : Int) = 0) = (((n' : Nat) : Int) == 0)
          rename_i h9
          rw [List.length_nil] at h9
          obtain rfl : n' = 0 := by omega
          rfl
      · rfl
      · rfl
    refine .n (.one 0 (.one 1 (.one 2 (.one 3 (.one 4 (.one 5 (.one 6 (.one 7 (.one 9 (.one 8 (.one 10 (.one 11 (.one 12 (.one 13 (.one 14 .done))))))))))))))) (by kernel_rfl) ?_
    refine ⟨_, h0, ?_⟩
    refine .s (doneQ hQ ⟨.refl _, ?_⟩)
    refine .p rfl (of21_p k n' 300 ⟨#[]⟩ ⟨hk4.1, hk4.2.1⟩ (by decide) (by decide)) ?_
    refine cnd_split (fun h9 => absurd d0 (bne_iff_ne.1 h9)) (fun _ => ?_)
    refine .p rfl q1 ?_
    have hkf : st'.heap.length = st'.heap.length := rfl
    refine vc_loop [9, 10, 12] (fun g vals st2 => ∃ (i a : Nat) (P : ByteArray), i + g = C.length ∧ P = catB (C.take i) ∧ a = P.size ∧ vals = [.i a, .s (toB (fateF k n' 300 P.data.toList).2.2.1), .i i] ∧ st2.heap[0]? = some [.i k, .i n'] ∧ BQ st2 p q 300 k n' P.data.toList ∧ p < st2.heap.length ∧ q < st2.heap.length) C.length rfl ⟨0, 0, ⟨#[]⟩, by omega, rfl, rfl, ?_, h0, hQ, hpl, hql⟩ ?_
    · have : (fateF k n' 300 []).2.2.1 = [] := List.eq_nil_of_length_eq_zero (by have := fate_len k n' 300 []; rw [List.length_nil] at this; omega)
      show _ = [AV.i 0, AV.s (toB (fateF k n' 300 []).2.2.1), AV.i 0]
      rw [this]
      rfl
    rintro g vals st2 ⟨i, a, P, hi, hP, ha, rfl, h0, hQ, hpl, hql⟩
    have hPs : P.size ≤ s.size := by
      have := catB_le (l := C) (k := i) (by omega)
      rw [hP, ← hcc]; exact this
    refine cnd_split (fun hd => ?_) (fun hd => ?_)
    · have hd := of_decide_eq_true hd
      have i1 : i < C.length := by omega
      have hPP := catB_take i1
      rw [← hP] at hPP
      obtain ⟨y, hy⟩ : ∃ y, y = C[i] := ⟨_, rfl⟩
      rw [← hy] at hPP
      have hP2s : (P ++ y).size ≤ s.size := by
        have := catB_le (l := C) (k := i + 1) (by omega)
        rw [← hPP, ← hcc]; exact this
      have hsl : ∀ k, k ≤ C.length → s.extract 0 (catB (C.take k)).size = catB (C.take k) := fun k hk => by
        apply toInj
        have e1 : catB C = catB (C.take k) ++ catB (C.drop k) := by
          have := catB_app (C.take k) (C.drop k)
          rw [List.take_append_drop] at this
          exact this
        rw [extB, List.drop_zero, ← hcc, e1, app_l', ← blen, List.take_left]
      have hx1 := hsl i (by omega)
      have hx2 := hsl (i + 1) (by omega)
      rw [← hP, ← ha] at hx1
      rw [hPP, app_size, ← ha] at hx2
      rw [app_size] at hP2s
      have hys : y.size ≤ 5000 := by omega
      refine vc_cut [13] (fun vals st3 => vals = [.ptr st2.heap.length 0] ∧ st3 = ⟨st2.heap ++ [fateC (fateF k n' 300 P.data.toList)], st2.tk⟩) (.one 0 (.one 1 (.one 2 (.one 3 (.two 4 5 (.one 5 (.one 6 .done)) (.one 4 (.one 6 .done))))))) (by kernel_rfl) (by kernel_rfl) ?_ ?_
      · refine ⟨_, h0, ?_⟩
        refine ⟨a, rfl, Nat.zero_le _, by omega, ?_⟩
        rw [hx1]
        refine ⟨?_, ?_⟩
        · refine .p rfl (of21_p k n' 300 P ⟨hk4.1, hk4.2.1⟩ (by omega) (by decide)) ?_
          refine ⟨_, last_at _ _, ?_⟩
          exact ⟨rfl, congrArg (fun h => (⟨h, st2.tk⟩ : St)) (last_set _ _ _)⟩
        · refine .p rfl (of21_p k n' 300 P ⟨hk4.1, hk4.2.1⟩ (by omega) (by decide)) ?_
          refine ⟨_, last_at _ _, ?_⟩
          exact ⟨rfl, congrArg (fun h => (⟨h, st2.tk⟩ : St)) (last_set _ _ _)⟩
      rintro vals st3 ⟨rfl, hst3⟩
      have h30 : st3.heap[0]? = some [.i k, .i n'] := by rw [hst3]; exact ap h0
      refine vc_cut [14] (fun vals st4 => vals = [.ptr st3.heap.length 0] ∧ st4 = ⟨st3.heap ++ [fateC (fateF k n' 300 (P ++ y).data.toList)], st3.tk⟩) (.one 0 (.one 1 (.one 2 (.one 3 (.one 4 (.one 5 (.one 6 (.one 7 (.one 8 (.one 9 (.two 10 11 (.one 11 (.one 12 .done)) (.one 10 (.one 12 .done))))))))))))) (by kernel_rfl) (by kernel_rfl) ?_ ?_
      · refine ⟨_, h30, ?_⟩
        refine ⟨i, _, rfl, strL_at i1, ?_⟩
        rw [← hy]
        intro c hc
        rw [IntWalk.i64_in _ (by omega)] at hc
        obtain rfl : c = ((a + y.size : Nat) : Int) := by omega
        refine ⟨a + y.size, rfl, Nat.zero_le _, by omega, ?_⟩
        rw [hx2]
        refine ⟨?_, ?_⟩
        · refine .p rfl (of21_p k n' 300 (P ++ y) ⟨hk4.1, hk4.2.1⟩ (by rw [app_size]; omega) (by decide)) ?_
          refine ⟨_, last_at _ _, ?_⟩
          exact ⟨rfl, congrArg (fun h => (⟨h, st3.tk⟩ : St)) (last_set _ _ _)⟩
        · refine .p rfl (of21_p k n' 300 (P ++ y) ⟨hk4.1, hk4.2.1⟩ (by rw [app_size]; omega) (by decide)) ?_
          refine ⟨_, last_at _ _, ?_⟩
          exact ⟨rfl, congrArg (fun h => (⟨h, st3.tk⟩ : St)) (last_set _ _ _)⟩
      rintro vals st4 ⟨rfl, hst4⟩
      have hbP := blen P
      have hbY := blen y
      have hPy : (P ++ y).data.toList = P.data.toList ++ y.data.toList := app_l' _ _
      rw [hPy] at hst4
      have h40 : st4.heap[0]? = some [.i k, .i n'] := by rw [hst4]; exact ap h30
      have hl3 : st3.heap.length = st2.heap.length + 1 := by rw [hst3]; simp
      have hl4 : st4.heap.length = st2.heap.length + 2 := by rw [hst4]; simp [hl3]
      have hc3 : st4.heap[st2.heap.length]? = some (fateC (fateF k n' 300 P.data.toList)) := by rw [hst4, hst3]; exact ap (last_at _ _)
      have hc4 : st4.heap[st3.heap.length]? = some (fateC (fateF k n' 300 (P.data.toList ++ y.data.toList))) := by rw [hst4]; exact last_at _ _
      have hQ4 : BQ st4 p q 300 k n' P.data.toList := hQ.keep (by rw [hst4, hst3]; exact (List.getElem?_append_left (by simp; omega)).trans (List.getElem?_append_left hpl)) (fun h => by rw [hst4, hst3]; exact (List.getElem?_append_left (by simp; omega)).trans (List.getElem?_append_left h)) (fun t _ => by rw [hst4, hst3])
      have hF0 := fate_len k n' 300 P.data.toList
      have hF9 := fate_len k n' 300 (P.data.toList ++ y.data.toList)
      rw [List.length_append] at hF9
      have hemp : ∀ x : ByteArray, x ++ ⟨#[]⟩ = x := fun x => by apply toInj; rw [app_l']; exact List.append_nil _
      refine ⟨i, _, rfl, strL_at i1, ?_⟩
      rw [← hy]
      refine .s (feedQ hQ4 (by decide) (by omega) y (by omega) (fun hge hQ5 hfe => ?_) (fun hlt st5 m2 o F hF hQ5 hkq hm2 hF1 hF2 hFo => ?_))
      · refine ⟨by rw [toB_size]; show _ + 0 ≤ _; omega, ?_⟩
        rw [hemp]
        refine ⟨_, hc3, ?_⟩
        refine cnd_split (fun _ => ?_) (fun h => absurd hge (of_decide_eq_false h))
        intro t ht
        obtain rfl : t = false := ht.2 rfl
        refine ⟨i, _, rfl, strL_at i1, ?_⟩
        rw [← hy]
        intro c hc
        rw [IntWalk.i64_in _ (by omega)] at hc
        obtain rfl : c = ((a + y.size : Nat) : Int) := by omega
        intro c hc
        rw [IntWalk.i64_in _ (by omega)] at hc
        obtain rfl : c = ((i + 1 : Nat) : Int) := by omega
        rw [← hfe, ← hPy]
        exact ⟨g - 1, by omega, i + 1, a + y.size, P ++ y, by omega, hPP.symm, by rw [app_size, ha], rfl, h40, by rw [hPy]; exact hQ5, by omega, by omega⟩
      · subst hF
        obtain ⟨F, hF⟩ : ∃ F, F = fateF k n' 300 (P.data.toList ++ y.data.toList) := ⟨_, rfl⟩
        have hd9 : doneF F = decide (0 ≤ F.1 ∧ F.2.1 = 0) := rfl
        have hc5 : st5.heap[st3.heap.length]? = some (fateC F) := by rw [hF]; exact (hkq.heap _ (by omega) (by omega) (by omega)).trans hc4
        have h50 : st5.heap[0]? = some [.i k, .i n'] := (hkq.heap 0 (by omega) (by omega) (by omega)).trans h40
        have hl5 := hkq.len
        have hcat : toB (fateF k n' 300 P.data.toList).2.2.1 ++ o = toB F.2.2.1 := by
          rw [hF, ← hFo]
          apply toInj
          rw [app_l', toB_l, toB_l]
        have hcz : o.size ≤ F.2.2.1.length := by
          rw [hF, ← hFo, List.length_append, blen]; omega
        have hI : (runD 300 Dc.new (P.data.toList ++ y.data.toList)).d.tr.length ≤ 1000000 := by
          have := runD_tr (L := 300) (P.data.toList ++ y.data.toList) Dc.new
          rw [List.length_append] at this
          have e : Dc.new.tr.length = 0 := rfl
          omega
        have hT9 : F.2.2.2.1.length ≤ 1000000 := by
          have e : F.2.2.2.1.length ≤ (runD 300 Dc.new (P.data.toList ++ y.data.toList)).d.tr.length := by
            rw [hF]
            unfold fateF
            split
            · exact Nat.zero_le _
            split
            · split <;> exact Nat.zero_le _
            split
            · exact Nat.zero_le _
            split <;> exact Nat.le_refl _
          omega
        rw [← hF] at hF1 hF2 hF9 ⊢
        refine ⟨by rw [toB_size]; omega, ?_⟩
        rw [hcat]
        refine ⟨_, (hkq.heap _ (by omega) (by omega) (by omega)).trans hc3, ?_⟩
        refine cnd_split (fun h => absurd (of_decide_eq_true h) (by show ¬ 0 ≤ (fateF k n' 300 P.data.toList).1; omega)) (fun _ => ?_)
        refine ⟨i, _, rfl, strL_at i1, ?_⟩
        rw [← hy]
        refine ⟨_, hc5, ?_⟩
        refine cnd_split (fun hge => ?_) (fun hge => ?_)
        · have hge : 0 ≤ F.1 := of_decide_eq_true hge
          have hF1 := hF1 hge
          refine ⟨_, hc5, ?_⟩
          intro c hc
          rw [hF1, IntWalk.i64_in _ (by omega)] at hc
          obtain rfl : c = (m2 : Int) := by omega
          refine .n (.one 0 (.one 1 (.one 2 (.one 3 (.one 4 (.one 5 (.one 6 (.one 7 (.one 8 (.one 9 (.one 10 (.one 11 (.one 12 (.one 13 (.one 14 (.one 15 (.one 16 (.one 17 (.one 18 (.one 19 (.one 20 (.one 21 (.one 22 (.one 23 (.one 24 (.one 25 (.one 26 (.one 27 (.one 28 (.one 30 (.one 29 (.one 31 (.one 32 (.one 33 (.one 34 (.one 36 (.one 37 (.one 35 (.one 38 (.one 39 (.one 40 (.one 41 (.one 43 (.one 44 (.one 42 (.one 45 (.one 46 (.one 47 .done)))))))))))))))))))))))))))))))))))))))))))))))) (by kernel_rfl) ?_
          refine cnd_split (fun h => absurd rfl (bne_iff_ne.1 h)) (fun _ => ?_)
          refine ⟨_, hc5, ?_⟩
          intro t ht
          obtain rfl : t = false := ht.2 rfl
          refine ⟨_, hc5, ?_⟩
          refine cnd_split (fun _ => ?_) (fun h => absurd hge (of_decide_eq_false h))
          refine ⟨_, hc5, ?_⟩
          have hdd := (show doneF F = (F.2.1 == 0) by rw [hd9, Bool.eq_iff_iff, decide_eq_true_eq, beq_iff_eq]; exact ⟨fun h => h.2, fun h => ⟨hge, h⟩⟩)
          refine cnd_split (fun h => absurd hdd (bne_iff_ne.1 h)) (fun _ => ?_)
          refine ⟨_, hc5, ?_⟩
          refine cnd_split (fun h => absurd rfl (bne_iff_ne.1 h)) (fun _ => ?_)
          rw [hF] at hc5 ⊢
          refine .s (doneQ hQ5 ⟨.refl _, ?_⟩)
          refine cnd_split (fun h => absurd rfl (bne_iff_ne.1 h)) (fun _ => ?_)
          refine ⟨_, hc5, ?_⟩
          refine .s (keptQ hQ5 ⟨.refl _, ?_⟩)
          refine cnd_split (fun h => absurd rfl (bne_iff_ne.1 h)) (fun _ => ?_)
          refine ⟨_, hc5, ?_⟩
          refine .s (trlQ hQ5 hI (fun a9 tk9 z1 z2 hT => ⟨⟨[], by simp⟩, ?_⟩))
          rw [← hF] at hT hc5 ⊢
          have hQ6 : BQ ⟨st5.heap, tk9⟩ p q 300 k n' (P.data.toList ++ y.data.toList) := hQ5.keep rfl (fun _ => rfl) z2
          rcases hT with ⟨rfl, hnil⟩ | ⟨rfl, hnil⟩ | ⟨t9, e9, rfl⟩
          · rw [hnil]
            refine .w (args' := [.sl .no 2 (fldL []), .sl .no 2 (fldL [])]) rfl ⟨.inr ⟨rfl, 2, rfl⟩, .inl (.inl ⟨rfl, rfl⟩), trivial⟩ (same12D_p [] [] (by decide) (by decide)) ?_
            refine ⟨i, _, rfl, strL_at i1, ?_⟩
            rw [← hy]
            intro c hc
            rw [IntWalk.i64_in _ (by omega)] at hc
            obtain rfl : c = ((a + y.size : Nat) : Int) := by omega
            intro c hc
            rw [IntWalk.i64_in _ (by omega)] at hc
            obtain rfl : c = ((i + 1 : Nat) : Int) := by omega
            rw [hF, ← hPy]
            exact ⟨g - 1, by omega, i + 1, a + y.size, P ++ y, by omega, hPP.symm, by rw [app_size, ha], rfl, h50, by rw [hPy]; exact hQ6, by show p < st5.heap.length; omega, by show q < st5.heap.length; omega⟩
          · rw [hnil]
            refine .p rfl (same12D_p [] [] (by decide) (by decide)) ?_
            refine ⟨i, _, rfl, strL_at i1, ?_⟩
            rw [← hy]
            intro c hc
            rw [IntWalk.i64_in _ (by omega)] at hc
            obtain rfl : c = ((a + y.size : Nat) : Int) := by omega
            intro c hc
            rw [IntWalk.i64_in _ (by omega)] at hc
            obtain rfl : c = ((i + 1 : Nat) : Int) := by omega
            rw [hF, ← hPy]
            exact ⟨g - 1, by omega, i + 1, a + y.size, P ++ y, by omega, hPP.symm, by rw [app_size, ha], rfl, h50, by rw [hPy]; exact hQ6, by show p < st5.heap.length; omega, by show q < st5.heap.length; omega⟩
          · refine .p rfl (same12D_p F.2.2.2.1 F.2.2.2.1 (by omega) (by omega)) ?_
            refine cnd_split (fun h => absurd h (by rw [decide_eq_true rfl]; decide)) (fun _ => ?_)
            refine ⟨i, _, rfl, strL_at i1, ?_⟩
            rw [← hy]
            intro c hc
            rw [IntWalk.i64_in _ (by omega)] at hc
            obtain rfl : c = ((a + y.size : Nat) : Int) := by omega
            intro c hc
            rw [IntWalk.i64_in _ (by omega)] at hc
            obtain rfl : c = ((i + 1 : Nat) : Int) := by omega
            rw [hF, ← hPy]
            exact ⟨g - 1, by omega, i + 1, a + y.size, P ++ y, by omega, hPP.symm, by rw [app_size, ha], rfl, h50, by rw [hPy]; exact hQ6, by show p < st5.heap.length; omega, by show q < st5.heap.length; omega⟩
        · have hge : ¬ 0 ≤ F.1 := of_decide_eq_false hge
          obtain rfl : m2 = y.size := hF2 (by omega)
          refine .n (.one 0 (.one 1 (.one 2 (.one 3 (.one 4 (.one 5 (.one 6 (.one 7 (.one 8 (.one 9 (.one 10 (.one 11 (.one 12 (.one 13 (.one 14 (.one 15 (.one 16 (.one 17 (.one 18 (.one 19 (.one 20 (.one 21 (.one 22 (.one 23 (.one 24 (.one 25 (.one 26 (.one 27 (.one 28 (.one 30 (.one 29 (.one 31 (.one 32 (.one 33 (.one 34 (.one 36 (.one 37 (.one 35 (.one 38 (.one 39 (.one 40 (.one 41 (.one 43 (.one 44 (.one 42 (.one 45 (.one 46 (.one 47 .done)))))))))))))))))))))))))))))))))))))))))))))))) (by kernel_rfl) ?_
          refine cnd_split (fun h => absurd rfl (bne_iff_ne.1 h)) (fun _ => ?_)
          refine ⟨_, hc5, ?_⟩
          intro t ht
          obtain rfl : t = false := ht.2 rfl
          refine ⟨_, hc5, ?_⟩
          refine cnd_split (fun h => absurd (of_decide_eq_true h) hge) (fun _ => ?_)
          have hdd := (show doneF F = false by rw [hd9]; exact decide_eq_false (fun h => hge h.1))
          refine cnd_split (fun h => absurd hdd (bne_iff_ne.1 h)) (fun _ => ?_)
          refine ⟨_, hc5, ?_⟩
          refine cnd_split (fun h => absurd rfl (bne_iff_ne.1 h)) (fun _ => ?_)
          rw [hF] at hc5 ⊢
          refine .s (doneQ hQ5 ⟨.refl _, ?_⟩)
          refine cnd_split (fun h => absurd rfl (bne_iff_ne.1 h)) (fun _ => ?_)
          refine ⟨_, hc5, ?_⟩
          refine .s (keptQ hQ5 ⟨.refl _, ?_⟩)
          refine cnd_split (fun h => absurd rfl (bne_iff_ne.1 h)) (fun _ => ?_)
          refine ⟨_, hc5, ?_⟩
          refine .s (trlQ hQ5 hI (fun a9 tk9 z1 z2 hT => ⟨⟨[], by simp⟩, ?_⟩))
          rw [← hF] at hT hc5 ⊢
          have hQ6 : BQ ⟨st5.heap, tk9⟩ p q 300 k n' (P.data.toList ++ y.data.toList) := hQ5.keep rfl (fun _ => rfl) z2
          rcases hT with ⟨rfl, hnil⟩ | ⟨rfl, hnil⟩ | ⟨t9, e9, rfl⟩
          · rw [hnil]
            refine .w (args' := [.sl .no 2 (fldL []), .sl .no 2 (fldL [])]) rfl ⟨.inr ⟨rfl, 2, rfl⟩, .inl (.inl ⟨rfl, rfl⟩), trivial⟩ (same12D_p [] [] (by decide) (by decide)) ?_
            refine ⟨i, _, rfl, strL_at i1, ?_⟩
            rw [← hy]
            intro c hc
            rw [IntWalk.i64_in _ (by omega)] at hc
            obtain rfl : c = ((a + y.size : Nat) : Int) := by omega
            intro c hc
            rw [IntWalk.i64_in _ (by omega)] at hc
            obtain rfl : c = ((i + 1 : Nat) : Int) := by omega
            rw [hF, ← hPy]
            exact ⟨g - 1, by omega, i + 1, a + y.size, P ++ y, by omega, hPP.symm, by rw [app_size, ha], rfl, h50, by rw [hPy]; exact hQ6, by show p < st5.heap.length; omega, by show q < st5.heap.length; omega⟩
          · rw [hnil]
            refine .p rfl (same12D_p [] [] (by decide) (by decide)) ?_
            refine ⟨i, _, rfl, strL_at i1, ?_⟩
            rw [← hy]
            intro c hc
            rw [IntWalk.i64_in _ (by omega)] at hc
            obtain rfl : c = ((a + y.size : Nat) : Int) := by omega
            intro c hc
            rw [IntWalk.i64_in _ (by omega)] at hc
            obtain rfl : c = ((i + 1 : Nat) : Int) := by omega
            rw [hF, ← hPy]
            exact ⟨g - 1, by omega, i + 1, a + y.size, P ++ y, by omega, hPP.symm, by rw [app_size, ha], rfl, h50, by rw [hPy]; exact hQ6, by show p < st5.heap.length; omega, by show q < st5.heap.length; omega⟩
          · refine .p rfl (same12D_p F.2.2.2.1 F.2.2.2.1 (by omega) (by omega)) ?_
            refine cnd_split (fun h => absurd h (by rw [decide_eq_true rfl]; decide)) (fun _ => ?_)
            refine ⟨i, _, rfl, strL_at i1, ?_⟩
            rw [← hy]
            intro c hc
            rw [IntWalk.i64_in _ (by omega)] at hc
            obtain rfl : c = ((a + y.size : Nat) : Int) := by omega
            intro c hc
            rw [IntWalk.i64_in _ (by omega)] at hc
            obtain rfl : c = ((i + 1 : Nat) : Int) := by omega
            rw [hF, ← hPy]
            exact ⟨g - 1, by omega, i + 1, a + y.size, P ++ y, by omega, hPP.symm, by rw [app_size, ha], rfl, h50, by rw [hPy]; exact hQ6, by show p < st5.heap.length; omega, by show q < st5.heap.length; omega⟩
    · have hd := of_decide_eq_false hd
      have hPs2 : P = s := by rw [hP, List.take_of_length_le (by omega), hcc]
      subst hPs2
      refine ⟨_, h0, ?_⟩
      refine .p rfl (of21_p k n' 300 P ⟨hk4.1, hk4.2.1⟩ (by omega) (by decide)) ?_
      refine ⟨_, last_at _ _, ?_⟩
      have hl9 : ((st2.heap ++ [[AV.i 0, .i 0, .s ⟨#[]⟩, .nilS, .i 0]]).set st2.heap.length (fateC (fateF k n' 300 P.data.toList))) = st2.heap ++ [fateC (fateF k n' 300 P.data.toList)] := last_set _ _ _
      have hQ7 : BQ ⟨(st2.heap ++ [[AV.i 0, .i 0, .s ⟨#[]⟩, .nilS, .i 0]]).set st2.heap.length (fateC (fateF k n' 300 P.data.toList)), st2.tk⟩ p q 300 k n' P.data.toList := by
        rw [hl9]
        exact hQ.keep (List.getElem?_append_left hpl) (fun h => List.getElem?_append_left h) (fun _ _ => rfl)
      have h07 : ((st2.heap ++ [[AV.i 0, .i 0, .s ⟨#[]⟩, .nilS, .i 0]]).set st2.heap.length (fateC (fateF k n' 300 P.data.toList)))[0]? = some [.i k, .i n'] := by rw [hl9]; exact ap h0
      have hc7 : ((st2.heap ++ [[AV.i 0, .i 0, .s ⟨#[]⟩, .nilS, .i 0]]).set st2.heap.length (fateC (fateF k n' 300 P.data.toList)))[st2.heap.length]? = some (fateC (fateF k n' 300 P.data.toList)) := last_upd _ _ _
      refine .s (endQ hQ7 (fun w hw st8 hk8 hp8 => ?_))
      obtain ⟨x8, l8, d8, e8, hp8, rfl, hx8⟩ := hp8
      have hl10 : st2.heap.length < ((st2.heap ++ [[AV.i 0, .i 0, .s ⟨#[]⟩, .nilS, .i 0]]).set st2.heap.length (fateC (fateF k n' 300 P.data.toList))).length := by simp
      have hc8 := (hk8 st2.heap.length hl10 (by omega)).trans hc7
      have h08 := (hk8 0 (Nat.lt_of_le_of_lt (Nat.zero_le _) hl10) (by omega)).trans h07
      obtain ⟨F, hF⟩ : ∃ F, F = fateF k n' 300 P.data.toList := ⟨_, rfl⟩
      rw [← hF] at hc8 hw ⊢
      have hd9 : doneF F = decide (0 ≤ F.1 ∧ F.2.1 = 0) := rfl
      have leafT : doneF F = true → d8 = true := fun h => by rw [hw, h]; rfl
      clear hQ hQ7 hc7 h07 hl9 hl10 hk8 d0 hmay
      obtain rfl | rfl | rfl | rfl : k = 1 ∨ k = 2 ∨ k = 3 ∨ k = 4 := by omega
      all_goals
        refine ⟨_, hc8, ?_⟩
        refine cnd_split (fun hge => ?_) (fun hge => ?_)
        · have hge : 0 ≤ F.1 := of_decide_eq_true hge
          refine ⟨_, hc8, ?_⟩
          refine cnd_split (fun he => ?_) (fun he => ?_)
          · have he := beq_iff_eq.1 he
            obtain rfl := leafT (by rw [hd9]; exact decide_eq_true ⟨hge, he⟩)
            refine .s (doneB_a hx8 hp8 ?_)
            refine ⟨_, hc8, ?_⟩
            intro t ht
            obtain rfl : t = true := ht.2 rfl
            rfl
          · have he : ¬ F.2.1 = 0 := beq_eq_false_iff_ne.1 he
            have hdf : doneF F = false := by rw [hd9]; exact decide_eq_false (fun h => he h.2)
            rw [hdf] at hw
            first
              | obtain rfl : d8 = true := hw
                refine ⟨_, h08, ?_⟩
                refine .s (doneB_a hx8 hp8 ?_)
                refine ⟨_, hc8, ?_⟩
                intro t ht
                obtain rfl : t = true := ht.2 rfl
                rfl
              | obtain rfl : d8 = false := hw
                refine ⟨_, h08, ?_⟩
                refine .s (doneB_a hx8 hp8 ?_)
                refine ⟨_, hc8, ?_⟩
                intro t ht
                obtain rfl : t = true := ht.2 rfl
                rfl
        · have hge : ¬ 0 ≤ F.1 := of_decide_eq_false hge
          have hdf : doneF F = false := by rw [hd9]; exact decide_eq_false (fun h => hge h.1)
          rw [hdf] at hw
          first
            | obtain rfl : d8 = true := hw
              refine ⟨_, h08, ?_⟩
              refine .s (doneB_a hx8 hp8 ?_)
              refine ⟨_, hc8, ?_⟩
              intro t ht
              obtain rfl : t = true := ht.2 rfl
              rfl
            | obtain rfl : d8 = false := hw
              refine ⟨_, h08, ?_⟩
              refine .s (doneB_a hx8 hp8 ?_)
              refine ⟨_, hc8, ?_⟩
              intro t ht
              obtain rfl : t = true := ht.2 rfl
              rfl
end Go.Proofs.YtookaenbpfpegaaDoor
