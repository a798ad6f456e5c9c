/- writes.Of, Touches. -/
import Derived.Test.YtajgpiplndfoeaaFew3
import Derived.Test.YtajgpiplndfoeaaShelf
import Derived.Sort.OwnSorted
namespace Go.Proofs.Ytajgpiplndfoeaa
open Go.RowKit Go.Sort

theorem Own.holds {w : World} {base g o n c : Nat} {l : List ByteArray} (h : Own w base 1 (.slice (some ⟨g, o, none⟩) n c) n (l.map .string)) : Holds encStr w g o (l.map fun s => s.data.toList).toArray := by
  have hl : l.length = n := by have := h.len; simpa using this
  rcases h.is with ⟨h0, _⟩ | ⟨g', o', cap, hv, _, hg, hn, hm, hc, hf⟩
  · cases h0
  obtain ⟨⟨rfl, rfl⟩, rfl⟩ : (g = g' ∧ o = o') ∧ c = cap := by simpa using hv
  intro j hj
  have hj' : j < l.length := by simpa using hj
  refine ⟨?_, (hf j (by omega)).2⟩
  rw [hc j (by omega)]
  simp [hj', encStr]

theorem Has.of_holds {w : World} {g o n c : Nat} {l : List ByteArray} (h : Holds encStr w g o (l.map fun s => s.data.toList).toArray) (hn : l.length = n) (hc : n ≤ c) (hm : c ≤ maxLen) : Has w 1 (.slice (some ⟨g, o, none⟩) n c) n (l.map .string) := by
  subst hn
  refine ⟨by simp, .inr ⟨g, o, c, rfl, hc, hm, fun j hj => ?_⟩⟩
  have hj' : j < l.length := by omega
  rw [(h j (by simpa using hj')).1]
  simp [hj', encStr]
theorem Holds.take {α : Type} [Inhabited α] {enc : α → Value} {w : World} {g o : Nat} {a b : List α} (h : Holds enc w g o (a ++ b).toArray) : Holds enc w g o a.toArray := by
  intro j hj
  have hj' : j < a.length := by simpa using hj
  have h2 := h j (by simp; omega)
  have e : (a ++ b).toArray[j]! = a.toArray[j]! := by
    rw [getElem!_pos _ j (by simp; omega), getElem!_pos _ j hj]
    simp [hj']
  rwa [e] at h2

theorem chg_put {w : World} {g o n : Nat} {os : Array Obj} (d : Array (List UInt8)) : Chg w (grow (putRow encStr (Sort.ahead w n) g o d) os) (fun k => k = g) := by
  refine ⟨rfl, rfl, rfl, by simp, fun k hk hne => ?_⟩
  rw [heap_grow_old _ _ (by simpa using hk)]
  have : g ≠ k := fun e => hne e.symm
  simp [putRow, mapBlock, Sort.ahead, Array.getElem?_modify, this]

set_option maxHeartbeats 1000000 in
theorem of_any (side : Int) (v : Value) (rs : List Rv) (w : World) (h : Has w 8 v rs.length (rs.flatMap Rv.cells)) (hl : rs.length ≤ 70) (hr : ∀ r ∈ rs, r.name.size ≤ maxLen ∧ r.to.size ≤ maxLen ∧ ∃ a n c, r.parts = .slice a n c) :
    Calls Try.prog 6 #[.int .i64 side, v] w fun e w' => ∃ a c, e = .returned (.slice a (ofB side (rs.map Rv.rl)).length c) ∧ Has w' 1 (.slice a (ofB side (rs.map Rv.rl)).length c) (ofB side (rs.map Rv.rl)).length ((ofB side (rs.map Rv.rl)).map .string) ∧ Chg w w' (fun _ => False) := by
  obtain ⟨i0, hi, hz0, hz1, hz2⟩ := info_parts infoStr
  obtain ⟨sa, sc, rfl, hcl, hcm⟩ := h.slice
  unfold maxLen at hcm
  go_enter Try.func6, Try.ntmps6
  go_wp2_with fail
  go_loopg [5, 10] rs.length (fun g s5 s10 wr => ∃ (k m : Nat) (a : Option Addr) (c : Nat), k + g = rs.length ∧ m ≤ 2 * k ∧ Hid (m = (namesOf side ((rs.take k).map Rv.rl)).length) ∧ s10 = .int .i64 k ∧ s5 = .slice a m c ∧ Own wr w.heap.size 1 (.slice a m c) m ((namesOf side ((rs.take k).map Rv.rl)).map .string) ∧ Chg w wr (fun _ => False))
  case atStart => exact ⟨0, 0, none, 0, by omega, by omega, Lib.hid rfl, rfl, rfl, Own.nil _ _ _, Chg.refl _ _⟩
  case round =>
    obtain ⟨k, m, a, c, hk, hm2, hm, rfl, rfl, hown, hC⟩ := hrel
    by_cases hlt : k < rs.length
    · obtain ⟨g3, o3, cap3, hv3, _, _, hat⟩ := h.atF (fun _ => rfl) (by omega)
      obtain ⟨rfl, rfl⟩ : sa = some ⟨g3, o3, none⟩ ∧ sc = cap3 := by simpa using hv3
      obtain ⟨hR1, hR2, pa, pn, pc, hR3⟩ := hr rs[k] (List.getElem_mem hlt)
      have ht : namesOf side ((rs.take (k + 1)).map Rv.rl) = namesOf side ((rs.take k).map Rv.rl) ++ (if rs[k].side = side then rlNames rs[k].rl else []) := by
        rw [List.take_succ_eq_append_getElem hlt, List.map_append]
        unfold namesOf
        rw [List.flatMap_append]
        simp [Rv.rl]
      have HT := Lib.hid ht
      have h0 := hC.cell (hat k hlt 0 (by omega)) (fun h => h)
      have h1 := hC.cell (hat k hlt 1 (by omega)) (fun h => h)
      have h2 := hC.cell (hat k hlt 2 (by omega)) (fun h => h)
      have h3 := hC.cell (hat k hlt 3 (by omega)) (fun h => h)
      have h4 := hC.cell (hat k hlt 4 (by omega)) (fun h => h)
      have h5 := hC.cell (hat k hlt 5 (by omega)) (fun h => h)
      have h6 := hC.cell (hat k hlt 6 (by omega)) (fun h => h)
      have h7 := hC.cell (hat k hlt 7 (by omega)) (fun h => h)
      clear ht hat hv3
      generalize rs[k] = r at *
      replace h0 : wr.cell? ⟨g3, o3 + k * 8, none⟩ = some (.int .i64 r.side) := h0
      replace h1 : wr.cell? ⟨g3, o3 + k * 8 + 1, none⟩ = some (.int .i64 r.gk) := h1
      replace h2 : wr.cell? ⟨g3, o3 + k * 8 + 2, none⟩ = some (.string r.gn) := h2
      replace h3 : wr.cell? ⟨g3, o3 + k * 8 + 3, none⟩ = some (.string r.gv) := h3
      replace h4 : wr.cell? ⟨g3, o3 + k * 8 + 4, none⟩ = some (.int .i64 r.kind) := h4
      replace h5 : wr.cell? ⟨g3, o3 + k * 8 + 5, none⟩ = some (.string r.name) := h5
      replace h6 : wr.cell? ⟨g3, o3 + k * 8 + 6, none⟩ = some (.string r.to) := h6
      replace h7 : wr.cell? ⟨g3, o3 + k * 8 + 7, none⟩ = some (.slice pa pn pc) := h7.trans (by rw [← hR3])
      have hW := fun W => rWrites_any r hR1 hR2 W
      unfold Rv.v at hW
      rw [hR3] at hW
      clear hR3
      by_cases hs : r.side = side
      · have hs2 : (r.side == side) = true := by simp [hs]
        rw [if_pos hs] at HT
        clear hs
        go_wp2_with fail
        refine (hW _).mono ?_; rintro e w1 ⟨na, nc, rfl, hown2, hc1⟩
        have HL := Lib.hid (show (rlNames r.rl).length ≤ 2 ∧ (rlNames r.rl).length = (rlNames r.rl).length from ⟨by unfold rlNames; split <;> simp, rfl⟩)
        generalize rlNames r.rl = ns at *
        have hln : ns.length ≤ 2 := HL.out.1
        have hcA : Chg wr w1 (fun _ => False) := by
          refine Chg.trans ?_ hc1
          repeat (first | exact Chg.refl _ _ | assumption | refine Chg.setCell ?_ (.inl (by first | (simp; done) | (simp; omega) | omega)) _ | refine Chg.drewN ?_ _ | refine Chg.drew ?_ | refine Chg.alloc ?_ _)
        have hsz := hcA.size
        have hsz2 := hC.size
        go_wp2_with (at_builtin; go_must (refine wpList_app _ rfl _ _ 26 26 rfl w.heap.size 9 i0 _ 1 16 Try.underlying26 hi hz0 hz1 hz2 rfl _ m ((namesOf side ((rs.take k).map Rv.rl)).map .string) rfl ?own _ ns.length (ns.map .string) rfl ?src ?c1 ?c2 ?c3 ?_))
        case own => exact hown.chg hcA (fun _ _ h => h)
        case src => exact hown2.has.src Try.underlying26 (by simp; intros; rfl)
        case c1 => unfold maxLen; omega
        case c2 => omega
        case c3 => omega
        intro a2 c2 w2 hown3 hchg2 hat2
        go_wp2_with fail
        have hlo := hown.lt
        go_roundg (gk - 1)
        case measure => omega
        case rel =>
          refine ⟨k + 1, m + ns.length, a2, c2, by omega, by omega, Lib.hid (by rw [HT.out, List.length_append, ← hm.out]), by go_num, rfl, ?_, ?_⟩
          · rw [HT.out, List.map_append, List.map_take]; exact hown3
          · exact (hC.trans hcA).next hchg2 (fun i hi e => by have := (hlo i e).1; omega)
      · have hs2 : (r.side == side) = false := by simp [hs]
        rw [if_neg hs, List.append_nil] at HT
        clear hs
        go_wp2_with fail
        go_roundg (gk - 1)
        case measure => omega
        case rel =>
          refine ⟨k + 1, m, a, c, by omega, by omega, Lib.hid (by rw [HT.out]; exact hm.out), by go_num, rfl, ?_, ?_⟩
          · rw [HT.out]; exact hown.chg (S := fun _ => False) (by repeat (first | exact Chg.refl _ _ | assumption | refine Chg.setCell ?_ (.inl (by first | (simp; done) | (simp; omega) | omega)) _ | refine Chg.drewN ?_ _ | refine Chg.drew ?_ | refine Chg.alloc ?_ _)) (fun _ _ h => h)
          · repeat (first | exact Chg.refl _ _ | assumption | refine Chg.setCell ?_ (.inl (by first | (simp; done) | (simp; omega) | omega)) _ | refine Chg.drewN ?_ _ | refine Chg.drew ?_ | refine Chg.alloc ?_ _)
    · have hnames : Hid (namesOf side ((rs.take k).map Rv.rl) = namesOf side (rs.map Rv.rl)) := Lib.hid (by rw [List.take_of_length_le (by omega)])
      rw [hnames.out] at hown hm
      by_cases h0 : m = 0
      · subst h0
        have he : ofB side (rs.map Rv.rl) = [] := by
          have : namesOf side (rs.map Rv.rl) = [] := List.eq_nil_of_length_eq_zero hm.out.symm
          unfold ofB ofL
          rw [this, List.map_nil, List.mergeSort_nil]
          rfl
        have HE := Lib.hid he
        clear he
        go_wp2_with fail
        refine (Try.slices_Sort_string_none _ _ _).mono ?_; rintro e w1 ⟨rfl, rfl⟩
        go_wp2_with fail
        refine (Try.slices_Compact_string_empty _ _ _).mono ?_; rintro e w1 ⟨rfl, rfl⟩
        go_wp2_with fail
        go_ret
        refine ⟨a, c, by rw [HE.out]; rfl, ?_, hC⟩
        rw [HE.out]
        have := hown.has
        have hx : namesOf side (rs.map Rv.rl) = [] := List.eq_nil_of_length_eq_zero hm.out.symm
        rw [hx] at this
        exact this
      · rcases hown.is with ⟨_, h00⟩ | ⟨g, o, cap, hv, hb, hg, hn, hcapm, hc, hf⟩
        · exact absurd h00 h0
        obtain ⟨rfl, rfl⟩ : a = some ⟨g, o, none⟩ ∧ c = cap := by simpa using hv
        have hH := hown.holds
        have HN := Lib.hid hcapm
        generalize hnm : (namesOf side (rs.map Rv.rl)).map (fun s => s.data.toList) = ss at hH
        have HSS := Lib.hid hnm
        have hssl : ss.length = m := by rw [← hnm, List.length_map]; exact hm.out.symm
        have hsort := Try.slices_Sort_string g o c ss wr hH hg (by omega)
        rw [hssl] at hsort
        have HH := Lib.hid hH
        clear hnm hc hf hv h0 hH
        go_wp2_with fail
        refine hsort.mono ?_; rintro e w1 ⟨rfl, nq, os, hw1⟩
        have hH1 : Holds encStr w1 g o (ss.mergeSort fun x y => decide (x ≤ y)).toArray := by
          rw [hw1]
          exact holds_grow _ _ _ _ _ _ (by simpa using hg) (holds_putRow _ _ _ _ ss.toArray _ (holds_ahead _ _ _ _ _ _ HH.out) (by simp))
        have hch1 : Chg wr w1 (fun k => k = g) := by
          rw [hw1]; exact chg_put _
        have hof : ofL side (rs.map Rv.rl) = Lib.compact (ss.mergeSort fun x y => decide (x ≤ y)) := by unfold ofL; rw [HSS.out]
        generalize hzs : (ss.mergeSort fun x y => decide (x ≤ y)) = zs at *
        have hzl : zs.length = m := by rw [← hzs, List.length_mergeSort, hssl]
        have hcomp := Try.slices_Compact_string g o c zs w1 hH1 (by omega) (by omega)
        rw [hzl] at hcomp
        rw [← hof] at hcomp
        have hol : (ofL side (rs.map Rv.rl)).length ≤ m := by
          rw [hof, ← hzl]
          unfold Lib.compact Lib.compactUpTo
          rw [List.length_map]
          exact Nat.le_trans (List.length_filter_le _ _) (by simp)
        have hob : (ofB side (rs.map Rv.rl)).length = (ofL side (rs.map Rv.rl)).length := by unfold ofB; rw [List.length_map]
        have HW := Lib.hid hw1
        have HZ := Lib.hid hzs
        have HO := Lib.hid hof
        have H1 := Lib.hid hH1
        have HB := Lib.hid hob
        clear hw1 hzs hof hH1 hsort hob
        go_wp2_with fail
        refine hcomp.mono ?_; rintro e w2 ⟨rfl, nq2, hw2⟩
        have hH2 : Holds encStr w2 g o (ofL side (rs.map Rv.rl) ++ List.replicate (m - (ofL side (rs.map Rv.rl)).length) []).toArray := by
          rw [hw2]
          exact holds_putRow _ _ _ _ zs.toArray _ (holds_ahead _ _ _ _ _ _ H1.out) (by simp; omega)
        have hH3 := Holds.take hH2
        have hch2 : Chg w1 w2 (fun k => k = g) := by
          rw [hw2]
          have := chg_put (w := w1) (g := g) (o := o) (n := nq2) (os := #[]) (ofL side (rs.map Rv.rl) ++ List.replicate (m - (ofL side (rs.map Rv.rl)).length) []).toArray
          rwa [grow_empty] at this
        clear hw2 hH2
        go_wp2_with fail
        go_ret
        refine ⟨some ⟨g, o, none⟩, c, by rw [HB.out]; rfl, ?_, ?_⟩
        · refine Has.of_holds ?_ rfl (by rw [HB.out]; omega) HN.out
          have e : (ofB side (rs.map Rv.rl)).map (fun s => s.data.toList) = ofL side (rs.map Rv.rl) := by
            unfold ofB
            rw [List.map_map]
            conv => rhs; rw [← List.map_id (ofL side (rs.map Rv.rl))]
            exact List.map_congr_left fun x _ => by simp
          rw [e]; exact hH3
        · exact (hC.next (hch1.trans hch2) (fun i hi e => by omega))
end Go.Proofs.Ytajgpiplndfoeaa
