/- WritesNames: any rules write the page's names, rising, each once; any name is among them, or not. No condition. -/
import Derived.Test.YtajgpiplndfoeaaTouch
namespace Go.Proofs.Ytajgpiplndfoeaa
open Go.RowKit

def rs0 : List Rv := [⟨1, 0, ⟨#[]⟩, ⟨#[]⟩, 4, ⟨#[66]⟩, ⟨#[65]⟩, .slice none 0 0⟩, ⟨1, 0, ⟨#[]⟩, ⟨#[]⟩, 1, ⟨#[67]⟩, ⟨#[]⟩, .slice none 0 0⟩]
theorem of0 : ofB 1 (rs0.map Rv.rl) = [⟨#[97]⟩, ⟨#[98]⟩, ⟨#[99]⟩] := by
  unfold ofB ofL
  rw [show (namesOf 1 (rs0.map Rv.rl)).map (fun s => s.data.toList) = [[98], [97], [99]] from by decide +kernel]
  rw [show ([[98], [97], [99]] : List (List UInt8)).mergeSort (fun x y => decide (x ≤ y)) = [[97], [98], [99]] from by
    have n1 : ¬ (fun x y : List UInt8 => decide (x ≤ y)) [98] [97] = true := by decide +kernel
    have p1 : (fun x y : List UInt8 => decide (x ≤ y)) [97] [99] = true := by decide +kernel
    have p2 : (fun x y : List UInt8 => decide (x ≤ y)) [98] [99] = true := by decide +kernel
    have e : (([[98]] : List (List UInt8)).merge [[97]] fun x y => decide (x ≤ y)) = [[97], [98]] := by
      rw [List.cons_merge_cons_neg _ _ _ n1, List.merge_right]
    have e2 : (([[97], [98]] : List (List UInt8)).merge [[99]] fun x y => decide (x ≤ y)) = [[97], [98], [99]] := by
      rw [List.cons_merge_cons_pos _ _ _ p1, List.cons_merge_cons_pos _ _ _ p2, List.nil_merge]
    simp only [List.mergeSort, List.MergeSort.Internal.splitInTwo_fst, List.MergeSort.Internal.splitInTwo_snd]
    simp [List.mergeSort]
    rw [e, e2]]
  decide +kernel

theorem not_le {x y : ByteArray} (h : y.data.toList < x.data.toList) : Op.bytesLess x.toList y.toList = false ∧ (x.toList == y.toList) = false := by
  rw [bytesLess_eq, Lib.toList_data, Lib.toList_data]
  refine ⟨decide_eq_false (fun h2 => List.lt_irrefl _ (List.lt_trans h h2)), ?_⟩
  rw [beq_eq_false_iff_ne]
  intro e
  rw [e] at h
  exact List.lt_irrefl _ h

theorem has_at {w : World} {v : Value} {l : List ByteArray} (h : Has w 1 v l.length (l.map .string)) (h0 : 0 < l.length) :
    ∃ g o cap, v = .slice (some ⟨g, o, none⟩) l.length cap ∧ g < w.heap.size ∧ cap ≤ maxLen ∧ l.length ≤ cap ∧ ∀ i (hi : i < l.length), w.cell? ⟨g, o + i, none⟩ = some (.string l[i]) := by
  rcases h.is with ⟨h1, _⟩ | ⟨g, o, cap, rfl, h1, h2, h3⟩
  · omega
  · have hc : ∀ i (hi : i < l.length), w.cell? ⟨g, o + i, none⟩ = some (.string l[i]) := fun i hi => by rw [h3 i (by omega)]; simp [hi]
    exact ⟨g, o, cap, rfl, World.block_lt_of_cell? w _ (hc 0 h0), h2, h1, hc⟩

set_option maxHeartbeats 1000000 in
theorem awake_any (w : World) : Calls Try.prog 4 #[] w fun e w' => e = .returned (.bool true) ∧ Chg w w' (fun _ => False) := by
  go_enter Try.func4, Try.ntmps4
  go_wp2_with fail
  have hO := of_any 1 (.slice (some ⟨w.heap.size, 0, none⟩) 2 2) rs0 (w.alloc (.cells #[.int .i64 1, .int .i64 0, .string ⟨#[]⟩, .string ⟨#[]⟩, .int .i64 4, .string ⟨#[66]⟩, .string ⟨#[65]⟩, .slice none 0 0, .int .i64 1, .int .i64 0, .string ⟨#[]⟩, .string ⟨#[]⟩, .int .i64 1, .string ⟨#[67]⟩, .string ⟨#[]⟩, .slice none 0 0] 35))
    (Own.new (w := w) (base := 0) (t := 35) (size := 8) (n := 2) (cs := #[.int .i64 1, .int .i64 0, .string ⟨#[]⟩, .string ⟨#[]⟩, .int .i64 4, .string ⟨#[66]⟩, .string ⟨#[65]⟩, .slice none 0 0, .int .i64 1, .int .i64 0, .string ⟨#[]⟩, .string ⟨#[]⟩, .int .i64 1, .string ⟨#[67]⟩, .string ⟨#[]⟩, .slice none 0 0]) (Nat.zero_le _) rfl (by decide)).has (by decide) (by
      intro r hr
      have : r = ⟨1, 0, ⟨#[]⟩, ⟨#[]⟩, 4, ⟨#[66]⟩, ⟨#[65]⟩, .slice none 0 0⟩ ∨ r = ⟨1, 0, ⟨#[]⟩, ⟨#[]⟩, 1, ⟨#[67]⟩, ⟨#[]⟩, .slice none 0 0⟩ := by simpa [rs0] using hr
      rcases this with rfl | rfl <;> exact ⟨by decide, by decide, _, _, _, rfl⟩)
  rw [of0] at hO
  refine hO.mono ?_; rintro e w1 ⟨a, c, rfl, hh, hc⟩
  obtain ⟨g, o, cap, hv, _, _, _, hat⟩ := has_at hh (by decide)
  obtain ⟨rfl, rfl⟩ : a = some ⟨g, o, none⟩ ∧ c = cap := by simpa using hv
  have a0 : w1.cell? ⟨g, o, none⟩ = some (.string ⟨#[97]⟩) := hat 0 (by decide)
  have a1 : w1.cell? ⟨g, o + 1, none⟩ = some (.string ⟨#[98]⟩) := hat 1 (by decide)
  have a2 : w1.cell? ⟨g, o + 2, none⟩ = some (.string ⟨#[99]⟩) := hat 2 (by decide)
  clear hat hv hO
  go_wp2_with fail
  go_ret
  exact ⟨rfl, Chg.trans ((Chg.refl w _).alloc _) hc⟩

set_option maxHeartbeats 1000000 in
theorem law_any (side : Int) (v : Value) (name : ByteArray) (hn : name.size ≤ maxLen) (rs : List Rv) (w : World) (h : Has w 8 v rs.length (rs.flatMap Rv.cells)) (hok : ∀ r ∈ rs, r.Ok w) :
    Calls Try.prog 3 #[.int .i64 side, v, .string name] w fun e w' => e = .returned (.bool true) ∧ Chg w w' (fun _ => False) := by
  go_enter Try.func3, Try.ntmps3
  go_wp2_with fail
  refine (awake_any _).mono ?_; rintro e w1 ⟨rfl, hc1⟩
  go_wp2_with fail
  refine (few35_any v rs _ (h.chg hc1 (fun _ _ h => h)) (fun r hr => (hok r hr).chg hc1)).mono ?_; rintro e w2 ⟨rs', a, c, rfl, hmap, hown, hc2, hpt⟩
  have hlen : rs'.length ≤ 70 := by
    have := congrArg List.length hmap
    rw [List.length_map, List.length_map, List.length_take] at this
    omega
  have hcut : ∀ r ∈ rs', r.name.size ≤ 60 ∧ r.to.size ≤ 60 := by
    intro r hr
    have : r.rl ∈ (rs.take 70).map (fun r => cutRl r.rl) := by rw [← hmap]; exact List.mem_map.2 ⟨r, hr, rfl⟩
    obtain ⟨x, _, hx⟩ := List.mem_map.1 this
    have e1 : r.name = cutB 60 x.name := (congrArg Rl.name hx).symm
    have e2 : r.to = cutB 60 x.to := (congrArg Rl.to hx).symm
    rw [e1, e2]
    unfold cutB
    rw [ByteArray.size_extract, ByteArray.size_extract]
    omega
  have hok2 : ∀ r ∈ rs', r.name.size ≤ maxLen ∧ r.to.size ≤ maxLen ∧ ∃ a n c, r.parts = .slice a n c := fun r hr => ⟨by have := hcut r hr; unfold maxLen; omega, by have := hcut r hr; unfold maxLen; omega, hpt r hr⟩
  have HCUT := Lib.hid hcut
  have HOK := Lib.hid hok2
  have HM := Lib.hid hmap
  clear hmap hcut hok2 hpt hok
  have hh := hown.has
  go_wp2_with fail
  refine (of_any side _ rs' _ hh hlen HOK.out).mono ?_; rintro e w3 ⟨a3, c3, rfl, hof, hc3⟩
  have hh3 := hh.chg hc3 (fun _ _ h => h)
  have hC3 := (hc1.trans hc2).trans hc3
  clear hh hown h
  have hsm : ∀ k (hk : k < (ofB side (rs'.map Rv.rl)).length), (ofB side (rs'.map Rv.rl))[k].size ≤ 60 := by
    intro k hk
    have := (ofB_mem side (rs'.map Rv.rl) _).1 (List.getElem_mem hk)
    obtain ⟨r, hr, _, h | ⟨_, h⟩⟩ := (names_mem _ _ _).1 this
    · obtain ⟨x, hx, rfl⟩ := List.mem_map.1 hr
      rw [h, foldB_size]; exact (HCUT.out x hx).1
    · obtain ⟨x, hx, rfl⟩ := List.mem_map.1 hr
      rw [h, foldB_size]; exact (HCUT.out x hx).2
  have HSM := Lib.hid hsm
  have HTO := Lib.hid (of_touched side (rs'.map Rv.rl))
  have HRI : Hid (∀ k (h1 : k < (ofB side (rs'.map Rv.rl)).length) (h2 : k + 1 < (ofB side (rs'.map Rv.rl)).length), (ofB side (rs'.map Rv.rl))[k].data.toList < (ofB side (rs'.map Rv.rl))[k + 1].data.toList) := Lib.hid (fun k _ h2 => of_rising side (rs'.map Rv.rl) k h2)
  clear hsm
  have HR38 := fun nm hnm W hW => r38_any nm hnm side (.slice a rs'.length c) rs' W hW HCUT.out
  have HTA := fun nm hnm W hW => touches_any nm hnm side (.slice a rs'.length c) rs' W hW hlen HOK.out
  generalize hN : ofB side (rs'.map Rv.rl) = N at *
  have HNN := Lib.hid hN
  clear hN
  go_wp2_with fail
  go_loopg [8] N.length (fun g s8 wr => ∃ k : Nat, k + g = N.length ∧ s8 = .int .i64 k ∧ Chg w3 wr (fun _ => False))
  case atStart => exact ⟨0, by omega, rfl, Chg.refl _ _⟩
  case round =>
    obtain ⟨k, hk, rfl, hC⟩ := hrel
    have hh4 := hh3.chg hC (fun _ _ h => h)
    by_cases hlt : k < N.length
    · obtain ⟨g3, o3, cap3, hv3, _, hcm3, hle3, hat⟩ := has_at hof (by omega)
      obtain ⟨rfl, rfl⟩ : a3 = some ⟨g3, o3, none⟩ ∧ c3 = cap3 := by simpa using hv3
      unfold maxLen at hcm3
      have h0 := hC.cell (hat k hlt) (fun h => h)
      have hT := HR38 N[k] (by have := HSM.out k hlt; unfold maxLen; omega)
      rw [HTO.out k hlt] at hT
      have hT := fun n => hT (wr.drewN n) (hh4.chg (S := fun _ => False) ((Chg.refl _ _).drewN n) (fun _ _ h => h))
      by_cases hk0 : k = 0
      · subst hk0
        replace h0 : wr.cell? ⟨g3, o3, none⟩ = some (.string N[0]) := h0
        clear hat hv3
        generalize N[0] = x at *
        go_wp2_with fail
        go_quiet ((go_at_call 7; exact quiet_dr (hT _)))
        go_wp2_with fail
        go_roundg (gk - 1)
        case measure => omega
        case rel => exact ⟨0 + 1, by omega, by go_num, hC.drewN _⟩
      · obtain ⟨j, rfl⟩ : ∃ j, k = j + 1 := ⟨k - 1, by omega⟩
        have h1 := hC.cell (hat j (by omega)) (fun h => h)
        obtain ⟨q1, q2⟩ := not_le (HRI.out j (by omega) hlt)
        clear hat hv3
        have hj : ((j + 1 : Nat) : Int) - 1 = (j : Int) := by omega
        generalize N[j + 1] = x at *
        generalize N[j]'(by omega) = y at *
        go_wp2_with fail
        go_quiet ((go_at_call 7; exact quiet_dr (hT _)))
        go_wp2_with fail
        go_roundg (gk - 1)
        case measure => omega
        case rel => exact ⟨j + 1 + 1, by omega, by go_num, hC.drewN _⟩
    · go_wp2_with fail
      go_loopg [9] rs'.length (fun g s9 wx => ∃ j : Nat, j + g = rs'.length ∧ s9 = .int .i64 j ∧ Chg w3 wx (fun _ => False))
      case atStart => exact ⟨0, by omega, rfl, hC⟩
      case round =>
        obtain ⟨j, hj, rfl, hD⟩ := hrel
        have hh5 := hh3.chg hD (fun _ _ h => h)
        by_cases hlj : j < rs'.length
        · obtain ⟨g4, o4, cap4, hv4, _, _, hat4⟩ := hh5.atF (fun _ => rfl) (by omega)
          obtain ⟨rfl, rfl⟩ : a = some ⟨g4, o4, none⟩ ∧ c = cap4 := by simpa using hv4
          have hR := HOK.out rs'[j] (List.getElem_mem hlj)
          have hT := HTA rs'[j].name hR.1
          have HRT := Lib.hid (fun hs => rule_touched side (rs'.map Rv.rl) j (by simpa using hlj) hs)
          have h0 := hat4 j hlj 0 (by omega)
          have h5 := hat4 j hlj 5 (by omega)
          clear hat4 hv4
          have e : ((rs'.map Rv.rl)[j]'(by simpa using hlj)) = rs'[j].rl := by simp
          have HE := Lib.hid e
          clear e
          by_cases hs : rs'[j].rl.side = side
          · have ht : refT rs'[j].name side (rs'.map Rv.rl) = true := by
              have := HRT.out (by rw [HE.out]; exact hs)
              rw [HE.out] at this
              exact this
            rw [ht] at hT
            clear ht HRT HE
            generalize rs'[j] = r at *
            replace h0 : wr.cell? ⟨g4, o4 + j * 8, none⟩ = some (.int .i64 r.side) := h0
            replace h5 : wr.cell? ⟨g4, o4 + j * 8 + 5, none⟩ = some (.string r.name) := h5
            have hs2 : (r.side == side) = true := by rw [beq_iff_eq]; exact hs
            clear hs
            go_wp2_with fail
            refine (hT _ hh5).mono ?_; rintro e w5 ⟨rfl, hc5⟩
            go_wp2_with fail
            go_roundg (gk - 1)
            case measure => omega
            case rel => exact ⟨j + 1, by omega, by go_num, hD.trans hc5⟩
          · clear HRT HE
            generalize rs'[j] = r at *
            replace h0 : wr.cell? ⟨g4, o4 + j * 8, none⟩ = some (.int .i64 r.side) := h0
            have hs2 : (r.side == side) = false := by rw [beq_eq_false_iff_ne]; exact hs
            clear hs hT
            go_wp2_with fail
            go_roundg (gk - 1)
            case measure => omega
            case rel => exact ⟨j + 1, by omega, by go_num, hD⟩
        · have hX := HTA name hn wr hh5
          have hY := HR38 name hn
          go_wp2_with fail
          refine hX.mono ?_; rintro e w5 ⟨rfl, hc5⟩
          go_wp2_with fail
          refine (hY _ (hh5.chg hc5 (fun _ _ h => h))).mono ?_; rintro e w6 ⟨rfl, hc6⟩
          go_wp2_with fail
          go_ret
          exact ⟨rfl, ((hC3.trans hD).trans hc5).trans (drc hc6)⟩
end Go.Proofs.Ytajgpiplndfoeaa
