/- is a name written? -/
import Derived.Test.YtajgpiplndfoeaaOf
namespace Go.Proofs.Ytajgpiplndfoeaa
open Go.RowKit

theorem strEq {a b : ByteArray} : a.toList = b.toList ↔ a = b := by
  rw [Lib.toList_data, Lib.toList_data]
  exact ⟨fun h => ByteArray.ext (Array.toList_inj.1 h), fun h => by rw [h]⟩

theorem strNe {a b : ByteArray} (h : ¬ a = b) : (a.toList == b.toList) = false := by
  rw [beq_eq_false_iff_ne]; exact fun e => h (strEq.1 e)

theorem contains_any {w : World} {v : Value} {l : List ByteArray} (x : ByteArray) (h : Has w 1 v l.length (l.map .string)) :
    Calls Try.prog 14 #[v, .string x] w fun e w' => e = .returned (.bool (Lib.containsS l x)) ∧ w = w' := by
  rcases h.is with ⟨h0, a, c, rfl, hc⟩ | ⟨g, o, cap, rfl, h1, h2, h3⟩
  · have : l = [] := List.eq_nil_of_length_eq_zero h0
    subst this
    exact (Try.slices_Contains_string_empty a c x w).mono fun e w' ⟨he, hw⟩ => ⟨he, hw.symm⟩
  · have := Try.slices_Contains_string g o l.length cap l x w (Nat.le_refl _) (by unfold maxLen at h2; omega) (fun j hj => by rw [h3 j (by omega)]; simp [hj, List.getD])
    rw [List.take_length] at this
    exact this.mono fun e w' ⟨he, hw⟩ => ⟨he, hw.symm⟩

set_option maxHeartbeats 1000000 in
theorem touches_any (name : ByteArray) (hn : name.size ≤ maxLen) (side : Int) (v : Value) (rs : List Rv) (w : World) (h : Has w 8 v rs.length (rs.flatMap Rv.cells)) (hl : rs.length ≤ 70) (hr : ∀ r ∈ rs, r.name.size ≤ maxLen ∧ r.to.size ≤ maxLen ∧ ∃ a n c, r.parts = .slice a n c) :
    Calls Try.prog 8 #[.string name, .int .i64 side, v] w fun e w' => e = .returned (.bool (refT name side (rs.map Rv.rl))) ∧ Chg w w' (fun _ => False) := by
  rw [← touches_eq]
  have hO := fun W hW => of_any side v rs W hW hl hr
  have hF := fun W => fold_any name hn W
  generalize rs.map Rv.rl = ls at *
  generalize ofB side ls = l at *
  go_enter Try.func8, Try.ntmps8
  go_wp2_with fail
  refine (hO _ h).mono ?_; rintro e w1 ⟨a, c, rfl, hh, hc1⟩
  go_wp2_with fail
  refine (hF _).mono ?_; rintro e w2 ⟨rfl, hc2⟩
  go_wp2_with fail
  refine (contains_any _ (hh.chg hc2 (fun _ _ h => h))).mono ?_; rintro e w3 ⟨rfl, rfl⟩
  go_wp2_with fail
  go_ret
  exact ⟨rfl, hc1.trans hc2⟩

set_option maxHeartbeats 1000000 in
theorem r38_any (name : ByteArray) (hn : name.size ≤ maxLen) (side : Int) (v : Value) (rs : List Rv) (w : World) (h : Has w 8 v rs.length (rs.flatMap Rv.cells)) (hr : ∀ r ∈ rs, r.name.size ≤ 60 ∧ r.to.size ≤ 60) :
    Calls Try.prog 7 #[.string name, .int .i64 side, v] w fun e w' => e = .returned (.bool (refT name side (rs.map Rv.rl))) ∧ ∃ d, w' = w.drewN d := by
  have hF := fun W => r1Fold_any name hn W
  obtain ⟨sa, sc, rfl, hcl, hcm⟩ := h.slice
  unfold maxLen at hcm
  go_enter Try.func7, Try.ntmps7
  go_wp2_with fail
  refine (hF _).mono ?_; rintro e w1 ⟨rfl, hc1⟩
  go_wp2_with fail
  go_loopg [8] rs.length (fun g s8 wr => ∃ k : Nat, k + g = rs.length ∧ s8 = .int .i64 k ∧ (∃ d, wr = w.drewN d) ∧ Hid (refT name side ((rs.take k).map Rv.rl) = false))
  case atStart => exact ⟨0, by omega, rfl, hc1, Lib.hid rfl⟩
  case round =>
    obtain ⟨k, hk, rfl, hC, HR⟩ := hrel
    by_cases hlt : k < rs.length
    · obtain ⟨g3, o3, cap3, hv3, _, _, hat⟩ := h.atF (fun _ => rfl) (by omega)
      obtain ⟨rfl, rfl⟩ : sa = some ⟨g3, o3, none⟩ ∧ sc = cap3 := by simpa using hv3
      obtain ⟨hR1, hR2⟩ := hr rs[k] (List.getElem_mem hlt)
      have HT : Hid (refT name side ((rs.take (k + 1)).map Rv.rl) = (refT name side ((rs.take k).map Rv.rl) || refT name side [rs[k].rl])) := Lib.hid (by
        rw [List.take_succ_eq_append_getElem hlt, List.map_append]; unfold refT; rw [List.any_append]; rfl)
      have HA : Hid (refT name side ((rs.take (k + 1)).map Rv.rl) = true → refT name side (rs.map Rv.rl) = true) := Lib.hid (by
        intro h; unfold refT at *
        rw [List.any_eq_true] at *
        obtain ⟨x, hx, hp⟩ := h
        exact ⟨x, List.mem_map.2 (by obtain ⟨y, hy, e⟩ := List.mem_map.1 hx; exact ⟨y, (List.take_sublist _ _).subset hy, e⟩), hp⟩)
      have h0 := (drc hC).cell (hat k hlt 0 (by omega)) (fun h => h)
      have h4 := (drc hC).cell (hat k hlt 4 (by omega)) (fun h => h)
      have h5 := (drc hC).cell (hat k hlt 5 (by omega)) (fun h => h)
      have h6 := (drc hC).cell (hat k hlt 6 (by omega)) (fun h => h)
      clear hat hv3
      generalize rs[k] = r at *
      replace h0 : wr.cell? ⟨g3, o3 + k * 8, none⟩ = some (.int .i64 r.side) := h0
      replace h4 : wr.cell? ⟨g3, o3 + k * 8 + 4, none⟩ = some (.int .i64 r.kind) := h4
      replace h5 : wr.cell? ⟨g3, o3 + k * 8 + 5, none⟩ = some (.string r.name) := h5
      replace h6 : wr.cell? ⟨g3, o3 + k * 8 + 6, none⟩ = some (.string r.to) := h6
      by_cases hs : r.side = side
      · have hs2 : (r.side != side) = false := by simp [hs]
        have HS := Lib.hid hs
        clear hs
        have hF1 := fun W => r1Fold_any r.name (by unfold maxLen; omega) W
        have hF2 := fun W => r1Fold_any r.to (by unfold maxLen; omega) W
        by_cases e1 : foldB r.name = foldB name
        · have e2 := strEq.2 e1
          have HN : Hid (refT name side (rs.map Rv.rl) = true) := Lib.hid (HA.out (by rw [HT.out]; unfold refT; simp [Rv.rl, HS.out, e1]))
          clear e1
          go_wp2_with fail
          refine (hF1 _).mono ?_; rintro e w2 ⟨rfl, hc2⟩
          go_wp2_with fail
          go_ret
          exact ⟨by rw [HN.out]; rfl, drt hC hc2⟩
        · have e2 := strNe e1
          have E1 := Lib.hid e1
          clear e1
          by_cases hk4 : r.kind = 4
          · have k2 : (r.kind == 4) = true := by simp [hk4]
            by_cases e3 : foldB r.to = foldB name
            · have e4 := strEq.2 e3
              have HN : Hid (refT name side (rs.map Rv.rl) = true) := Lib.hid (HA.out (by rw [HT.out]; unfold refT; simp [Rv.rl, HS.out, hk4, e3]))
              clear e3 hk4
              go_wp2_with fail
              refine (hF1 _).mono ?_; rintro e w2 ⟨rfl, hc2⟩
              have g4 := (drc hc2).cell h4 (fun h => h)
              have g6 := (drc hc2).cell h6 (fun h => h)
              go_wp2_with fail
              refine (hF2 _).mono ?_; rintro e w3 ⟨rfl, hc3⟩
              go_wp2_with fail
              go_ret
              exact ⟨by rw [HN.out]; rfl, drt (drt hC hc2) hc3⟩
            · have e4 := strNe e3
              have HN : Hid (refT name side [r.rl] = false) := Lib.hid (by unfold refT; simp [Rv.rl, E1.out, e3])
              clear e3 hk4
              go_wp2_with fail
              refine (hF1 _).mono ?_; rintro e w2 ⟨rfl, hc2⟩
              have g4 := (drc hc2).cell h4 (fun h => h)
              have g6 := (drc hc2).cell h6 (fun h => h)
              go_wp2_with fail
              refine (hF2 _).mono ?_; rintro e w3 ⟨rfl, hc3⟩
              go_wp2_with fail
              go_roundg (gk - 1)
              case measure => omega
              case rel => exact ⟨k + 1, by omega, by go_num, drt (drt hC hc2) hc3, Lib.hid (by rw [HT.out, HR.out, HN.out]; rfl)⟩
          · have k2 : (r.kind == 4) = false := by simp [hk4]
            have HN : Hid (refT name side [r.rl] = false) := Lib.hid (by unfold refT; simp [Rv.rl, E1.out, hk4])
            clear hk4
            go_wp2_with fail
            refine (hF1 _).mono ?_; rintro e w2 ⟨rfl, hc2⟩
            have g4 := (drc hc2).cell h4 (fun h => h)
            go_wp2_with fail
            go_roundg (gk - 1)
            case measure => omega
            case rel => exact ⟨k + 1, by omega, by go_num, drt hC hc2, Lib.hid (by rw [HT.out, HR.out, HN.out]; rfl)⟩
      · have hs2 : (r.side != side) = true := by simp [hs]
        have HN : Hid (refT name side [r.rl] = false) := Lib.hid (by unfold refT; simp [Rv.rl, hs])
        clear hs
        go_wp2_with fail
        go_roundg (gk - 1)
        case measure => omega
        case rel => exact ⟨k + 1, by omega, by go_num, hC, Lib.hid (by rw [HT.out, HR.out, HN.out]; rfl)⟩
    · have HF : Hid (refT name side (rs.map Rv.rl) = false) := Lib.hid (by have := HR.out; rwa [List.take_of_length_le (by omega)] at this)
      go_wp2_with fail
      go_ret
      exact ⟨by rw [HF.out]; rfl, hC⟩
end Go.Proofs.Ytajgpiplndfoeaa
