/- the laws' own cut of a rule. -/
import Derived.Test.YtajgpiplndfoeaaFew
namespace Go.Proofs.Ytajgpiplndfoeaa
open Go.RowKit

theorem min60 (s : ByteArray) : (if (60 : Int) < (s.size : Int) then (60 : Int) else (s.size : Int)) = ((min s.size 60 : Nat) : Int) := by split <;> omega

set_option maxHeartbeats 1000000 in
theorem few32_any (r : Rv) (ps : List (Int × ByteArray)) (w : World) (h : Has w 2 r.parts ps.length (ps.flatMap pcells)) (hsz : ∀ p ∈ ps, p.2.size ≤ maxLen)
    (h1 : r.name.size ≤ maxLen) (h2 : r.to.size ≤ maxLen) (h3 : r.gn.size ≤ maxLen) (h4 : r.gv.size ≤ maxLen) :
    Calls Try.prog 9 #[r.v] w fun e w' => ∃ a c, e = .returned (Rv.v { r with name := cutB 60 r.name, to := cutB 60 r.to, gn := cutB 60 r.gn, gv := cutB 60 r.gv, parts := .slice a (min ps.length 40) c })
      ∧ Own w' w.heap.size 2 (.slice a (min ps.length 40) c) (min ps.length 40) (((ps.take 40).map pcut).flatMap pcells) ∧ Chg w w' (fun _ => False) := by
  obtain ⟨side, gd, gn, gv, kind, name, to, parts⟩ := r
  simp only at h h1 h2 h3 h4
  have hF := fun W hW => few31_any parts ps W hW hsz
  unfold Rv.v
  simp only
  go_enter Try.func9, Try.ntmps9
  go_wp2_with fail
  have hblk : ((((w.alloc (.cells #[.int .i64 side, .int .i64 gd, .string gn, .string gv, .int .i64 kind, .string name, .string to, parts] 35)).alloc (.cells #[.int .i64 0, .int .i64 0, .string ⟨#[]⟩, .string ⟨#[]⟩, .int .i64 0, .string ⟨#[]⟩, .string ⟨#[]⟩, .slice none 0 0] 35)).alloc (.cells #[.string name, .string to, .string gn, .string gv] 44))).heap[w.heap.size + 1 + 1]? = some (.cells #[.string name, .string to, .string gn, .string gv] 44 (0, 0)) := by
    have := heap_alloc_new ((w.alloc (.cells #[.int .i64 side, .int .i64 gd, .string gn, .string gv, .int .i64 kind, .string name, .string to, parts] 35)).alloc (.cells #[.int .i64 0, .int .i64 0, .string ⟨#[]⟩, .string ⟨#[]⟩, .int .i64 0, .string ⟨#[]⟩, .string ⟨#[]⟩, .slice none 0 0] 35)) (.cells #[.string name, .string to, .string gn, .string gv] 44)
    simpa using this
  have hblk0 : ((((w.alloc (.cells #[.int .i64 side, .int .i64 gd, .string gn, .string gv, .int .i64 kind, .string name, .string to, parts] 35)).alloc (.cells #[.int .i64 0, .int .i64 0, .string ⟨#[]⟩, .string ⟨#[]⟩, .int .i64 0, .string ⟨#[]⟩, .string ⟨#[]⟩, .slice none 0 0] 35)).alloc (.cells #[.string name, .string to, .string gn, .string gv] 44))).heap[w.heap.size]? = some (.cells #[.int .i64 side, .int .i64 gd, .string gn, .string gv, .int .i64 kind, .string name, .string to, parts] 35 (0, 0)) := by
    rw [Below.heap_alloc _ _ _ (by simp; omega), Below.heap_alloc _ _ _ (by simp)]
    exact heap_alloc_new w _
  have hblk1 : ((((w.alloc (.cells #[.int .i64 side, .int .i64 gd, .string gn, .string gv, .int .i64 kind, .string name, .string to, parts] 35)).alloc (.cells #[.int .i64 0, .int .i64 0, .string ⟨#[]⟩, .string ⟨#[]⟩, .int .i64 0, .string ⟨#[]⟩, .string ⟨#[]⟩, .slice none 0 0] 35)).alloc (.cells #[.string name, .string to, .string gn, .string gv] 44))).heap[w.heap.size + 1]? = some (.cells #[.int .i64 0, .int .i64 0, .string ⟨#[]⟩, .string ⟨#[]⟩, .int .i64 0, .string ⟨#[]⟩, .string ⟨#[]⟩, .slice none 0 0] 35 (0, 0)) := by
    rw [Below.heap_alloc _ _ _ (by simp)]
    have := heap_alloc_new (w.alloc (.cells #[.int .i64 side, .int .i64 gd, .string gn, .string gv, .int .i64 kind, .string name, .string to, parts] 35)) (.cells #[.int .i64 0, .int .i64 0, .string ⟨#[]⟩, .string ⟨#[]⟩, .int .i64 0, .string ⟨#[]⟩, .string ⟨#[]⟩, .slice none 0 0] 35)
    simpa using this
  have hC0 : Chg w ((((w.alloc (.cells #[.int .i64 side, .int .i64 gd, .string gn, .string gv, .int .i64 kind, .string name, .string to, parts] 35)).alloc (.cells #[.int .i64 0, .int .i64 0, .string ⟨#[]⟩, .string ⟨#[]⟩, .int .i64 0, .string ⟨#[]⟩, .string ⟨#[]⟩, .slice none 0 0] 35)).alloc (.cells #[.string name, .string to, .string gn, .string gv] 44))) (fun _ => False) := (((Chg.refl w _).alloc _).alloc _).alloc _
  generalize ((((w.alloc (.cells #[.int .i64 side, .int .i64 gd, .string gn, .string gv, .int .i64 kind, .string name, .string to, parts] 35)).alloc (.cells #[.int .i64 0, .int .i64 0, .string ⟨#[]⟩, .string ⟨#[]⟩, .int .i64 0, .string ⟨#[]⟩, .string ⟨#[]⟩, .slice none 0 0] 35)).alloc (.cells #[.string name, .string to, .string gn, .string gv] 44))) = w0 at *
  have m1 := min60 name
  have m2 := min60 to
  have m3 := min60 gn
  have m4 := min60 gv
  go_loopg [4] 4 (fun g s4 wr => ∃ k : Nat, k + g = 4 ∧ s4 = .int .i64 k ∧ Chg w wr (fun _ => False) ∧ wr.heap[w.heap.size]? = some (.cells #[.int .i64 side, .int .i64 gd, .string gn, .string gv, .int .i64 kind, .string name, .string to, parts] 35 (0, 0))
    ∧ wr.heap[w.heap.size + 1]? = some (.cells #[.int .i64 0, .int .i64 0, .string ⟨#[]⟩, .string ⟨#[]⟩, .int .i64 0, .string ⟨#[]⟩, .string ⟨#[]⟩, .slice none 0 0] 35 (0, 0))
    ∧ wr.heap[w.heap.size + 1 + 1]? = some (.cells #[.string (if 0 < k then cutB 60 name else name), .string (if 1 < k then cutB 60 to else to), .string (if 2 < k then cutB 60 gn else gn), .string (if 3 < k then cutB 60 gv else gv)] 44 (0, 0)))
  case atStart => exact ⟨0, rfl, rfl, hC0, hblk0, hblk1, hblk⟩
  case round =>
    obtain ⟨k, hk, rfl, hC, hb0, hb1, hb2⟩ := hrel
    have hlt0 : w.heap.size + 1 + 1 < wr.heap.size := (Array.getElem?_eq_some_iff.1 hb2).1
    rcases (by omega : k = 0 ∨ k = 1 ∨ k = 2 ∨ k = 3 ∨ k = 4) with rfl | rfl | rfl | rfl | rfl
    · have x0 : wr.cell? ⟨w.heap.size + 1 + 1, 0, none⟩ = some (.string name) := by rw [cell_of_row wr _ 0 _ _ _ hb2]; rfl
      have x1 : wr.frozen? ⟨w.heap.size + 1 + 1, 0, none⟩ = false := by simp [World.frozen?, hb2]
      have hcut : cutB 60 name = name.extract 0 (min name.size 60) := rfl
      have HC := Lib.hid hcut
      have hml : min name.size 60 ≤ name.size := by omega
      clear hcut
      generalize min name.size 60 = mm at *
      go_wp2_with fail
      go_region
      all_goals go_wp2_with fail
      all_goals
        go_roundg (gk - 1)
        case measure => omega
        case rel =>
          refine ⟨0 + 1, by omega, by go_num, (hC.setCell (.inl (by show w.heap.size ≤ w.heap.size + 1 + 1; omega)) _).drew, ?_, ?_, ?_⟩
          · exact ((Chg.set wr (w.heap.size + 1 + 1) 0 (.string (name.extract 0 mm))).drew.block w.heap.size (by omega) (by omega)).trans hb0
          · exact ((Chg.set wr (w.heap.size + 1 + 1) 0 (.string (name.extract 0 mm))).drew.block (w.heap.size + 1) (by omega) (by omega)).trans hb1
          · have h3 := heap_set (o := 0) hb2 (.string (name.extract 0 mm))
            rw [← HC.out] at h3
            rw [← HC.out]
            exact h3
    · have x0 : wr.cell? ⟨w.heap.size + 1 + 1, 1, none⟩ = some (.string to) := by rw [cell_of_row wr _ 1 _ _ _ hb2]; rfl
      have x1 : wr.frozen? ⟨w.heap.size + 1 + 1, 1, none⟩ = false := by simp [World.frozen?, hb2]
      have hcut : cutB 60 to = to.extract 0 (min to.size 60) := rfl
      have HC := Lib.hid hcut
      have hml : min to.size 60 ≤ to.size := by omega
      clear hcut
      generalize min to.size 60 = mm at *
      go_wp2_with fail
      go_region
      all_goals go_wp2_with fail
      all_goals
        go_roundg (gk - 1)
        case measure => omega
        case rel =>
          refine ⟨1 + 1, by omega, by go_num, (hC.setCell (.inl (by show w.heap.size ≤ w.heap.size + 1 + 1; omega)) _).drew, ?_, ?_, ?_⟩
          · exact ((Chg.set wr (w.heap.size + 1 + 1) 1 (.string (to.extract 0 mm))).drew.block w.heap.size (by omega) (by omega)).trans hb0
          · exact ((Chg.set wr (w.heap.size + 1 + 1) 1 (.string (to.extract 0 mm))).drew.block (w.heap.size + 1) (by omega) (by omega)).trans hb1
          · have h3 := heap_set (o := 1) hb2 (.string (to.extract 0 mm))
            rw [← HC.out] at h3
            rw [← HC.out]
            exact h3
    · have x0 : wr.cell? ⟨w.heap.size + 1 + 1, 2, none⟩ = some (.string gn) := by rw [cell_of_row wr _ 2 _ _ _ hb2]; rfl
      have x1 : wr.frozen? ⟨w.heap.size + 1 + 1, 2, none⟩ = false := by simp [World.frozen?, hb2]
      have hcut : cutB 60 gn = gn.extract 0 (min gn.size 60) := rfl
      have HC := Lib.hid hcut
      have hml : min gn.size 60 ≤ gn.size := by omega
      clear hcut
      generalize min gn.size 60 = mm at *
      go_wp2_with fail
      go_region
      all_goals go_wp2_with fail
      all_goals
        go_roundg (gk - 1)
        case measure => omega
        case rel =>
          refine ⟨2 + 1, by omega, by go_num, (hC.setCell (.inl (by show w.heap.size ≤ w.heap.size + 1 + 1; omega)) _).drew, ?_, ?_, ?_⟩
          · exact ((Chg.set wr (w.heap.size + 1 + 1) 2 (.string (gn.extract 0 mm))).drew.block w.heap.size (by omega) (by omega)).trans hb0
          · exact ((Chg.set wr (w.heap.size + 1 + 1) 2 (.string (gn.extract 0 mm))).drew.block (w.heap.size + 1) (by omega) (by omega)).trans hb1
          · have h3 := heap_set (o := 2) hb2 (.string (gn.extract 0 mm))
            rw [← HC.out] at h3
            rw [← HC.out]
            exact h3
    · have x0 : wr.cell? ⟨w.heap.size + 1 + 1, 3, none⟩ = some (.string gv) := by rw [cell_of_row wr _ 3 _ _ _ hb2]; rfl
      have x1 : wr.frozen? ⟨w.heap.size + 1 + 1, 3, none⟩ = false := by simp [World.frozen?, hb2]
      have hcut : cutB 60 gv = gv.extract 0 (min gv.size 60) := rfl
      have HC := Lib.hid hcut
      have hml : min gv.size 60 ≤ gv.size := by omega
      clear hcut
      generalize min gv.size 60 = mm at *
      go_wp2_with fail
      go_region
      all_goals go_wp2_with fail
      all_goals
        go_roundg (gk - 1)
        case measure => omega
        case rel =>
          refine ⟨3 + 1, by omega, by go_num, (hC.setCell (.inl (by show w.heap.size ≤ w.heap.size + 1 + 1; omega)) _).drew, ?_, ?_, ?_⟩
          · exact ((Chg.set wr (w.heap.size + 1 + 1) 3 (.string (gv.extract 0 mm))).drew.block w.heap.size (by omega) (by omega)).trans hb0
          · exact ((Chg.set wr (w.heap.size + 1 + 1) 3 (.string (gv.extract 0 mm))).drew.block (w.heap.size + 1) (by omega) (by omega)).trans hb1
          · have h3 := heap_set (o := 3) hb2 (.string (gv.extract 0 mm))
            rw [← HC.out] at h3
            rw [← HC.out]
            exact h3
    · have x0 : wr.cell? ⟨w.heap.size + 1 + 1, 0, none⟩ = some (.string (cutB 60 name)) := by rw [cell_of_row wr _ 0 _ _ _ hb2]; rfl
      have x1 : wr.cell? ⟨w.heap.size + 1 + 1, 1, none⟩ = some (.string (cutB 60 to)) := by rw [cell_of_row wr _ 1 _ _ _ hb2]; rfl
      have x2 : wr.cell? ⟨w.heap.size + 1 + 1, 2, none⟩ = some (.string (cutB 60 gn)) := by rw [cell_of_row wr _ 2 _ _ _ hb2]; rfl
      have x3 : wr.cell? ⟨w.heap.size + 1 + 1, 3, none⟩ = some (.string (cutB 60 gv)) := by rw [cell_of_row wr _ 3 _ _ _ hb2]; rfl
      clear m1 m2 m3 m4
      obtain ⟨name2, Hname⟩ : ∃ x, Hid (cutB 60 name = x) := ⟨_, Lib.hid rfl⟩
      rw [Hname.out] at x0
      obtain ⟨to2, Hto⟩ : ∃ x, Hid (cutB 60 to = x) := ⟨_, Lib.hid rfl⟩
      rw [Hto.out] at x1
      obtain ⟨gn2, Hgn⟩ : ∃ x, Hid (cutB 60 gn = x) := ⟨_, Lib.hid rfl⟩
      rw [Hgn.out] at x2
      obtain ⟨gv2, Hgv⟩ : ∃ x, Hid (cutB 60 gv = x) := ⟨_, Lib.hid rfl⟩
      rw [Hgv.out] at x3
      have y5 : wr.cell? ⟨w.heap.size, 5, none⟩ = some (.string name) := by rw [cell_of_row wr _ 5 _ _ _ hb0]; rfl
      have y6 : wr.cell? ⟨w.heap.size, 6, none⟩ = some (.string to) := by rw [cell_of_row wr _ 6 _ _ _ hb0]; rfl
      have y2 : wr.cell? ⟨w.heap.size, 2, none⟩ = some (.string gn) := by rw [cell_of_row wr _ 2 _ _ _ hb0]; rfl
      have y3 : wr.cell? ⟨w.heap.size, 3, none⟩ = some (.string gv) := by rw [cell_of_row wr _ 3 _ _ _ hb0]; rfl
      have y7 : wr.cell? ⟨w.heap.size, 7, none⟩ = some parts := by rw [cell_of_row wr _ 7 _ _ _ hb0]; rfl
      have z5 : wr.frozen? ⟨w.heap.size, 5, none⟩ = false := by simp [World.frozen?, hb0]
      have z6 : wr.frozen? ⟨w.heap.size, 6, none⟩ = false := by simp [World.frozen?, hb0]
      have z2 : wr.frozen? ⟨w.heap.size, 2, none⟩ = false := by simp [World.frozen?, hb0]
      have z3 : wr.frozen? ⟨w.heap.size, 3, none⟩ = false := by simp [World.frozen?, hb0]
      have HP := Lib.hid h
      have HB := Lib.hid hb0
      have HB1 := Lib.hid hb1
      have hcW : Chg w ((((wr.setCell ⟨w.heap.size, 5, none⟩ (.string name2)).setCell ⟨w.heap.size, 6, none⟩ (.string to2)).setCell ⟨w.heap.size, 2, none⟩ (.string gn2)).setCell ⟨w.heap.size, 3, none⟩ (.string gv2)) (fun _ => False) :=
        (((hC.setCell (.inl (Nat.le_refl _)) _).setCell (.inl (Nat.le_refl _)) _).setCell (.inl (Nat.le_refl _)) _).setCell (.inl (Nat.le_refl _)) _
      have hB0 : ((((wr.setCell ⟨w.heap.size, 5, none⟩ (.string name2)).setCell ⟨w.heap.size, 6, none⟩ (.string to2)).setCell ⟨w.heap.size, 2, none⟩ (.string gn2)).setCell ⟨w.heap.size, 3, none⟩ (.string gv2)).heap[w.heap.size]? = some (.cells #[.int .i64 side, .int .i64 gd, .string gn2, .string gv2, .int .i64 kind, .string name2, .string to2, parts] 35 (0, 0)) := by
        rw [heap_set (heap_set (heap_set (heap_set hb0 _) _) _) _]; rfl
      have hB1 : ((((wr.setCell ⟨w.heap.size, 5, none⟩ (.string name2)).setCell ⟨w.heap.size, 6, none⟩ (.string to2)).setCell ⟨w.heap.size, 2, none⟩ (.string gn2)).setCell ⟨w.heap.size, 3, none⟩ (.string gv2)).heap[w.heap.size + 1]? = some (.cells #[.int .i64 0, .int .i64 0, .string ⟨#[]⟩, .string ⟨#[]⟩, .int .i64 0, .string ⟨#[]⟩, .string ⟨#[]⟩, .slice none 0 0] 35 (0, 0)) := by
        rw [Below.heap_setCell _ _ _ _ (by simp), Below.heap_setCell _ _ _ _ (by simp), Below.heap_setCell _ _ _ _ (by simp), Below.heap_setCell _ _ _ _ (by simp)]; exact hb1
      have HcW := Lib.hid hcW
      have HB0 := Lib.hid hB0
      have HB1 := Lib.hid hB1
      clear h hb0 hb1 hb2 hblk hblk0 hblk1 hC0 hcW hB0 hB1
      go_wp2_with fail
      clear y2 y3 y5 y6 y7 z2 z3 z5 z6 x0 x1 x2 x3 hlt0 hk
      generalize ((((wr.setCell ⟨w.heap.size, 5, none⟩ (.string name2)).setCell ⟨w.heap.size, 6, none⟩ (.string to2)).setCell ⟨w.heap.size, 2, none⟩ (.string gn2)).setCell ⟨w.heap.size, 3, none⟩ (.string gv2)) = wx at *
      have hcx := HcW.out
      refine (hF wx (HP.out.chg hcx (fun _ _ h => h))).mono ?_; rintro e w1 ⟨a, c, rfl, hown, hc1⟩
      have hlx : w.heap.size + 1 < wx.heap.size := (Array.getElem?_eq_some_iff.1 HB1.out).1
      have b0 := (hc1.block w.heap.size (by omega) (fun h => h)).trans HB0.out
      have b1 := (hc1.block (w.heap.size + 1) hlx (fun h => h)).trans HB1.out
      have t0 : w1.cell? ⟨w.heap.size, 0, none⟩ = some (.int .i64 side) := by rw [cell_of_row w1 _ 0 _ _ _ b0]; rfl
      have t1 : w1.cell? ⟨w.heap.size, 1, none⟩ = some (.int .i64 gd) := by rw [cell_of_row w1 _ 1 _ _ _ b0]; rfl
      have t2 : w1.cell? ⟨w.heap.size, 2, none⟩ = some (.string gn2) := by rw [cell_of_row w1 _ 2 _ _ _ b0]; rfl
      have t3 : w1.cell? ⟨w.heap.size, 3, none⟩ = some (.string gv2) := by rw [cell_of_row w1 _ 3 _ _ _ b0]; rfl
      have t4 : w1.cell? ⟨w.heap.size, 4, none⟩ = some (.int .i64 kind) := by rw [cell_of_row w1 _ 4 _ _ _ b0]; rfl
      have t5 : w1.cell? ⟨w.heap.size, 5, none⟩ = some (.string name2) := by rw [cell_of_row w1 _ 5 _ _ _ b0]; rfl
      have t6 : w1.cell? ⟨w.heap.size, 6, none⟩ = some (.string to2) := by rw [cell_of_row w1 _ 6 _ _ _ b0]; rfl
      have t7 : w1.cell? ⟨w.heap.size, 7, none⟩ = some (parts) := by rw [cell_of_row w1 _ 7 _ _ _ b0]; rfl
      have tf7 : w1.frozen? ⟨w.heap.size, 7, none⟩ = false := by simp [World.frozen?, b0]
      have u0 : w1.cell? ⟨w.heap.size + 1, 0, none⟩ = some (.int .i64 0) := by rw [cell_of_row w1 _ 0 _ _ _ b1]; rfl
      have v0 : w1.frozen? ⟨w.heap.size + 1, 0, none⟩ = false := by simp [World.frozen?, b1]
      have u1 : w1.cell? ⟨w.heap.size + 1, 1, none⟩ = some (.int .i64 0) := by rw [cell_of_row w1 _ 1 _ _ _ b1]; rfl
      have v1 : w1.frozen? ⟨w.heap.size + 1, 1, none⟩ = false := by simp [World.frozen?, b1]
      have u2 : w1.cell? ⟨w.heap.size + 1, 2, none⟩ = some (.string ⟨#[]⟩) := by rw [cell_of_row w1 _ 2 _ _ _ b1]; rfl
      have v2 : w1.frozen? ⟨w.heap.size + 1, 2, none⟩ = false := by simp [World.frozen?, b1]
      have u3 : w1.cell? ⟨w.heap.size + 1, 3, none⟩ = some (.string ⟨#[]⟩) := by rw [cell_of_row w1 _ 3 _ _ _ b1]; rfl
      have v3 : w1.frozen? ⟨w.heap.size + 1, 3, none⟩ = false := by simp [World.frozen?, b1]
      have u4 : w1.cell? ⟨w.heap.size + 1, 4, none⟩ = some (.int .i64 0) := by rw [cell_of_row w1 _ 4 _ _ _ b1]; rfl
      have v4 : w1.frozen? ⟨w.heap.size + 1, 4, none⟩ = false := by simp [World.frozen?, b1]
      have u5 : w1.cell? ⟨w.heap.size + 1, 5, none⟩ = some (.string ⟨#[]⟩) := by rw [cell_of_row w1 _ 5 _ _ _ b1]; rfl
      have v5 : w1.frozen? ⟨w.heap.size + 1, 5, none⟩ = false := by simp [World.frozen?, b1]
      have u6 : w1.cell? ⟨w.heap.size + 1, 6, none⟩ = some (.string ⟨#[]⟩) := by rw [cell_of_row w1 _ 6 _ _ _ b1]; rfl
      have v6 : w1.frozen? ⟨w.heap.size + 1, 6, none⟩ = false := by simp [World.frozen?, b1]
      have u7 : w1.cell? ⟨w.heap.size + 1, 7, none⟩ = some (.slice none 0 0) := by rw [cell_of_row w1 _ 7 _ _ _ b1]; rfl
      have v7 : w1.frozen? ⟨w.heap.size + 1, 7, none⟩ = false := by simp [World.frozen?, b1]
      have hl1 := hc1.size
      have HB0' := Lib.hid b0
      have HB1' := Lib.hid b1
      clear b0 b1 hF
      go_wp2_with fail
      have hcf : Chg w1 (((((((((w1.setCell ⟨w.heap.size, 7, none⟩ (.slice a (min ps.length 40) c)).setCell ⟨w.heap.size + 1, 0, none⟩ (.int .i64 side)).setCell ⟨w.heap.size + 1, 1, none⟩ (.int .i64 gd)).setCell ⟨w.heap.size + 1, 2, none⟩ (.string gn2)).setCell ⟨w.heap.size + 1, 3, none⟩ (.string gv2)).setCell ⟨w.heap.size + 1, 4, none⟩ (.int .i64 kind)).setCell ⟨w.heap.size + 1, 5, none⟩ (.string name2)).setCell ⟨w.heap.size + 1, 6, none⟩ (.string to2)).setCell ⟨w.heap.size + 1, 7, none⟩ (.slice a (min ps.length 40) c)) (fun k => k = w.heap.size ∨ k = w.heap.size + 1) := (((((((((Chg.refl w1 _).setCell (.inr (.inl rfl)) _).setCell (.inr (.inr rfl)) _).setCell (.inr (.inr rfl)) _).setCell (.inr (.inr rfl)) _).setCell (.inr (.inr rfl)) _).setCell (.inr (.inr rfl)) _).setCell (.inr (.inr rfl)) _).setCell (.inr (.inr rfl)) _).setCell (.inr (.inr rfl)) _
      have h0 : (w1.setCell ⟨w.heap.size, 7, none⟩ (.slice a (min ps.length 40) c)).heap[w.heap.size + 1]? = some (.cells #[.int .i64 0, .int .i64 0, .string ⟨#[]⟩, .string ⟨#[]⟩, .int .i64 0, .string ⟨#[]⟩, .string ⟨#[]⟩, .slice none 0 0] 35 (0, 0)) := by
        rw [Below.heap_setCell _ _ _ _ (by simp)]; exact HB1'.out
      have hbf : (((((((((w1.setCell ⟨w.heap.size, 7, none⟩ (.slice a (min ps.length 40) c)).setCell ⟨w.heap.size + 1, 0, none⟩ (.int .i64 side)).setCell ⟨w.heap.size + 1, 1, none⟩ (.int .i64 gd)).setCell ⟨w.heap.size + 1, 2, none⟩ (.string gn2)).setCell ⟨w.heap.size + 1, 3, none⟩ (.string gv2)).setCell ⟨w.heap.size + 1, 4, none⟩ (.int .i64 kind)).setCell ⟨w.heap.size + 1, 5, none⟩ (.string name2)).setCell ⟨w.heap.size + 1, 6, none⟩ (.string to2)).setCell ⟨w.heap.size + 1, 7, none⟩ (.slice a (min ps.length 40) c)).heap[w.heap.size + 1]? = some (.cells #[.int .i64 side, .int .i64 gd, .string gn2, .string gv2, .int .i64 kind, .string name2, .string to2, .slice a (min ps.length 40) c] 35 (0, 0)) := by
        rw [heap_set (heap_set (heap_set (heap_set (heap_set (heap_set (heap_set (heap_set h0 _) _) _) _) _) _) _) _]; rfl
      generalize (((((((((w1.setCell ⟨w.heap.size, 7, none⟩ (.slice a (min ps.length 40) c)).setCell ⟨w.heap.size + 1, 0, none⟩ (.int .i64 side)).setCell ⟨w.heap.size + 1, 1, none⟩ (.int .i64 gd)).setCell ⟨w.heap.size + 1, 2, none⟩ (.string gn2)).setCell ⟨w.heap.size + 1, 3, none⟩ (.string gv2)).setCell ⟨w.heap.size + 1, 4, none⟩ (.int .i64 kind)).setCell ⟨w.heap.size + 1, 5, none⟩ (.string name2)).setCell ⟨w.heap.size + 1, 6, none⟩ (.string to2)).setCell ⟨w.heap.size + 1, 7, none⟩ (.slice a (min ps.length 40) c)) = wf at *
      have f0 : wf.cell? ⟨w.heap.size + 1, 0, none⟩ = some (.int .i64 side) := by rw [cell_of_row wf _ 0 _ _ _ hbf]; rfl
      have f1 : wf.cell? ⟨w.heap.size + 1, 1, none⟩ = some (.int .i64 gd) := by rw [cell_of_row wf _ 1 _ _ _ hbf]; rfl
      have f2 : wf.cell? ⟨w.heap.size + 1, 2, none⟩ = some (.string gn2) := by rw [cell_of_row wf _ 2 _ _ _ hbf]; rfl
      have f3 : wf.cell? ⟨w.heap.size + 1, 3, none⟩ = some (.string gv2) := by rw [cell_of_row wf _ 3 _ _ _ hbf]; rfl
      have f4 : wf.cell? ⟨w.heap.size + 1, 4, none⟩ = some (.int .i64 kind) := by rw [cell_of_row wf _ 4 _ _ _ hbf]; rfl
      have f5 : wf.cell? ⟨w.heap.size + 1, 5, none⟩ = some (.string name2) := by rw [cell_of_row wf _ 5 _ _ _ hbf]; rfl
      have f6 : wf.cell? ⟨w.heap.size + 1, 6, none⟩ = some (.string to2) := by rw [cell_of_row wf _ 6 _ _ _ hbf]; rfl
      have f7 : wf.cell? ⟨w.heap.size + 1, 7, none⟩ = some (.slice a (min ps.length 40) c) := by rw [cell_of_row wf _ 7 _ _ _ hbf]; rfl
      exact bodyPost_ret (v := .agg #[.int .i64 side, .int .i64 gd, .string gn2, .string gv2, .int .i64 kind, .string name2, .string to2, .slice a (min ps.length 40) c]) (by simp [results, Try.results9, go_sem, f0, f1, f2, f3, f4, f5, f6, f7]; try rfl) rfl ⟨a, c, by rw [Hname.out, Hto.out, Hgn.out, Hgv.out],
        (hown.chg hcf (fun g hg h => by have := (hown.lt g hg).1; omega)).mono (by omega), (hcx.trans hc1).next hcf (fun i hi h => by omega)⟩
end Go.Proofs.Ytajgpiplndfoeaa
