/- strings.ContainsAny of 13 and 10, any text. No statement of its own. -/
import Derived.Test.YtgaidgblihnldaaGreatDoorShelf
import Derived.Test.YtgaidgblihnldaaGreatDoorFoP
import Derived.Test.YtgaidgblihnldaaGreatDoorPf
import Derived.Shelf.Strings.SlTrimAscii
import Derived.Laws.RangeAny
import Derived.Lib.OthersKept
set_option linter.unusedSimpArgs false
set_option linter.unusedVariables false
set_option maxRecDepth 100000
namespace Go.Proofs.YtgaidgblihnldaaGreatDoor
open Go.RowKit
theorem sIndexByte_any (s : ByteArray) (c : Int) (w : World) :
    Calls Tryz.prog 163 #[.string s, .int .u8 c] w fun e w' => e = .returned (.int .i64 (Lib.indexByte s.data.toList c.toNat.toUInt8)) ∧ w = w' := (Tryz.strings_IndexByte s c w).mono fun _ _ ⟨h1, h2⟩ => ⟨h1, h2.symm⟩
set_option maxHeartbeats 1000000 in
theorem indexRune_high (r : Int) (h0 : 128 ≤ r) (h1 : r ≤ 2147483647) (w : World) :
    Calls Tryz.prog 174 #[.string ⟨#[13, 10]⟩, .int .i32 r] w fun e w' => e = .returned (.int .i64 (-1)) ∧ Chg w w' (fun _ => False) := by
  cases he : (r == 65533)
  · cases hv : Lib.validRune r
    · have hV := Tryz.utf8_ValidRune r w
      rw [hv] at hV
      go_enter Tryz.func174, Tryz.ntmps174
      go_wp2_with (go_at_call 179; refine hV.mono ?_; rintro e w' ⟨rfl, hw⟩; rw [hw])
      go_ret
      exact ⟨rfl, Chg.refl _ _⟩
    · have hV := Tryz.utf8_ValidRune r w
      rw [hv] at hV
      have q1 := (encode_high r h0).1
      have q2 := (encode_high r h0).2.1
      go_enter Tryz.func174, Tryz.ntmps174
      go_wp2_with (go_at_call 179; refine hV.mono ?_; rintro e w' ⟨rfl, hw⟩; rw [hw])
      go_step3
      go_wp2_with fail
      have hq0 := encode_high r h0
      clear hV
      generalize Utf8.encode r = q at *
      obtain ⟨_, _, q3⟩ := hq0
      by_cases hq : q.size = 2
      · have q4 := q3 hq
        have q5 : (((((⟨#[13, 10]⟩ : ByteArray)[1]'(by decide)).toNat : Int)) != ((q[1]'(by omega)).toNat : Int)) = true := by
          rw [bne_iff_ne]
          show (10 : Int) ≠ _
          omega
        clear q3
        go_loopg [9] 1 (fun g s9 wx => w = wx ∧ s9 = .int .i64 ((q.size : Int) - 1))
        case atStart => exact ⟨rfl, rfl⟩
        case round =>
          obtain ⟨rfl, rfl⟩ := hrel
          go_wp2_with fail
          go_step3
          go_wp2_with fail
          go_quiet (fail)
          go_wp2_with fail
          go_quiet ((go_at_call 163; exact quiet_add_left (sIndexByte_any _ _ _)))
          go_wp2_with fail
          · rw [Exit.noGoto_ret]
            go_wp2_with fail
            rw [Exit.noGoto_ret]
            go_ret
            exact ⟨rfl, by repeat (first | exact Chg.refl _ _ | assumption | refine Chg.drewN ?_ _ | refine Chg.drew ?_ | refine Chg.alloc ?_ _)⟩
      · go_loopg [9] 1 (fun g s9 wx => w = wx ∧ s9 = .int .i64 ((q.size : Int) - 1))
        case atStart => exact ⟨rfl, rfl⟩
        case round =>
          obtain ⟨rfl, rfl⟩ := hrel
          clear q3
          have q5 : 3 ≤ q.size := by omega
          clear hq
          go_wp2_with fail
          rw [Exit.noGoto_ret]
          go_ret
          exact ⟨rfl, Chg.refl _ _⟩
  · go_enter Tryz.func174, Tryz.ntmps174
    go_wp2_with fail
    go_loopg [176] 2 (fun g _ wx => ∃ i : Nat, i + g = 2 ∧ wx = w.iter ⟨#[13, 10]⟩ i)
    case atStart => exact ⟨0, rfl, rfl⟩
    case round =>
      obtain ⟨i, hig, rfl⟩ := hrel
      rcases (show i = 0 ∨ i = 1 ∨ i = 2 by omega) with rfl | rfl | rfl
      · have hnx := fun ty => run_next_ascii (P := Tryz.prog) w ⟨#[13, 10]⟩ 0 ty (by decide) (by decide)
        go_wp2_with fail
        go_roundg 1
        case measure => omega
        case rel => exact ⟨1, rfl, rfl⟩
      · have hnx := fun ty => run_next_ascii (P := Tryz.prog) w ⟨#[13, 10]⟩ 1 ty (by decide) (by decide)
        go_wp2_with fail
        go_roundg 0
        case measure => omega
        case rel => exact ⟨2, rfl, rfl⟩
      · have hnx := run_next_end (P := Tryz.prog) w ⟨#[13, 10]⟩ 2
        go_wp2_with fail
        go_ret
        exact ⟨rfl, (Chg.refl _ _).alloc _⟩


theorem Chg.iterAt (w : World) (k : Nat) (s : ByteArray) (p : Nat) : Chg w (w.iterAt k s p) (fun j => j = k) :=
  ⟨rfl, rfl, rfl, by simp [World.iterAt], fun j _ hj => Lib.iterAt_other w k j s p hj⟩

end Go.Proofs.YtgaidgblihnldaaGreatDoor
