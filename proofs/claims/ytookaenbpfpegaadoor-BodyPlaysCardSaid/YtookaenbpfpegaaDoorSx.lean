/- strings.ContainsAny of 13 and 10, any text. No statement of its own. -/
import Derived.Test.YtookaenbpfpegaaDoorShelf
import Derived.Test.YtookaenbpfpegaaDoorFoP
import Derived.Test.YtookaenbpfpegaaDoorPf
import Derived.Shelf.Strings.SlTrimAscii
import Derived.Laws.RangeAny
import Derived.Lib.OthersKept
set_option linter.unusedSimpArgs false
set_option linter.unusedVariables false
set_option maxRecDepth 100000
namespace Go.Proofs.YtookaenbpfpegaaDoor
open Go.RowKit
theorem sIndexByte_any (s : ByteArray) (c : Int) (w : World) :
    Calls Tryd.prog 126 #[.string s, .int .u8 c] w fun e w' => e = .returned (.int .i64 (Lib.indexByte s.data.toList c.toNat.toUInt8)) ∧ w = w' := (Tryd.strings_IndexByte s c w).mono fun _ _ ⟨h1, h2⟩ => ⟨h1, h2.symm⟩
set_option maxHeartbeats 1000000 in
theorem indexRune_high (r : Int) (h0 : 128 ≤ r) (h1 : r ≤ 2147483647) (w : World) :
    Calls Tryd.prog 108 #[.string ⟨#[13, 10]⟩, .int .i32 r] w fun e w' => e = .returned (.int .i64 (-1)) ∧ Chg w w' (fun _ => False) := by
  cases he : (r == 65533)
  · cases hv : Lib.validRune r
    · have hV := Tryd.utf8_ValidRune r w
      rw [hv] at hV
      go_enter Tryd.func108, Tryd.ntmps108
      go_wp2_with (go_at_call 127; refine hV.mono ?_; rintro e w' ⟨rfl, hw⟩; rw [hw])
      go_ret
      exact ⟨rfl, Chg.refl _ _⟩
    · have hV := Tryd.utf8_ValidRune r w
      rw [hv] at hV
      have q1 := (encode_high r h0).1
      have q2 := (encode_high r h0).2.1
      go_enter Tryd.func108, Tryd.ntmps108
      go_wp2_with (go_at_call 127; refine hV.mono ?_; rintro e w' ⟨rfl, hw⟩; rw [hw])
      go_step3
      go_wp2_with fail
      have hq0 := encode_high r h0
      clear hV
      generalize Utf8.encode r = q at *
      obtain ⟨_, _, q3⟩ := hq0
      by_cases hq : q.size = 2
      · have q4 := q3 hq
        have q5 : (((((⟨#[13, 10]⟩ : ByteArray)[1]'(by decide)).toNat : Int)) != ((q[1]'(by omega)).toNat : Int)) = true := by
          rw [bne_iff_ne]
          show (10 : Int) ≠ _
          omega
        clear q3
        go_loopg [9] 1 (fun g s9 wx => w = wx ∧ s9 = .int .i64 ((q.size : Int) - 1))
        case atStart => exact ⟨rfl, rfl⟩
        case round =>
          obtain ⟨rfl, rfl⟩ := hrel
          go_wp2_with fail
          go_step3
          go_wp2_with fail
          go_quiet (fail)
          go_wp2_with fail
          go_quiet ((go_at_call 126; exact quiet_add_left (sIndexByte_any _ _ _)))
          go_wp2_with fail
          · rw [Exit.noGoto_ret]
            go_wp2_with fail
            rw [Exit.noGoto_ret]
            go_ret
            exact ⟨rfl, by repeat (first | exact Chg.refl _ _ | assumption | refine Chg.drewN ?_ _ | refine Chg.drew ?_ | refine Chg.alloc ?_ _)⟩
      · go_loopg [9] 1 (fun g s9 wx => w = wx ∧ s9 = .int .i64 ((q.size : Int) - 1))
        case atStart => exact ⟨rfl, rfl⟩
        case round =>
          obtain ⟨rfl, rfl⟩ := hrel
          clear q3
          have q5 : 3 ≤ q.size := by omega
          clear hq
          go_wp2_with fail
          rw [Exit.noGoto_ret]
          go_ret
          exact ⟨rfl, Chg.refl _ _⟩
  · go_enter Tryd.func108, Tryd.ntmps108
    go_wp2_with fail
    go_loopg [176] 2 (fun g _ wx => ∃ i : Nat, i + g = 2 ∧ wx = w.iter ⟨#[13, 10]⟩ i)
    case atStart => exact ⟨0, rfl, rfl⟩
    case round =>
      obtain ⟨i, hig, rfl⟩ := hrel
      rcases (show i = 0 ∨ i = 1 ∨ i = 2 by omega) with rfl | rfl | rfl
      · have hnx := fun ty => run_next_ascii (P := Tryd.prog) w ⟨#[13, 10]⟩ 0 ty (by decide) (by decide)
        go_wp2_with fail
        go_roundg 1
        case measure => omega
        case rel => exact ⟨1, rfl, rfl⟩
      · have hnx := fun ty => run_next_ascii (P := Tryd.prog) w ⟨#[13, 10]⟩ 1 ty (by decide) (by decide)
        go_wp2_with fail
        go_roundg 0
        case measure => omega
        case rel => exact ⟨2, rfl, rfl⟩
      · have hnx := run_next_end (P := Tryd.prog) w ⟨#[13, 10]⟩ 2
        go_wp2_with fail
        go_ret
        exact ⟨rfl, (Chg.refl _ _).alloc _⟩


theorem Chg.iterAt (w : World) (k : Nat) (s : ByteArray) (p : Nat) : Chg w (w.iterAt k s p) (fun j => j = k) :=
  ⟨rfl, rfl, rfl, by simp [World.iterAt], fun j _ hj => Lib.iterAt_other w k j s p hj⟩

theorem indexAny_any (s : ByteArray) (hs : s.size ≤ 4000000000) (w : World) :
    Calls Tryd.prog 137 #[.string s, .string ⟨#[13, 10]⟩] w fun e w' => e = .returned (.int .i64 (Lib.indexAny s.data.toList [13, 10])) ∧ Chg w w' (fun _ => False) := by
  by_cases h8 : 8 < s.size
  · exact (Tryd.strings_IndexAny_long (zero_of_info info_set).1 s ⟨#[13, 10]⟩ w (by decide) h8 (by omega) (by decide) (fun j b h => by
      rcases j with _ | _ | j
      · simp at h; subst h; decide
      · simp at h; subst h; decide
      · simp at h)).mono fun e w' ⟨he, hb⟩ => ⟨he, by subst hb; exact ((Chg.refl _ _).alloc _).alloc _⟩
  · have h8z : decide ((8 : Int) < (s.size : Int)) = false := decide_eq_false (by omega)
    have hS := Tryd.strings_shouldUseASCIISet (s.size : Int) w
    rw [h8z] at hS
    go_enter Tryd.func137, Tryd.ntmps137
    go_wp2_with (go_at_call 146; refine hS.mono ?_; rintro e w' ⟨rfl, hw⟩; rw [hw])
    go_loopg [9, 10] s.size (fun g _ _ wx => ∃ i : Nat, i + g = s.size ∧ wx.heap[w.heap.size]? = some (.stringIter s i) ∧ Chg w wx (fun _ => False) ∧ Lib.NoAny s.data.toList [13, 10] i)
    case atStart => exact ⟨0, by omega, World.iter_heap w s 0, (Chg.refl _ _).alloc _, Lib.NoAny.zero _ _⟩
    case round =>
      obtain ⟨i, hig, hit, hc, hno⟩ := hrel
      have HN := Lib.hid hno
      clear hno
      by_cases hi : i < s.size
      · by_cases ha : (s[i]'hi).toNat < 128
        · have hnx := fun ty => Lib.run_next_ascii_at (P := Tryd.prog) wr w.heap.size s i ty hit hi ha
          have Hx : Hid (s.data.toList[i]? = some (s[i]'hi)) := Lib.data_getElem? s i hi
          have hcon := Lib.contains_iff_indexByte [13, 10] (s[i]'hi)
          have hback : (((s[i]'hi).toNat : Int)).toNat.toUInt8 = s[i]'hi := by simp
          have hIR := Tryd.strings_IndexRune_ascii ⟨#[13, 10]⟩ ((s[i]'hi).toNat : Int) (wr.iterAt w.heap.size s (i + 1)) (by omega) (by omega)
          rw [hback] at hIR
          clear hback
          generalize s[i]'hi = x at *
          change Calls _ _ _ _ (fun e w' => e = .returned (.int .i64 (Lib.indexByte [13, 10] x)) ∧ _) at hIR
          cases hin : ([13, 10] : List UInt8).contains x
          · rw [hin] at hcon
            have hlt : ¬ ((0 : Int) ≤ Lib.indexByte [13, 10] x) := of_decide_eq_false hcon.symm
            clear hcon
            generalize Lib.indexByte [13, 10] x = q at *
            have HI := Lib.hid hin
            clear hin
            go_wp2_with (go_at_call 108; refine hIR.mono ?_; rintro e w' ⟨rfl, hw⟩; rw [hw])
            go_roundg (gk - 1)
            case measure => omega
            case rel => exact ⟨i + 1, by omega, Lib.iterAt_heap wr _ s i _ hit, hc.next (Chg.iterAt wr _ s _) (fun j hj e => by omega), HN.out.succ Hx.out HI.out⟩
          · rw [hin] at hcon
            have hge : (0 : Int) ≤ Lib.indexByte [13, 10] x := of_decide_eq_true hcon.symm
            clear hcon
            generalize Lib.indexByte [13, 10] x = q at *
            have HI := Lib.hid hin
            clear hin
            go_wp2_with (go_at_call 108; refine hIR.mono ?_; rintro e w' ⟨rfl, hw⟩; rw [hw])
            go_ret
            exact ⟨by rw [Lib.indexAny_hit HN.out Hx.out HI.out]; rfl, hc.next (Chg.iterAt wr _ s _) (fun j hj e => by omega)⟩
        · have hnx := fun ty => Lib.run_next_any_at (P := Tryd.prog) wr w.heap.size s i ty hit hi
          obtain ⟨hr1, hr2⟩ := decode_high s i hi (by omega)
          have hr3 := decode_le s i
          have hby := decode_bytes s i hi (by omega)
          generalize (Utf8.decode s i).1 = r at *
          generalize (Utf8.decode s i).2 = k at *
          have hIR := fun W => indexRune_high (r : Int) (by omega) (by omega) W
          have HB := Lib.hid hby
          have hle : i + k ≤ s.size := by
            obtain ⟨h, _⟩ := hby (i + k - 1) (by omega) (by omega)
            omega
          clear hby ha
          go_wp2_with fail
          refine (hIR _).mono ?_; rintro e w2 ⟨rfl, hc2⟩
          have hw2 : w2.heap[w.heap.size]? = some (.stringIter s (i + k)) := (hc2.block _ (by simp [World.iterAt]; exact (Array.getElem?_eq_some_iff.1 hit).1) (fun h => h)).trans (Lib.iterAt_heap wr _ s i _ hit)
          have hcc := (hc.next (Chg.iterAt wr w.heap.size s (i + k)) (fun j hj e => by omega)).trans hc2
          go_wp2_with fail
          go_roundg (gk - k)
          case measure => omega
          case rel =>
            refine ⟨i + k, by omega, hw2, hcc, fun j b hj hb => ?_⟩
            by_cases hji : j < i
            · exact HN.out j b hji hb
            · obtain ⟨hjs, h128⟩ := HB.out j (by omega) hj
              rw [Lib.data_getElem? s j hjs] at hb
              obtain rfl := Option.some.inj hb
              rw [crlf_contains]
              generalize s[j] = x at *
              rw [Bool.or_eq_false_iff]
              exact ⟨by rw [beq_eq_false_iff_ne]; intro e; subst e; exact absurd h128 (by decide), by rw [beq_eq_false_iff_ne]; intro e; subst e; exact absurd h128 (by decide)⟩
      · have hnx := fun ty => Lib.run_next_end_at (P := Tryd.prog) wr w.heap.size s i ty hit (by omega)
        obtain rfl : i = s.size := by omega
        go_wp2_with fail
        go_ret
        exact ⟨by rw [Lib.indexAny_none (by rw [blen]; exact HN.out)]; rfl, hc⟩

theorem containsAny_any (s : ByteArray) (hs : s.size ≤ 4000000000) (w : World) :
    Calls Tryd.prog 120 #[.string s, .string ⟨#[13, 10]⟩] w fun e w' => e = .returned (.bool (crlfB s)) ∧ Chg w w' (fun _ => False) := by
  have hI := indexAny_any s hs w
  have he := Lib.hid (indexAny_crlf s.data.toList)
  generalize Lib.indexAny s.data.toList [13, 10] = q at *
  go_enter Tryd.func120, Tryd.ntmps120
  go_wp2_with (go_at_call 137; refine hI.mono ?_; rintro e w' ⟨rfl, hc⟩)
  go_ret
  exact ⟨by unfold crlfB; rw [← he.out]; rfl, hc⟩
theorem containsAny_p (s : ByteArray) (hs : s.size ≤ 4000000000) : APure Tryd.prog 120 [.s s, .s ⟨#[13, 10]⟩] (.b (crlfB s)) [] :=
  APure.of_lits #[.string s, .string ⟨#[13, 10]⟩] (.inl rfl) rfl Tryd.call120 fun w _ => (containsAny_any s hs w).mono fun e w1 ⟨he, hc⟩ => ⟨he, hc.below (Nat.le_refl _) (fun _ _ h => h)⟩
end Go.Proofs.YtookaenbpfpegaaDoor
