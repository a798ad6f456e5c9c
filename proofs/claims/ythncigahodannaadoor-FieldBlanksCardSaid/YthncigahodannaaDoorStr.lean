/- strings.Trim and strings.ContainsAny at the program's constants. -/
import Derived.Test.YthncigahodannaaDoorShelf
import Derived.Shelf.Strings.SlTrimAscii
import Derived.Test.YthncigahodannaaDoorAll
import Derived.Laws.RangeAny
import Derived.Lib.OthersKept
namespace Go.Proofs.YthncigahodannaaDoor
open Go.RowKit

theorem info_set : (Tryd.prog.info? 57).map (fun i => (i.zero, i.size)) = some (some (.agg (Array.replicate 256 (.bool false))), 256) := by kernel_rfl

def trimB (s : ByteArray) : ByteArray := ⟨(Lib.trimS s.data.toList [32, 9]).toArray⟩

theorem trim_any (s : ByteArray) (hs : s.size ≤ maxLen) (w : World) :
    Calls Tryd.prog 22 #[.string s, .string ⟨#[32, 9]⟩] w fun e w' => e = .returned (.string (trimB s)) ∧ Chg w w' (fun _ => False) :=
  (Any.strings_Trim_laid Tryd.lays160 info_set s ⟨#[32, 9]⟩ w (by unfold maxLen at hs; omega) (by decide) (fun j b h => by
    rcases j with _ | _ | j
    · simp at h; subst h; decide
    · simp at h; subst h; decide
    · simp at h)).mono fun e w' ⟨he, hb⟩ => ⟨he, Chg.of_below hb⟩

/-- a rune beyond ASCII takes bytes beyond ASCII alone -/
theorem decode_bytes (s : ByteArray) (pos : Nat) (h : pos < s.size) (ha : 128 ≤ (s[pos]'h).toNat) : ∀ j, pos ≤ j → j < pos + (Utf8.decode s pos).2 → ∃ hj : j < s.size, 128 ≤ (s[j]'hj).toNat := by
  have e0 := get_at s pos h
  have cont : ∀ k, (decide (pos + k < s.size) && (s.get! (pos + k)).toNat / 64 == 2) = true → ∃ hj : pos + k < s.size, 128 ≤ (s[pos + k]'hj).toNat := fun k hk => by
    simp only [Bool.and_eq_true, decide_eq_true_eq, beq_iff_eq] at hk
    refine ⟨hk.1, ?_⟩
    have e := get_at s (pos + k) hk.1
    rw [Nat.add_zero] at e
    rw [e] at hk
    omega
  have one : ∀ j, pos ≤ j → j < pos + 1 → ∃ hj : j < s.size, 128 ≤ (s[j]'hj).toNat := fun j h1 h2 => by
    obtain rfl : j = pos := by omega
    exact ⟨h, ha⟩
  have two : ∀ n, (∀ k, 1 ≤ k → k < n → (decide (pos + k < s.size) && (s.get! (pos + k)).toNat / 64 == 2) = true) → ∀ j, pos ≤ j → j < pos + n → ∃ hj : j < s.size, 128 ≤ (s[j]'hj).toNat := fun n hn j h1 h2 => by
    by_cases hj : j = pos
    · exact one j h1 (by omega)
    · obtain ⟨k, rfl⟩ : ∃ k, j = pos + k := ⟨j - pos, by omega⟩
      exact cont k (hn k (by omega) (by omega))
  unfold Utf8.decode
  dsimp only
  rw [if_neg (by rw [e0]; omega)]
  split
  · rename_i hc
    simp only [Bool.and_eq_true] at hc
    split
    · exact two 2 (fun k h1 h2 => by
        have e1 : k = 1 := by omega
        subst e1
        simpa using hc.2)
    · exact one
  · split
    · rename_i hc
      simp only [Bool.and_eq_true] at hc
      split
      · exact two 3 (fun k h1 h2 => by
          rcases (show k = 1 ∨ k = 2 by omega) with rfl | rfl
          · simpa using hc.1.2
          · simpa using hc.2)
      · exact one
    · split
      · rename_i hc
        simp only [Bool.and_eq_true] at hc
        split
        · exact two 4 (fun k h1 h2 => by
            rcases (show k = 1 ∨ k = 2 ∨ k = 3 by omega) with rfl | rfl | rfl
            · simpa using hc.1.1.2
            · simpa using hc.1.2
            · simpa using hc.2)
        · exact one
      · exact one

def High (q : ByteArray) : Prop := 2 ≤ q.size ∧ q.size ≤ 4 ∧ ∀ (hs : q.size = 2), 128 ≤ (q[1]'(by omega)).toNat
theorem encode_high (r : Int) (h : 128 ≤ r) : High (Utf8.encode r) := by
  have hc : 128 ≤ (if Utf8.valid r then r.toNat else Utf8.runeError) := by
    split
    · omega
    · decide
  generalize hg : (if Utf8.valid r then r.toNat else Utf8.runeError) = c at hc
  have e : Utf8.encode r = (if c < 0x80 then ⟨#[UInt8.ofNat c]⟩
    else if c < 0x800 then ⟨#[UInt8.ofNat (0xC0 + c / 64), UInt8.ofNat (0x80 + c % 64)]⟩
    else if c < 0x10000 then ⟨#[UInt8.ofNat (0xE0 + c / 4096), UInt8.ofNat (0x80 + c / 64 % 64), UInt8.ofNat (0x80 + c % 64)]⟩
    else ⟨#[UInt8.ofNat (0xF0 + c / 262144), UInt8.ofNat (0x80 + c / 4096 % 64), UInt8.ofNat (0x80 + c / 64 % 64), UInt8.ofNat (0x80 + c % 64)]⟩) := by
    unfold Utf8.encode
    dsimp only
    rw [hg]
  rw [if_neg (by omega)] at e
  by_cases h1 : c < 0x800
  · rw [if_pos h1] at e
    rw [e]
    refine ⟨show 2 ≤ 2 by decide, show 2 ≤ 4 by decide, fun _ => ?_⟩
    show 128 ≤ (UInt8.ofNat (0x80 + c % 64)).toNat
    rw [UInt8.toNat_ofNat']
    omega
  · rw [if_neg h1] at e
    by_cases h2 : c < 0x10000
    · rw [if_pos h2] at e
      rw [e]
      exact ⟨show 2 ≤ 3 by decide, show 3 ≤ 4 by decide, fun h => absurd (show 3 = 2 from h) (by decide)⟩
    · rw [if_neg h2] at e
      rw [e]
      exact ⟨show 2 ≤ 4 by decide, show 4 ≤ 4 by decide, fun h => absurd (show 4 = 2 from h) (by decide)⟩

set_option maxRecDepth 100000 in
set_option maxHeartbeats 1000000 in
theorem indexRune_high (r : Int) (h0 : 128 ≤ r) (h1 : r ≤ 2147483647) (w : World) :
    Calls Tryd.prog 43 #[.string ⟨#[13, 10]⟩, .int .i32 r] w fun e w' => e = .returned (.int .i64 (-1)) ∧ Chg w w' (fun _ => False) := by
  cases he : (r == 65533)
  · cases hv : Lib.validRune r
    · have hV := Tryd.utf8_ValidRune r w
      rw [hv] at hV
      go_enter Tryd.func43, Tryd.ntmps43
      go_wp2_with (go_at_call 56; refine hV.mono ?_; rintro e w' ⟨rfl, hw⟩; rw [hw])
      go_ret
      exact ⟨rfl, Chg.refl _ _⟩
    · have hV := Tryd.utf8_ValidRune r w
      rw [hv] at hV
      have q1 := (encode_high r h0).1
      have q2 := (encode_high r h0).2.1
      go_enter Tryd.func43, Tryd.ntmps43
      go_wp2_with (go_at_call 56; refine hV.mono ?_; rintro e w' ⟨rfl, hw⟩; rw [hw])
      go_step3
      go_wp2_with fail
      have hq0 := encode_high r h0
      clear hV
      generalize Utf8.encode r = q at *
      obtain ⟨_, _, q3⟩ := hq0
      by_cases hq : q.size = 2
      · have q4 := q3 hq
        have q5 : (((((⟨#[13, 10]⟩ : ByteArray)[1]'(by decide)).toNat : Int)) != ((q[1]'(by omega)).toNat : Int)) = true := by
          rw [bne_iff_ne]
          show (10 : Int) ≠ _
          omega
        clear q3
        go_loopg [9] 1 (fun g s9 wx => w = wx ∧ s9 = .int .i64 ((q.size : Int) - 1))
        case atStart => exact ⟨rfl, rfl⟩
        case round =>
          obtain ⟨rfl, rfl⟩ := hrel
          go_wp2_with fail
          go_step3
          go_wp2_with fail
          go_quiet (fail)
          go_wp2_with fail
          go_quiet ((go_at_call 55; exact quiet_add_left (sIndexByte_any _ _ _)))
          go_wp2_with fail
          · rw [Exit.noGoto_ret]
            go_wp2_with fail
            rw [Exit.noGoto_ret]
            go_ret
            exact ⟨rfl, by repeat (first | exact Chg.refl _ _ | assumption | refine Chg.drewN ?_ _ | refine Chg.drew ?_ | refine Chg.alloc ?_ _)⟩
      · go_loopg [9] 1 (fun g s9 wx => w = wx ∧ s9 = .int .i64 ((q.size : Int) - 1))
        case atStart => exact ⟨rfl, rfl⟩
        case round =>
          obtain ⟨rfl, rfl⟩ := hrel
          clear q3
          have q5 : 3 ≤ q.size := by omega
          clear hq
          go_wp2_with fail
          rw [Exit.noGoto_ret]
          go_ret
          exact ⟨rfl, Chg.refl _ _⟩
  · go_enter Tryd.func43, Tryd.ntmps43
    go_wp2_with fail
    go_loopg [176] 2 (fun g _ wx => ∃ i : Nat, i + g = 2 ∧ wx = w.iter ⟨#[13, 10]⟩ i)
    case atStart => exact ⟨0, rfl, rfl⟩
    case round =>
      obtain ⟨i, hig, rfl⟩ := hrel
      rcases (show i = 0 ∨ i = 1 ∨ i = 2 by omega) with rfl | rfl | rfl
      · have hnx := fun ty => run_next_ascii (P := Tryd.prog) w ⟨#[13, 10]⟩ 0 ty (by decide) (by decide)
        go_wp2_with fail
        go_roundg 1
        case measure => omega
        case rel => exact ⟨1, rfl, rfl⟩
      · have hnx := fun ty => run_next_ascii (P := Tryd.prog) w ⟨#[13, 10]⟩ 1 ty (by decide) (by decide)
        go_wp2_with fail
        go_roundg 0
        case measure => omega
        case rel => exact ⟨2, rfl, rfl⟩
      · have hnx := run_next_end (P := Tryd.prog) w ⟨#[13, 10]⟩ 2
        go_wp2_with fail
        go_ret
        exact ⟨rfl, (Chg.refl _ _).alloc _⟩

def crlfB (s : ByteArray) : Bool := s.data.toList.any fun b => b == 13 || b == 10
theorem crlf_contains (x : UInt8) : ([13, 10] : List UInt8).contains x = (x == 13 || x == 10) := by rw [Bool.eq_iff_iff]; simp

theorem Chg.iterAt (w : World) (k : Nat) (s : ByteArray) (p : Nat) : Chg w (w.iterAt k s p) (fun j => j = k) :=
  ⟨rfl, rfl, rfl, by simp [World.iterAt], fun j _ hj => Lib.iterAt_other w k j s p hj⟩

theorem indexAny_any (s : ByteArray) (hs : s.size ≤ 4000000000) (w : World) :
    Calls Tryd.prog 28 #[.string s, .string ⟨#[13, 10]⟩] w fun e w' => e = .returned (.int .i64 (Lib.indexAny s.data.toList [13, 10])) ∧ Chg w w' (fun _ => False) := by
  by_cases h8 : 8 < s.size
  · exact (Tryd.strings_IndexAny_long (zero_of_info info_set).1 s ⟨#[13, 10]⟩ w (by decide) h8 (by omega) (by decide) (fun j b h => by
      rcases j with _ | _ | j
      · simp at h; subst h; decide
      · simp at h; subst h; decide
      · simp at h)).mono fun e w' ⟨he, hb⟩ => ⟨he, by subst hb; exact ((Chg.refl _ _).alloc _).alloc _⟩
  · have h8z : decide ((8 : Int) < (s.size : Int)) = false := decide_eq_false (by omega)
    have hS := Tryd.strings_shouldUseASCIISet (s.size : Int) w
    rw [h8z] at hS
    go_enter Tryd.func28, Tryd.ntmps28
    go_wp2_with (go_at_call 44; refine hS.mono ?_; rintro e w' ⟨rfl, hw⟩; rw [hw])
    go_loopg [9, 10] s.size (fun g _ _ wx => ∃ i : Nat, i + g = s.size ∧ wx.heap[w.heap.size]? = some (.stringIter s i) ∧ Chg w wx (fun _ => False) ∧ Lib.NoAny s.data.toList [13, 10] i)
    case atStart => exact ⟨0, by omega, World.iter_heap w s 0, (Chg.refl _ _).alloc _, Lib.NoAny.zero _ _⟩
    case round =>
      obtain ⟨i, hig, hit, hc, hno⟩ := hrel
      have HN := Lib.hid hno
      clear hno
      by_cases hi : i < s.size
      · by_cases ha : (s[i]'hi).toNat < 128
        · have hnx := fun ty => Lib.run_next_ascii_at (P := Tryd.prog) wr w.heap.size s i ty hit hi ha
          have Hx : Hid (s.data.toList[i]? = some (s[i]'hi)) := Lib.data_getElem? s i hi
          have hcon := Lib.contains_iff_indexByte [13, 10] (s[i]'hi)
          have hback : (((s[i]'hi).toNat : Int)).toNat.toUInt8 = s[i]'hi := by simp
          have hIR := Tryd.strings_IndexRune_ascii ⟨#[13, 10]⟩ ((s[i]'hi).toNat : Int) (wr.iterAt w.heap.size s (i + 1)) (by omega) (by omega)
          rw [hback] at hIR
          clear hback
          generalize s[i]'hi = x at *
          change Calls _ _ _ _ (fun e w' => e = .returned (.int .i64 (Lib.indexByte [13, 10] x)) ∧ _) at hIR
          cases hin : ([13, 10] : List UInt8).contains x
          · rw [hin] at hcon
            have hlt : ¬ ((0 : Int) ≤ Lib.indexByte [13, 10] x) := of_decide_eq_false hcon.symm
            clear hcon
            generalize Lib.indexByte [13, 10] x = q at *
            have HI := Lib.hid hin
            clear hin
            go_wp2_with (go_at_call 43; refine hIR.mono ?_; rintro e w' ⟨rfl, hw⟩; rw [hw])
            go_roundg (gk - 1)
            case measure => omega
            case rel => exact ⟨i + 1, by omega, Lib.iterAt_heap wr _ s i _ hit, hc.next (Chg.iterAt wr _ s _) (fun j hj e => by omega), HN.out.succ Hx.out HI.out⟩
          · rw [hin] at hcon
            have hge : (0 : Int) ≤ Lib.indexByte [13, 10] x := of_decide_eq_true hcon.symm
            clear hcon
            generalize Lib.indexByte [13, 10] x = q at *
            have HI := Lib.hid hin
            clear hin
            go_wp2_with (go_at_call 43; refine hIR.mono ?_; rintro e w' ⟨rfl, hw⟩; rw [hw])
            go_ret
            exact ⟨by rw [Lib.indexAny_hit HN.out Hx.out HI.out]; rfl, hc.next (Chg.iterAt wr _ s _) (fun j hj e => by omega)⟩
        · have hnx := fun ty => Lib.run_next_any_at (P := Tryd.prog) wr w.heap.size s i ty hit hi
          obtain ⟨hr1, hr2⟩ := decode_high s i hi (by omega)
          have hr3 := decode_le s i
          have hby := decode_bytes s i hi (by omega)
          generalize (Utf8.decode s i).1 = r at *
          generalize (Utf8.decode s i).2 = k at *
          have hIR := fun W => indexRune_high (r : Int) (by omega) (by omega) W
          have HB := Lib.hid hby
          have hle : i + k ≤ s.size := by
            obtain ⟨h, _⟩ := hby (i + k - 1) (by omega) (by omega)
            omega
          clear hby ha
          go_wp2_with fail
          refine (hIR _).mono ?_; rintro e w2 ⟨rfl, hc2⟩
          have hw2 : w2.heap[w.heap.size]? = some (.stringIter s (i + k)) := (hc2.block _ (by simp [World.iterAt]; exact (Array.getElem?_eq_some_iff.1 hit).1) (fun h => h)).trans (Lib.iterAt_heap wr _ s i _ hit)
          have hcc := (hc.next (Chg.iterAt wr w.heap.size s (i + k)) (fun j hj e => by omega)).trans hc2
          go_wp2_with fail
          go_roundg (gk - k)
          case measure => omega
          case rel =>
            refine ⟨i + k, by omega, hw2, hcc, fun j b hj hb => ?_⟩
            by_cases hji : j < i
            · exact HN.out j b hji hb
            · obtain ⟨hjs, h128⟩ := HB.out j (by omega) hj
              rw [Lib.data_getElem? s j hjs] at hb
              obtain rfl := Option.some.inj hb
              rw [crlf_contains]
              generalize s[j] = x at *
              rw [Bool.or_eq_false_iff]
              exact ⟨by rw [beq_eq_false_iff_ne]; intro e; subst e; exact absurd h128 (by decide), by rw [beq_eq_false_iff_ne]; intro e; subst e; exact absurd h128 (by decide)⟩
      · have hnx := fun ty => Lib.run_next_end_at (P := Tryd.prog) wr w.heap.size s i ty hit (by omega)
        obtain rfl : i = s.size := by omega
        go_wp2_with fail
        go_ret
        exact ⟨by rw [Lib.indexAny_none (by rw [blen]; exact HN.out)]; rfl, hc⟩

theorem indexAny_crlf (l : List UInt8) : decide (0 ≤ Lib.indexAny l [13, 10]) = l.any fun b => b == 13 || b == 10 := by
  induction l with
  | nil => rfl
  | cons x r ih =>
    rw [List.any_cons, ← ih, ← crlf_contains]
    have hge := Lib.indexAny_ge [13, 10] r
    have e0 : Lib.indexAny (x :: r) [13, 10] = if ([13, 10] : List UInt8).contains x then 0 else if Lib.indexAny r [13, 10] == -1 then -1 else Lib.indexAny r [13, 10] + 1 := rfl
    rw [e0]
    cases ([13, 10] : List UInt8).contains x
    · simp only [Bool.false_eq_true, if_false, Bool.false_or]
      split
      · rename_i h; rw [beq_iff_eq] at h; rw [h]
      · rename_i h
        have h' : Lib.indexAny r [13, 10] ≠ -1 := fun e => h (by rw [e]; rfl)
        rw [decide_eq_true (by omega : (0 : Int) ≤ Lib.indexAny r [13, 10] + 1), decide_eq_true (by omega : (0 : Int) ≤ Lib.indexAny r [13, 10])]
    · rfl

theorem containsAny_any (s : ByteArray) (hs : s.size ≤ 4000000000) (w : World) :
    Calls Tryd.prog 14 #[.string s, .string ⟨#[13, 10]⟩] w fun e w' => e = .returned (.bool (crlfB s)) ∧ Chg w w' (fun _ => False) := by
  have hI := indexAny_any s hs w
  have he := Lib.hid (indexAny_crlf s.data.toList)
  generalize Lib.indexAny s.data.toList [13, 10] = q at *
  go_enter Tryd.func14, Tryd.ntmps14
  go_wp2_with (go_at_call 28; refine hI.mono ?_; rintro e w' ⟨rfl, hc⟩)
  go_ret
  exact ⟨by unfold crlfB; rw [← he.out]; rfl, hc⟩
end Go.Proofs.YthncigahodannaaDoor
