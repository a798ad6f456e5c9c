/- scan: a scanner's contracts. -/
import Derived.Test.YthncigahodannaaDoorAll
namespace Go.Proofs.YthncigahodannaaDoor
open Go.RowKit

/-- the scanner at block p: its text, its place -/
structure Sc (w : World) (p : Nat) (s : ByteArray) (k : Nat) : Prop where
  blk : w.heap[p]? = some (.cells #[.string s, .int .i64 k] 50 (0, 0))
  le : k ≤ s.size
  max : s.size ≤ 4000000000

section
variable {w w' : World} {p k : Nat} {s : ByteArray}
theorem Sc.lt (h : Sc w p s k) : p < w.heap.size := (Array.getElem?_eq_some_iff.1 h.blk).1
theorem Sc.c0 (h : Sc w p s k) : w.cell? ⟨p, 0, none⟩ = some (.string s) := by rw [cell_of_row w p 0 _ _ _ h.blk]; rfl
theorem Sc.c1 (h : Sc w p s k) : w.cell? ⟨p, 1, none⟩ = some (.int .i64 k) := by rw [cell_of_row w p 1 _ _ _ h.blk]; rfl
theorem Sc.fr (h : Sc w p s k) (j : Nat) : w.frozen? ⟨p, j, none⟩ = false := by simp [World.frozen?, h.blk]
theorem Sc.chg {S : Nat → Prop} (h : Sc w p s k) (c : Chg w w' S) (h1 : ¬ S p) : Sc w' p s k := ⟨(c.block p h.lt h1).trans h.blk, h.le, h.max⟩
theorem Sc.drewN (h : Sc w p s k) (n : Nat) : Sc (w.drewN n) p s k := h.chg (S := fun _ => False) ((Chg.refl _ _).drewN n) (fun h => h)
theorem Sc.put (h : Sc w p s k) {j : Nat} (hj : j ≤ s.size) : Sc (w.setCell ⟨p, 1, none⟩ (.int .i64 j)) p s j := ⟨by rw [heap_set h.blk]; rfl, hj, h.max⟩

set_option maxHeartbeats 400000 in
theorem cAt_any (h : Sc w p s k) :
    Calls Tryd.prog 46 #[.pointer (some ⟨p, 0, none⟩)] w fun e w' => e = .returned (.int .i64 k) ∧ w = w' := by
  have h1 := h.c1
  go_enter Tryd.func46, Tryd.ntmps46
  go_wp2
  go_ret
  exact ⟨rfl, rfl⟩

set_option maxHeartbeats 400000 in
theorem cRest_any (h : Sc w p s k) :
    Calls Tryd.prog 21 #[.pointer (some ⟨p, 0, none⟩)] w fun e w' => e = .returned (.string (s.extract k s.size)) ∧ ∃ n, w' = w.drewN n := by
  have h0 := h.c0
  have h1 := h.c1
  have hl := h.le
  have hm := h.max
  go_enter Tryd.func21, Tryd.ntmps21
  go_wp2_with fail
  go_quiet (fail)
  go_wp2_with fail
  go_ret
  exact ⟨rfl, _, rfl⟩

theorem ext_size (s : ByteArray) (a b : Nat) (h : b ≤ s.size) : (s.extract a b).size = b - a := by
  rw [ByteArray.size_extract]; omega

set_option maxHeartbeats 400000 in
theorem cEnd_any (h : Sc w p s k) :
    Calls Tryd.prog 50 #[.pointer (some ⟨p, 0, none⟩)] w fun e w' => e = .returned (.bool (decide (s.size ≤ k))) ∧ ∃ n, w' = w.drewN n := by
  have hl := h.le
  by_cases hk : k < s.size
  · have he := empB1 (s := s.extract k s.size) (by rw [ext_size _ _ _ (Nat.le_refl _)]; omega)
    have hd : decide (s.size ≤ k) = false := decide_eq_false (by omega)
    rw [hd]
    clear hd
    go_enter Tryd.func50, Tryd.ntmps50
    go_wp2_with (go_at_call 21; refine (cRest_any h).mono ?_; rintro e w' ⟨rfl, n, rfl⟩)
    go_ret
    exact ⟨rfl, _, rfl⟩
  · have he := empB0 (s := s.extract k s.size) (by rw [ext_size _ _ _ (Nat.le_refl _)]; omega)
    have hd : decide (s.size ≤ k) = true := decide_eq_true (by omega)
    rw [hd]
    clear hd
    go_enter Tryd.func50, Tryd.ntmps50
    go_wp2_with (go_at_call 21; refine (cRest_any h).mono ?_; rintro e w' ⟨rfl, n, rfl⟩)
    go_ret
    exact ⟨rfl, _, rfl⟩

set_option maxHeartbeats 400000 in
theorem cPeek_no (h : Sc w p s k) (hk : s.size ≤ k) :
    Calls Tryd.prog 32 #[.pointer (some ⟨p, 0, none⟩)] w fun e w' => e = .returned (.tuple #[.int .u8 0, .bool false]) ∧ ∃ n, w' = w.drewN n := by
  have hE := cEnd_any h
  rw [decide_eq_true hk] at hE
  go_enter Tryd.func32, Tryd.ntmps32
  go_wp2_with (go_at_call 50; refine hE.mono ?_; rintro e w' ⟨rfl, n, rfl⟩)
  go_ret2
  exact ⟨rfl, _, rfl⟩

set_option maxHeartbeats 400000 in
theorem cPeek_yes (h : Sc w p s k) (hk : k < s.size) :
    Calls Tryd.prog 32 #[.pointer (some ⟨p, 0, none⟩)] w fun e w' => e = .returned (.tuple #[.int .u8 (s[k].toNat : Int), .bool true]) ∧ ∃ n, w' = w.drewN n := by
  have hE := cEnd_any h
  rw [decide_eq_false (by omega)] at hE
  have h0 := h.c0
  have h1 := h.c1
  go_enter Tryd.func32, Tryd.ntmps32
  go_wp2_with (go_at_call 50; refine hE.mono ?_; rintro e w' ⟨rfl, n, rfl⟩)
  go_quiet (fail)
  go_wp2_with fail
  go_ret2
  exact ⟨rfl, by simp only [World.drewN_drewN]; exact ⟨_, rfl⟩⟩

set_option maxHeartbeats 400000 in
theorem cByte_end (h : Sc w p s k) (hk : s.size ≤ k) (b : Int) :
    Calls Tryd.prog 18 #[.pointer (some ⟨p, 0, none⟩), .int .u8 b] w fun e w' => e = .returned (.bool false) ∧ ∃ n, w' = w.drewN n := by
  go_enter Tryd.func18, Tryd.ntmps18
  go_wp2_with (go_at_call 32; refine (cPeek_no h hk).mono ?_; rintro e w' ⟨rfl, n, rfl⟩)
  go_ret
  exact ⟨rfl, _, rfl⟩

set_option maxHeartbeats 400000 in
theorem cByte_not (h : Sc w p s k) (hk : k < s.size) (b : Int) (hb : ((s[k].toNat : Int) != b) = true) :
    Calls Tryd.prog 18 #[.pointer (some ⟨p, 0, none⟩), .int .u8 b] w fun e w' => e = .returned (.bool false) ∧ ∃ n, w' = w.drewN n := by
  go_enter Tryd.func18, Tryd.ntmps18
  go_wp2_with (go_at_call 32; refine (cPeek_yes h hk).mono ?_; rintro e w' ⟨rfl, n, rfl⟩)
  go_ret
  exact ⟨rfl, _, rfl⟩

set_option maxHeartbeats 400000 in
theorem cByte_is (h : Sc w p s k) (hk : k < s.size) (b : Int) (hb : ((s[k].toNat : Int) != b) = false) :
    Calls Tryd.prog 18 #[.pointer (some ⟨p, 0, none⟩), .int .u8 b] w fun e w' => e = .returned (.bool true) ∧ Sc w' p s (k + 1) ∧ Chg w w' (fun j => j = p) := by
  have hm := h.max
  go_enter Tryd.func18, Tryd.ntmps18
  go_wp2_with fail
  refine (cPeek_yes h hk).mono ?_; rintro e w1 ⟨rfl, n, rfl⟩
  have h2 := h.drewN n
  have h1 := h2.c1
  have hf := h2.fr 1
  go_wp2_with fail
  go_ret
  exact ⟨rfl, h2.put hk, ((Chg.refl w _).drewN n).next (Chg.set _ p 1 _) (fun _ _ h => h)⟩

/-- how many bytes from a place on are so -/
def tw (q : Int → Bool) (s : ByteArray) (k : Nat) : Nat := ((s.data.toList.drop k).takeWhile fun b => q (b.toNat : Int)).length

theorem takeWhile_len {α : Type} (q : α → Bool) : ∀ (l : List α) (j : Nat), (∀ i (hi : i < l.length), i < j → q l[i] = true) → (j ≤ l.length) → (∀ (hj : j < l.length), q l[j] = false) → (l.takeWhile q).length = j
  | [], j, _, h2, _ => by simp at h2; simp [h2]
  | x :: r, 0, _, _, h3 => by have := h3 (by simp); simp at this; simp [this]
  | x :: r, j + 1, h1, h2, h3 => by
    have hx : q x = true := h1 0 (by simp) (by omega)
    rw [List.takeWhile_cons_of_pos hx, List.length_cons]
    congr 1
    exact takeWhile_len q r j (fun i hi hij => h1 (i + 1) (by simpa using hi) (by omega)) (by simpa using h2) (fun hj => h3 (by simpa using hj))

theorem tw_eq {q : Int → Bool} {s : ByteArray} {k j : Nat} (h1 : ∀ i (hi : k + i < s.size), i < j → q (s[k + i].toNat : Int) = true) (h2 : k + j ≤ s.size) (h3 : ∀ (hj : k + j < s.size), q (s[k + j].toNat : Int) = false) : tw q s k = j := by
  unfold tw
  have hl := blen s
  refine takeWhile_len _ _ _ (fun i hi hij => ?_) ?_ (fun hj => ?_)
  · rw [List.getElem_drop]
    rw [List.length_drop] at hi
    exact h1 i (by omega) hij
  · rw [List.length_drop]; omega
  · rw [List.getElem_drop]
    rw [List.length_drop] at hj
    exact h3 (by omega)
theorem tw_at {q : Int → Bool} {s : ByteArray} {k m : Nat} (h1 : ∀ i (hi : i < s.size), k ≤ i → i < m → q (s[i].toNat : Int) = true) (h0 : k ≤ m) (h2 : m ≤ s.size) (h3 : ∀ (hj : m < s.size), q (s[m].toNat : Int) = false) : k + tw q s k = m := by
  obtain ⟨j, rfl⟩ : ∃ j, m = k + j := ⟨m - k, by omega⟩
  rw [tw_eq (j := j) (fun i hi hij => h1 (k + i) hi (by omega) (by omega)) h2 h3]
theorem tw_le (q : Int → Bool) (s : ByteArray) (k : Nat) (hk : k ≤ s.size) : k + tw q s k ≤ s.size := by
  unfold tw
  have := List.takeWhile_prefix (fun b : UInt8 => q (b.toNat : Int)) (l := s.data.toList.drop k)
  have h2 := this.length_le
  rw [List.length_drop, blen] at h2
  omega

/-- behind reading on as long as bytes are so -/
def WPost (q : Int → Bool) (w : World) (p : Nat) (s : ByteArray) (k : Nat) (w' : World) : Prop := Sc w' p s (k + tw q s k) ∧ Chg w w' (fun j => j = p)

set_option maxHeartbeats 400000 in
theorem cWhile_token (h : Sc w p s k) :
    Calls Tryd.prog 29 #[.pointer (some ⟨p, 0, none⟩), .func (.func 31) #[] #[]] w fun e w' => e = .returned (.string (s.extract k (k + tw tokI s k))) ∧ WPost tokI w p s k w' := by
  have hm := h.max
  have hl := h.le
  go_enter Tryd.func29, Tryd.ntmps29
  go_wp2_with (go_at_call 46; refine (cAt_any h).mono ?_; rintro e w1 ⟨rfl, rfl⟩)
  go_loopg [] (s.size - k) (fun g wr => ∃ m : Nat, k ≤ m ∧ m + g = s.size ∧ Sc wr p s m ∧ Chg w wr (fun i => i = p) ∧ ∀ i (hi : i < s.size), k ≤ i → i < m → tokI (s[i].toNat : Int) = true)
  case atStart => exact ⟨k, Nat.le_refl _, by omega, h, Chg.refl _ _, fun i _ h1 h2 => absurd h2 (by omega)⟩
  case round =>
    obtain ⟨m, hkm, hj, hs, hc, hall⟩ := hrel
    have HA := Lib.hid hall
    clear hall
    by_cases hk : m < s.size
    · have hP := fun W => (isToken_any (s[m].toNat : Int) W (by omega) (by have := s[m].toNat_lt; omega))
      cases hq : tokI (s[m].toNat : Int)
      · rw [hq] at hP
        have ht := tw_at HA.out hkm (by omega) (fun _ => hq)
        have HT := Lib.hid ht
        clear hq ht
        go_wp2_with fail
        refine (cPeek_yes hs hk).mono ?_; rintro e w1 ⟨rfl, n, rfl⟩
        go_wp2_with fail
        refine (hP _).mono ?_; rintro e w2 ⟨rfl, rfl⟩
        have h0 := hs.c0
        have h1 := hs.c1
        go_wp2_with fail
        go_quiet (fail)
        go_wp2_with fail
        go_ret
        refine ⟨by rw [HT.out]; rfl, ?_, ?_⟩
        · rw [HT.out]; exact hs.chg (S := fun _ => False) (by repeat (first | exact Chg.refl _ _ | assumption | refine Chg.drewN ?_ _ | refine Chg.drew ?_ | refine Chg.alloc ?_ _)) (fun h => h)
        · repeat (first | exact Chg.refl _ _ | assumption | refine Chg.drewN ?_ _ | refine Chg.drew ?_ | refine Chg.alloc ?_ _)
      · rw [hq] at hP
        have HQ := Lib.hid hq
        clear hq
        go_wp2_with fail
        refine (cPeek_yes hs hk).mono ?_; rintro e w1 ⟨rfl, n, rfl⟩
        go_wp2_with fail
        refine (hP _).mono ?_; rintro e w2 ⟨rfl, rfl⟩
        have h3 := hs.drewN n
        have h1 := h3.c1
        have hf := h3.fr 1
        have hlt := h3.lt
        go_wp2_with fail
        go_roundg (gk - 1)
        case measure => omega
        case rel =>
          refine ⟨m + 1, by omega, by omega, h3.put hk, ?_, fun i hi h1 h2 => ?_⟩
          · exact (hc.drewN n).next (Chg.set _ p 1 _) (fun _ _ h => h)
          · by_cases e : i = m
            · subst e; exact HQ.out
            · exact HA.out i hi h1 (by omega)
    · have ht := tw_at HA.out hkm (by omega) (fun h => absurd h hk)
      have HT := Lib.hid ht
      clear ht
      go_wp2_with fail
      refine (cPeek_no hs (by omega)).mono ?_; rintro e w1 ⟨rfl, n, rfl⟩
      have h0 := hs.c0
      have h1 := hs.c1
      go_wp2_with fail
      go_quiet (fail)
      go_wp2_with fail
      go_ret
      refine ⟨by rw [HT.out]; rfl, ?_, ?_⟩
      · rw [HT.out]; exact hs.chg (S := fun _ => False) (by repeat (first | exact Chg.refl _ _ | assumption | refine Chg.drewN ?_ _ | refine Chg.drew ?_ | refine Chg.alloc ?_ _)) (fun h => h)
      · repeat (first | exact Chg.refl _ _ | assumption | refine Chg.drewN ?_ _ | refine Chg.drew ?_ | refine Chg.alloc ?_ _)

set_option maxHeartbeats 400000 in
theorem cWhile_blank (h : Sc w p s k) :
    Calls Tryd.prog 29 #[.pointer (some ⟨p, 0, none⟩), .func (.func 30) #[] #[]] w fun e w' => e = .returned (.string (s.extract k (k + tw blkI s k))) ∧ WPost blkI w p s k w' := by
  have hm := h.max
  have hl := h.le
  go_enter Tryd.func29, Tryd.ntmps29
  go_wp2_with (go_at_call 46; refine (cAt_any h).mono ?_; rintro e w1 ⟨rfl, rfl⟩)
  go_loopg [] (s.size - k) (fun g wr => ∃ m : Nat, k ≤ m ∧ m + g = s.size ∧ Sc wr p s m ∧ Chg w wr (fun i => i = p) ∧ ∀ i (hi : i < s.size), k ≤ i → i < m → blkI (s[i].toNat : Int) = true)
  case atStart => exact ⟨k, Nat.le_refl _, by omega, h, Chg.refl _ _, fun i _ h1 h2 => absurd h2 (by omega)⟩
  case round =>
    obtain ⟨m, hkm, hj, hs, hc, hall⟩ := hrel
    have HA := Lib.hid hall
    clear hall
    by_cases hk : m < s.size
    · have hP := fun W => (isBlank_any (s[m].toNat : Int) W)
      cases hq : blkI (s[m].toNat : Int)
      · rw [hq] at hP
        have ht := tw_at HA.out hkm (by omega) (fun _ => hq)
        have HT := Lib.hid ht
        clear hq ht
        go_wp2_with fail
        refine (cPeek_yes hs hk).mono ?_; rintro e w1 ⟨rfl, n, rfl⟩
        go_wp2_with fail
        refine (hP _).mono ?_; rintro e w2 ⟨rfl, rfl⟩
        have h0 := hs.c0
        have h1 := hs.c1
        go_wp2_with fail
        go_quiet (fail)
        go_wp2_with fail
        go_ret
        refine ⟨by rw [HT.out]; rfl, ?_, ?_⟩
        · rw [HT.out]; exact hs.chg (S := fun _ => False) (by repeat (first | exact Chg.refl _ _ | assumption | refine Chg.drewN ?_ _ | refine Chg.drew ?_ | refine Chg.alloc ?_ _)) (fun h => h)
        · repeat (first | exact Chg.refl _ _ | assumption | refine Chg.drewN ?_ _ | refine Chg.drew ?_ | refine Chg.alloc ?_ _)
      · rw [hq] at hP
        have HQ := Lib.hid hq
        clear hq
        go_wp2_with fail
        refine (cPeek_yes hs hk).mono ?_; rintro e w1 ⟨rfl, n, rfl⟩
        go_wp2_with fail
        refine (hP _).mono ?_; rintro e w2 ⟨rfl, rfl⟩
        have h3 := hs.drewN n
        have h1 := h3.c1
        have hf := h3.fr 1
        have hlt := h3.lt
        go_wp2_with fail
        go_roundg (gk - 1)
        case measure => omega
        case rel =>
          refine ⟨m + 1, by omega, by omega, h3.put hk, ?_, fun i hi h1 h2 => ?_⟩
          · exact (hc.drewN n).next (Chg.set _ p 1 _) (fun _ _ h => h)
          · by_cases e : i = m
            · subst e; exact HQ.out
            · exact HA.out i hi h1 (by omega)
    · have ht := tw_at HA.out hkm (by omega) (fun h => absurd h hk)
      have HT := Lib.hid ht
      clear ht
      go_wp2_with fail
      refine (cPeek_no hs (by omega)).mono ?_; rintro e w1 ⟨rfl, n, rfl⟩
      have h0 := hs.c0
      have h1 := hs.c1
      go_wp2_with fail
      go_quiet (fail)
      go_wp2_with fail
      go_ret
      refine ⟨by rw [HT.out]; rfl, ?_, ?_⟩
      · rw [HT.out]; exact hs.chg (S := fun _ => False) (by repeat (first | exact Chg.refl _ _ | assumption | refine Chg.drewN ?_ _ | refine Chg.drew ?_ | refine Chg.alloc ?_ _)) (fun h => h)
      · repeat (first | exact Chg.refl _ _ | assumption | refine Chg.drewN ?_ _ | refine Chg.drew ?_ | refine Chg.alloc ?_ _)


set_option maxHeartbeats 400000 in
theorem cBlanks_any (h : Sc w p s k) :
    Calls Tryd.prog 16 #[.pointer (some ⟨p, 0, none⟩)] w fun e w' => e = .returned (.string (s.extract k (k + tw blkI s k))) ∧ WPost blkI w p s k w' := by
  go_enter Tryd.func16, Tryd.ntmps16
  go_wp2_with (go_at_call 29; refine (cWhile_blank h).mono ?_; rintro e w' ⟨rfl, hp⟩)
  go_ret
  exact ⟨rfl, hp⟩

set_option maxHeartbeats 400000 in
theorem cToken_any (h : Sc w p s k) :
    Calls Tryd.prog 17 #[.pointer (some ⟨p, 0, none⟩)] w fun e w' => e = .returned (.tuple #[.string (s.extract k (k + tw tokI s k)), .bool (decide (0 < tw tokI s k))]) ∧ WPost tokI w p s k w' := by
  have hl := tw_le tokI s k h.le
  have hW := cWhile_token h
  by_cases h0 : 0 < tw tokI s k
  · have hz := empB1 (s := s.extract k (k + tw tokI s k)) (by rw [ext_size _ _ _ hl]; omega)
    rw [decide_eq_true h0]
    generalize s.extract k (k + tw tokI s k) = q at *
    clear h0 hl
    go_enter Tryd.func17, Tryd.ntmps17
    go_wp2_with (go_at_call 29; refine hW.mono ?_; rintro e w' ⟨rfl, hp⟩)
    go_ret2
    exact ⟨rfl, hp⟩
  · have hz := empB0 (s := s.extract k (k + tw tokI s k)) (by rw [ext_size _ _ _ hl]; omega)
    rw [decide_eq_false h0]
    generalize s.extract k (k + tw tokI s k) = q at *
    clear h0 hl
    go_enter Tryd.func17, Tryd.ntmps17
    go_wp2_with (go_at_call 29; refine hW.mono ?_; rintro e w' ⟨rfl, hp⟩)
    go_ret2
    exact ⟨rfl, hp⟩

set_option maxHeartbeats 400000 in
theorem cNew_any (s : ByteArray) (w : World) :
    Calls Tryd.prog 15 #[.string s] w fun e w' => e = .returned (.pointer (some ⟨w.heap.size, 0, none⟩)) ∧ w' = w.alloc (.cells #[.string s, .int .i64 0] 50) := by
  go_enter Tryd.func15, Tryd.ntmps15
  go_wp2
  go_ret
  exact ⟨rfl, rfl⟩
theorem Sc.new (w : World) (s : ByteArray) (hs : s.size ≤ 4000000000) : Sc (w.alloc (.cells #[.string s, .int .i64 0] 50)) w.heap.size s 0 := ⟨heap_alloc_new w _, Nat.zero_le _, hs⟩
end
end Go.Proofs.YthncigahodannaaDoor
