/- Lists behind commas: split, joined, split again. No program in sight. -/
import Derived.Test.YtfhodppaelfcfaaDoorBk2
set_option maxRecDepth 100000
namespace Go.Proofs.YtfhodppaelfcfaaDoor
open Go.RowKit

/-- a piece as it comes out: trimmed, not empty, one run of steps -/
structure Piece (x : ByteArray) : Prop where
  pos : 0 < x.size
  hd : bkAt x 0 = false
  tl : bkAt x (x.size - 1) = false
  run : Run x 0 x.size
theorem ext_get (s : ByteArray) (b e i : Nat) (h : b + i < e) (he : e ≤ s.size) : (s.extract b e).data.toList[i]? = s.data.toList[b + i]? := by
  rw [exL, List.getElem?_drop, List.getElem?_take_of_lt h]
theorem ext_bk {s : ByteArray} {b e i : Nat} (h : b + i < e) (he : e ≤ s.size) : bkAt (s.extract b e) i = bkAt s (b + i) := by
  unfold bkAt; rw [ext_get s b e i h he]
theorem ext_sz (s : ByteArray) (b e : Nat) (he : e ≤ s.size) : (s.extract b e).size = e - b := by rw [ByteArray.size_extract]; omega
theorem ext_ext2 (s : ByteArray) (b e p q : Nat) (hq : b + q ≤ e) : (s.extract b e).extract p q = s.extract (b + p) (b + q) := by
  apply inL
  rw [exL, exL, exL, List.take_drop, List.drop_drop, List.take_take, Nat.min_eq_left hq]
theorem run_ext {s : ByteArray} {k e : Nat} (h : Run s k e) (he : e ≤ s.size) : Run (s.extract k e) 0 (e - k) := by
  have := h.move (t := s.extract k e) (c := k) (d := 0) ⟨Nat.le_refl _, fun i h1 h2 => by
    rw [ext_get s k e _ (by omega) he]; congr 1; omega⟩
  simpa using this
theorem piece_good {s : ByteArray} {b e : Nat} (h : Run s b e) (hb : b ≤ e) (he : e ≤ s.size) (h0 : ¬ (trimC (s.extract b e) spcS).size = 0) : Piece (trimC (s.extract b e) spcS) := by
  rcases trimC_cases (s.extract b e) with h1 | ⟨p, q, hpq, hq, p1, q1, b1, b2⟩
  · exact absurd (trimC_blank h1) h0
  · rw [trimC_of hpq p1 q1 b1 b2, ]
    rw [ext_sz _ _ _ he] at hq
    rw [ext_ext2 s b e p q (by omega)]
    have r1 : Run s b (b + q) := Run.backs (e - (b + q)) (b + q) (by omega) (by omega) h (fun i h1 h2 => by
      have := q1 (i - b) (by omega)
      rwa [ext_bk (by omega) he, show b + (i - b) = i by omega] at this)
    have r2 : Run s (b + p) (b + q) := Run.fores p b (b + p) rfl (by omega) r1 (fun i h1 h2 => by
      have := p1 (i - b) (by omega)
      rwa [ext_bk (by omega) he, show b + (i - b) = i by omega] at this)
    have hsz := ext_sz s (b + p) (b + q) (by omega)
    refine ⟨by omega, ?_, ?_, ?_⟩
    · rw [ext_bk (by omega) (by omega), Nat.add_zero, ← ext_bk (s := s) (b := b) (e := e) (i := p) (by omega) he]; exact b1
    · rw [hsz, ext_bk (by omega) (by omega), show b + p + (b + q - (b + p) - 1) = b + (q - 1) by omega, ← ext_bk (s := s) (b := b) (e := e) (i := q - 1) (by omega) he]; exact b2
    · rw [hsz]; exact run_ext r2 (by omega)
theorem endW_good {s : ByteArray} {b e : Nat} {out : List ByteArray} (h : Run s b e) (he : e ≤ s.size) (ho : ∀ x ∈ out, Piece x) : ∀ x ∈ endW s b e out, Piece x := by
  unfold endW
  split
  · exact ho
  · rename_i h0
    intro x hx
    rcases List.mem_append.1 hx with hx | hx
    · exact ho x hx
    · rw [List.mem_singleton.1 hx]
      exact piece_good h h.le he h0
theorem splW_good {s : ByteArray} : ∀ (z k : Nat) (out r : List ByteArray), s.size - k = z → k ≤ s.size → splW s k k out = some r → (∀ x ∈ out, Piece x) → ∀ x ∈ r, Piece x := by
  intro z
  induction z using Nat.strongRecOn with
  | _ z ih =>
    intro k out r hz hk h ho
    obtain ⟨e, hr, he, h2 | ⟨h2, h3, h4⟩⟩ := splW_piece _ k rfl hk h
    · obtain ⟨rfl, rfl⟩ := h2
      exact endW_good hr he ho
    · have := hr.le
      exact ih (s.size - (e + 1)) (by omega) (e + 1) _ r rfl (by omega) h4 (endW_good hr he ho)
theorem splitW_good {s : ByteArray} {l : List ByteArray} (h : splitW s = some l) : ∀ x ∈ l, Piece x := splW_good _ 0 [] l rfl (by omega) h (by simp)

/-- within a greater text, behind b -/
theorem endW_move {s t : ByteArray} {b e c : Nat} {out : List ByteArray} (h : s.extract b e = t.extract (b + c) (e + c)) : endW s b e out = endW t (b + c) (e + c) out := by
  unfold endW; rw [h]
theorem app_l (a b : ByteArray) : (a ++ b).data.toList = a.data.toList ++ b.data.toList := by rw [ByteArray.data_append]; simp
theorem app_lo {a b : ByteArray} {i : Nat} (h : i < a.size) : (a ++ b).data.toList[i]? = a.data.toList[i]? := by
  rw [app_l, List.getElem?_append_left (by rw [blen]; exact h)]
theorem app_hi {a b : ByteArray} {i : Nat} : (a ++ b).data.toList[a.size + i]? = b.data.toList[i]? := by
  rw [app_l, List.getElem?_append_right (by rw [blen]; omega), blen]; congr 1; omega
theorem app_ext {a b : ByteArray} {p q : Nat} (h : q ≤ a.size) : (a ++ b).extract p q = a.extract p q := by
  apply inL
  rw [exL, exL, app_l, List.take_append_of_le_length (by rw [blen]; exact h)]
theorem runB_app {a : ByteArray} {k e : Nat} (b : ByteArray) (h : Run a k e) (he : e ≤ a.size) : Run (a ++ b) k e := by
  have := h.move (t := a ++ b) (c := 0) (d := 0) ⟨Nat.zero_le _, fun i h1 h2 => by simp only [Nat.add_zero, Nat.sub_zero]; exact app_lo (by omega)⟩
  simpa using this
/-- what is split, with a comma and more behind it -/
theorem splW_app {s : ByteArray} (t : ByteArray) (ht : atB t 0 44 = true) : ∀ (z k : Nat) (out r : List ByteArray), s.size - k = z → k ≤ s.size → splW s k k out = some r → splW (s ++ t) k k out = splW (s ++ t) (s.size + 1) (s.size + 1) r := by
  have htl := atB_iff ht
  have hsz := app_size s t
  intro z
  induction z using Nat.strongRecOn with
  | _ z ih =>
    intro k out r hz hk h
    obtain ⟨e, hr, he, h2 | ⟨h2, h3, h4⟩⟩ := splW_piece _ k rfl hk h
    · obtain ⟨rfl, rfl⟩ := h2
      have h44 : atB (s ++ t) s.size 44 = true := by
        unfold atB at ht ⊢
        have := app_hi (a := s) (b := t) (i := 0)
        rw [Nat.add_zero] at this
        rw [this]; exact ht
      rw [splW_run (runB_app t hr (Nat.le_refl _)), splW_some (by omega) (j := s.size + 1) (by unfold stepW; rw [if_pos h44]), if_pos h44]
      have : endW (s ++ t) k s.size out = endW s k s.size out := by unfold endW; rw [app_ext (Nat.le_refl _)]
      rw [this]
    · have hle := hr.le
      have h44 : atB (s ++ t) e 44 = true := by unfold atB at h3 ⊢; rw [app_lo h2]; exact h3
      rw [splW_run (runB_app t hr he), splW_some (by omega) (j := e + 1) (by unfold stepW; rw [if_pos h44]), if_pos h44]
      have : endW (s ++ t) k e out = endW s k e out := by unfold endW; rw [app_ext he]
      rw [this]
      exact ih (s.size - (e + 1)) (by omega) (e + 1) _ r rfl (by omega) h4
end Go.Proofs.YtfhodppaelfcfaaDoor
