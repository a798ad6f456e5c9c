/- Lists behind commas: appended to, the program and the document. No statement of its own. -/
import Derived.Test.YthnmbfiandpedaaGreatDoorHSa
import Derived.WalkKit
import Derived.WalkSpells
import Derived.WalkLawsBesides
import Derived.Deep.QuietTactic
import Derived.BigQuiet
import Derived.Deep.AppendSrc
import Derived.Deep.Upon
import Derived.Deep.RegionLaw
import Derived.Lib.Hide
import Derived.Laws.IdiomStrings
set_option linter.unusedSimpArgs false
set_option linter.unusedVariables false
set_option maxRecDepth 100000
namespace Go.Proofs.YthnmbfiandpedaaGreatDoor
open Go.RowKit
theorem minI_at (n m : Nat) : (if (m : Int) < (n : Int) then (m : Int) else (n : Int)) = ((if m < n then m else n : Nat) : Int) := by
  split <;> split <;> omega

/-- t reads at i + d - c as s at i, from k up to e -/
structure Smw (s t : ByteArray) (c d k e : Nat) : Prop where
  ge : c ≤ k
  eq : ∀ i, k ≤ i → i < e → t.data.toList[i + d - c]? = s.data.toList[i]?
theorem Smw.at {s t : ByteArray} {c d k e i : Nat} (h : Smw s t c d k e) (h1 : k ≤ i) (h2 : i < e) (b : Int) : atB t (i + d - c) b = atB s i b := by
  unfold atB; rw [h.eq i h1 h2]
theorem Smw.lt {s t : ByteArray} {c d k e i : Nat} (h : Smw s t c d k e) (h1 : k ≤ i) (h2 : i < e) (h3 : i < s.size) : i + d - c < t.size := by
  have := h.eq i h1 h2
  rw [at_lt h3] at this
  have := (List.getElem?_eq_some_iff.1 this).1
  rwa [blen] at this
theorem Smw.from {s t : ByteArray} {c d k e k' : Nat} (h : Smw s t c d k e) (hk : k ≤ k') : Smw s t c d k' e := ⟨by have := h.ge; omega, fun i h1 h2 => h.eq i (by omega) h2⟩
theorem Smw.upto {s t : ByteArray} {c d k e e' : Nat} (h : Smw s t c d k e) (he : e' ≤ e) : Smw s t c d k e' := ⟨h.ge, fun i h1 h2 => h.eq i h1 (by omega)⟩

theorem cmtW_move {s t : ByteArray} {c d j : Nat} : ∀ (z k n : Nat), s.size - k ≤ z → k ≤ s.size → cmtW s k n = some j → Smw s t c d k j → cmtW t (k + d - c) n = some (j + d - c) := by
  intro z
  induction z with
  | zero =>
    intro k n hz hk h hs
    unfold cmtW at h
    split at h
    · rename_i hn; cases h; unfold cmtW; rw [if_pos hn]
    · rw [dif_neg (by omega)] at h; cases h
  | succ z ih =>
    intro k n hz hk h hs
    have hge := hs.ge
    have hle := cmtW_le s _ k n j (Nat.le_refl _) hk h
    have e1 : k + d - c + 1 = k + 1 + d - c := by omega
    have e2 : k + d - c + 2 = k + 2 + d - c := by omega
    unfold cmtW at h
    split at h
    · rename_i hn; cases h; unfold cmtW; rw [if_pos hn]
    · rename_i hn
      split at h
      · rename_i hlt
        have hkj : k < j := by
          split at h
          · have := cmtW_le s _ _ _ _ (Nat.le_refl _) (by omega) h; omega
          · split at h
            · have := cmtW_le s _ _ _ _ (Nat.le_refl _) (by omega) h; omega
            · split at h
              · by_cases h1 : k + 1 < s.size
                · rw [if_pos h1] at h; have := cmtW_le s _ _ _ _ (Nat.le_refl _) (by omega) h; omega
                · rw [if_neg h1] at h; have := cmtW_le s _ _ _ _ (Nat.le_refl _) (by omega) h; omega
              · have := cmtW_le s _ _ _ _ (Nat.le_refl _) (by omega) h; omega
        unfold cmtW
        rw [if_neg hn, dif_pos (hs.lt (Nat.le_refl _) hkj hlt), hs.at (Nat.le_refl _) hkj, hs.at (Nat.le_refl _) hkj, hs.at (Nat.le_refl _) hkj]
        split at h
        · rename_i q; rw [if_pos q, e1]; exact ih (k + 1) _ (by omega) (by omega) h (hs.from (by omega))
        · rename_i q; rw [if_neg q]
          split at h
          · rename_i q; rw [if_pos q, e1]; exact ih (k + 1) _ (by omega) (by omega) h (hs.from (by omega))
          · rename_i q; rw [if_neg q]
            split at h
            · rename_i q; rw [if_pos q]
              by_cases h1 : k + 1 < s.size
              · rw [if_pos h1] at h
                have := cmtW_le s _ _ _ _ (Nat.le_refl _) (by omega) h
                have hl := hs.lt (i := k + 1) (by omega) (by omega) h1
                rw [if_pos (by omega), e2]
                exact ih (k + 2) _ (by omega) (by omega) h (hs.from (by omega))
              · rw [if_neg h1] at h
                unfold cmtW at h
                rw [if_neg hn, dif_neg (by omega)] at h
                cases h
            · rename_i q; rw [if_neg q, e1]; exact ih (k + 1) _ (by omega) (by omega) h (hs.from (by omega))
      · cases h
theorem nxt_move {s t : ByteArray} {c d k j : Nat} {b : UInt8} (h : nxt s k = some (b, j)) (hs : Smw s t c d k j) : nxt t (k + d - c) = some (b, j + d - c) := by
  have hge := hs.ge
  have hl := nxt_lt h
  have e92 := hs.at (Nat.le_refl _) hl.1 92
  unfold nxt at h ⊢
  rw [e92]
  have e : (if atB s k 92 = true then k + d - c + 1 else k + d - c) = (if atB s k 92 = true then k + 1 else k) + d - c := by split <;> omega
  rw [e]
  have hk : k ≤ (if atB s k 92 = true then k + 1 else k) := by split <;> omega
  generalize (if atB s k 92 = true then k + 1 else k) = i at *
  have hij : j = i + 1 := by
    split at h
    · split at h
      · cases h; rfl
      · cases h
    · cases h
  rw [hs.eq i hk (by omega)]
  split at h
  · rename_i x hc
    split at h
    · rename_i hv
      rw [if_pos hv]
      cases h
      rw [show i + d - c + 1 = i + 1 + d - c by omega]
    · cases h
  · cases h
theorem frontW_move {s t : ByteArray} {c d j : Nat} {v : List UInt8} : ∀ (z k : Nat) (acc : List UInt8), s.size - k = z → frontW s k acc = some (v, j) → Smw s t c d k j → frontW t (k + d - c) acc = some (v, j + d - c) := by
  intro z
  induction z using Nat.strongRecOn with
  | _ z ih =>
    intro k acc hz h hs
    have hge := hs.ge
    have hle := frontW_le _ _ _ _ _ rfl h
    have e := hs.at (Nat.le_refl _) hle.1 34
    cases hq : atB s k 34
    · rw [hq] at e
      cases hn : nxt s k with
      | none => rw [frontW_none acc hq hn] at h; cases h
      | some bi =>
        obtain ⟨b, i⟩ := bi
        rw [frontW_some acc hq hn] at h
        have hl := nxt_lt hn
        have hle2 := frontW_le _ _ _ _ _ rfl h
        rw [frontW_some acc e (nxt_move hn (hs.upto (by omega)))]
        exact ih (s.size - i) (by omega) i _ rfl h (hs.from (by omega))
    · rw [hq] at e
      rw [frontW_end acc hq] at h
      cases h
      rw [frontW_end _ e, show k + d - c + 1 = k + 1 + d - c by omega]
theorem stepW_move {s t : ByteArray} {c d k j : Nat} (hk : k < s.size) (h : stepW s k = some j) (hs : Smw s t c d k j) : stepW t (k + d - c) = some (j + d - c) := by
  have hge := hs.ge
  have hl := stepW_lt hk h
  have e1 : k + d - c + 1 = k + 1 + d - c := by omega
  unfold stepW at h ⊢
  rw [hs.at (Nat.le_refl _) hl.1, hs.at (Nat.le_refl _) hl.1, hs.at (Nat.le_refl _) hl.1, e1]
  split at h
  · rename_i q; rw [if_pos q]; cases h; rfl
  · rename_i q; rw [if_neg q]
    split at h
    · rename_i q; rw [if_pos q]
      exact cmtW_move _ (k + 1) 1 (Nat.le_refl _) (by omega) h (hs.from (by omega))
    · rename_i q; rw [if_neg q]
      split at h
      · rename_i q; rw [if_pos q]
        unfold frontS at h ⊢
        rw [if_pos q] at h
        rw [hs.at (Nat.le_refl _) hl.1, if_pos q, e1]
        cases hf : frontW s (k + 1) [] with
        | none => rw [hf] at h; cases h
        | some x =>
          obtain ⟨v, i⟩ := x
          rw [hf] at h
          cases h
          rw [frontW_move (c := c) (d := d) _ (k + 1) [] rfl hf (hs.from (by omega))]
          rfl
      · rename_i q; rw [if_neg q]; cases h; rfl

/-- steps that are no commas -/
inductive Run (s : ByteArray) : Nat → Nat → Prop
  | nil (k : Nat) : Run s k k
  | step {k i e : Nat} (hk : k < s.size) (hc : atB s k 44 = false) (h : stepW s k = some i) (r : Run s i e) : Run s k e
theorem Run.le {s : ByteArray} {k e : Nat} (h : Run s k e) : k ≤ e := by
  induction h with
  | nil k => exact Nat.le_refl _
  | step hk hc h r ih => have := stepW_lt hk h; omega
theorem Run.size {s : ByteArray} {k e : Nat} (h : Run s k e) (hk : k ≤ s.size) : e ≤ s.size := by
  induction h with
  | nil k => exact hk
  | step hk1 hc h r ih => exact ih (stepW_lt hk1 h).2
theorem Run.move {s t : ByteArray} {c d k e : Nat} (h : Run s k e) (hs : Smw s t c d k e) : Run t (k + d - c) (e + d - c) := by
  induction h with
  | nil k => exact .nil _
  | step hk hc h r ih =>
    have hl := stepW_lt hk h
    have hr := r.le
    exact .step (hs.lt (Nat.le_refl _) (by omega) hk) (by rw [hs.at (Nat.le_refl _) (by omega)]; exact hc) (stepW_move hk h (hs.upto hr)) (ih (hs.from (by omega)))
theorem Run.trans {s : ByteArray} {a b c : Nat} (h : Run s a b) (g : Run s b c) : Run s a c := by
  induction h with
  | nil k => exact g
  | step hk hc h r ih => exact .step hk hc h (ih g)
/-- where the next piece ends -/
theorem splW_piece {s : ByteArray} {b : Nat} {out r : List ByteArray} : ∀ (z k : Nat), s.size - k = z → k ≤ s.size → splW s k b out = some r →
    ∃ e, Run s k e ∧ e ≤ s.size ∧ ((e = s.size ∧ r = endW s b s.size out) ∨ (e < s.size ∧ atB s e 44 = true ∧ splW s (e + 1) (e + 1) (endW s b e out) = some r)) := by
  intro z
  induction z using Nat.strongRecOn with
  | _ z ih =>
    intro k hz hk h
    by_cases hlt : k < s.size
    · cases hst : stepW s k with
      | none => rw [splW_none hlt hst] at h; cases h
      | some i =>
        have hl := stepW_lt hlt hst
        rw [splW_some hlt hst] at h
        cases h44 : atB s k 44
        · rw [h44, if_neg (by decide)] at h
          obtain ⟨e, h1, h2⟩ := ih (s.size - i) (by omega) i rfl hl.2 h
          exact ⟨e, .step hlt h44 hst h1, h2⟩
        · rw [h44, if_pos rfl] at h
          have : i = k + 1 := by unfold stepW at hst; rw [h44, if_pos rfl] at hst; cases hst; rfl
          subst this
          exact ⟨k, .nil k, hk, .inr ⟨hlt, h44, h⟩⟩
    · rw [splW_end hlt] at h
      cases h
      exact ⟨k, .nil k, hk, .inl ⟨by omega, rfl⟩⟩

/-- blank, or beyond the end -/
def bkAt (s : ByteArray) (i : Nat) : Bool := (s.data.toList[i]?).all fun b => blkI (b.toNat : Int)
theorem bkAt_lt {s : ByteArray} {i : Nat} (h : i < s.size) : bkAt s i = blkI (s[i].toNat : Int) := by
  unfold bkAt; rw [at_lt h]; rfl
theorem bk_of_at {s : ByteArray} {i : Nat} {b : Int} (h : atB s i b = true) (hb : blkI b = false) : bkAt s i = false := by
  have hl := atB_iff h
  rw [atB_lt hl] at h
  rw [bkAt_lt hl, beq_iff_eq.1 h, hb]
theorem at_of_bk {s : ByteArray} {i : Nat} {b : Int} (h : bkAt s i = true) (hb : blkI b = false) : atB s i b = false := by
  cases e : atB s i b with
  | false => rfl
  | true => rw [bk_of_at e hb] at h; cases h

theorem cmtW_last {s : ByteArray} {j : Nat} : ∀ (z k n : Nat), s.size - k ≤ z → n ≠ 0 → k ≤ s.size → cmtW s k n = some j → k < j ∧ atB s (j - 1) 41 = true := by
  intro z
  induction z with
  | zero =>
    intro k n hz hn hk h
    unfold cmtW at h
    rw [if_neg hn, dif_neg (by omega)] at h
    cases h
  | succ z ih =>
    intro k n hz hn hk h
    unfold cmtW at h
    rw [if_neg hn] at h
    split at h
    · split at h
      · have := ih (k + 1) _ (by omega) (by omega) (by omega) h; exact ⟨by omega, this.2⟩
      · split at h
        · rename_i q
          by_cases h0 : n - 1 = 0
          · rw [h0] at h
            unfold cmtW at h
            rw [if_pos rfl] at h
            cases h
            exact ⟨by omega, q⟩
          · have := ih (k + 1) _ (by omega) h0 (by omega) h; exact ⟨by omega, this.2⟩
        · split at h
          · by_cases h1 : k + 1 < s.size
            · rw [if_pos h1] at h
              have := ih (k + 2) _ (by omega) hn (by omega) h; exact ⟨by omega, this.2⟩
            · rw [if_neg h1] at h
              have := ih (k + 1) _ (by omega) hn (by omega) h; exact ⟨by omega, this.2⟩
          · have := ih (k + 1) _ (by omega) hn (by omega) h; exact ⟨by omega, this.2⟩
    · cases h
theorem frontW_last {s : ByteArray} {j : Nat} {v : List UInt8} : ∀ (z k : Nat) (acc : List UInt8), s.size - k = z → frontW s k acc = some (v, j) → k < j ∧ atB s (j - 1) 34 = true := by
  intro z
  induction z using Nat.strongRecOn with
  | _ z ih =>
    intro k acc hz h
    have hle := frontW_le _ _ _ _ _ rfl h
    cases hq : atB s k 34
    · cases hn : nxt s k with
      | none => rw [frontW_none acc hq hn] at h; cases h
      | some bi =>
        obtain ⟨b, i⟩ := bi
        rw [frontW_some acc hq hn] at h
        have hl := nxt_lt hn
        exact ⟨hle.1, (ih (s.size - i) (by omega) i _ rfl h).2⟩
    · rw [frontW_end acc hq] at h
      cases h
      exact ⟨hle.1, hq⟩
theorem stepW_last {s : ByteArray} {k j : Nat} (hk : k < s.size) (h : stepW s k = some j) : j = k + 1 ∨ bkAt s (j - 1) = false := by
  unfold stepW at h
  split at h
  · cases h; exact .inl rfl
  · split at h
    · exact .inr (bk_of_at (cmtW_last _ (k + 1) 1 (Nat.le_refl _) (by decide) (by omega) h).2 (by decide))
    · split at h
      · rename_i q
        unfold frontS at h
        rw [if_pos q] at h
        cases hf : frontW s (k + 1) [] with
        | none => rw [hf] at h; cases h
        | some x =>
          obtain ⟨v, i⟩ := x
          rw [hf] at h
          cases h
          exact .inr (bk_of_at (frontW_last _ _ _ rfl hf).2 (by decide))
      · cases h; exact .inl rfl
theorem stepW_blank {s : ByteArray} {k : Nat} (h : bkAt s k = true) : stepW s k = some (k + 1) := by
  unfold stepW
  rw [at_of_bk h (by decide), at_of_bk h (by decide), at_of_bk h (by decide)]
  rfl
theorem Run.back {s : ByteArray} {k e : Nat} (h : Run s k e) (hk : k < e) (hb : bkAt s (e - 1) = true) : Run s k (e - 1) := by
  induction h with
  | nil k => omega
  | @step k i e hk' hc h r ih =>
    have hl := stepW_lt hk' h
    by_cases hie : i < e
    · exact .step hk' hc h (ih hie hb)
    · have := r.le
      obtain rfl : i = e := by omega
      rcases stepW_last hk' h with rfl | h2
      · exact .nil k
      · rw [hb] at h2; cases h2
/-- a piece as it comes out: trimmed, not empty, one run of steps -/
structure Piece (x : ByteArray) : Prop where
  pos : 0 < x.size
  hd : bkAt x 0 = false
  tl : bkAt x (x.size - 1) = false
  run : Run x 0 x.size
theorem ext_sz (s : ByteArray) (b e : Nat) (he : e ≤ s.size) : (s.extract b e).size = e - b := by rw [ByteArray.size_extract]; omega
theorem Run.blanks {s : ByteArray} : ∀ (m k : Nat), (∀ i, k ≤ i → i < k + m → bkAt s i = true) → k + m ≤ s.size → Run s k (k + m)
  | 0, k, _, _ => .nil k
  | m + 1, k, h, hs => by
    have r := Run.blanks m (k + 1) (fun i h1 h2 => h i (by omega) (by omega)) (by omega)
    rw [show k + 1 + m = k + (m + 1) by omega] at r
    have hb := h k (Nat.le_refl _) (by omega)
    exact .step (by omega) (at_of_bk hb (by decide)) (stepW_blank hb) r
theorem trimC_size (s : ByteArray) : (trimC s spcS).size ≤ s.size := by
  have e : (trimC s spcS).size = (Lib.trimS s.data.toList [32, 9]).length := by unfold trimC; show (Array.size _) = _; rw [List.size_toArray]; rfl
  rw [e, ← blen]
  unfold Lib.trimS Lib.trimLeftS Lib.trimRightS
  refine Nat.le_trans (List.dropWhile_sublist _).length_le ?_
  rw [List.length_reverse]
  refine Nat.le_trans (List.dropWhile_sublist _).length_le ?_
  rw [List.length_reverse]
  exact Nat.le_refl _
theorem endW_size {s : ByteArray} {b e : Nat} {out : List ByteArray} (he : e ≤ s.size) : ∀ x ∈ endW s b e out, x ∈ out ∨ x.size ≤ s.size := by
  intro x hx
  unfold endW at hx
  split at hx
  · exact .inl hx
  · rcases List.mem_append.1 hx with h | h
    · exact .inl h
    · rw [List.mem_singleton.1 h]
      have := trimC_size (s.extract b e)
      rw [ext_sz _ _ _ he] at this
      exact .inr (by omega)
theorem splW_bound {s : ByteArray} : ∀ (z k : Nat) (out r : List ByteArray), s.size - k = z → k ≤ s.size → splW s k k out = some r → r.length ≤ out.length + z + 1 ∧ ∀ x ∈ r, x ∈ out ∨ x.size ≤ s.size := by
  intro z
  induction z using Nat.strongRecOn with
  | _ z ih =>
    intro k out r hz hk h
    obtain ⟨e, hr, he, h2 | ⟨h2, h3, h4⟩⟩ := splW_piece _ k rfl hk h
    · obtain ⟨rfl, rfl⟩ := h2
      have := endW_len s k s.size out
      exact ⟨by omega, endW_size he⟩
    · have h5 := endW_len s k e out
      have := hr.le
      obtain ⟨i1, i2⟩ := ih (s.size - (e + 1)) (by omega) (e + 1) _ r rfl (by omega) h4
      refine ⟨by omega, fun x hx => ?_⟩
      rcases i2 x hx with h6 | h6
      · exact endW_size he x h6
      · exact .inr h6
end Go.Proofs.YthnmbfiandpedaaGreatDoor
/- Helpers over the kit alone: slices that are read or owned, what a call may change, append to an owned slice. No statement of its own. -/
set_option linter.unusedSimpArgs false
set_option linter.unusedVariables false
namespace Go.Proofs.YthnmbfiandpedaaGreatDoor
open Go.RowKit

/-- The slice value v holds n elements of 'size' cells, the cells xs: to be read. -/
structure Has (w : World) (size : Nat) (v : Value) (n : Nat) (xs : List Value) : Prop where
  len : xs.length = n * size
  is : (n = 0 ∧ ∃ a c, v = .slice a 0 c ∧ c ≤ maxLen) ∨ ∃ g o cap, v = .slice (some ⟨g, o, none⟩) n cap ∧ n ≤ cap ∧ cap ≤ maxLen ∧ ∀ j, j < n * size → w.cell? ⟨g, o + j, none⟩ = xs[j]?

/-- .. and it is the call's own: from block base on, all its capacity may be written. -/
structure Own (w : World) (base : Nat) (size : Nat) (v : Value) (n : Nat) (xs : List Value) : Prop where
  len : xs.length = n * size
  is : (v = .slice none 0 0 ∧ n = 0) ∨ ∃ g o cap, v = .slice (some ⟨g, o, none⟩) n cap ∧ base ≤ g ∧ g < w.heap.size ∧ n ≤ cap ∧ cap ≤ maxLen ∧ (∀ j, j < n * size → w.cell? ⟨g, o + j, none⟩ = xs[j]?) ∧
    ∀ j, j < cap * size → (w.cell? ⟨g, o + j, none⟩).isSome = true ∧ w.frozen? ⟨g, o + j, none⟩ = false

/-- What may have turned: blocks of S, and new ones. -/
structure Chg (w w' : World) (S : Nat → Prop) : Prop where
  os : w'.os = w.os
  tape : w'.tape = w.tape
  output : w'.output = w.output
  size : w.heap.size ≤ w'.heap.size
  block : ∀ k, k < w.heap.size → ¬ S k → w'.heap[k]? = w.heap[k]?

section
variable {w w' w'' : World} {S : Nat → Prop}

theorem Chg.refl (w : World) (S : Nat → Prop) : Chg w w S := ⟨rfl, rfl, rfl, Nat.le_refl _, fun _ _ _ => rfl⟩
theorem Chg.trans (h : Chg w w' S) (k : Chg w' w'' S) : Chg w w'' S :=
  ⟨k.os.trans h.os, k.tape.trans h.tape, k.output.trans h.output, Nat.le_trans h.size k.size, fun i hi hs => (k.block i (Nat.lt_of_lt_of_le hi h.size) hs).trans (h.block i hi hs)⟩
theorem Chg.mono {T : Nat → Prop} (h : Chg w w' S) (hs : ∀ k, k < w.heap.size → S k → T k) : Chg w w' T := ⟨h.os, h.tape, h.output, h.size, fun i hi ht => h.block i hi (fun s => ht (hs i hi s))⟩
theorem Chg.alloc (h : Chg w w' S) (o : Obj) : Chg w (w'.alloc o) S :=
  ⟨h.os, h.tape, h.output, by have := h.size; simp; omega, fun i hi hs => (Below.heap_alloc _ _ _ (Nat.lt_of_lt_of_le hi h.size)).trans (h.block i hi hs)⟩
theorem Chg.setCell (h : Chg w w' S) {a : Addr} (ha : w.heap.size ≤ a.block ∨ S a.block) (u : Value) : Chg w (w'.setCell a u) S :=
  ⟨h.os, h.tape, h.output, by have := h.size; simp [World.setCell]; omega, fun i hi hs => (Below.heap_setCell _ _ _ _ (fun e => by subst e; rcases ha with ha | ha; exact absurd hi (by omega); exact hs ha)).trans (h.block i hi hs)⟩
theorem Chg.next {T : Nat → Prop} (h : Chg w w' T) (k : Chg w' w'' S) (hs : ∀ i, i < w.heap.size → S i → T i) : Chg w w'' T :=
  ⟨k.os.trans h.os, k.tape.trans h.tape, k.output.trans h.output, Nat.le_trans h.size k.size, fun i hi ht => (k.block i (Nat.lt_of_lt_of_le hi h.size) (fun s => ht (hs i hi s))).trans (h.block i hi ht)⟩
theorem Chg.set (w : World) (b o : Nat) (u : Value) : Chg w (w.setCell ⟨b, o, none⟩ u) (fun k => k = b) := Chg.setCell (a := ⟨b, o, none⟩) (S := fun k => k = b) (Chg.refl w _) (.inr rfl) u
theorem Chg.drewN (h : Chg w w' S) (n : Nat) : Chg w (w'.drewN n) S := ⟨h.os, h.tape, h.output, h.size, h.block⟩
theorem Chg.drew (h : Chg w w' S) : Chg w w'.drew S := ⟨h.os, h.tape, h.output, h.size, h.block⟩
theorem Chg.grown {row : Option Nat} (h : w.grownBy w' row) : Chg w w' (fun k => row = some k) := ⟨h.os, h.tape, h.output, h.size, fun i hi hs => h.block i hi (fun e => hs e.symm)⟩
theorem Chg.below {B : Nat} (h : Chg w w' S) (hB : B ≤ w.heap.size) (hs : ∀ k, k < B → ¬ S k) : Below B w w' := ⟨h.os, h.tape, h.output, h.size, fun i hi => h.block i (by omega) (hs i hi)⟩
theorem Chg.cell (h : Chg w w' S) {a : Addr} {v : Value} (hc : w.cell? a = some v) (hs : ¬ S a.block) : w'.cell? a = some v :=
  (World.cell?_of_block (h.block a.block (World.block_lt_of_cell? w a hc) hs)).trans hc
theorem Chg.cellq (h : Chg w w' S) {a : Addr} (hc : a.block < w.heap.size) (hs : ¬ S a.block) : w'.cell? a = w.cell? a := World.cell?_of_block (h.block a.block hc hs)
theorem Chg.frozenq (h : Chg w w' S) {a : Addr} (hc : a.block < w.heap.size) (hs : ¬ S a.block) : w'.frozen? a = w.frozen? a := World.frozen?_of_block (h.block a.block hc hs)

theorem Has.chg {size : Nat} {v : Value} {n : Nat} {xs : List Value} (h : Has w size v n xs) (c : Chg w w' S) (hs : ∀ g, v.ownBlock = some g → ¬ S g) : Has w' size v n xs := by
  refine ⟨h.len, ?_⟩
  rcases h.is with h0 | ⟨g, o, cap, rfl, h1, h2, h3⟩
  · exact .inl h0
  · refine .inr ⟨g, o, cap, rfl, h1, h2, fun j hj => ?_⟩
    have hl : j < xs.length := by rw [h.len]; exact hj
    have e := h3 j hj
    rw [List.getElem?_eq_getElem hl] at e ⊢
    exact c.cell e (hs g rfl)

theorem Own.chg {base size : Nat} {v : Value} {n : Nat} {xs : List Value} (h : Own w base size v n xs) (c : Chg w w' S) (hs : ∀ g, v.ownBlock = some g → ¬ S g) : Own w' base size v n xs := by
  refine ⟨h.len, ?_⟩
  rcases h.is with h0 | ⟨g, o, cap, rfl, hb, hg, h1, h2, h3, h4⟩
  · exact .inl h0
  · have hn := hs g rfl
    refine .inr ⟨g, o, cap, rfl, hb, Nat.lt_of_lt_of_le hg c.size, h1, h2, fun j hj => ?_, fun j hj => ?_⟩
    · rw [c.cellq (a := ⟨g, o + j, none⟩) hg hn]; exact h3 j hj
    · rw [c.cellq (a := ⟨g, o + j, none⟩) hg hn, c.frozenq (a := ⟨g, o + j, none⟩) hg hn]; exact h4 j hj

theorem Own.has {base size : Nat} {v : Value} {n : Nat} {xs : List Value} (h : Own w base size v n xs) : Has w size v n xs := by
  refine ⟨h.len, ?_⟩
  rcases h.is with ⟨rfl, rfl⟩ | ⟨g, o, cap, hv, _, _, h1, h2, h3, _⟩
  · exact .inl ⟨rfl, _, _, rfl, Nat.zero_le _⟩
  · exact .inr ⟨g, o, cap, hv, h1, h2, h3⟩

theorem Own.mono {base base' size : Nat} {v : Value} {n : Nat} {xs : List Value} (h : Own w base size v n xs) (hb : base' ≤ base) : Own w base' size v n xs := by
  refine ⟨h.len, ?_⟩
  rcases h.is with h0 | ⟨g, o, cap, hv, h1, h2⟩
  · exact .inl h0
  · exact .inr ⟨g, o, cap, hv, Nat.le_trans hb h1, h2⟩

theorem Own.lt {base size : Nat} {v : Value} {n : Nat} {xs : List Value} (h : Own w base size v n xs) : ∀ g, v.ownBlock = some g → base ≤ g ∧ g < w.heap.size := by
  intro k hk
  rcases h.is with ⟨rfl, _⟩ | ⟨g, o, cap, rfl, h1, h2, _⟩
  · simp [Value.ownBlock] at hk
  · simp [Value.ownBlock] at hk; subst hk; exact ⟨h1, h2⟩

theorem Own.nil (w : World) (base size : Nat) : Own w base size (.slice none 0 0) 0 [] := ⟨by simp, .inl ⟨rfl, rfl⟩⟩

theorem Has.slice {size : Nat} {v : Value} {n : Nat} {xs : List Value} (h : Has w size v n xs) : ∃ a c, v = .slice a n c ∧ n ≤ c ∧ c ≤ maxLen := by
  rcases h.is with ⟨rfl, a, c, rfl, hc⟩ | ⟨g, o, cap, rfl, h1, h2, _⟩
  · exact ⟨_, _, rfl, Nat.zero_le _, hc⟩
  · exact ⟨_, _, rfl, h1, h2⟩

theorem Has.src {P : Program} {tx e' : TypeId} {size : Nat} {v : Value} {n : Nat} {xs : List Value} (h : Has w size v n xs) (hk : P.underlying tx = some (.slice e')) (h1 : ∀ u ∈ xs, u.oneCell' = true) : Src P size tx v n xs w := by
  rcases h.is with ⟨rfl, a, c, rfl, _⟩ | ⟨g, o, cap, rfl, _, _, h3⟩
  · have : xs = [] := List.eq_nil_of_length_eq_zero (by simpa using h.len)
    subst this
    cases a with
    | none => exact Src.ofNil w hk c
    | some a => exact Src.ofSlice w hk a 0 c [] (by simp) (fun j u hu => by simp at hu) h1
  · refine Src.ofSlice w hk _ _ _ xs h.len (fun j u hu => ?_) h1
    have hj : j < n * size := by rw [← h.len]; exact (List.getElem?_eq_some_iff.1 hu).1
    rw [Addr.add_lit, h3 j hj, hu]

theorem Has.nil (w : World) (size : Nat) : Has w size (.slice none 0 0) 0 [] := ⟨by simp, .inl ⟨rfl, _, _, rfl, Nat.zero_le _⟩⟩

/-- a block known whole holds a row of its own -/
theorem Own.block {base : Nat} {cs : Array Value} {t : TypeId} {g size n : Nat} (hg : w.heap[g]? = some (.cells cs t (0, 0))) (hb : base ≤ g) (hs : cs.size = n * size) (hn : n ≤ maxLen) :
    Own w base size (.slice (some ⟨g, 0, none⟩) n n) n cs.toList := by
  refine ⟨by simpa using hs, .inr ⟨g, 0, n, rfl, hb, (Array.getElem?_eq_some_iff.1 hg).1, Nat.le_refl _, hn, fun j hj => ?_, fun j hj => ?_⟩⟩
  · rw [Nat.zero_add, cell_of_row w g j cs t (0, 0) hg]; simp
  · rw [Nat.zero_add, cell_of_row w g j cs t (0, 0) hg]
    refine ⟨by simp; omega, ?_⟩
    simp [World.frozen?, hg]
theorem Own.new {base : Nat} {cs : Array Value} {t : TypeId} {size n : Nat} (hb : base ≤ w.heap.size) (hs : cs.size = n * size) (hn : n ≤ maxLen) :
    Own (w.alloc (.cells cs t)) base size (.slice (some ⟨w.heap.size, 0, none⟩) n n) n cs.toList := Own.block (heap_alloc_new w _) hb hs hn
end

theorem quiet_add_left {P : Program} {f : FuncId} {args : Array Value} {w : World} {a n : Nat} {v : Value}
    (h : Calls P f args (w.drewN (a + n)) fun e w' => e = .returned v ∧ w.drewN (a + n) = w') :
    Calls P f args (w.drewN (a + n)) fun e w'' => e = .returned v ∧ ∃ m, w'' = w.drewN (a + m) :=
  h.mono fun _ _ ⟨he, hm⟩ => ⟨he, n, hm.symm⟩
section
variable {P : Program} (w : World)

end
end Go.Proofs.YthnmbfiandpedaaGreatDoor
/- octet.Fold, by the kit's walk (it writes its own row), as a contract over abstract values. No statement of its own. -/
set_option linter.unusedSimpArgs false
set_option linter.unusedVariables false
set_option maxRecDepth 100000
namespace Go.Proofs.YthnmbfiandpedaaGreatDoor
open Go.RowKit
theorem lower_any (n : Int) (w : World) (h0 : 0 ≤ n) (h1 : n ≤ 255) :
    Calls Tryz.prog 200 #[.int .u8 n] w fun e w' => e = .returned (.int .u8 (lowI n)) ∧ w = w' := by
  by_cases h : 65 ≤ n
  · by_cases h2 : n ≤ 90
    · have hw : IntKind.u8.wrap (n + 32) = n + 32 := by simp [IntKind.wrap, IntKind.bits, IntKind.signed]; omega
      go_enter Tryz.func200, Tryz.ntmps200
      go_wp2
      go_ret
      exact ⟨by simp [lowI, h, h2], rfl⟩
    · go_enter Tryz.func200, Tryz.ntmps200
      go_wp2
      go_ret
      exact ⟨by simp [lowI]; try omega, rfl⟩
  · go_enter Tryz.func200, Tryz.ntmps200
    go_wp2
    go_ret
    exact ⟨by simp [lowI]; try omega, rfl⟩
/-- the row g holds the bytes l, and may be written. -/
structure BRow (w : World) (g : Nat) (l : List UInt8) : Prop where
  lt : g < w.heap.size
  cell : ∀ j (hj : j < l.length), w.cell? ⟨g, j, none⟩ = some (.int .u8 (l[j].toNat : Int))
  fr : ∀ j, j < l.length → w.frozen? ⟨g, j, none⟩ = false

theorem BRow.new (w : World) (t : TypeId) (s : ByteArray) (c : Nat) : BRow (w.alloc (.cells (bytesRow s c) t ((bytesRow s c).size, (bytesRow s c).size + 1))) w.heap.size s.data.toList := by
  have hb : (w.alloc (.cells (bytesRow s c) t ((bytesRow s c).size, (bytesRow s c).size + 1))).heap[w.heap.size]? = some (.cells (bytesRow s c) t ((bytesRow s c).size, (bytesRow s c).size + 1)) := heap_alloc_new w _
  have hz : s.size ≤ (bytesRow s c).size := by
    unfold bytesRow
    rw [Array.size_append, Array.size_map]
    show s.data.size ≤ _
    omega
  refine ⟨by simp, fun j hj => ?_, fun j hj => ?_⟩
  · rw [cell_of_row _ _ j _ _ _ hb]
    unfold bytesRow
    rw [Array.getElem?_append_left (by rw [Array.size_map]; rw [blen] at hj; exact hj), Array.getElem?_map]
    have hj' : j < s.data.size := by rw [Array.length_toList] at hj; exact hj
    rw [Array.getElem?_eq_getElem hj']
    rfl
  · rw [blen] at hj
    simp only [World.frozen?, hb]
    simp
    omega
theorem BRow.chg {w w' : World} {S : Nat → Prop} {g : Nat} {l : List UInt8} (h : BRow w g l) (c : Chg w w' S) (hs : ¬ S g) : BRow w' g l :=
  ⟨Nat.lt_of_lt_of_le h.lt c.size, fun j hj => (c.cellq (a := ⟨g, j, none⟩) h.lt hs).trans (h.cell j hj), fun j hj => (c.frozenq (a := ⟨g, j, none⟩) h.lt hs).trans (h.fr j hj)⟩
theorem BRow.put {w : World} {g : Nat} {l : List UInt8} (h : BRow w g l) {k : Nat} (hk : k < l.length) (b : UInt8) : BRow (w.setCell ⟨g, k, none⟩ (.int .u8 (b.toNat : Int))) g (l.set k b) := by
  refine ⟨by have := h.lt; simp [World.setCell]; omega, fun j hj => ?_, fun j hj => ?_⟩
  · rw [List.length_set] at hj
    by_cases e : k = j
    · subst e
      rw [World.cell?_setCell_same _ _ _ (by rw [h.cell k hk])]
      simp
    · rw [World.cell?_setCell_other _ _ _ _ (by simp)]
      rw [h.cell j hj]
      simp [e]
  · rw [List.length_set] at hj
    rw [World.frozen?_setCell]
    exact h.fr j hj
theorem BRow.back {P : Program} {w : World} {g : Nat} {l : List UInt8} (h : BRow w g l) (src dst e : TypeId) (c n : Nat) (hn : l.length = n) (hs : P.underlying src = some (.slice e)) (he : P.underlying e = some (.int .u8)) (hd : P.underlying dst = some .string) :
    (convert src dst (.slice (some ⟨g, 0, none⟩) n c)).run P w = .ok (.string ⟨l.toArray⟩) w := by
  subst hn
  exact run_convert_bytes_back w src dst e ⟨g, 0, none⟩ c l hs he hd (fun j hj => by rw [Addr.add_lit, Nat.zero_add]; exact h.cell j hj)

set_option maxHeartbeats 400000 in
theorem fold_any (s : ByteArray) (hs : s.size ≤ maxLen) (w : World) :
    Calls Tryz.prog 204 #[.string s] w fun e w' => e = .returned (.string (foldB s)) ∧ Chg w w' (fun _ => False) := by
  have hs2 : s.size ≤ 2 ^ 63 - 1 := hs
  have hcv := fun W => run_bytes_of_string (P := Tryz.prog) W 9 59 5 s (by kernel_rfl) (by kernel_rfl) (by kernel_rfl)
  go_enter Tryz.func204, Tryz.ntmps204
  go_wp2_with fail
  clear hcv
  have hR : BRow (w.alloc (.cells (bytesRow s (grownCap w s.size 0 5)) 5 ((bytesRow s (grownCap w s.size 0 5)).size, (bytesRow s (grownCap w s.size 0 5)).size + 1))).drew w.heap.size s.data.toList := (BRow.new w _ s _).chg (S := fun _ => False) (Chg.refl _ _).drew (fun h => h)
  have hC : Chg w (w.alloc (.cells (bytesRow s (grownCap w s.size 0 5)) 5 ((bytesRow s (grownCap w s.size 0 5)).size, (bytesRow s (grownCap w s.size 0 5)).size + 1))).drew (fun _ => False) := ((Chg.refl w _).alloc _).drew
  generalize hg : w.heap.size = g at *
  generalize (w.alloc (.cells (bytesRow s (grownCap w s.size 0 5)) 5 ((bytesRow s (grownCap w s.size 0 5)).size, (bytesRow s (grownCap w s.size 0 5)).size + 1))).drew = w0 at *
  generalize grownCap w s.size 0 5 = c at *
  go_loopg [10] s.size (fun gk s10 wr => ∃ k : Nat, k + gk = s.size ∧ s10 = .int .i64 k ∧ BRow wr g ((s.data.toList.take k).map lowU ++ s.data.toList.drop k) ∧ Chg w wr (fun _ => False))
  case atStart => exact ⟨0, by omega, rfl, by simpa using hR, hC⟩
  case round =>
    obtain ⟨k, hk, rfl, hR, hC⟩ := hrel
    have hlen : ((s.data.toList.take k).map lowU ++ s.data.toList.drop k).length = s.size := by
      rw [List.length_append, List.length_map, List.length_take, List.length_drop, blen]; omega
    by_cases hlt : k < s.size
    · have hx := hR.cell k (by omega)
      have hf := hR.fr k (by omega)
      have hl := hR.lt
      have hget : ((s.data.toList.take k).map lowU ++ s.data.toList.drop k)[k]'(by omega) = s[k] := by
        rw [List.getElem_append_right (by rw [List.length_map, List.length_take, blen]; omega)]
        simp only [List.length_map, List.length_take, blen, List.getElem_drop]
        show s.data.toList[_]'_ = s.data.toList[k]'(by rw [blen]; exact hlt)
        congr 1; omega
      rw [hget] at hx
      have hL := fun W => lower_any (s[k].toNat : Int) W (by omega) (by have := s[k].toNat_lt; omega)
      rw [← lowU_nat] at hL
      have HR := Lib.hid hR
      clear hR hget
      go_wp2_with fail
      refine (hL _).mono ?_; rintro e w1 ⟨rfl, rfl⟩
      go_wp2_with fail
      go_roundg (gk - 1)
      case measure => omega
      case rel =>
        refine ⟨k + 1, by omega, by go_num, ?_, ?_⟩
        · have := HR.out.put (k := k) (by omega) (lowU s[k])
          have e : ((s.data.toList.take k).map lowU ++ s.data.toList.drop k).set k (lowU s[k]) = (s.data.toList.take (k + 1)).map lowU ++ s.data.toList.drop (k + 1) := by
            rw [List.set_append_right _ _ (by rw [List.length_map, List.length_take, blen]; omega)]
            rw [List.length_map, List.length_take, blen, Nat.min_eq_left (by omega), Nat.sub_self, List.drop_eq_getElem_cons (by rw [blen]; exact hlt), List.set_cons_zero, List.take_succ_eq_append_getElem (by rw [blen]; exact hlt), List.map_append, List.append_assoc]
            rfl
          rw [e] at this
          first | exact this | exact this.chg (S := fun _ => False) (Chg.refl _ _).drew (fun h => h)
        · refine Chg.setCell ?_ (.inl (by show w.heap.size ≤ g; omega)) _
          exact hC
    · have hb := hR.back (P := Tryz.prog) 59 9 5 c s.size hlen (by kernel_rfl) (by kernel_rfl) (by kernel_rfl)
      rw [show (s.data.toList.take k).map lowU ++ s.data.toList.drop k = foldL s.data.toList from by rw [List.take_of_length_le (by rw [blen]; omega), List.drop_of_length_le (by rw [blen]; omega), List.append_nil]; rfl] at hb
      clear hR
      go_wp2_with fail
      go_ret
      exact ⟨rfl, hC⟩
theorem foldO_p (s : ByteArray) (hs : s.size ≤ maxLen) : APure Tryz.prog 204 [.s s] (.s (foldB s)) [] :=
  APure.of_lits #[.string s] (.inl rfl) rfl Tryz.call204 fun w _ => (fold_any s hs w).mono fun _ _ ⟨he, hc⟩ => ⟨he, hc.below (Nat.le_refl _) (fun _ _ h => h)⟩
end Go.Proofs.YthnmbfiandpedaaGreatDoor
/- CommasSplits: the document's reading of quoted texts and comments, its trim. No statement of its own. -/
set_option linter.unusedSimpArgs false
set_option linter.unusedVariables false
set_option maxRecDepth 100000
namespace Go.Proofs.YthnmbfiandpedaaGreatDoor
open Go.RowKit
section
attribute [local irreducible] vcApp
end
theorem one_p (n : Int) (l : ByteArray) : APure Tryz.prog 144 [.int .u8 n, .s l] (.b (decide (0 ≤ Lib.indexByte l.data.toList n.toNat.toUInt8))) [] := by
  refine APure.of rfl (ACalls.of_vc T_ok mixed Tryz.func144 rfl Tryz.call144 ?_)
  refine .p rfl (indexByte_p l n) ?_
  exact retb rfl
def tokSB : ByteArray := ⟨#[33, 35, 36, 37, 38, 39, 42, 43, 45, 46, 94, 95, 96, 124, 126]⟩
theorem isToken_p (n : Int) (h0 : 0 ≤ n) (h1 : n ≤ 255) : APure Tryz.prog 89 [.int .u8 n] (.b (tokI n)) [] := by
  refine APure.of rfl (ACalls.of_vc T_ok mixed Tryz.func89 rfl Tryz.call89 ?_)
  unfold tokI
  refine .p rfl (isAlpha_p n h0 h1) ?_
  cases alpI n with
  | true =>
    exact retb rfl
  | false =>
    refine .p rfl (isDigit_p n) ?_
    cases digI n with
    | true => exact retb rfl
    | false =>
      refine .p rfl (one_p n tokSB) ?_
      exact retb rfl
theorem isToken_f : ByteF 89 tokI := fun n h0 h1 => isToken_p n h0 h1
theorem allF_p {f : FuncId} {q : Int → Bool} (hq : ByteF f q) (s : ByteArray) (hs : s.size ≤ maxLen) : APure Tryz.prog 54 [.lit (.func (.func f) #[] #[]), .sl .no 1 [[.s s]]] (.b (allI q s)) [] := by
  unfold maxLen at hs
  refine APure.of rfl (ACalls.of_vc T_ok mixed Tryz.func54 rfl Tryz.call54 ?_)
  refine vc_loop [10] (fun g vals st' => (g = 1 ∧ vals = [.i 0]) ∨ (g = 0 ∧ vals = [.i 1] ∧ allI q s = true)) 1 rfl (.inl ⟨rfl, rfl⟩) ?_
  rintro g vals st' (⟨rfl, rfl⟩ | ⟨rfl, rfl, ha⟩)
  · refine ⟨0, _, rfl, rfl, ?_⟩
    refine vc_loop [16] (fun g2 vals st2 => ∃ k : Nat, k + g2 = s.size ∧ vals = [.i k] ∧ ARel q s k) s.size rfl ⟨0, by omega, rfl, fun j _ h => absurd h (by omega)⟩ ?_
    rintro g2 vals st2 ⟨k, hk, rfl, hr⟩
    refine cnd_split (fun hd => ?_) (fun hd => ?_)
    · have hd := of_decide_eq_true hd
      have k1 : k < s.size := by omega
      refine ⟨k, k1, rfl, ?_⟩
      refine .p rfl (hq _ (by omega) (by have := s[k].toNat_lt; omega)) ?_
      refine cnd_split (fun h2 => ?_) (fun h2 => ?_)
      · rw [Bool.not_eq_true'] at h2
        exact retb (allI_false k1 h2).symm
      · rw [Bool.not_eq_false'] at h2
        intro c hc
        rw [IntWalk.i64_in _ (by omega)] at hc
        obtain rfl : c = ((k + 1 : Nat) : Int) := by omega
        refine ⟨g2 - 1, by omega, k + 1, by omega, rfl, fun j hj hjk => ?_⟩
        by_cases e : j = k
        · subst e; exact h2
        · exact hr j hj (by omega)
    · have hd := of_decide_eq_false hd
      intro c hc
      obtain rfl : c = 1 := by rw [IntWalk.i64_in _ (by omega)] at hc; omega
      exact ⟨0, by omega, .inr ⟨rfl, rfl, allI_true fun j hj => hr j hj (by omega)⟩⟩
  · exact retb ha.symm
theorem token_p (s : ByteArray) (hs : s.size ≤ maxLen) : APure Tryz.prog 53 [.s s] (.b (tokB s)) [] := by
  refine APure.of rfl (ACalls.of_vc T_ok mixed Tryz.func53 rfl Tryz.call53 ?_)
  unfold tokB
  intro t ht
  have h0 := ht.trans (emp_iff s)
  cases t with
  | true =>
    have : 0 < s.size := by
      apply Decidable.byContradiction
      intro hc
      have := h0.2 (by omega)
      cases this
    rw [decide_eq_true this]
    refine .p rfl (allF_p isToken_f s hs) ?_
    exact retb rfl
  | false =>
    have : s.size = 0 := h0.1 rfl
    rw [show decide (0 < s.size) = false by rw [decide_eq_false_iff_not]; omega]
    exact retb rfl
theorem sameO_p (a b : ByteArray) (ha : a.size ≤ maxLen) (hb : b.size ≤ maxLen) : APure Tryz.prog 151 [.s a, .s b] (.b (decide (foldB a = foldB b))) [] := by
  refine APure.of rfl (ACalls.of_vc T_ok mixed Tryz.func151 rfl Tryz.call151 ?_)
  refine .p rfl (foldO_p a ha) ?_
  refine .p rfl (foldO_p b hb) ?_
  intro t ht
  exact retb (by rw [Bool.eq_iff_iff, ht, decide_eq_true_eq])
/-- the tokens of lists -/
def tokW : List ByteArray → Option (List ByteArray)
  | [] => some []
  | x :: r => match splitW x with
    | none => none
    | some p => if p.all tokB = true then (tokW r).map (p ++ ·) else none
def tokR (l : List ByteArray) : AV := match tokW l with
  | some o => .tup [.sl .no 1 (strL o), .i 0]
  | none => .tup [.nilS, .i 2]
theorem tokW_at {l : List ByteArray} {k : Nat} (h : k < l.length) : tokW (l.drop k) = match splitW l[k] with
    | none => none
    | some p => if p.all tokB = true then (tokW (l.drop (k + 1))).map (p ++ ·) else none := by
  rw [List.drop_eq_getElem_cons h]; rfl
theorem Acc.appL {n : Nat} {st : St} {i : TI} {a : AV} {es ys : List (List AV)} {tg : Tk} {K : AV → St → Prop} (h : Acc n st.tk i.size a es) (hn : n ≤ st.tk.length) (hb : (es.length + ys.length) * i.bytes ≤ 140737488355328) (hm : es.length + ys.length ≤ maxLen)
    (hK : ∀ a' tk', Acc n tk' i.size a' (es ++ ys) → K a' ⟨st.heap, tk'⟩) : vcApp i a (.sl tg i.size ys) st K := by
  unfold vcApp srcA
  simp only [decide_true]
  cases h with
  | nil =>
    refine ⟨fun e => ?_, fun _ => ⟨by simpa using hb, by simpa using hm, .inl ?_⟩⟩
    · subst e; exact hK _ st.tk .nil
    · exact hK _ _ (.own _ _ _ hn (by simp))
  | own t e es h1 h2 =>
    simp only [decide_true]
    have hlt := (List.getElem?_eq_some_iff.1 h2).1
    exact ⟨h2, hb, hm, hK _ _ (.own _ _ _ h1 (by rw [List.getElem?_set_self hlt]))⟩
section
attribute [local irreducible] vcApp
set_option maxHeartbeats 2000000 in
theorem tokens_p (l : List ByteArray) (hn : l.length ≤ 1000) (hl : ∀ x ∈ l, x.size ≤ 4000) : APure Tryz.prog 324 [.sl .no 1 (strL l)] (tokR l) [] := by
  have hmx : maxLen = 9223372036854775807 := rfl
  have ell := strL_len l
  refine APure.ofW (by unfold tokR; split <;> rfl) ?_
  refine ACalls.of_vc T_ok mixed Tryz.func324 rfl Tryz.call324 ?_
  refine vc_loop [4, 13] (fun g vals st' => ∃ (k : Nat) (o : List ByteArray) (a : AV), vals = [a, .i k] ∧ k + g = l.length ∧ o.length ≤ k * 4001 ∧ Acc 0 st'.tk 1 a (strL o) ∧ (tokW (l.drop k)).map (o ++ ·) = tokW l) l.length rfl ⟨0, [], .nilS, rfl, by omega, by simp, .nil, by simp⟩ ?_
  rintro g vals st' ⟨k, o, a, rfl, hg, ho, hA, hW⟩
  have el := strL_len o
  generalize hes : strL o = es at hA el
  cases hA with
  | nil =>
    refine cnd_split (fun hd => ?_) (fun hd => ?_)
    · have hd := of_decide_eq_true hd
      have k1 : k < l.length := by omega
      have sz := hl l[k] (List.getElem_mem k1)
      have ps := split_p l[k] (by omega)
      have hT := tokW_at k1
      unfold splR at ps
      refine ⟨k, _, rfl, strL_at k1, ?_⟩
      cases hsp : splitW l[k] with
      | none =>
        rw [hsp] at ps hT
        refine .p rfl ps ?_
        unfold tokR
        rw [← hW, hT]
        exact .inl rfl
      | some p =>
        rw [hsp] at ps hT
        have pl := strL_len p
        have pb := splW_bound _ 0 [] p rfl (Nat.zero_le _) hsp
        have pn : p.length ≤ 4001 := by have := pb.1; simp at this; omega
        refine .p rfl ps ?_
        refine vc_loop [27] (fun g2 vals st2 => ∃ j : Nat, j + g2 = p.length ∧ vals = [.i j] ∧ st2 = st' ∧ ∀ i (hi : i < p.length), i < j → tokB p[i] = true) p.length rfl ⟨0, by omega, rfl, rfl, fun i _ h => absurd h (by omega)⟩ ?_
        rintro g2 vals st2 ⟨j, hj, rfl, rfl, hall⟩
        refine cnd_split (fun hd2 => ?_) (fun hd2 => ?_)
        · have hd2 := of_decide_eq_true hd2
          have j1 : j < p.length := by omega
          have szj : p[j].size ≤ 4000 := by
            rcases pb.2 p[j] (List.getElem_mem j1) with h | h
            · simp at h
            · omega
          refine ⟨j, _, rfl, strL_at j1, ?_⟩
          refine .p rfl (token_p p[j] (by omega)) ?_
          refine cnd_split (fun h3 => ?_) (fun h3 => ?_)
          · rw [Bool.not_eq_true'] at h3
            have : p.all tokB = false := List.all_eq_false.2 ⟨p[j], List.getElem_mem j1, by rw [h3]; decide⟩
            simp only [this] at hT
            unfold tokR
            rw [← hW, hT]
            exact .inl rfl
          · rw [Bool.not_eq_false'] at h3
            intro c hc
            rw [IntWalk.i64_in _ (by omega)] at hc
            obtain rfl : c = ((j + 1 : Nat) : Int) := by omega
            refine ⟨g2 - 1, by omega, j + 1, by omega, rfl, rfl, fun i hi hij => ?_⟩
            by_cases e : i = j
            · subst e; exact h3
            · exact hall i hi (by omega)
        · have hd2 := of_decide_eq_false hd2
          have hp : p.all tokB = true := List.all_eq_true.2 fun x hx => by
            obtain ⟨i, hi, rfl⟩ := List.getElem_of_mem hx
            exact hall i hi (by omega)
          simp only [hp, if_true] at hT
          rw [hT] at hW
          have hW2 : (tokW (l.drop (k + 1))).map ((o ++ p) ++ ·) = tokW l := by
            rw [← hW]
            cases tokW (l.drop (k + 1)) <;> simp
          refine Acc.appL (n := 0) (i := ti9) (es := []) .nil (Nat.zero_le _) ?_ ?_ (fun a2 tk' w1 => ?_)
          · show (([] : List (List AV)).length + (strL p).length) * 16 ≤ _; omega
          · show ([] : List (List AV)).length + (strL p).length ≤ _; omega
          rw [show ([] : List (List AV)) ++ strL p = strL (o ++ p) by rw [← hes]; simp [strL]] at w1
          generalize hzs : strL (o ++ p) = zs at w1
          cases w1 with
          | nil =>
            intro c hc
            rw [IntWalk.i64_in _ (by omega)] at hc
            obtain rfl : c = ((k + 1 : Nat) : Int) := by omega
            exact ⟨g - 1, by omega, k + 1, o ++ p, _, rfl, by omega, by rw [List.length_append, Nat.add_mul]; omega, by rw [hzs]; exact .nil, hW2⟩
          | own t9 e9 zs z1 z2 =>
            intro c hc
            rw [IntWalk.i64_in _ (by omega)] at hc
            obtain rfl : c = ((k + 1 : Nat) : Int) := by omega
            exact ⟨g - 1, by omega, k + 1, o ++ p, _, rfl, by omega, by rw [List.length_append, Nat.add_mul]; omega, by rw [hzs]; exact .own _ _ _ z1 z2, hW2⟩
    · have hd := of_decide_eq_false hd
      have : l.drop k = [] := List.drop_of_length_le (by omega)
      rw [this] at hW
      unfold tokR
      rw [← hW]
      simp only [tokW, Option.map_some, List.append_nil]
      rw [hes]
      exact (.inr (.inr ⟨[.i 0], 1, rfl, rfl⟩))
  | own t0 e0 es q0 q1 =>
    refine cnd_split (fun hd => ?_) (fun hd => ?_)
    · have hd := of_decide_eq_true hd
      have k1 : k < l.length := by omega
      have sz := hl l[k] (List.getElem_mem k1)
      have ps := split_p l[k] (by omega)
      have hT := tokW_at k1
      unfold splR at ps
      refine ⟨k, _, rfl, strL_at k1, ?_⟩
      cases hsp : splitW l[k] with
      | none =>
        rw [hsp] at ps hT
        refine .p rfl ps ?_
        unfold tokR
        rw [← hW, hT]
        exact .inl rfl
      | some p =>
        rw [hsp] at ps hT
        have pl := strL_len p
        have pb := splW_bound _ 0 [] p rfl (Nat.zero_le _) hsp
        have pn : p.length ≤ 4001 := by have := pb.1; simp at this; omega
        refine .p rfl ps ?_
        refine vc_loop [27] (fun g2 vals st2 => ∃ j : Nat, j + g2 = p.length ∧ vals = [.i j] ∧ st2 = st' ∧ ∀ i (hi : i < p.length), i < j → tokB p[i] = true) p.length rfl ⟨0, by omega, rfl, rfl, fun i _ h => absurd h (by omega)⟩ ?_
        rintro g2 vals st2 ⟨j, hj, rfl, rfl, hall⟩
        refine cnd_split (fun hd2 => ?_) (fun hd2 => ?_)
        · have hd2 := of_decide_eq_true hd2
          have j1 : j < p.length := by omega
          have szj : p[j].size ≤ 4000 := by
            rcases pb.2 p[j] (List.getElem_mem j1) with h | h
            · simp at h
            · omega
          refine ⟨j, _, rfl, strL_at j1, ?_⟩
          refine .p rfl (token_p p[j] (by omega)) ?_
          refine cnd_split (fun h3 => ?_) (fun h3 => ?_)
          · rw [Bool.not_eq_true'] at h3
            have : p.all tokB = false := List.all_eq_false.2 ⟨p[j], List.getElem_mem j1, by rw [h3]; decide⟩
            simp only [this] at hT
            unfold tokR
            rw [← hW, hT]
            exact .inl rfl
          · rw [Bool.not_eq_false'] at h3
            intro c hc
            rw [IntWalk.i64_in _ (by omega)] at hc
            obtain rfl : c = ((j + 1 : Nat) : Int) := by omega
            refine ⟨g2 - 1, by omega, j + 1, by omega, rfl, rfl, fun i hi hij => ?_⟩
            by_cases e : i = j
            · subst e; exact h3
            · exact hall i hi (by omega)
        · have hd2 := of_decide_eq_false hd2
          have hp : p.all tokB = true := List.all_eq_true.2 fun x hx => by
            obtain ⟨i, hi, rfl⟩ := List.getElem_of_mem hx
            exact hall i hi (by omega)
          simp only [hp, if_true] at hT
          rw [hT] at hW
          have hW2 : (tokW (l.drop (k + 1))).map ((o ++ p) ++ ·) = tokW l := by
            rw [← hW]
            cases tokW (l.drop (k + 1)) <;> simp
          refine Acc.appL (n := 0) (i := ti9) (es := es) (.own _ _ _ q0 q1) (Nat.zero_le _) ?_ ?_ (fun a2 tk' w1 => ?_)
          · show ((es : List (List AV)).length + (strL p).length) * 16 ≤ _; omega
          · show (es : List (List AV)).length + (strL p).length ≤ _; omega
          rw [show (es : List (List AV)) ++ strL p = strL (o ++ p) by rw [← hes]; simp [strL]] at w1
          generalize hzs : strL (o ++ p) = zs at w1
          cases w1 with
          | nil =>
            intro c hc
            rw [IntWalk.i64_in _ (by omega)] at hc
            obtain rfl : c = ((k + 1 : Nat) : Int) := by omega
            exact ⟨g - 1, by omega, k + 1, o ++ p, _, rfl, by omega, by rw [List.length_append, Nat.add_mul]; omega, by rw [hzs]; exact .nil, hW2⟩
          | own t9 e9 zs z1 z2 =>
            intro c hc
            rw [IntWalk.i64_in _ (by omega)] at hc
            obtain rfl : c = ((k + 1 : Nat) : Int) := by omega
            exact ⟨g - 1, by omega, k + 1, o ++ p, _, rfl, by omega, by rw [List.length_append, Nat.add_mul]; omega, by rw [hzs]; exact .own _ _ _ z1 z2, hW2⟩
    · have hd := of_decide_eq_false hd
      have : l.drop k = [] := List.drop_of_length_le (by omega)
      rw [this] at hW
      unfold tokR
      rw [← hW]
      simp only [tokW, Option.map_some, List.append_nil]
      rw [hes]
      exact (.inl rfl)
end
section
attribute [local irreducible] vcApp
end
end Go.Proofs.YthnmbfiandpedaaGreatDoor
/- Messages: rows of fields, cut short, bags made of them, the values of a name. No statement of its own. -/
set_option linter.unusedSimpArgs false
set_option linter.unusedVariables false
set_option maxRecDepth 100000
namespace Go.Proofs.YthnmbfiandpedaaGreatDoor
open Go.RowKit
/-- fields in a row -/
def fldL (l : List Fld) : List (List AV) := l.map fun f => [AV.s f.1, AV.s f.2]
theorem fldL_len (l : List Fld) : (fldL l).length = l.length := by simp [fldL]
theorem fldL_at {l : List Fld} {j : Nat} (h : j < l.length) : (fldL l)[j]? = some [.s l[j].1, .s l[j].2] := by simp [fldL, h]
theorem fldL_app (l : List Fld) (a b : ByteArray) : fldL l ++ [[.s a, .s b]] = fldL (l ++ [(a, b)]) := by simp [fldL]
/-- an empty row, as whatever it may be -/
theorem APure.empty {P : Program} {f : FuncId} {sz : Nat} {r : AV} {ns : List Nat} (h : ∀ a cap, cap ≤ maxLen → APure P f [.lit (.slice a 0 cap)] r ns) : APure P f [.sl .no sz []] r ns := by
  refine ⟨(h none 0 (Nat.zero_le _)).1, (h none 0 (Nat.zero_le _)).2.1, fun J w vs hw hl ha => ?_⟩
  have h0 : 0 < vs.size := by rw [← hl]; exact Nat.zero_lt_one
  obtain ⟨a, cap, e, hm⟩ : ∃ a cap, vs[0] = .slice a 0 cap ∧ cap ≤ maxLen := by
    rcases (ha 0 _ vs[0] rfl (Array.getElem?_eq_getElem h0)).sl_inv with ⟨_, _, a, cap, e, hm⟩ | ⟨g, o, cap, us, e, _, _, hm, _⟩
    · exact ⟨a, cap, e, hm⟩
    · exact ⟨_, cap, e, hm⟩
  refine (h a cap hm).2.2 J w vs hw hl fun j b v hb hv => ?_
  cases j with
  | zero =>
    cases hb
    rw [Array.getElem?_eq_getElem h0, e] at hv
    cases hv
    exact .lit _
  | succ j => simp at hb
theorem ACalls.empty {P : Program} {f : FuncId} {sz : Nat} {st : St} {R : AV → St → Prop} (h : ∀ a cap, cap ≤ maxLen → ACalls P f [.lit (.slice a 0 cap)] st R) : ACalls P f [.sl .no sz []] st R := by
  refine ⟨(h none 0 (Nat.zero_le _)).1, fun base J w0 μ σ w vs hok hl ha => ?_⟩
  have h0 : 0 < vs.size := by rw [← hl]; exact Nat.zero_lt_one
  obtain ⟨a, cap, e, hm⟩ : ∃ a cap, vs[0] = .slice a 0 cap ∧ cap ≤ maxLen := by
    rcases (ha 0 _ vs[0] rfl (Array.getElem?_eq_getElem h0)).sl_inv with ⟨_, _, a, cap, e, hm⟩ | ⟨g, o, cap, us, e, _, _, hm, _⟩
    · exact ⟨a, cap, e, hm⟩
    · exact ⟨_, cap, e, hm⟩
  refine (h a cap hm).2 base J w0 μ σ w vs hok hl fun j b v hb hv => ?_
  cases j with
  | zero =>
    cases hb
    rw [Array.getElem?_eq_getElem h0, e] at hv
    cases hv
    exact .lit _
  | succ j => simp at hb
theorem flat_fld (l : List Fld) : ∀ (k : Nat) (e : List AV), (fldL l)[k]? = some e → e.length = 2 ∧ e.all AV.flat = true := fun k e h => by
  simp only [fldL, List.getElem?_map, Option.map_eq_some_iff] at h
  obtain ⟨f, _, rfl⟩ := h
  exact ⟨rfl, rfl⟩
/-- a row, once more -/
theorem clone_p (l : List Fld) (hl : l.length ≤ 1099511627776) : APure Tryz.prog 149 [.sl .no 2 (fldL l)] (.sl .no 2 (fldL l)) [] := by
  have hmx : maxLen = 9223372036854775807 := rfl
  have el := fldL_len l
  cases l with
  | nil =>
    refine APure.empty fun a cap hm => ?_
    refine APure.ofW rfl ?_
    cases a with
    | none =>
      refine ACalls.of_vc T_ok mixed Tryz.func149 rfl Tryz.call149 ?_
      exact .inr (.inl ⟨2, rfl, rfl⟩)
    | some a =>
      refine ACalls.of_vc T_ok mixed Tryz.func149 rfl Tryz.call149 ?_
      exact ⟨fun _ => .inl rfl, fun h => absurd rfl h⟩
  | cons f r =>
    refine APure.of rfl (ACalls.of_vc T_ok mixed Tryz.func149 rfl Tryz.call149 ?_)
    refine ⟨fun h => by simp [fldL] at h, fun _ => ⟨?_, ?_, .inl ?_⟩⟩
    · show (fldL (f :: r)).length * 32 ≤ _; omega
    · show (fldL (f :: r)).length ≤ _; omega
    · rfl

section
attribute [local irreducible] vcApp
end
/-- a bag of fields, made; its fields; the values of a name -/
theorem newB_a {st : St} {R : AV → St → Prop} (l : List Fld) (hl : l.length ≤ 1099511627776) (h : R (.ptr st.heap.length 0) ⟨st.heap ++ [[.sl .no 2 (fldL l)]], st.tk⟩) : ACalls Tryz.prog 99 [.sl .no 2 (fldL l)] st R := by
  refine ACalls.of_vc T_ok mixed Tryz.func99 rfl Tryz.call99 ?_
  refine .p rfl (clone_p l hl) ?_
  exact h
theorem listB_a {st : St} {R : AV → St → Prop} {p : Nat} (l : List Fld) (hl : l.length ≤ 1099511627776) (hp : st.heap[p]? = some [.sl .no 2 (fldL l)]) (h : R (.sl .no 2 (fldL l)) st) : ACalls Tryz.prog 150 [.ptr p 0] st R := by
  refine ACalls.of_vc T_ok mixed Tryz.func150 rfl Tryz.call150 ?_
  refine ⟨_, hp, ?_⟩
  refine .p rfl (clone_p l hl) ?_
  exact h
/-- a state that has grown: all that was is as it was -/
structure Gr (st st' : St) : Prop where
  pre : Pre st st'
  tl : st.tk.length ≤ st'.tk.length
  tk : ∀ t, t < st.tk.length → st'.tk[t]? = st.tk[t]?
theorem Gr.refl (st : St) : Gr st st := ⟨.refl _, Nat.le_refl _, fun _ _ => rfl⟩
theorem Gr.trans {a b c : St} (h : Gr a b) (g : Gr b c) : Gr a c := ⟨h.pre.trans g.pre, Nat.le_trans h.tl g.tl, fun t ht => (g.tk t (Nat.lt_of_lt_of_le ht h.tl)).trans (h.tk t ht)⟩
theorem last_at (h : List (List AV)) (x : List AV) : (h ++ [x])[h.length]? = some x := by simp
theorem last_set (h : List (List AV)) (x y : List AV) : (h ++ [x]).set h.length y = h ++ [y] := by simp
theorem last_upd (h : List (List AV)) (x y : List AV) : ((h ++ [x]).set h.length y)[h.length]? = some y := by rw [last_set, last_at]
/-- the values of a name -/
def valsW (name : ByteArray) (l : List Fld) : List ByteArray := (l.filter fun f => decide (foldB f.1 = foldB name)).map (·.2)
theorem valsW_len (name : ByteArray) (l : List Fld) : (valsW name l).length ≤ l.length := by unfold valsW; rw [List.length_map]; exact List.length_filter_le _ _
theorem valsW_mem {name : ByteArray} {l : List Fld} {v : ByteArray} (h : v ∈ valsW name l) : ∃ f ∈ l, v = f.2 := by
  unfold valsW at h
  obtain ⟨f, hf, rfl⟩ := List.mem_map.1 h
  exact ⟨f, (List.mem_filter.1 hf).1, rfl⟩
theorem valsW_snoc (name : ByteArray) (l : List Fld) (k : Nat) (h : k < l.length) : valsW name (l.take (k + 1)) = valsW name (l.take k) ++ (if decide (foldB l[k].1 = foldB name) = true then [l[k].2] else []) := by
  rw [List.take_succ_eq_append_getElem h]
  unfold valsW
  rw [List.filter_append, List.map_append]
  congr 1
  by_cases hd : decide (foldB l[k].1 = foldB name) = true
  · rw [if_pos hd]; simp only [List.filter, hd]; rfl
  · rw [if_neg hd]; rw [Bool.not_eq_true] at hd; simp only [List.filter, hd]; rfl
theorem valsW_congr {a b : ByteArray} (h : foldB a = foldB b) (l : List Fld) : valsW a l = valsW b l := by unfold valsW; rw [h]

section
attribute [local irreducible] vcApp
set_option maxHeartbeats 1000000 in
theorem values_a {st : St} {R : AV → St → Prop} {p : Nat} (l : List Fld) (name : ByteArray) (hl : l.length ≤ 1099511627776) (hz : ∀ f ∈ l, f.1.size ≤ 1099511627776 ∧ f.2.size ≤ 1099511627776) (hn : name.size ≤ 1099511627776) (hp : st.heap[p]? = some [.sl .no 2 (fldL l)])
    (h : ∀ a st', Gr st st' → Acc st.tk.length st'.tk 1 a (strL (valsW name l)) → R a st') : ACalls Tryz.prog 100 [.ptr p 0, .s name] st R := by
  have hmx : maxLen = 9223372036854775807 := rfl
  have el := fldL_len l
  refine ACalls.of_vc T_ok mixed Tryz.func100 rfl Tryz.call100 ?_
  refine .s (listB_a l hl hp ?_)
  refine vc_loop [5, 11] (fun g vals st' => ∃ (j : Nat) (a : AV), j + g = l.length ∧ vals = [a, .i j] ∧ j ≤ l.length ∧ Gr st st' ∧ Acc st.tk.length st'.tk 1 a (strL (valsW name (l.take j)))) l.length rfl ⟨0, _, by omega, rfl, Nat.zero_le _, .refl _, .nil⟩ ?_
  rintro g vals st' ⟨j, a, hj, rfl, hjl, hG, hA⟩
  have al := strL_len (valsW name (l.take j))
  have al2 := valsW_len name (l.take j)
  rw [List.length_take] at al2
  generalize hes : strL (valsW name (l.take j)) = es at hA al
  cases hA with
  | nil =>
    refine cnd_split (fun hd => ?_) (fun hd => ?_)
    · have hd := of_decide_eq_true hd
      have j1 : j < l.length := by omega
      have sz := hz l[j] (List.getElem_mem j1)
      have hs := valsW_snoc name l j j1
      refine ⟨j, _, rfl, fldL_at j1, ?_⟩
      refine ⟨_, last_at _ _, ?_⟩
      refine ⟨_, last_upd _ _ _, ?_⟩
      refine .p rfl (sameO_p _ _ (by omega) (by omega)) ?_
      have gr : ∀ tk', st'.tk.length ≤ tk'.length → (∀ t, t < st.tk.length → tk'[t]? = st'.tk[t]?) → Gr st ⟨(st'.heap ++ [[AV.s .empty, AV.s .empty]]).set st'.heap.length [AV.s l[j].1, AV.s l[j].2], tk'⟩ := fun tk' h1 h2 => ⟨hG.pre.trans ⟨[[AV.s l[j].1, AV.s l[j].2]], last_set _ _ _⟩, Nat.le_trans hG.tl h1, fun t ht => (h2 t ht).trans (hG.tk t ht)⟩
      refine cnd_split (fun h3 => ?_) (fun h3 => ?_)
      · rw [if_pos h3] at hs
        refine ⟨_, last_upd _ _ _, ?_⟩
        refine Acc.app (n := st.tk.length) (i := ti9) (es := []) .nil hG.tl (List.cons_ne_nil _ _) ?_ ?_ (fun t9 e9 tk9 z0 z1 z2 z3 => ?_)
        · show (([] : List (List AV)).length + 1) * 16 ≤ _; omega
        · show ([] : List (List AV)).length + 1 ≤ _; omega
        intro c hc
        rw [IntWalk.i64_in _ (by omega)] at hc
        obtain rfl : c = ((j + 1 : Nat) : Int) := by omega
        refine ⟨g - 1, by omega, j + 1, _, by omega, rfl, j1, ⟨hG.pre.trans ⟨[[AV.s l[j].1, AV.s l[j].2]], last_set _ _ _⟩, z2, fun t ht => (z3 t ht).trans (hG.tk t ht)⟩, ?_⟩
        rw [hs, ← strL_app, hes]
        exact .own _ _ _ z0 z1
      · rw [if_neg (by rw [h3]; decide), List.append_nil] at hs
        intro c hc
        rw [IntWalk.i64_in _ (by omega)] at hc
        obtain rfl : c = ((j + 1 : Nat) : Int) := by omega
        refine ⟨g - 1, by omega, j + 1, _, by omega, rfl, j1, gr _ (Nat.le_refl _) (fun _ _ => rfl), ?_⟩
        rw [hs, hes]
        exact .nil
    · have hd := of_decide_eq_false hd
      refine h _ _ hG ?_
      rw [List.take_of_length_le (by omega)] at hes
      rw [hes]
      exact .nil
  | own t0 e0 es q0 q1 =>
    refine cnd_split (fun hd => ?_) (fun hd => ?_)
    · have hd := of_decide_eq_true hd
      have j1 : j < l.length := by omega
      have sz := hz l[j] (List.getElem_mem j1)
      have hs := valsW_snoc name l j j1
      refine ⟨j, _, rfl, fldL_at j1, ?_⟩
      refine ⟨_, last_at _ _, ?_⟩
      refine ⟨_, last_upd _ _ _, ?_⟩
      refine .p rfl (sameO_p _ _ (by omega) (by omega)) ?_
      have gr : ∀ tk', st'.tk.length ≤ tk'.length → (∀ t, t < st.tk.length → tk'[t]? = st'.tk[t]?) → Gr st ⟨(st'.heap ++ [[AV.s .empty, AV.s .empty]]).set st'.heap.length [AV.s l[j].1, AV.s l[j].2], tk'⟩ := fun tk' h1 h2 => ⟨hG.pre.trans ⟨[[AV.s l[j].1, AV.s l[j].2]], last_set _ _ _⟩, Nat.le_trans hG.tl h1, fun t ht => (h2 t ht).trans (hG.tk t ht)⟩
      refine cnd_split (fun h3 => ?_) (fun h3 => ?_)
      · rw [if_pos h3] at hs
        refine ⟨_, last_upd _ _ _, ?_⟩
        refine Acc.app (n := st.tk.length) (i := ti9) (es := es) (.own _ _ _ q0 q1) hG.tl (List.cons_ne_nil _ _) ?_ ?_ (fun t9 e9 tk9 z0 z1 z2 z3 => ?_)
        · show ((es : List (List AV)).length + 1) * 16 ≤ _; omega
        · show (es : List (List AV)).length + 1 ≤ _; omega
        intro c hc
        rw [IntWalk.i64_in _ (by omega)] at hc
        obtain rfl : c = ((j + 1 : Nat) : Int) := by omega
        refine ⟨g - 1, by omega, j + 1, _, by omega, rfl, j1, ⟨hG.pre.trans ⟨[[AV.s l[j].1, AV.s l[j].2]], last_set _ _ _⟩, z2, fun t ht => (z3 t ht).trans (hG.tk t ht)⟩, ?_⟩
        rw [hs, ← strL_app, hes]
        exact .own _ _ _ z0 z1
      · rw [if_neg (by rw [h3]; decide), List.append_nil] at hs
        intro c hc
        rw [IntWalk.i64_in _ (by omega)] at hc
        obtain rfl : c = ((j + 1 : Nat) : Int) := by omega
        refine ⟨g - 1, by omega, j + 1, _, by omega, rfl, j1, gr _ (Nat.le_refl _) (fun _ _ => rfl), ?_⟩
        rw [hs, hes]
        exact (.own _ _ _ q0 q1)
    · have hd := of_decide_eq_false hd
      refine h _ _ hG ?_
      rw [List.take_of_length_le (by omega)] at hes
      rw [hes]
      exact (.own _ _ _ q0 q1)
end
structure FldOk (l : List Fld) : Prop where
  len : l.length ≤ 1000
  size : ∀ f ∈ l, f.1.size ≤ 4000 ∧ f.2.size ≤ 4000
theorem FldOk.big {l : List Fld} (h : FldOk l) : ∀ f ∈ l, f.1.size ≤ 1099511627776 ∧ f.2.size ≤ 1099511627776 := fun f hf => by have := h.size f hf; omega
theorem FldOk.vlen {l : List Fld} (h : FldOk l) (n : ByteArray) : (valsW n l).length ≤ 1000 := Nat.le_trans (valsW_len n l) h.len
theorem FldOk.vsize {l : List Fld} (h : FldOk l) (n : ByteArray) : ∀ x ∈ valsW n l, x.size ≤ 4000 := fun x hx => by
  obtain ⟨f, hf, rfl⟩ := valsW_mem hx
  exact (h.size f hf).2
theorem nil_len (l : List ByteArray) : (strL l = [] ↔ l = []) := by unfold strL; exact List.map_eq_nil_iff
/-- a head -/
abbrev hdA (k c mi : Int) (m t r : ByteArray) (row : AV) : AV := .agg [.i k, .s m, .s t, .i c, .s r, .i mi, row]
end Go.Proofs.YthnmbfiandpedaaGreatDoor
/- A scanner moved, what is kept of a state. No statement of its own. -/
set_option linter.unusedSimpArgs false
set_option linter.unusedVariables false
set_option maxRecDepth 100000
namespace Go.Proofs.YthnmbfiandpedaaGreatDoor
open Go.RowKit
theorem ap {h : List (List AV)} {n : Nat} {v x : List AV} (hv : h[n]? = some v) : (h ++ [x])[n]? = some v := (List.getElem?_append_left (List.getElem?_eq_some_iff.1 hv).1).trans hv
theorem st_ne {h : List (List AV)} {n m : Nat} {v x : List AV} (hne : m ≠ n) (hv : h[n]? = some v) : (h.set m x)[n]? = some v := (List.getElem?_set_ne hne).trans hv
theorem st_eq {h : List (List AV)} {n : Nat} {v x : List AV} (hv : h[n]? = some v) : (h.set n x)[n]? = some x := List.getElem?_set_self (List.getElem?_eq_some_iff.1 hv).1
theorem lt_of {h : List (List AV)} {n : Nat} {v : List AV} (hv : h[n]? = some v) : n < h.length := (List.getElem?_eq_some_iff.1 hv).1
section
variable {st : St} {p k n : Nat} {s : ByteArray} {R : AV → St → Prop}
theorem token_a (h : Sc st p s k) (hR : R (.tup [.s (s.extract k (k + tw tokI s k)), .b (!decide (tw tokI s k = 0))]) (st.sc p s (k + tw tokI s k))) : ACalls Tryz.prog 84 [.ptr p 0] st R := by
  have hl := tw_le tokI s k h.le
  have he := ext_len s k (k + tw tokI s k) hl
  refine ACalls.of_vc T_ok mixed Tryz.func84 rfl Tryz.call84 ?_
  refine .s (while_a isToken_f h ?_)
  intro t ht
  have : t = !decide (tw tokI s k = 0) := by
    by_cases e : tw tokI s k = 0
    · have := ht.2 ((emp_iff _).2 (by omega))
      rw [this, decide_eq_true e]; rfl
    · cases t with
      | true => rw [decide_eq_false e]; rfl
      | false => exact absurd ((emp_iff _).1 (ht.1 rfl)) (by omega)
  subst this
  exact hR
theorem token_m (h : Sc st p s k) (hn : n ≤ st.tk.length) (h1 : tw tokI s k = 0 → ∀ st', Mv n (· = p) st st' → Sc st' p s k → R (.tup [.s ⟨#[]⟩, .b false]) st')
    (h2 : tw tokI s k ≠ 0 → ∀ st', Mv n (· = p) st st' → Sc st' p s (k + tw tokI s k) → R (.tup [.s (s.extract k (k + tw tokI s k)), .b true]) st') : ACalls Tryz.prog 84 [.ptr p 0] st R := by
  have m := (Mv.refl (C := (· = p)) hn).sc (p := p) (fun _ => rfl) s (k + tw tokI s k)
  have hl := tw_le tokI s k h.le
  have hs := h.sc hl
  refine token_a h ?_
  generalize st.sc p s (k + tw tokI s k) = S at *
  by_cases e : tw tokI s k = 0
  · have x : s.extract k (k + tw tokI s k) = ⟨#[]⟩ := (emp_iff _).2 (by rw [ext_len _ _ _ hl]; omega)
    rw [x, decide_eq_true e]
    exact h1 e _ m (by rw [e] at hs; exact hs)
  · rw [decide_eq_false e]
    exact h2 e _ m hs
theorem atB_le {s : ByteArray} {k : Nat} {b : Int} (hk : k ≤ s.size) : (if atB s k b = true then k + 1 else k) ≤ s.size := by
  split
  · rename_i e
    have : k < s.size := Decidable.byContradiction fun hc => by rw [atB_ge (by omega)] at e; cases e
    omega
  · exact hk
theorem byte_m (h : Sc st p s k) (hn : n ≤ st.tk.length) (b : Int) (h1 : atB s k b = false → ∀ st', Mv n (· = p) st st' → Sc st' p s k → R (.b false) st')
    (h2 : atB s k b = true → k < s.size → ∀ st', Mv n (· = p) st st' → Sc st' p s (k + 1) → R (.b true) st') : ACalls Tryz.prog 85 [.ptr p 0, .int .u8 b] st R := by
  have m := (Mv.refl (C := (· = p)) hn).sc (p := p) (fun _ => rfl) s (if atB s k b = true then k + 1 else k)
  have hs := h.sc (atB_le (b := b) h.le)
  refine byte_a h b ?_
  generalize st.sc p s (if atB s k b = true then k + 1 else k) = S at *
  cases e : atB s k b with
  | false => rw [e] at hs; exact h1 e _ m hs
  | true =>
    rw [e] at hs
    exact h2 e (Decidable.byContradiction fun hc => by rw [atB_ge (by omega)] at e; cases e) _ m hs
end
theorem while_m {st : St} {p k n m : Nat} {s : ByteArray} {R : AV → St → Prop} {f : FuncId} {q : Int → Bool} (hq : ByteF f q) (h : Sc st p s k) (hn : n ≤ st.tk.length) (hm : k + tw q s k = m) (hR : ∀ st', Mv n (· = p) st st' → Sc st' p s m → R (.s (s.extract k m)) st') : ACalls Tryz.prog 109 [.ptr p 0, .lit (.func (.func f) #[] #[])] st R := by
  subst hm
  exact while_a hq h (hR _ ((Mv.refl (C := (· = p)) hn).sc (p := p) (fun _ => rfl) s _) (h.sc (tw_le q s k h.le)))
end Go.Proofs.YthnmbfiandpedaaGreatDoor
