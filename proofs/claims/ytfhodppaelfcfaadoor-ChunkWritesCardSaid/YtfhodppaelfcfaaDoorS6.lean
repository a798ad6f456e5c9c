/- Lists behind commas: the program's splitter, over abstract values. No statement of its own. -/
import Derived.Test.YtfhodppaelfcfaaDoorS4
import Derived.Test.YtfhodppaelfcfaaDoorS5
set_option maxRecDepth 100000
namespace Go.Proofs.YtfhodppaelfcfaaDoor
open Go.RowKit
theorem atB_iff {s : ByteArray} {k : Nat} {b : Int} : atB s k b = true → k < s.size := fun e => Decidable.byContradiction fun hc => by rw [atB_ge (by omega)] at e; cases e
/-- a comment, from behind its opening on: where it ends -/
def cmtW (s : ByteArray) (k n : Nat) : Option Nat :=
  if n = 0 then some k
  else if _h : k < s.size then
    if atB s k 40 = true then cmtW s (k + 1) (n + 1)
    else if atB s k 41 = true then cmtW s (k + 1) (n - 1)
    else if atB s k 92 = true then cmtW s (if k + 1 < s.size then k + 2 else k + 1) n
    else cmtW s (k + 1) n
  else none
termination_by s.size - k
decreasing_by all_goals first | omega | (split <;> omega)
theorem cmtW_le (s : ByteArray) : ∀ (z k n j : Nat), s.size - k ≤ z → k ≤ s.size → cmtW s k n = some j → k ≤ j ∧ j ≤ s.size := by
  intro z
  induction z with
  | zero =>
    intro k n j hz hk h
    unfold cmtW at h
    split at h
    · cases h; omega
    · split at h
      · omega
      · cases h
  | succ z ih =>
    intro k n j hz hk h
    unfold cmtW at h
    split at h
    · cases h; omega
    · split at h
      · split at h
        · have := ih _ _ _ (by omega) (by omega) h; omega
        · split at h
          · have := ih _ _ _ (by omega) (by omega) h; omega
          · split at h
            · by_cases e : k + 1 < s.size
              · rw [if_pos e] at h; have := ih _ _ _ (by omega) (by omega) h; omega
              · rw [if_neg e] at h; have := ih _ _ _ (by omega) (by omega) h; omega
            · have := ih _ _ _ (by omega) (by omega) h; omega
      · cases h
def stepW (s : ByteArray) (k : Nat) : Option Nat :=
  if atB s k 44 = true then some (k + 1) else if atB s k 40 = true then cmtW s (k + 1) 1 else if atB s k 34 = true then (frontS s k).map (·.2) else some (k + 1)
theorem stepW_lt {s : ByteArray} {k j : Nat} (hk : k < s.size) (h : stepW s k = some j) : k < j ∧ j ≤ s.size := by
  unfold stepW at h
  split at h
  · cases h; omega
  · split at h
    · have := cmtW_le s _ _ _ _ (Nat.le_refl _) (by omega) h; omega
    · split at h
      · rename_i hq
        unfold frontS at h
        rw [if_pos hq] at h
        cases hf : frontW s (k + 1) [] with
        | none => rw [hf] at h; cases h
        | some x =>
          rw [hf] at h
          obtain ⟨v, i⟩ := x
          cases h
          have := frontW_le _ _ _ _ _ rfl hf
          simp only
          omega
      · cases h; omega
def spcS : ByteArray := ⟨#[32, 9]⟩
def endW (s : ByteArray) (b i : Nat) (out : List ByteArray) : List ByteArray := if (trimC (s.extract b i) spcS).size = 0 then out else out ++ [trimC (s.extract b i) spcS]
def splW (s : ByteArray) (k b : Nat) (out : List ByteArray) : Option (List ByteArray) :=
  if _h : k < s.size then
    match _h2 : stepW s k with
    | none => none
    | some j => if atB s k 44 = true then splW s j j (endW s b k out) else splW s j b out
  else some (endW s b s.size out)
termination_by s.size - k
decreasing_by all_goals (have := stepW_lt _h _h2; omega)
theorem splW_none {s : ByteArray} {k b : Nat} {out : List ByteArray} (hk : k < s.size) (h : stepW s k = none) : splW s k b out = none := by
  rw [splW, dif_pos hk]; split
  · rfl
  · rename_i h2; rw [h] at h2; cases h2
theorem splW_some {s : ByteArray} {k b j : Nat} {out : List ByteArray} (hk : k < s.size) (h : stepW s k = some j) : splW s k b out = if atB s k 44 = true then splW s j j (endW s b k out) else splW s j b out := by
  rw [splW, dif_pos hk]; split
  · rename_i h2; rw [h] at h2; cases h2
  · rename_i h2; rw [h] at h2; cases h2; rfl
theorem splW_end {s : ByteArray} {k b : Nat} {out : List ByteArray} (hk : ¬ k < s.size) : splW s k b out = some (endW s b s.size out) := by
  rw [splW, dif_neg hk]
def splitW (s : ByteArray) : Option (List ByteArray) := splW s 0 0 []

section
variable {st : St} {p k rb n b : Nat} {s : ByteArray} {R : AV → St → Prop} {a : AV} {out : List ByteArray}
def splR (s : ByteArray) : AV := match splitW s with
  | some l => .tup [.sl .no 1 (strL l), .i 0]
  | none => .tup [.nilS, .i 2]
theorem endW_len (s : ByteArray) (b i : Nat) (out : List ByteArray) : (endW s b i out).length ≤ out.length + 1 := by
  unfold endW; split <;> simp
end
end Go.Proofs.YtfhodppaelfcfaaDoor
