/- Lines of rules, as the document reads them. No statement of its own. -/
import Derived.Test.YticbonkojpabnaaGreatDoorRRpz
import Derived.Test.YticbonkojpabnaaGreatDoorRRwy
import Derived.Test.YticbonkojpabnaaGreatDoorRRuR
import Derived.Test.YticbonkojpabnaaGreatDoorRSm
import Derived.Test.YticbonkojpabnaaGreatDoorRSb
import Derived.Test.YticbonkojpabnaaGreatDoorRSp
import Derived.Test.YticbonkojpabnaaGreatDoorRTmC
import Derived.Test.YticbonkojpabnaaGreatDoorRRuF
set_option linter.unusedSimpArgs false
set_option linter.unusedVariables false
set_option maxRecDepth 100000
namespace Go.Proofs.YticbonkojpabnaaGreatDoor
open Go.RowKit
theorem Acc.argW {n : Nat} {tk : List Nat} {sz : Nat} {a : AV} {es : List (List AV)} (h : Acc n tk sz a es) : argW a (.sl .no sz es) := by
 cases h with
 | nil => exact .inr ⟨rfl, sz, rfl⟩
 | own t e es h1 h2 => exact .inl (.inl ⟨rfl, rfl⟩)
attribute [local irreducible] vcApp
/-- what is known at the head of the words' loop -/
def WInv (s : ByteArray) (acc : List Wd) (i : Nat) : Prop :=
 (match gapS s i with
 | none => (acc, false)
 | some j => (acc ++ (wordsW s j).1, (wordsW s j).2)) = wordsR s
theorem WInv.start (s : ByteArray) : WInv s [] 0 := by
 unfold WInv
 have : gapS s 0 = some (tw blkI s 0) := by unfold gapS; rw [if_neg (fun hh => hh.2.1 rfl), Nat.zero_add]
 rw [this]
 rfl
theorem WInv.next {s : ByteArray} {acc : List Wd} {i j e : Nat} {t : ByteArray} (h : WInv s acc i) (hg : gapS s i = some j) (hj : j < s.size) (hw : wordS s j = some (t, e)) : WInv s (acc ++ [(t, atB s j 34)]) e := by
 unfold WInv at h ⊢
 rw [hg] at h
 simp only at h
 rw [<- h]
 cases hg2 : gapS s e with
 | none => rw [wordsW_gap hj hw hg2]
 | some j2 =>
  rw [wordsW_some hj hw hg2]
  simp
theorem retV {us vs : List AV} {r : AV} (h : r = .tup us) (hw : ArgsW us vs) : resV r (.tup vs) := .inr ⟨us, vs, h, rfl, hw⟩
theorem zeroR_ok : zeroR.Ok := ⟨Nat.zero_le _, Nat.zero_le _, Nat.zero_le _, Nat.zero_le _, Nat.zero_le _, Nat.zero_le _⟩
theorem readRl_ok {s : ByteArray} (hs : s.size <= 100000) : (readRl s).1.Ok := by
 unfold readRl
 cases h : ruleS s with
 | none => exact zeroR_ok
 | some y =>
  obtain ⟨x, b⟩ := y
  have := ruleS_ok hs h
  simp only
  split
  ·exact zeroR_ok
  ·split
   ·exact this
   ·exact zeroR_ok
theorem readRl_check {s : ByteArray} (h : (readRl s).2 = 0) : checkR (readRl s).1 = 0 := by
 unfold readRl at h ⊢
 cases hr : ruleS s with
 | none => rw [hr] at h; cases h
 | some y =>
  obtain ⟨x, b⟩ := y
  rw [hr] at h
  simp only at h ⊢
  split at h
  ·cases h
  ·rename_i hb
   rw [if_neg hb]
   split at h
   ·rename_i hc; rw [if_pos hc]; exact hc
   ·rename_i hc; exact absurd h hc
end Go.Proofs.YticbonkojpabnaaGreatDoor
