/- Lines of rules: plain words. No program in sight. -/
import Derived.Test.YtgaidgblihnldaaGreatDoorRu
set_option linter.unusedSimpArgs false
set_option linter.unusedVariables false
set_option maxRecDepth 100000
namespace Go.Proofs.YtgaidgblihnldaaGreatDoor
open Go.RowKit
def kSet : ByteArray := ⟨#[115, 101, 116]⟩
def kAdd : ByteArray := ⟨#[97, 100, 100]⟩
def kRem : ByteArray := ⟨#[114, 101, 109, 111, 118, 101]⟩
def kRen : ByteArray := ⟨#[114, 101, 110, 97, 109, 101]⟩
def kHas : ByteArray := ⟨#[104, 97, 115]⟩
def kLacks : ByteArray := ⟨#[108, 97, 99, 107, 115]⟩
def kIs : ByteArray := ⟨#[105, 115]⟩
def kIf : ByteArray := ⟨#[105, 102]⟩
def kReq : ByteArray := ⟨#[114, 101, 113, 117, 101, 115, 116]⟩
def kRes : ByteArray := ⟨#[114, 101, 115, 112, 111, 110, 115, 101]⟩
/-- blanks, of which there must be one but at the line's ends -/
def gapS (s : ByteArray) (k : Nat) : Option Nat := if tw blkI s k = 0 ∧ k ≠ 0 ∧ k < s.size then none else some (k + tw blkI s k)
def nameS (s : ByteArray) (k : Nat) : Option (ByteArray × Nat) :=
  if tw tokI s k = 0 then none else match gapS s (k + tw tokI s k) with
    | none => none
    | some j => some (s.extract k (k + tw tokI s k), j)
def valueS (s : ByteArray) (k : Nat) : Option (ByteArray × Nat) :=
  match frontS s k with
  | none => none
  | some (v, i) => match gapS s i with
    | none => none
    | some j => some (⟨v.toArray⟩, j)
def partsS (s : ByteArray) (k : Nat) : Option (List Prt × Bool × Nat) :=
  match valueS s k with
  | none => none
  | some (v, j) => if (parseT v).2 = 0 ∨ (parseT v).2 = 3 then some ((parseT v).1, decide ((parseT v).2 = 3), j) else none
abbrev Gd := Int × ByteArray × ByteArray
def guardS (s : ByteArray) (k : Nat) : Option (Gd × Nat) :=
  match nameS s k with
  | none => none
  | some (w, i) => match nameS s i with
    | none => none
    | some (n, j) => if w = kHas then some ((1, n, ⟨#[]⟩), j) else if w = kLacks then some ((2, n, ⟨#[]⟩), j) else if w = kIs then
        (match valueS s j with
        | none => none
        | some (v, j) => some ((3, n, v), j)) else none
abbrev Ac := Int × ByteArray × List Prt × Bool
def setS (z : Int) (s : ByteArray) (k : Nat) : Option (Ac × Nat) := match partsS s k with
  | none => none
  | some (l, b, j) => some ((z, ⟨#[]⟩, l, b), j)
def renS (s : ByteArray) (k : Nat) : Option (Ac × Nat) := match nameS s k with
  | none => none
  | some (t, j) => some ((4, t, [], false), j)
def actS (w : ByteArray) (s : ByteArray) (k : Nat) : Option (Ac × Nat) :=
  if w = kSet then setS 1 s k else if w = kAdd then setS 2 s k else if w = kRem then some ((3, ⟨#[]⟩, [], false), k) else if w = kRen then renS s k else none
def sideS (s : ByteArray) (k : Nat) : Option (Int × Nat) :=
  match nameS s k with
  | none => none
  | some (w, j) => if w = kReq then some (1, j) else if w = kRes then some (2, j) else none
/-- what stands behind a guard -/
def tailS (s : ByteArray) (sd : Int) (g : Gd) (w : ByteArray) (k : Nat) : Option (Rl × Bool) :=
  match nameS s k with
  | none => none
  | some (nm, i) => match actS w s i with
    | none => none
    | some ((z, to, ps, b), j) => if j < s.size then none else some (⟨sd, g.1, g.2.1, g.2.2, z, nm, to, ps⟩, b)
def ruleS (s : ByteArray) : Option (Rl × Bool) :=
  match sideS s (tw blkI s 0) with
  | none => none
  | some (sd, i) => match nameS s i with
    | none => none
    | some (w, j) => if w = kIf then
        (match guardS s j with
        | none => none
        | some (g, k) => match nameS s k with
          | none => none
          | some (w, k) => tailS s sd g w k)
      else tailS s sd (0, ⟨#[]⟩, ⟨#[]⟩) w j
def zeroR : Rl := ⟨0, 0, ⟨#[]⟩, ⟨#[]⟩, 0, ⟨#[]⟩, ⟨#[]⟩, []⟩
def readRl (s : ByteArray) : Rl × Int :=
  match ruleS s with
  | none => (zeroR, 2)
  | some (x, b) => if b = true then (zeroR, 3) else if checkR x = 0 then (x, 0) else (zeroR, checkR x)

theorem gapS_le {s : ByteArray} {k j : Nat} (hk : k ≤ s.size) (h : gapS s k = some j) : k ≤ j ∧ j ≤ s.size := by
  have := tw_le blkI s k hk
  unfold gapS at h
  split at h
  · cases h
  · cases h; omega
theorem nameS_le {s t : ByteArray} {k j : Nat} (hk : k ≤ s.size) (h : nameS s k = some (t, j)) : k < j ∧ j ≤ s.size ∧ t.size ≤ s.size := by
  have h1 := tw_le tokI s k hk
  unfold nameS at h
  split at h
  · cases h
  · rename_i h0
    split at h
    · cases h
    · rename_i j' hg
      cases h
      have := gapS_le (by omega) hg
      refine ⟨by omega, this.2, ?_⟩
      rw [ByteArray.size_extract]; omega
theorem valueS_le {s t : ByteArray} {k j : Nat} (hk : k ≤ s.size) (h : valueS s k = some (t, j)) : k < j ∧ j ≤ s.size ∧ t.size ≤ s.size := by
  unfold valueS at h
  split at h
  · cases h
  · rename_i v i hf
    unfold frontS at hf
    split at hf
    · rename_i h0
      have hk0 : k < s.size := (atB_of h0).1
      have hl := frontW_le _ _ _ _ _ rfl hf
      split at h
      · cases h
      · rename_i j' hg
        cases h
        have := gapS_le (by omega) hg
        refine ⟨by omega, this.2, ?_⟩
        show v.toArray.size ≤ _
        have h9 : ([] : List UInt8).length = 0 := rfl
        rw [List.size_toArray]
        omega
    · cases hf
theorem guardS_le {s : ByteArray} {k j : Nat} {g : Gd} (hk : k ≤ s.size) (h : guardS s k = some (g, j)) : k < j ∧ j ≤ s.size ∧ g.2.1.size ≤ s.size ∧ g.2.2.size ≤ s.size := by
  unfold guardS at h
  split at h
  · cases h
  · rename_i w i h1
    have l1 := nameS_le hk h1
    split at h
    · cases h
    · rename_i n j2 h2
      have l2 := nameS_le l1.2.1 h2
      split at h
      · cases h; exact ⟨by omega, l2.2.1, l2.2.2, Nat.zero_le _⟩
      · split at h
        · cases h; exact ⟨by omega, l2.2.1, l2.2.2, Nat.zero_le _⟩
        · split at h
          · split at h
            · cases h
            · rename_i v j3 h3
              cases h
              have l3 := valueS_le l2.2.1 h3
              exact ⟨by omega, l3.2.1, l2.2.2, l3.2.2⟩
          · cases h
theorem partsS_le {s : ByteArray} {k j : Nat} {l : List Prt} {b : Bool} (hk : k ≤ s.size) (h : partsS s k = some (l, b, j)) : k < j ∧ j ≤ s.size ∧ l.length ≤ 32 ∧ sumT l ≤ s.size := by
  unfold partsS at h
  split at h
  · cases h
  · rename_i v i h1
    have l1 := valueS_le hk h1
    split at h
    · cases h
      have := parseT_len v
      exact ⟨l1.1, l1.2.1, this.1, by omega⟩
    · cases h
theorem actS_le {w s : ByteArray} {k j : Nat} {z : Int} {to : ByteArray} {ps : List Prt} {b : Bool} (hk : k ≤ s.size) (h : actS w s k = some ((z, to, ps, b), j)) : k ≤ j ∧ j ≤ s.size ∧ to.size ≤ s.size ∧ ps.length ≤ 32 ∧ sumT ps ≤ s.size := by
  have set : ∀ y, setS y s k = some ((z, to, ps, b), j) → k ≤ j ∧ j ≤ s.size ∧ to.size ≤ s.size ∧ ps.length ≤ 32 ∧ sumT ps ≤ s.size := by
    intro y h
    unfold setS at h
    split at h
    · cases h
    · rename_i l b' i h1
      cases h
      have := partsS_le hk h1
      exact ⟨by omega, this.2.1, Nat.zero_le _, this.2.2.1, this.2.2.2⟩
  have h0 : sumT [] = 0 := rfl
  unfold actS at h
  split at h
  · exact set _ h
  · split at h
    · exact set _ h
    · split at h
      · cases h
        exact ⟨Nat.le_refl _, hk, Nat.zero_le _, Nat.zero_le _, by rw [h0]; exact Nat.zero_le _⟩
      · split at h
        · unfold renS at h
          split at h
          · cases h
          · rename_i t i h1
            cases h
            have := nameS_le hk h1
            exact ⟨by omega, this.2.1, this.2.2, Nat.zero_le _, by rw [h0]; exact Nat.zero_le _⟩
        · cases h
theorem sideS_le {s : ByteArray} {k j : Nat} {d : Int} (hk : k ≤ s.size) (h : sideS s k = some (d, j)) : k < j ∧ j ≤ s.size := by
  unfold sideS at h
  split at h
  · cases h
  · rename_i w i h1
    have := nameS_le hk h1
    split at h
    · cases h; exact ⟨this.1, this.2.1⟩
    · split at h
      · cases h; exact ⟨this.1, this.2.1⟩
      · cases h
theorem tailS_ok {s : ByteArray} {sd : Int} {g : Gd} {w : ByteArray} {k : Nat} {x : Rl} {b : Bool} (hk : k ≤ s.size) (hs : s.size ≤ 100000) (h1 : g.2.1.size ≤ s.size) (h2 : g.2.2.size ≤ s.size) (h : tailS s sd g w k = some (x, b)) : x.Ok := by
  unfold tailS at h
  split at h
  · cases h
  · rename_i nm i h3
    have l3 := nameS_le hk h3
    split at h
    · cases h
    · rename_i z to ps b' j h4
      have l4 := actS_le l3.2.1 h4
      split at h
      · cases h
      · cases h
        exact ⟨by show g.2.1.size ≤ _; omega, by show g.2.2.size ≤ _; omega, by show nm.size ≤ _; omega, by show to.size ≤ _; omega, by show ps.length ≤ _; omega, by show sumT ps ≤ _; omega⟩
theorem ruleS_ok {s : ByteArray} {x : Rl} {b : Bool} (hs : s.size ≤ 100000) (h : ruleS s = some (x, b)) : x.Ok := by
  have h0 := tw_le blkI s 0 (Nat.zero_le _)
  unfold ruleS at h
  split at h
  · cases h
  · rename_i sd i h1
    have l1 := sideS_le (by omega) h1
    split at h
    · cases h
    · rename_i w j h2
      have l2 := nameS_le l1.2 h2
      split at h
      · split at h
        · cases h
        · rename_i g k h3
          have l3 := guardS_le l2.2.1 h3
          split at h
          · cases h
          · rename_i w' k' h4
            have l4 := nameS_le l3.2.1 h4
            exact tailS_ok l4.2.1 hs l3.2.2.1 l3.2.2.2 h
      · exact tailS_ok l2.2.1 hs (Nat.zero_le _) (Nat.zero_le _) h
theorem checkR_or (r : Rl) : checkR r = 0 ∨ checkR r = 9 := by unfold checkR; split <;> simp
end Go.Proofs.YtgaidgblihnldaaGreatDoor
