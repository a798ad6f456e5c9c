/- How bodies end: plain words. No statement of its own. -/
import Derived.Test.YtopmflkeohicjaaDoorMs
import Derived.Test.YtopmflkeohicjaaDoorN1
set_option maxRecDepth 100000
namespace Go.Proofs.YtopmflkeohicjaaDoor
open Go.RowKit
def num1 (t : ByteArray) : Option Nat := if (readG 10 t mostB).2 = 0 then some (readG 10 t mostB).1.toNat else none
theorem num1_some {t : ByteArray} {n : Nat} (h : num1 t = some n) : (readG 10 t mostB).2 = 0 ∧ (readG 10 t mostB).1 = n ∧ n ≤ mostB := by
  unfold num1 at h
  split at h
  · rename_i h0
    cases h
    refine ⟨h0, ?_⟩
    unfold readG at h0 ⊢
    split
    · exact ⟨rfl, Nat.zero_le _⟩
    · split
      · rename_i h1 h2
        rw [if_neg h1, if_pos h2] at h0
        cases h0
      · exact ⟨rfl, by show valN 10 (digV t) ≤ mostB; omega⟩
  · cases h
theorem num1_none {t : ByteArray} (h : num1 t = none) : (readG 10 t mostB).2 ≠ 0 := by
  unfold num1 at h
  split at h
  · cases h
  · assumption
/-- the numbers of elements, and of those of further lists -/
def restN : List ByteArray → Option (List Nat) → Option (List Nat)
  | [], o => o
  | t :: r, o => match num1 t with
    | none => none
    | some n => (restN r o).map (n :: ·)
def numsW : List ByteArray → Option (List Nat)
  | [] => some []
  | x :: r => match splitW x with
    | none => none
    | some p => restN p (numsW r)
theorem numsW_at {l : List ByteArray} {k : Nat} (h : k < l.length) : numsW (l.drop k) = match splitW l[k] with
    | none => none
    | some p => restN p (numsW (l.drop (k + 1))) := by
  rw [List.drop_eq_getElem_cons h]; rfl
theorem restN_at {p : List ByteArray} {j : Nat} (h : j < p.length) (o : Option (List Nat)) : restN (p.drop j) o = match num1 p[j] with
    | none => none
    | some n => (restN (p.drop (j + 1)) o).map (n :: ·) := by
  rw [List.drop_eq_getElem_cons h]; rfl
abbrev Fr3 := Int × Int × Int
def errF (e : Int) : Fr3 := (0, 0, e)
/-- the one number that all are -/
def lenOf : Option (List Nat) → Fr3
  | none => errF 28
  | some [] => errF 28
  | some (n :: r) => if ∀ x ∈ r, x = n then (2, n, 0) else errF 28
theorem lenOf_bad {n m : Nat} {r : List Nat} (o : Option (List Nat)) (h : m ≠ n) : lenOf (o.map ((n :: r ++ [m]) ++ ·)) = errF 28 := by
  cases o with
  | none => rfl
  | some q =>
    show (if _ then _ else _) = _
    rw [if_neg]
    intro hc
    exact h (hc m (by simp))
theorem lenOf_bad' {q : List Nat} {o : Option (List Nat)} {pre : List Nat} (h : ¬ ∀ x ∈ pre, ∀ y ∈ pre, x = y) : lenOf (o.map (pre ++ ·)) = errF 28 := by
  cases o with
  | none => rfl
  | some q =>
    cases pre with
    | nil => exact absurd (by simp) h
    | cons n r =>
      show (if _ then _ else _) = _
      rw [if_neg]
      intro hc
      refine h fun x hx y hy => ?_
      have e : ∀ z ∈ n :: r, z = n := fun z hz => by
        rcases List.mem_cons.1 hz with rfl | hz
        · rfl
        · exact hc z (by simp [hz])
      rw [e x hx, e y hy]
def chkS : ByteArray := ⟨#[99, 104, 117, 110, 107, 101, 100]⟩
def teS : ByteArray := ⟨#[116, 114, 97, 110, 115, 102, 101, 114, 45, 101, 110, 99, 111, 100, 105, 110, 103]⟩
def clS : ByteArray := ⟨#[99, 111, 110, 116, 101, 110, 116, 45, 108, 101, 110, 103, 116, 104]⟩
/-- whether the one coding is chunked -/
def codW (l : List ByteArray) (minor : Int) : Fr3 := match tokW l with
  | some [x] => if minor ≠ 0 ∧ foldB x = foldB chkS then (3, 0, 0) else errF 30
  | _ => errF 30
def ofW (l : List Fld) (minor none : Int) : Fr3 :=
  if valsW teS l = [] then (if valsW clS l = [] then (none, 0, 0) else lenOf (numsW (valsW clS l)))
  else if valsW clS l = [] then codW (valsW teS l) minor else errF 29
abbrev frA (r : Fr3) : AV := .tup [.agg [.i r.1, .i r.2.1], .i r.2.2]
end Go.Proofs.YtopmflkeohicjaaDoor
