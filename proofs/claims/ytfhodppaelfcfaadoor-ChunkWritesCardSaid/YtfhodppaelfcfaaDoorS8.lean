/- Lists behind commas: appended to, the program and the document. No statement of its own. -/
import Derived.Test.YtfhodppaelfcfaaDoorS6
set_option maxRecDepth 100000
namespace Go.Proofs.YtfhodppaelfcfaaDoor
open Go.RowKit
theorem blk_c (b : UInt8) : [32, 9].contains b = blkI (b.toNat : Int) := by
  have : ∀ m : Nat, m < 256 → [32, 9].contains (UInt8.ofNat m) = blkI (m : Int) := by decide +kernel
  have := this b.toNat b.toNat_lt
  rwa [UInt8.ofNat_toNat] at this
def bcI (n : Int) : Bool := blkI n || n == 44
theorem bc_c (b : UInt8) : [32, 9, 44].contains b = bcI (b.toNat : Int) := by
  have : ∀ m : Nat, m < 256 → [32, 9, 44].contains (UInt8.ofNat m) = bcI (m : Int) := by decide +kernel
  have := this b.toNat b.toNat_lt
  rwa [UInt8.ofNat_toNat] at this
def bcS : ByteArray := ⟨#[32, 9, 44]⟩
theorem dropWhile_all {α : Type} {q : α → Bool} : ∀ {l : List α}, (∀ x ∈ l, q x = true) → l.dropWhile q = []
  | [], _ => rfl
  | x :: r, h => by rw [List.dropWhile_cons_of_pos (h x (.head _))]; exact dropWhile_all fun y hy => h y (.tail _ hy)
theorem dropWhile_nil {α : Type} {q : α → Bool} : ∀ {l : List α}, l.dropWhile q = [] → ∀ x ∈ l, q x = true
  | [], _, x, hx => by simp at hx
  | y :: r, h, x, hx => by
    cases hq : q y with
    | true =>
      rw [List.dropWhile_cons_of_pos hq] at h
      rcases List.mem_cons.1 hx with rfl | hx
      · exact hq
      · exact dropWhile_nil h x hx
    | false => rw [List.dropWhile_cons_of_neg (by simp [hq])] at h; cases h
theorem trimS_nil (l cs : List UInt8) : Lib.trimS l cs = [] ↔ ∀ x ∈ l, cs.contains x = true := by
  unfold Lib.trimS Lib.trimLeftS Lib.trimRightS
  constructor
  · intro h x hx
    cases hq : cs.contains x with
    | true => rfl
    | false =>
      have h1 : x ∈ (l.reverse.dropWhile (cs.contains ·)).reverse := by
        rw [List.mem_reverse]
        have := List.mem_reverse.2 hx
        rw [← List.takeWhile_append_dropWhile (p := (cs.contains ·)) (l := l.reverse)] at this
        rcases List.mem_append.1 this with h2 | h2
        · have := List.all_eq_true.1 (List.all_takeWhile (p := (cs.contains ·)) (l := l.reverse)) x h2
          rw [hq] at this; cases this
        · exact h2
      have := dropWhile_nil h x h1
      rw [hq] at this; cases this
  · intro h
    rw [dropWhile_all (l := l.reverse) (fun x hx => h x (List.mem_reverse.1 hx))]
    rfl
theorem trimC_zero (s : ByteArray) : (trimC s bcS).size = 0 ↔ allI bcI s = true := by
  have e : (trimC s bcS).size = (Lib.trimS s.data.toList [32, 9, 44]).length := by unfold trimC; show (Array.size _) = _; rw [List.size_toArray]; rfl
  rw [e, List.length_eq_zero_iff, trimS_nil]
  unfold allI
  rw [List.all_eq_true]
  exact ⟨fun h x hx => (bc_c x).symm.trans (h x hx), fun h x hx => (bc_c x).trans (h x hx)⟩
theorem trimRC_at {s : ByteArray} {m : Nat} (hm : m < s.size) (h1 : ∀ j (hj : j < s.size), m < j → blkI (s[j].toNat : Int) = true) (h2 : blkI (s[m].toNat : Int) = false) : trimRC s spcS = s.extract 0 (m + 1) := by
  apply inL
  rw [exL, List.drop_zero]
  show Lib.trimRightS s.data.toList [32, 9] = _
  unfold Lib.trimRightS
  have hl := blen s
  have hsp : s.data.toList = s.data.toList.take (m + 1) ++ s.data.toList.drop (m + 1) := (List.take_append_drop _ _).symm
  conv => lhs; rw [hsp]
  rw [List.reverse_append, List.dropWhile_append_of_pos (fun x hx => by
    rw [List.mem_reverse] at hx
    obtain ⟨j, hj, rfl⟩ := List.getElem_of_mem hx
    rw [List.length_drop] at hj
    rw [List.getElem_drop, blk_c]
    exact h1 (m + 1 + j) (by omega) (by omega))]
  rw [List.take_add_one, List.getElem?_eq_getElem (by omega)]
  simp only [Option.toList, List.reverse_append, List.reverse_cons, List.reverse_nil, List.nil_append, List.cons_append]
  rw [List.dropWhile_cons_of_neg (by rw [blk_c]; rw [show s.data.toList[m] = s[m] from rfl, h2]; decide)]
  simp
theorem joinC_cons {sep x : ByteArray} {l : List ByteArray} (h : l ≠ []) : joinC sep (x :: l) = x ++ sep ++ joinC sep l := by
  apply inL
  unfold joinC
  rw [ByteArray.data_append, ByteArray.data_append]
  simp only [Array.toList_append, List.map_cons]
  cases l with
  | nil => exact absurd rfl h
  | cons y r =>
    rw [List.map_cons, Lib.join_cons, Lib.join_cons]
    simp [Lib.joinTail]
end Go.Proofs.YtfhodppaelfcfaaDoor
