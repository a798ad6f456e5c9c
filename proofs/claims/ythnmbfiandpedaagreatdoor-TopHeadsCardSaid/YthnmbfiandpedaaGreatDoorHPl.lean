/- Plain words on bytes, digits, quoted texts: no program in sight. -/
import Derived.WalkKit
import Derived.Lib.Bytealg
import Derived.Lib.Strings
import Derived.Sort.Walk0
set_option linter.unusedSimpArgs false
set_option linter.unusedVariables false
set_option maxRecDepth 100000
namespace Go.Proofs.YthnmbfiandpedaaGreatDoor
open Go.RowKit

def lowI (n : Int) : Int := if 65 ≤ n ∧ n ≤ 90 then n + 32 else n
def digI (n : Int) : Bool := decide (48 ≤ n) && decide (n ≤ 57)
def alpI (n : Int) : Bool := decide (97 ≤ lowI n) && decide (lowI n ≤ 122)
def blkI (n : Int) : Bool := n == 32 || n == 9
def visI (n : Int) : Bool := decide (32 < n) && decide (n < 127)
def tokS : List UInt8 := [33, 35, 36, 37, 38, 39, 42, 43, 45, 46, 94, 95, 96, 124, 126]
def tokI (n : Int) : Bool := alpI n || digI n || decide (0 ≤ Lib.indexByte tokS n.toNat.toUInt8)
def valI (n : Int) : Bool := visI n || blkI n || decide (127 < n)
theorem lowI_b (n : Int) (h0 : 0 ≤ n) (h1 : n ≤ 255) : 0 ≤ lowI n ∧ lowI n ≤ 255 := by unfold lowI; split <;> omega
def allI (p : Int → Bool) (s : ByteArray) : Bool := s.data.toList.all fun b => p (b.toNat : Int)
theorem blen (s : ByteArray) : s.data.toList.length = s.size := by rw [Array.length_toList]; rfl
theorem allI_true {p : Int → Bool} {s : ByteArray} (h : ∀ k (hk : k < s.size), p (s[k].toNat : Int) = true) : allI p s = true := by
  unfold allI
  rw [List.all_eq_true]
  intro x hx
  obtain ⟨k, hk, rfl⟩ := List.getElem_of_mem hx
  exact h k (by rw [← blen]; exact hk)
theorem allI_false {p : Int → Bool} {s : ByteArray} {k : Nat} (hk : k < s.size) (h : p (s[k].toNat : Int) = false) : allI p s = false := by
  unfold allI
  rw [List.all_eq_false]
  exact ⟨s[k], List.mem_iff_getElem.2 ⟨k, by rw [blen]; exact hk, rfl⟩, by simp [h]⟩
def ARel (p : Int → Bool) (s : ByteArray) (k : Nat) : Prop := ∀ j (hj : j < s.size), j < k → p (s[j].toNat : Int) = true
def tokB (s : ByteArray) : Bool := decide (0 < s.size) && allI tokI s
theorem ext_size (s : ByteArray) (a b : Nat) (h : b ≤ s.size) : (s.extract a b).size = b - a := by
  rw [ByteArray.size_extract]; omega
/-- how many bytes from a place on are so -/
def tw (q : Int → Bool) (s : ByteArray) (k : Nat) : Nat := ((s.data.toList.drop k).takeWhile fun b => q (b.toNat : Int)).length
theorem takeWhile_len {α : Type} (q : α → Bool) : ∀ (l : List α) (j : Nat), (∀ i (hi : i < l.length), i < j → q l[i] = true) → (j ≤ l.length) → (∀ (hj : j < l.length), q l[j] = false) → (l.takeWhile q).length = j
  | [], j, _, h2, _ => by simp at h2; simp [h2]
  | x :: r, 0, _, _, h3 => by have := h3 (by simp); simp at this; simp [this]
  | x :: r, j + 1, h1, h2, h3 => by
    have hx : q x = true := h1 0 (by simp) (by omega)
    rw [List.takeWhile_cons_of_pos hx, List.length_cons]
    congr 1
    exact takeWhile_len q r j (fun i hi hij => h1 (i + 1) (by simpa using hi) (by omega)) (by simpa using h2) (fun hj => h3 (by simpa using hj))
theorem tw_eq {q : Int → Bool} {s : ByteArray} {k j : Nat} (h1 : ∀ i (hi : k + i < s.size), i < j → q (s[k + i].toNat : Int) = true) (h2 : k + j ≤ s.size) (h3 : ∀ (hj : k + j < s.size), q (s[k + j].toNat : Int) = false) : tw q s k = j := by
  unfold tw
  have hl := blen s
  refine takeWhile_len _ _ _ (fun i hi hij => ?_) ?_ (fun hj => ?_)
  · rw [List.getElem_drop]
    rw [List.length_drop] at hi
    exact h1 i (by omega) hij
  · rw [List.length_drop]; omega
  · rw [List.getElem_drop]
    rw [List.length_drop] at hj
    exact h3 (by omega)
theorem tw_at {q : Int → Bool} {s : ByteArray} {k m : Nat} (h1 : ∀ i (hi : i < s.size), k ≤ i → i < m → q (s[i].toNat : Int) = true) (h0 : k ≤ m) (h2 : m ≤ s.size) (h3 : ∀ (hj : m < s.size), q (s[m].toNat : Int) = false) : k + tw q s k = m := by
  obtain ⟨j, rfl⟩ : ∃ j, m = k + j := ⟨m - k, by omega⟩
  rw [tw_eq (j := j) (fun i hi hij => h1 (k + i) hi (by omega) (by omega)) h2 h3]
theorem tw_le (q : Int → Bool) (s : ByteArray) (k : Nat) (hk : k ≤ s.size) : k + tw q s k ≤ s.size := by
  unfold tw
  have := List.takeWhile_prefix (fun b : UInt8 => q (b.toNat : Int)) (l := s.data.toList.drop k)
  have h2 := this.length_le
  rw [List.length_drop, blen] at h2
  omega
def hexI (n : Int) : Bool := digI n || (decide (97 ≤ lowI n) && decide (lowI n ≤ 102))
def worthI (n : Int) : Int := if digI n then n - 48 else lowI n - 87
def rdL (base most : Int) : List UInt8 → Int → Int × Int
  | [], n => (n, 0)
  | b :: r, n => if most < worthI (b.toNat : Int) ∨ (most - worthI (b.toNat : Int)) / base < n then (0, 7) else rdL base most r (n * base + worthI (b.toNat : Int))
theorem allI_at {p : Int → Bool} {s : ByteArray} (h : allI p s = true) (k : Nat) (hk : k < s.size) : p (s[k].toNat : Int) = true :=
  List.all_eq_true.1 h s[k] (List.mem_iff_getElem.2 ⟨k, by rw [blen]; exact hk, rfl⟩)
def valN (B : Nat) (l : List Nat) : Nat := l.foldl (fun n d => n * B + d) 0
theorem val_from (B : Nat) (l : List Nat) (n : Nat) : l.foldl (fun n d => n * B + d) n = n * B ^ l.length + valN B l := by
  induction l generalizing n with
  | nil => simp [valN]
  | cons d r ih =>
    unfold valN
    rw [List.foldl_cons, List.foldl_cons, ih, ih (0 * B + d), List.length_cons, Nat.pow_succ, Nat.add_mul, Nat.zero_mul, Nat.zero_add, Nat.mul_assoc, Nat.mul_comm B, Nat.add_assoc]
def strip (l : List Nat) : List Nat := if l.dropWhile (· == 0) = [] then [0] else l.dropWhile (· == 0)
theorem rdL_val (B most : Nat) (hB : 0 < B) : ∀ (l : List UInt8) (n : Nat), (∀ b ∈ l, 0 ≤ worthI (b.toNat : Int)) → n ≤ most →
    rdL B most l n = if most < (l.map fun b => (worthI (b.toNat : Int)).toNat).foldl (fun n d => n * B + d) n then (0, 7) else ((((l.map fun b => (worthI (b.toNat : Int)).toNat).foldl (fun n d => n * B + d) n : Nat) : Int), 0)
  | [], n, _, hn => by
    rw [List.map_nil, List.foldl_nil, if_neg (by omega)]; rfl
  | b :: r, n, h, hn => by
    have hb := h b (.head _)
    obtain ⟨d, hd⟩ := Int.eq_ofNat_of_zero_le hb
    have ih := rdL_val B most hB r
    rw [List.map_cons, List.foldl_cons]
    unfold rdL
    rw [hd, Int.toNat_natCast]
    have hc : ((most : Int) < (d : Int) ∨ ((most : Int) - (d : Int)) / (B : Int) < (n : Int)) ↔ most < n * B + d := by
      by_cases h1 : most < d
      · exact ⟨fun _ => by omega, fun _ => .inl (by omega)⟩
      · rw [show ((most : Int) - (d : Int)) = ((most - d : Nat) : Int) from by omega, ← Int.natCast_ediv]
        have := Nat.div_lt_iff_lt_mul (x := most - d) (y := n) hB
        constructor
        · rintro (h | h)
          · omega
          · have := this.1 (by omega); omega
        · intro h; exact .inr (by have := this.2 (by omega); omega)
    by_cases h1 : most < n * B + d
    · rw [if_pos (hc.2 h1), if_pos]
      refine Nat.lt_of_lt_of_le h1 ?_
      rw [val_from, List.length_map]
      have h3 : (n * B + d) * 1 ≤ (n * B + d) * B ^ r.length := Nat.mul_le_mul_left _ (Nat.pow_pos hB)
      rw [Nat.mul_one] at h3
      exact Nat.le_trans h3 (Nat.le_add_right _ _)
    · rw [if_neg (fun h => h1 (hc.1 h))]
      have := ih (n * B + d) (fun x hx => h x (.tail _ hx)) (by omega)
      rw [← this]
      congr 1
def lowU (b : UInt8) : UInt8 := (lowI (b.toNat : Int)).toNat.toUInt8
def foldL (l : List UInt8) : List UInt8 := l.map lowU
def foldB (s : ByteArray) : ByteArray := ⟨(foldL s.data.toList).toArray⟩
theorem lowU_nat (b : UInt8) : ((lowU b).toNat : Int) = lowI (b.toNat : Int) := by
  have h := lowI_b (b.toNat : Int) (by omega) (by have := b.toNat_lt; omega)
  unfold lowU
  rw [show (lowI (b.toNat : Int)).toNat.toUInt8.toNat = (lowI (b.toNat : Int)).toNat from by show (UInt8.ofNat _).toNat = _; rw [UInt8.toNat_ofNat']; omega]
  omega
/-- a digit of the base's: a digit or a letter, worth less than the base. -/
def isD (B : Nat) (n : Int) : Bool := hexI n && decide (worthI n < B)
def digV (s : ByteArray) : List Nat := s.data.toList.map fun b => (worthI (b.toNat : Int)).toNat
def readG (B : Nat) (s : ByteArray) (most : Nat) : Int × Int :=
  if s.size = 0 ∨ allI (isD B) s = false then (0, 2) else if most < valN B (digV s) then (0, 7) else ((valN B (digV s) : Nat), 0)
def atB (s : ByteArray) (k : Nat) (b : Int) : Bool := (s.data.toList[k]?).any fun x => (x.toNat : Int) == b
theorem atB_lt {s : ByteArray} {k : Nat} (h : k < s.size) (b : Int) : atB s k b = ((s[k].toNat : Int) == b) := by
  unfold atB
  rw [List.getElem?_eq_getElem (by rw [blen]; exact h)]
  rfl
theorem atB_ge {s : ByteArray} {k : Nat} (h : s.size ≤ k) (b : Int) : atB s k b = false := by
  unfold atB
  rw [List.getElem?_eq_none (by rw [blen]; exact h)]
  rfl
theorem at_lt {s : ByteArray} {k : Nat} (h : k < s.size) : s.data.toList[k]? = some s[k] := by
  rw [List.getElem?_eq_getElem (by rw [blen]; exact h)]
  rfl
def nxt (s : ByteArray) (k : Nat) : Option (UInt8 × Nat) :=
  match s.data.toList[if atB s k 92 = true then k + 1 else k]? with
  | some b => if valI (b.toNat : Int) = true then some (b, (if atB s k 92 = true then k + 1 else k) + 1) else none
  | none => none
theorem nxt_lt {s : ByteArray} {k j : Nat} {b : UInt8} (h : nxt s k = some (b, j)) : k < j ∧ j ≤ s.size := by
  unfold nxt at h
  generalize hq : (if atB s k 92 = true then k + 1 else k) = i at h
  have hki : k ≤ i := by rw [← hq]; split <;> omega
  by_cases hi : i < s.size
  · rw [at_lt hi] at h
    simp only at h
    split at h
    · simp at h; omega
    · cases h
  · rw [List.getElem?_eq_none (by rw [blen]; omega)] at h
    cases h
/-- what a quoted text stands for, from behind its first quote on; and where it ends. -/
def frontW (s : ByteArray) (k : Nat) (acc : List UInt8) : Option (List UInt8 × Nat) :=
  if atB s k 34 = true then some (acc, k + 1) else
  match _h : nxt s k with
  | none => none
  | some (b, j) => frontW s j (acc ++ [b])
termination_by s.size - k
decreasing_by have := nxt_lt _h; omega
theorem frontW_end {s : ByteArray} {k : Nat} (acc : List UInt8) (h : atB s k 34 = true) : frontW s k acc = some (acc, k + 1) := by rw [frontW, if_pos h]
theorem frontW_none {s : ByteArray} {k : Nat} (acc : List UInt8) (h : atB s k 34 = false) (hn : nxt s k = none) : frontW s k acc = none := by
  rw [frontW, if_neg (by rw [h]; decide)]
  split
  · rfl
  · rename_i b j h2; rw [hn] at h2; cases h2
theorem frontW_some {s : ByteArray} {k j : Nat} {b : UInt8} (acc : List UInt8) (h : atB s k 34 = false) (hn : nxt s k = some (b, j)) : frontW s k acc = frontW s j (acc ++ [b]) := by
  rw [frontW, if_neg (by rw [h]; decide)]
  split
  · rename_i h2; rw [hn] at h2; cases h2
  · rename_i b' j' h2; rw [hn] at h2; cases h2; rfl
def frontS (s : ByteArray) (k : Nat) : Option (List UInt8 × Nat) := if atB s k 34 = true then frontW s (k + 1) [] else none
theorem frontW_le {s : ByteArray} : ∀ (m k : Nat) (acc v : List UInt8) (j : Nat), s.size - k = m → frontW s k acc = some (v, j) → k < j ∧ j ≤ s.size ∧ v.length + k + 1 ≤ acc.length + j := by
  intro m
  induction m using Nat.strongRecOn with
  | _ m ih =>
    intro k acc v j hm h
    cases hq : atB s k 34
    · cases hn : nxt s k with
      | none => rw [frontW_none acc hq hn] at h; cases h
      | some bj =>
        obtain ⟨b, i⟩ := bj
        rw [frontW_some acc hq hn] at h
        have := nxt_lt hn
        have := ih (s.size - i) (by omega) i (acc ++ [b]) v j rfl h
        simp at this
        omega
    · rw [frontW_end acc hq] at h
      simp at h
      have : k < s.size := by
        apply Decidable.byContradiction
        intro hk
        rw [atB_ge (by omega)] at hq
        cases hq
      obtain ⟨rfl, rfl⟩ := h
      omega
def mostB : Nat := 1099511627776
theorem ext1 (s : ByteArray) (k : Nat) (hk : k < s.size) : s.extract k (k + 1) = ⟨#[s[k]]⟩ := by
  apply ByteArray.ext
  apply Array.ext
  · have : s.data.size = s.size := rfl
    simp; omega
  · intro i h1 h2
    have : i = 0 := by simp at h2; omega
    subst this
    simp
    rfl
theorem inL {a b : ByteArray} (h : a.data.toList = b.data.toList) : a = b := ByteArray.ext (Array.toList_inj.1 h)
abbrev Fld := ByteArray × ByteArray
theorem app_l (a b : ByteArray) : (a ++ b).data.toList = a.data.toList ++ b.data.toList := by rw [ByteArray.data_append]; simp
end Go.Proofs.YthnmbfiandpedaaGreatDoor
