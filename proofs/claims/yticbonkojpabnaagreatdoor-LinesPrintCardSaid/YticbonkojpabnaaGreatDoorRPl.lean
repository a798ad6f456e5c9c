/- Plain words on bytes, digits, quoted texts: no program in sight. -/
import Derived.WalkKit
import Derived.Lib.Bytealg
import Derived.Lib.Strings
import Derived.Sort.Walk0
set_option linter.unusedSimpArgs false
set_option linter.unusedVariables false
set_option maxRecDepth 100000
namespace Go.Proofs.YticbonkojpabnaaGreatDoor
open Go.RowKit

def lowI (n : Int) : Int := if 65 <= n /\ n <= 90 then n + 32 else n
def digI (n : Int) : Bool := decide (48 <= n) && decide (n <= 57)
def alpI (n : Int) : Bool := decide (97 <= lowI n) && decide (lowI n <= 122)
def blkI (n : Int) : Bool := n == 32 || n == 9
def visI (n : Int) : Bool := decide (32 < n) && decide (n < 127)
def tokS : List UInt8 := [33, 35, 36, 37, 38, 39, 42, 43, 45, 46, 94, 95, 96, 124, 126]
def tokI (n : Int) : Bool := alpI n || digI n || decide (0 <= Lib.indexByte tokS n.toNat.toUInt8)
def valI (n : Int) : Bool := visI n || blkI n || decide (127 < n)
theorem lowI_b (n : Int) (h0 : 0 <= n) (h1 : n <= 255) : 0 <= lowI n /\ lowI n <= 255 := by unfold lowI; split <;> omega
def allI (p : Int -> Bool) (s : ByteArray) : Bool := s.data.toList.all fun b => p (b.toNat : Int)
theorem blen (s : ByteArray) : s.data.toList.length = s.size := by rw [Array.length_toList]; rfl
theorem bget (s : ByteArray) (k : Nat) (h : k < s.size) : s.data.toList[k]'(by rw [blen]; exact h) = s[k] := rfl
theorem allI_true {p : Int -> Bool} {s : ByteArray} (h : ∀ k (hk : k < s.size), p (s[k].toNat : Int) = true) : allI p s = true := by
 unfold allI
 rw [List.all_eq_true]
 intro x hx
 obtain ⟨k, hk, rfl⟩ := List.getElem_of_mem hx
 exact h k (by rw [<- blen]; exact hk)
theorem allI_false {p : Int -> Bool} {s : ByteArray} {k : Nat} (hk : k < s.size) (h : p (s[k].toNat : Int) = false) : allI p s = false := by
 unfold allI
 rw [List.all_eq_false]
 exact ⟨s[k], List.mem_iff_getElem.2 ⟨k, by rw [blen]; exact hk, rfl⟩, by simp [h]⟩
def ARel (p : Int -> Bool) (s : ByteArray) (k : Nat) : Prop := ∀ j (hj : j < s.size), j < k -> p (s[j].toNat : Int) = true
def tokB (s : ByteArray) : Bool := decide (0 < s.size) && allI tokI s
def inI (l : ByteArray) (n : Int) : Bool := l.data.toList.any fun b => (b.toNat : Int) == n
theorem inI_true {l : ByteArray} {n : Int} {k : Nat} (hk : k < l.size) (h : ((l[k].toNat : Int) == n) = true) : inI l n = true := by
 unfold inI
 rw [List.any_eq_true]
 exact ⟨l[k], List.mem_iff_getElem.2 ⟨k, by rw [blen]; exact hk, rfl⟩, h⟩
theorem inI_false {l : ByteArray} {n : Int} (h : ∀ k (hk : k < l.size), ((l[k].toNat : Int) == n) = false) : inI l n = false := by
 unfold inI
 rw [List.any_eq_false]
 intro x hx
 obtain ⟨k, hk, rfl⟩ := List.getElem_of_mem hx
 have := h k (by rw [<- blen]; exact hk)
 intro e
 rw [beq_eq_false_iff_ne] at this
 exact this (beq_iff_eq.1 e)
def tokC : ByteArray := ⟨#[97, 98, 99, 100, 101, 102, 103, 104, 105, 106, 107, 108, 109, 110, 111, 112, 113, 114, 115, 116, 117, 118, 119, 120, 121, 122, 65, 66, 67, 68, 69, 70, 71, 72, 73, 74, 75, 76, 77, 78, 79, 80, 81, 82, 83, 84, 85, 86, 87, 88, 89, 90, 48, 49, 50, 51, 52, 53, 54, 55, 56, 57, 33, 35, 36, 37, 38, 39, 42, 43, 45, 46, 94, 95, 96, 124, 126]⟩
theorem tokC_eq : ∀ m : Nat, m < 256 -> inI tokC (m : Int) = tokI (m : Int) := by decide +kernel
def r1valI (n : Int) : Bool := (decide (32 <= n) && !(n == 127)) || n == 9
theorem valI_eq : ∀ m : Nat, m < 256 -> r1valI (m : Int) = valI (m : Int) := by decide +kernel
/-- how many bytes from a place on are so -/
def tw (q : Int -> Bool) (s : ByteArray) (k : Nat) : Nat := ((s.data.toList.drop k).takeWhile fun b => q (b.toNat : Int)).length
theorem takeWhile_len {α : Type} (q : α -> Bool) : ∀ (l : List α) (j : Nat), (∀ i (hi : i < l.length), i < j -> q l[i] = true) -> (j <= l.length) -> (∀ (hj : j < l.length), q l[j] = false) -> (l.takeWhile q).length = j
 | [], j, _, h2, _ => by simp at h2; simp [h2]
 | x :: r, 0, _, _, h3 => by have := h3 (by simp); simp at this; simp [this]
 | x :: r, j + 1, h1, h2, h3 => by
  have hx : q x = true := h1 0 (by simp) (by omega)
  rw [List.takeWhile_cons_of_pos hx, List.length_cons]
  congr 1
  exact takeWhile_len q r j (fun i hi hij => h1 (i + 1) (by simpa using hi) (by omega)) (by simpa using h2) (fun hj => h3 (by simpa using hj))
theorem tw_eq {q : Int -> Bool} {s : ByteArray} {k j : Nat} (h1 : ∀ i (hi : k + i < s.size), i < j -> q (s[k + i].toNat : Int) = true) (h2 : k + j <= s.size) (h3 : ∀ (hj : k + j < s.size), q (s[k + j].toNat : Int) = false) : tw q s k = j := by
 unfold tw
 have hl := blen s
 refine takeWhile_len _ _ _ (fun i hi hij => ?_) ?_ (fun hj => ?_)
 ·rw [List.getElem_drop]
  rw [List.length_drop] at hi
  exact h1 i (by omega) hij
 ·rw [List.length_drop]; omega
 ·rw [List.getElem_drop]
  rw [List.length_drop] at hj
  exact h3 (by omega)
theorem tw_at {q : Int -> Bool} {s : ByteArray} {k m : Nat} (h1 : ∀ i (hi : i < s.size), k <= i -> i < m -> q (s[i].toNat : Int) = true) (h0 : k <= m) (h2 : m <= s.size) (h3 : ∀ (hj : m < s.size), q (s[m].toNat : Int) = false) : k + tw q s k = m := by
 obtain ⟨j, rfl⟩ : ∃ j, m = k + j := ⟨m - k, by omega⟩
 rw [tw_eq (j := j) (fun i hi hij => h1 (k + i) hi (by omega) (by omega)) h2 h3]
theorem tw_le (q : Int -> Bool) (s : ByteArray) (k : Nat) (hk : k <= s.size) : k + tw q s k <= s.size := by
 unfold tw
 have := List.takeWhile_prefix (fun b : UInt8 => q (b.toNat : Int)) (l := s.data.toList.drop k)
 have h2 := this.length_le
 rw [List.length_drop, blen] at h2
 omega
def hexI (n : Int) : Bool := digI n || (decide (97 <= lowI n) && decide (lowI n <= 102))
def worthI (n : Int) : Int := if digI n then n - 48 else lowI n - 87
def rdL (base most : Int) : List UInt8 -> Int -> Int × Int
 | [], n => (n, 0)
 | b :: r, n => if most < worthI (b.toNat : Int) \/ (most - worthI (b.toNat : Int)) / base < n then (0, 7) else rdL base most r (n * base + worthI (b.toNat : Int))
theorem allI_at {p : Int -> Bool} {s : ByteArray} (h : allI p s = true) (k : Nat) (hk : k < s.size) : p (s[k].toNat : Int) = true :=
 List.all_eq_true.1 h s[k] (List.mem_iff_getElem.2 ⟨k, by rw [blen]; exact hk, rfl⟩)
def dgt (k : Nat) : UInt8 := UInt8.ofNat (if k < 10 then 48 + k else 87 + k)
def valN (B : Nat) (l : List Nat) : Nat := l.foldl (fun n d => n * B + d) 0
theorem val_from (B : Nat) (l : List Nat) (n : Nat) : l.foldl (fun n d => n * B + d) n = n * B ^ l.length + valN B l := by
 induction l generalizing n with
 | nil => simp [valN]
 | cons d r ih =>
  unfold valN
  rw [List.foldl_cons, List.foldl_cons, ih, ih (0 * B + d), List.length_cons, Nat.pow_succ, Nat.add_mul, Nat.zero_mul, Nat.zero_add, Nat.mul_assoc, Nat.mul_comm B, Nat.add_assoc]
theorem val_app (B : Nat) (l : List Nat) (d : Nat) : valN B (l ++ [d]) = valN B l * B + d := by
 unfold valN
 rw [List.foldl_append]
 rfl
/-- no nought ahead. -/
def Canon (l : List Nat) : Prop := l ≠ [] /\ (2 <= l.length -> l.head? ≠ some 0)
def digs (B n : Nat) : List Nat := if _h : n < B \/ B < 2 then [n] else digs B (n / B) ++ [n % B]
termination_by n
decreasing_by exact Nat.div_lt_self (by omega) (by omega)
theorem digs_low {B n : Nat} (h : n < B) : digs B n = [n] := by unfold digs; rw [dif_pos (.inl h)]
theorem digs_high {B n : Nat} (h : ¬ n < B) (h2 : 2 <= B) : digs B n = digs B (n / B) ++ [n % B] := by rw [digs, dif_neg (by omega)]
theorem digs_facts {B : Nat} (h2 : 2 <= B) (n : Nat) : valN B (digs B n) = n /\ (∀ d ∈ digs B n, d < B) /\ Canon (digs B n) /\ (n ≠ 0 -> (digs B n).head? ≠ some 0) := by
 induction n using Nat.strongRecOn with
 | _ n ih =>
  by_cases h : n < B
  ·rw [digs_low h]
   exact ⟨by simp [valN], by simp [h], ⟨by simp, by simp⟩, by simp⟩
  ·have hd : n / B < n := Nat.div_lt_self (by omega) (by omega)
   obtain ⟨i1, i2, i3, i4⟩ := ih (n / B) hd
   have hne : n / B ≠ 0 := by have := Nat.div_pos (Nat.le_of_not_lt h) (by omega : 0 < B); omega
   have hh : (digs B (n / B) ++ [n % B]).head? = (digs B (n / B)).head? := by
    cases hc : digs B (n / B) with
    | nil => exact absurd hc i3.1
    | cons x r => rfl
   rw [digs_high h h2]
   refine ⟨?_, ?_, ⟨by simp, fun _ => ?_⟩, fun _ => ?_⟩
   ·rw [val_app, i1, Nat.mul_comm]; exact Nat.div_add_mod n B
   ·intro d hd'
    rcases List.mem_append.1 hd' with hd' | hd'
    ·exact i2 d hd'
    ·rw [List.mem_singleton.1 hd']; exact Nat.mod_lt _ (by omega)
   ·rw [hh]; exact i4 hne
   ·rw [hh]; exact i4 hne
def strip (l : List Nat) : List Nat := if l.dropWhile (· == 0) = [] then [0] else l.dropWhile (· == 0)
theorem rdL_val (B most : Nat) (hB : 0 < B) : ∀ (l : List UInt8) (n : Nat), (∀ b ∈ l, 0 <= worthI (b.toNat : Int)) -> n <= most ->
  rdL B most l n = if most < (l.map fun b => (worthI (b.toNat : Int)).toNat).foldl (fun n d => n * B + d) n then (0, 7) else ((((l.map fun b => (worthI (b.toNat : Int)).toNat).foldl (fun n d => n * B + d) n : Nat) : Int), 0)
 | [], n, _, hn => by
  rw [List.map_nil, List.foldl_nil, if_neg (by omega)]; rfl
 | b :: r, n, h, hn => by
  have hb := h b (.head _)
  obtain ⟨d, hd⟩ := Int.eq_ofNat_of_zero_le hb
  have ih := rdL_val B most hB r
  rw [List.map_cons, List.foldl_cons]
  unfold rdL
  rw [hd, Int.toNat_natCast]
  have hc : ((most : Int) < (d : Int) \/ ((most : Int) - (d : Int)) / (B : Int) < (n : Int)) ↔ most < n * B + d := by
   by_cases h1 : most < d
   ·exact ⟨fun _ => by omega, fun _ => .inl (by omega)⟩
   ·rw [show ((most : Int) - (d : Int)) = ((most - d : Nat) : Int) from by omega, <- Int.natCast_ediv]
    have := Nat.div_lt_iff_lt_mul (x := most - d) (y := n) hB
    constructor
    ·rintro (h | h)
     ·omega
     ·have := this.1 (by omega); omega
    ·intro h; exact .inr (by have := this.2 (by omega); omega)
  by_cases h1 : most < n * B + d
  ·rw [if_pos (hc.2 h1), if_pos]
   refine Nat.lt_of_lt_of_le h1 ?_
   rw [val_from, List.length_map]
   have h3 : (n * B + d) * 1 <= (n * B + d) * B ^ r.length := Nat.mul_le_mul_left _ (Nat.pow_pos hB)
   rw [Nat.mul_one] at h3
   exact Nat.le_trans h3 (Nat.le_add_right _ _)
  ·rw [if_neg (fun h => h1 (hc.1 h))]
   have := ih (n * B + d) (fun x hx => h x (.tail _ hx)) (by omega)
   rw [<- this]
   congr 1
def lowU (b : UInt8) : UInt8 := (lowI (b.toNat : Int)).toNat.toUInt8
def foldL (l : List UInt8) : List UInt8 := l.map lowU
def foldB (s : ByteArray) : ByteArray := ⟨(foldL s.data.toList).toArray⟩
theorem lowU_nat (b : UInt8) : ((lowU b).toNat : Int) = lowI (b.toNat : Int) := by
 have h := lowI_b (b.toNat : Int) (by omega) (by have := b.toNat_lt; omega)
 unfold lowU
 rw [show (lowI (b.toNat : Int)).toNat.toUInt8.toNat = (lowI (b.toNat : Int)).toNat from by show (UInt8.ofNat _).toNat = _; rw [UInt8.toNat_ofNat']; omega]
 omega
def hexD : ByteArray := ⟨#[48, 49, 50, 51, 52, 53, 54, 55, 56, 57, 97, 98, 99, 100, 101, 102]⟩
def hexG : ByteArray := ⟨#[48, 49, 50, 51, 52, 53, 54, 55, 56, 57, 65, 66, 67, 68, 69, 70]⟩
/-- a digit of the base's: a digit or a letter, worth less than the base. -/
def isD (B : Nat) (n : Int) : Bool := hexI n && decide (worthI n < B)
def digB (B n : Nat) : ByteArray := ⟨((digs B n).map dgt).toArray⟩
theorem hexD_at : ∀ k : Nat, k < 16 -> hexD.extract k (k + 1) = ⟨#[dgt k]⟩ := by decide +kernel
theorem digs_len {B : Nat} (h2 : 2 <= B) : ∀ (e n : Nat), n < 2 ^ e -> (digs B n).length <= e + 1
 | 0, n, h => by rw [digs_low (by omega)]; simp
 | e + 1, n, h => by
  by_cases hl : n < B
  ·rw [digs_low hl]; simp
  ·rw [digs_high hl h2, List.length_append]
   have hd : n / B < 2 ^ e := by
    have h3 : n / B <= n / 2 := Nat.div_le_div_left h2 (by omega)
    rw [Nat.pow_succ] at h
    omega
   have := digs_len h2 e (n / B) hd
   simp
   omega
theorem digB_size {B n : Nat} (h2 : 2 <= B) (h : n < 2 ^ 63) : (digB B n).size <= 64 := by
 show ((digs B n).map dgt).toArray.size <= 64
 rw [List.size_toArray, List.length_map]
 exact digs_len h2 63 n h
theorem digB_low {B n : Nat} (h : n < B) : digB B n = ⟨#[dgt n]⟩ := by unfold digB; rw [digs_low h]; rfl
theorem digB_high {B n : Nat} (h : ¬ n < B) (h2 : 2 <= B) : digB B n = digB B (n / B) ++ ⟨#[dgt (n % B)]⟩ := by
 unfold digB
 rw [digs_high h h2, List.map_append]
 apply ByteArray.ext
 rw [ByteArray.data_append]
 simp
def digV (s : ByteArray) : List Nat := s.data.toList.map fun b => (worthI (b.toNat : Int)).toNat
def readG (B : Nat) (s : ByteArray) (most : Nat) : Int × Int :=
 if s.size = 0 \/ allI (isD B) s = false then (0, 2) else if most < valN B (digV s) then (0, 7) else ((valN B (digV s) : Nat), 0)
def atB (s : ByteArray) (k : Nat) (b : Int) : Bool := (s.data.toList[k]?).any fun x => (x.toNat : Int) == b
theorem atB_lt {s : ByteArray} {k : Nat} (h : k < s.size) (b : Int) : atB s k b = ((s[k].toNat : Int) == b) := by
 unfold atB
 rw [List.getElem?_eq_getElem (by rw [blen]; exact h)]
 rfl
theorem atB_ge {s : ByteArray} {k : Nat} (h : s.size <= k) (b : Int) : atB s k b = false := by
 unfold atB
 rw [List.getElem?_eq_none (by rw [blen]; exact h)]
 rfl
theorem at_lt {s : ByteArray} {k : Nat} (h : k < s.size) : s.data.toList[k]? = some s[k] := by
 rw [List.getElem?_eq_getElem (by rw [blen]; exact h)]
 rfl
def nxt (s : ByteArray) (k : Nat) : Option (UInt8 × Nat) :=
 match s.data.toList[if atB s k 92 = true then k + 1 else k]? with
 | some b => if valI (b.toNat : Int) = true then some (b, (if atB s k 92 = true then k + 1 else k) + 1) else none
 | none => none
theorem nxt_lt {s : ByteArray} {k j : Nat} {b : UInt8} (h : nxt s k = some (b, j)) : k < j /\ j <= s.size := by
 unfold nxt at h
 generalize hq : (if atB s k 92 = true then k + 1 else k) = i at h
 have hki : k <= i := by rw [<- hq]; split <;> omega
 by_cases hi : i < s.size
 ·rw [at_lt hi] at h
  simp only at h
  split at h
  ·simp at h; omega
  ·cases h
 ·rw [List.getElem?_eq_none (by rw [blen]; omega)] at h
  cases h
/-- what a quoted text stands for, from behind its first quote on; and where it ends. -/
def frontW (s : ByteArray) (k : Nat) (acc : List UInt8) : Option (List UInt8 × Nat) :=
 if atB s k 34 = true then some (acc, k + 1) else
 match _h : nxt s k with
 | none => none
 | some (b, j) => frontW s j (acc ++ [b])
termination_by s.size - k
decreasing_by have := nxt_lt _h; omega
theorem frontW_end {s : ByteArray} {k : Nat} (acc : List UInt8) (h : atB s k 34 = true) : frontW s k acc = some (acc, k + 1) := by rw [frontW, if_pos h]
theorem frontW_none {s : ByteArray} {k : Nat} (acc : List UInt8) (h : atB s k 34 = false) (hn : nxt s k = none) : frontW s k acc = none := by
 rw [frontW, if_neg (by rw [h]; decide)]
 split
 ·rfl
 ·rename_i b j h2; rw [hn] at h2; cases h2
theorem frontW_some {s : ByteArray} {k j : Nat} {b : UInt8} (acc : List UInt8) (h : atB s k 34 = false) (hn : nxt s k = some (b, j)) : frontW s k acc = frontW s j (acc ++ [b]) := by
 rw [frontW, if_neg (by rw [h]; decide)]
 split
 ·rename_i h2; rw [hn] at h2; cases h2
 ·rename_i b' j' h2; rw [hn] at h2; cases h2; rfl
def frontS (s : ByteArray) (k : Nat) : Option (List UInt8 × Nat) := if atB s k 34 = true then frontW s (k + 1) [] else none
theorem frontW_le {s : ByteArray} : ∀ (m k : Nat) (acc v : List UInt8) (j : Nat), s.size - k = m -> frontW s k acc = some (v, j) -> k < j /\ j <= s.size /\ v.length + k + 1 <= acc.length + j := by
 intro m
 induction m using Nat.strongRecOn with
 | _ m ih =>
  intro k acc v j hm h
  cases hq : atB s k 34
  ·cases hn : nxt s k with
   | none => rw [frontW_none acc hq hn] at h; cases h
   | some bj =>
    obtain ⟨b, i⟩ := bj
    rw [frontW_some acc hq hn] at h
    have := nxt_lt hn
    have := ih (s.size - i) (by omega) i (acc ++ [b]) v j rfl h
    simp at this
    omega
  ·rw [frontW_end acc hq] at h
   simp at h
   have : k < s.size := by
    apply Decidable.byContradiction
    intro hk
    rw [atB_ge (by omega)] at hq
    cases hq
   obtain ⟨rfl, rfl⟩ := h
   omega
/-- a token, or a quoted text: what it stands for, and where it ends. -/
def wordS (s : ByteArray) (k : Nat) : Option (ByteArray × Nat) :=
 if 0 < tw tokI s k then some (s.extract k (k + tw tokI s k), k + tw tokI s k) else (frontS s k).map fun x => (⟨x.1.toArray⟩, x.2)
theorem wordS_le {s : ByteArray} {k j : Nat} {v : ByteArray} (hk : k <= s.size) (h : wordS s k = some (v, j)) : k < j /\ j <= s.size := by
 unfold wordS at h
 by_cases h0 : 0 < tw tokI s k
 ·rw [if_pos h0] at h
  have := tw_le tokI s k hk
  simp at h
  omega
 ·rw [if_neg h0] at h
  unfold frontS at h
  cases hq : atB s k 34
  ·rw [hq, if_neg (by decide)] at h; cases h
  ·rw [hq, if_pos rfl] at h
   cases hf : frontW s (k + 1) [] with
   | none => rw [hf] at h; cases h
   | some x =>
    rw [hf] at h
    obtain ⟨x1, x2⟩ := x
    have := frontW_le _ _ _ _ _ rfl hf
    simp at h
    omega
theorem ext1 (s : ByteArray) (k : Nat) (hk : k < s.size) : s.extract k (k + 1) = ⟨#[s[k]]⟩ := by
 apply ByteArray.ext
 apply Array.ext
 ·have : s.data.size = s.size := rfl
  simp; omega
 ·intro i h1 h2
  have : i = 0 := by simp at h2; omega
  subst this
  simp
  rfl
theorem exL (s : ByteArray) (a b : Nat) : (s.extract a b).data.toList = (s.data.toList.take b).drop a := by
 rw [ByteArray.data_extract, Array.toList_extract, List.extract_eq_take_drop, List.drop_take]
theorem inL {a b : ByteArray} (h : a.data.toList = b.data.toList) : a = b := ByteArray.ext (Array.toList_inj.1 h)
theorem cut_l (s : ByteArray) (m : Nat) : (s.extract m s.size).data.toList = s.data.toList.drop m := by
 rw [exL, <- blen, List.take_length]
theorem cut_size (s : ByteArray) (m : Nat) : (s.extract m s.size).size = s.size - m := by rw [ByteArray.size_extract]; omega
theorem cut_atB (s : ByteArray) (m k : Nat) (b : Int) : atB (s.extract m s.size) k b = atB s (m + k) b := by
 unfold atB
 rw [cut_l, List.getElem?_drop]
theorem cut_tw (q : Int -> Bool) (s : ByteArray) (m k : Nat) : tw q (s.extract m s.size) k = tw q s (m + k) := by
 unfold tw
 rw [cut_l, List.drop_drop]
theorem cut_cut (s : ByteArray) (m a : Nat) : (s.extract m s.size).extract a (s.extract m s.size).size = s.extract (m + a) s.size := by
 apply inL
 rw [cut_l, cut_l, cut_l, List.drop_drop]
theorem cut_ext (s : ByteArray) (m a b : Nat) : (s.extract m s.size).extract a b = s.extract (m + a) (m + b) := by
 apply inL
 rw [exL, cut_l, exL, List.drop_take, List.drop_take, List.drop_drop]
 congr 1
 omega
abbrev Fld := ByteArray × ByteArray
theorem app_l (a b : ByteArray) : (a ++ b).data.toList = a.data.toList ++ b.data.toList := by rw [ByteArray.data_append]; simp
def memB (l : List ByteArray) (t : ByteArray) : Bool := l.any fun x => decide (x = t)
end Go.Proofs.YticbonkojpabnaaGreatDoor
