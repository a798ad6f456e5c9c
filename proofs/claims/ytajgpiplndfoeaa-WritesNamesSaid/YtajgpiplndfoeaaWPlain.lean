/- Names that rules write: plain law. -/
import Derived.Test.YtajgpiplndfoeaaAll
import Derived.Lib.SlicesCompact
import Derived.Lib.SlicesS
namespace Go.Proofs.Ytajgpiplndfoeaa
open Go.Lib

def lowU (b : UInt8) : UInt8 := (lowI (b.toNat : Int)).toNat.toUInt8
def foldL (l : List UInt8) : List UInt8 := l.map lowU
def foldB (s : ByteArray) : ByteArray := ⟨(foldL s.data.toList).toArray⟩

theorem lowU_low : ∀ m : Nat, m < 256 → lowU (lowU (UInt8.ofNat m)) = lowU (UInt8.ofNat m) := by decide +kernel
theorem lowU_lowU (b : UInt8) : lowU (lowU b) = lowU b := by
  have := lowU_low b.toNat b.toNat_lt
  rwa [UInt8.ofNat_toNat] at this
theorem foldL_foldL (l : List UInt8) : foldL (foldL l) = foldL l := by
  unfold foldL
  rw [List.map_map]
  exact List.map_congr_left fun b _ => lowU_lowU b
theorem foldB_l (s : ByteArray) : (foldB s).data.toList = foldL s.data.toList := by simp [foldB]
theorem foldB_size (s : ByteArray) : (foldB s).size = s.size := by
  rw [← blen, foldB_l, ← blen s]
  unfold foldL
  rw [List.length_map]
theorem foldB_foldB (s : ByteArray) : foldB (foldB s) = foldB s := by
  unfold foldB
  rw [show (foldL s.data.toList).toArray.toList = foldL s.data.toList from by simp, foldL_foldL]

/-- what a rule tells of the names: its side, its kind, its two names. -/
structure Rl where
  side : Int
  kind : Int
  name : ByteArray
  to : ByteArray
deriving Inhabited

def rlNames (r : Rl) : List ByteArray := foldB r.name :: (if r.kind = 4 then [foldB r.to] else [])
def namesOf (side : Int) (l : List Rl) : List ByteArray := l.flatMap fun r => if r.side = side then rlNames r else []
def refT (n : ByteArray) (side : Int) (l : List Rl) : Bool := l.any fun r => r.side == side && (decide (foldB r.name = foldB n) || (r.kind == 4 && decide (foldB r.to = foldB n)))
def ofL (side : Int) (l : List Rl) : List (List UInt8) := compact (((namesOf side l).map fun s => s.data.toList).mergeSort fun x y => decide (x ≤ y))

theorem compact_mem {α : Type} [Inhabited α] [DecidableEq α] (zs : List α) (x : α) : x ∈ compact zs ↔ x ∈ zs := by
  unfold compact compactUpTo
  rw [List.mem_map]
  constructor
  · rintro ⟨j, hj, rfl⟩
    rw [List.mem_filter, List.mem_range] at hj
    have : zs.toArray[j]! = zs[j]'hj.1 := by simp [hj.1]
    rw [this]
    exact List.getElem_mem _
  · intro hx
    obtain ⟨i, hi, rfl⟩ := List.getElem_of_mem hx
    clear hx
    have e : ∀ j (hj : j < zs.length), zs.toArray[j]! = zs[j] := fun j hj => by simp [hj]
    induction i with
    | zero => exact ⟨0, by rw [List.mem_filter, List.mem_range]; exact ⟨hi, by simp [keeps]⟩, e 0 hi⟩
    | succ i ih =>
      by_cases h : zs.toArray[i + 1]! = zs.toArray[i]!
      · rw [e _ hi, e i (by omega)] at h
        obtain ⟨j, h1, h2⟩ := ih (by omega)
        exact ⟨j, h1, by rw [h2, h]⟩
      · refine ⟨i + 1, ?_, e _ hi⟩
        rw [List.mem_filter, List.mem_range]
        exact ⟨hi, keeps_pos h⟩

theorem compact_lt (zs : List (List UInt8)) (h : zs.Pairwise (· ≤ ·)) : (compact zs).Pairwise (· < ·) := by
  unfold compact compactUpTo
  rw [List.pairwise_map, List.pairwise_filter]
  have e : ∀ j (hj : j < zs.length), zs.toArray[j]! = zs[j] := fun j hj => by simp [hj]
  have hr : (List.range zs.length).Pairwise (fun a b => a < b ∧ b < zs.length) := by
    have := List.pairwise_lt_range (n := zs.length)
    refine List.Pairwise.imp_of_mem (fun {a b} _ hb hab => ⟨hab, List.mem_range.1 hb⟩) this
  refine hr.imp ?_
  rintro a b ⟨hab, hb⟩ _ hk
  have hk' : b = 0 ∨ zs.toArray[b]! ≠ zs.toArray[b - 1]! := by simpa [keeps] using hk
  have hne : zs.toArray[b]! ≠ zs.toArray[b - 1]! := hk'.resolve_left (by omega)
  rw [e b hb, e (b - 1) (by omega)] at hne
  rw [e a (by omega), e b hb]
  have hle : ∀ i j (hi : i < zs.length) (hj : j < zs.length), i < j → zs[i] ≤ zs[j] := fun i j hi hj hij => List.pairwise_iff_getElem.1 h i j hi hj hij
  have h1 : zs[b - 1] ≤ zs[b] := hle _ _ _ _ (by omega)
  have h2 : zs[b - 1] < zs[b] := by
    rcases List.le_iff_lt_or_eq.1 h1 with h | h
    · exact h
    · exact absurd h.symm hne
  by_cases hab1 : a = b - 1
  · subst hab1; exact h2
  · exact List.lt_of_le_of_lt (hle _ _ _ _ (by omega)) h2

theorem sorted_le (zs : List (List UInt8)) : (zs.mergeSort fun x y => decide (x ≤ y)).Pairwise (· ≤ ·) := by
  have := List.pairwise_mergeSort (le := fun x y : List UInt8 => decide (x ≤ y)) (fun a b c h1 h2 => by simp only [decide_eq_true_eq] at *; exact List.le_trans h1 h2) (fun a b => by simp only [Bool.or_eq_true, decide_eq_true_eq]; exact List.le_total a b) zs
  exact this.imp (fun h => by simpa using h)

theorem ofL_lt (side : Int) (l : List Rl) : (ofL side l).Pairwise (· < ·) := compact_lt _ (sorted_le _)
theorem ofL_mem (side : Int) (l : List Rl) (x : List UInt8) : x ∈ ofL side l ↔ ∃ s ∈ namesOf side l, s.data.toList = x := by
  unfold ofL
  rw [compact_mem, List.mem_mergeSort, List.mem_map]
theorem names_mem (side : Int) (l : List Rl) (s : ByteArray) : s ∈ namesOf side l ↔ ∃ r ∈ l, r.side = side ∧ (s = foldB r.name ∨ r.kind = 4 ∧ s = foldB r.to) := by
  unfold namesOf
  rw [List.mem_flatMap]
  refine exists_congr fun r => and_congr_right fun _ => ?_
  by_cases h : r.side = side
  · rw [if_pos h]
    unfold rlNames
    by_cases hk : r.kind = 4 <;> simp [h, hk]
  · simp [h]
theorem names_fold {side : Int} {l : List Rl} {s : ByteArray} (h : s ∈ namesOf side l) : foldB s = s := by
  obtain ⟨r, _, _, h | ⟨_, h⟩⟩ := (names_mem _ _ _).1 h
  · rw [h, foldB_foldB]
  · rw [h, foldB_foldB]
theorem refT_iff (n : ByteArray) (side : Int) (l : List Rl) : refT n side l = true ↔ foldB n ∈ namesOf side l := by
  rw [names_mem]
  unfold refT
  rw [List.any_eq_true]
  refine exists_congr fun r => and_congr_right fun _ => ?_
  simp only [Bool.and_eq_true, Bool.or_eq_true, beq_iff_eq, decide_eq_true_eq]
  constructor
  · rintro ⟨h, h1 | ⟨hk, h1⟩⟩
    · exact ⟨h, .inl h1.symm⟩
    · exact ⟨h, .inr ⟨hk, h1.symm⟩⟩
  · rintro ⟨h, h1 | ⟨hk, h1⟩⟩
    · exact ⟨h, .inl h1.symm⟩
    · exact ⟨h, .inr ⟨hk, h1.symm⟩⟩

def ofB (side : Int) (l : List Rl) : List ByteArray := (ofL side l).map fun x => ⟨x.toArray⟩
theorem ofB_mem (side : Int) (l : List Rl) (s : ByteArray) : s ∈ ofB side l ↔ s ∈ namesOf side l := by
  unfold ofB
  rw [List.mem_map]
  constructor
  · rintro ⟨x, hx, rfl⟩
    obtain ⟨t, ht, rfl⟩ := (ofL_mem _ _ _).1 hx
    simpa using ht
  · intro h
    exact ⟨s.data.toList, (ofL_mem _ _ _).2 ⟨s, h, rfl⟩, by simp⟩
/-- program and document agree. -/
theorem touches_eq (n : ByteArray) (side : Int) (l : List Rl) : containsS (ofB side l) (foldB n) = refT n side l := by
  rw [Bool.eq_iff_iff, refT_iff, containsS_iff, ofB_mem]
theorem of_touched (side : Int) (l : List Rl) (k : Nat) (hk : k < (ofB side l).length) : refT (ofB side l)[k] side l = true := by
  have := (ofB_mem side l _).1 (List.getElem_mem hk)
  rw [refT_iff, names_fold this]
  exact this
theorem rule_touched (side : Int) (l : List Rl) (k : Nat) (hk : k < l.length) (h : l[k].side = side) : refT l[k].name side l = true := by
  rw [refT_iff, names_mem]
  exact ⟨l[k], List.getElem_mem hk, h, .inl rfl⟩
theorem of_rising (side : Int) (l : List Rl) (k : Nat) (hk : k + 1 < (ofB side l).length) : (ofB side l)[k].data.toList < (ofB side l)[k + 1].data.toList := by
  unfold ofB at hk ⊢
  rw [List.length_map] at hk
  simp only [List.getElem_map]
  exact List.pairwise_iff_getElem.1 (ofL_lt side l) k (k + 1) (by omega) hk (by omega)
end Go.Proofs.Ytajgpiplndfoeaa
