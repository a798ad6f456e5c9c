/- octet.Fold, by the kit's walk (it writes its own row), as a contract over abstract values. No statement of its own. -/
import Derived.Test.YthcjiflmhjagiaaGreatDoorLib
import Derived.Test.YthcjiflmhjagiaaGreatDoorSa
import Derived.Laws.IdiomStrings
set_option linter.unusedSimpArgs false
set_option linter.unusedVariables false
set_option maxRecDepth 100000
namespace Go.Proofs.YthcjiflmhjagiaaGreatDoor
open Go.RowKit
theorem lower_any (n : Int) (w : World) (h0 : 0 ≤ n) (h1 : n ≤ 255) :
    Calls Tryz.prog 96 #[.int .u8 n] w fun e w' => e = .returned (.int .u8 (lowI n)) ∧ w = w' := by
  by_cases h : 65 ≤ n
  · by_cases h2 : n ≤ 90
    · have hw : IntKind.u8.wrap (n + 32) = n + 32 := by simp [IntKind.wrap, IntKind.bits, IntKind.signed]; omega
      go_enter Tryz.func96, Tryz.ntmps96
      go_wp2
      go_ret
      exact ⟨by simp [lowI, h, h2], rfl⟩
    · go_enter Tryz.func96, Tryz.ntmps96
      go_wp2
      go_ret
      exact ⟨by simp [lowI]; try omega, rfl⟩
  · go_enter Tryz.func96, Tryz.ntmps96
    go_wp2
    go_ret
    exact ⟨by simp [lowI]; try omega, rfl⟩
/-- the row g holds the bytes l, and may be written. -/
structure BRow (w : World) (g : Nat) (l : List UInt8) : Prop where
  lt : g < w.heap.size
  cell : ∀ j (hj : j < l.length), w.cell? ⟨g, j, none⟩ = some (.int .u8 (l[j].toNat : Int))
  fr : ∀ j, j < l.length → w.frozen? ⟨g, j, none⟩ = false

theorem BRow.new (w : World) (t : TypeId) (s : ByteArray) (c : Nat) : BRow (w.alloc (.cells (bytesRow s c) t ((bytesRow s c).size, (bytesRow s c).size + 1))) w.heap.size s.data.toList := by
  have hb : (w.alloc (.cells (bytesRow s c) t ((bytesRow s c).size, (bytesRow s c).size + 1))).heap[w.heap.size]? = some (.cells (bytesRow s c) t ((bytesRow s c).size, (bytesRow s c).size + 1)) := heap_alloc_new w _
  have hz : s.size ≤ (bytesRow s c).size := by
    unfold bytesRow
    rw [Array.size_append, Array.size_map]
    show s.data.size ≤ _
    omega
  refine ⟨by simp, fun j hj => ?_, fun j hj => ?_⟩
  · rw [cell_of_row _ _ j _ _ _ hb]
    unfold bytesRow
    rw [Array.getElem?_append_left (by rw [Array.size_map]; rw [blen] at hj; exact hj), Array.getElem?_map]
    have hj' : j < s.data.size := by rw [Array.length_toList] at hj; exact hj
    rw [Array.getElem?_eq_getElem hj']
    rfl
  · rw [blen] at hj
    simp only [World.frozen?, hb]
    simp
    omega
theorem BRow.chg {w w' : World} {S : Nat → Prop} {g : Nat} {l : List UInt8} (h : BRow w g l) (c : Chg w w' S) (hs : ¬ S g) : BRow w' g l :=
  ⟨Nat.lt_of_lt_of_le h.lt c.size, fun j hj => (c.cellq (a := ⟨g, j, none⟩) h.lt hs).trans (h.cell j hj), fun j hj => (c.frozenq (a := ⟨g, j, none⟩) h.lt hs).trans (h.fr j hj)⟩
theorem BRow.put {w : World} {g : Nat} {l : List UInt8} (h : BRow w g l) {k : Nat} (hk : k < l.length) (b : UInt8) : BRow (w.setCell ⟨g, k, none⟩ (.int .u8 (b.toNat : Int))) g (l.set k b) := by
  refine ⟨by have := h.lt; simp [World.setCell]; omega, fun j hj => ?_, fun j hj => ?_⟩
  · rw [List.length_set] at hj
    by_cases e : k = j
    · subst e
      rw [World.cell?_setCell_same _ _ _ (by rw [h.cell k hk])]
      simp
    · rw [World.cell?_setCell_other _ _ _ _ (by simp)]
      rw [h.cell j hj]
      simp [e]
  · rw [List.length_set] at hj
    rw [World.frozen?_setCell]
    exact h.fr j hj
theorem BRow.back {P : Program} {w : World} {g : Nat} {l : List UInt8} (h : BRow w g l) (src dst e : TypeId) (c n : Nat) (hn : l.length = n) (hs : P.underlying src = some (.slice e)) (he : P.underlying e = some (.int .u8)) (hd : P.underlying dst = some .string) :
    (convert src dst (.slice (some ⟨g, 0, none⟩) n c)).run P w = .ok (.string ⟨l.toArray⟩) w := by
  subst hn
  exact run_convert_bytes_back w src dst e ⟨g, 0, none⟩ c l hs he hd (fun j hj => by rw [Addr.add_lit, Nat.zero_add]; exact h.cell j hj)

end Go.Proofs.YthcjiflmhjagiaaGreatDoor
