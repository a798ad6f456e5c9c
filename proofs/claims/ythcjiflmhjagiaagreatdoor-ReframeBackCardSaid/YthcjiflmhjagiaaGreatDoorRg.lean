/- The laws of a writer: what goes on, and in which frame. No statement of its own. -/
import Derived.Test.YthcjiflmhjagiaaGreatDoorRf
set_option linter.unusedSimpArgs false
set_option linter.unusedVariables false
set_option maxRecDepth 100000
namespace Go.Proofs.YthcjiflmhjagiaaGreatDoor
open Go.RowKit
theorem outW_out (k n m : Int) : outW (outW k n m).1 (outW k n m).2 m = outW k n m := by
  unfold outW
  by_cases h : k = 1 ∨ k = 2
  · rw [if_pos h, if_pos h]
  · rw [if_neg h]
    by_cases h2 : m = 1
    · rw [if_pos h2, if_neg (by decide)]
    · rw [if_neg h2, if_neg (by decide)]
theorem partW_emp (k : Int) (z : Nat) : partW k z (⟨#[]⟩ : ByteArray) = ⟨#[]⟩ := by
  unfold partW
  split
  · exact (putE_emp z).1
  · rfl
theorem partW_size {k : Int} {size : Nat} {s : ByteArray} (h : s.size ≤ 1000000) : (partW k size s).size ≤ 69 * s.size := by
  unfold partW
  split
  · exact putE_le (by omega)
  · omega
def Mx (k n : Int) : Int := if k = 2 then n else 0
/-- where a writer stands behind so much data -/
structure WI (st : St) (p : Nat) (k n : Int) (size : Nat) (took : ByteArray) : Prop where
  ex : ∃ x e, st.heap[p]? = some [x, .i k, .i n, .i (if k = 2 then n - took.size else 0), .b false] ∧ 0 < p ∧ (k = 3 → x = .ptr e 0 ∧ p ≠ e ∧ 0 < e ∧ st.heap[e]? = some [.i size, .s (restE size took), .b false]) ∧ (k ≠ 3 → x = .nilP)
  le : k = 1 ∨ k = 2 → (took.size : Int) ≤ Mx k n
section
variable {st : St} {p size : Nat} {k n : Int} {took : ByteArray} {R : AV → St → Prop}
theorem put42_any {x : ByteArray} (hW : WI st p k n size took) (hk : 1 ≤ k ∧ k ≤ 4) (hn : 0 ≤ n ∧ n ≤ 9223372036854775807) (z1 : 1 ≤ size) (z2 : size ≤ 65536) (hs : (took ++ x).size ≤ 900000)
    (hR1 : k = 1 ∨ k = 2 → Mx k n < took.size + x.size → R (.tup [.s ⟨#[]⟩, .i 3]) st)
    (hR2 : (k = 1 ∨ k = 2 → (took.size : Int) + x.size ≤ Mx k n) → ∀ st', Mv 0 (fun q => 0 < q) st st' → WI st' p k n size (took ++ x) → ∀ D, partW k size took ++ D = partW k size (took ++ x) → R (.tup [.s D, .i 0]) st') :
    ACalls Tryz.prog 16 [.ptr p 0, .s x] st R := by
  obtain ⟨⟨y, e, h, hp, h3, hn3⟩, hle⟩ := hW
  have hsz := app_size took x
  by_cases k12 : k = 1 ∨ k = 2
  · obtain rfl := hn3 (by omega)
    have hle := hle k12
    have hL : (if k = 2 then n - (took.size : Int) else 0) = Mx k n - took.size := by
      unfold Mx at hle ⊢
      split
      · rfl
      · rename_i h2
        rw [if_neg h2] at hle
        omega
    have hMn : 0 ≤ Mx k n ∧ Mx k n ≤ 9223372036854775807 := by
      unfold Mx
      split <;> omega
    rw [hL] at h
    refine put42_len k12 h (by omega) (by omega) (fun h1 => hR1 k12 (by omega)) (fun h1 st' h2 m2 => ?_)
    refine hR2 (fun _ => by omega) st' (m2.wide fun q _ e => by have e : q = p := e; omega) ⟨⟨.nilP, 0, ?_, hp, fun h => by omega, fun _ => rfl⟩, fun _ => by rw [hsz]; omega⟩ x (by unfold partW; rw [if_neg (by omega), if_neg (by omega)])
    rw [h2, show (if k = 2 then n - ((took ++ x).size : Int) else 0) = Mx k n - took.size - x.size from by
      rw [hsz]
      unfold Mx at hle h1 ⊢
      split
      · omega
      · rename_i hk2
        rw [if_neg hk2] at hle h1
        omega]
  · by_cases k3 : k = 3
    · obtain ⟨rfl, hpe, he0, he⟩ := h3 k3
      subst k3
      have hrl := restE_le size took
      obtain ⟨a1, a2⟩ := putE_app size took x
      refine put42_chunk h z1 z2 (by rw [app_size]; omega) he (fun st' m2 h2 => ?_)
      rw [← a2] at h2
      refine hR2 (fun h => absurd h k12) st' (m2.wide fun q _ e' => by have e' : q = e := e'; omega) ⟨⟨.ptr e 0, e, m2.at' h (fun e' => hpe e'), hp, fun _ => ⟨rfl, hpe, he0, h2⟩, fun h => absurd rfl h⟩, fun h => absurd h k12⟩ _ (by unfold partW; rw [if_pos rfl, if_pos rfl, a1])
    · obtain rfl : k = 4 := by omega
      refine put42_close h ?_
      exact hR2 (fun h => absurd h k12) st (.refl (Nat.zero_le _)) ⟨⟨y, e, h, hp, fun h => absurd h k3, hn3⟩, fun h => absurd h k12⟩ x (by unfold partW; rw [if_neg k3, if_neg k3])
theorem end42_any (hW : WI st p k n size took) (hk : 1 ≤ k ∧ k ≤ 4) (hn : 0 ≤ n ∧ n ≤ 9223372036854775807) (z1 : 1 ≤ size) (hs : took.size ≤ 900000)
    (hR : ∀ st', Mv 0 (fun q => 0 < q) st st' → ∀ (c : Int) (D : ByteArray), c = (wholeW k n size took []).2 → (c = 0 → partW k size took ++ D = (wholeW k n size took []).1) → D.size ≤ 1000000000 →
      (∀ R' : AV → St → Prop, (∀ st'', R' (.tup [.s ⟨#[]⟩, .i (if c = 0 then 8 else 0)]) st'') → ACalls Tryz.prog 16 [.ptr p 0, .s ⟨#[]⟩] st' R') → R (.tup [.s D, .i c]) st') :
    ACalls Tryz.prog 17 [.ptr p 0, .nilS] st R := by
  obtain ⟨⟨y, e, h, hp, h3, hn3⟩, hle⟩ := hW
  by_cases k3 : k = 3
  · obtain ⟨rfl, hpe, he0, he⟩ := h3 k3
    subst k3
    have hrl := restE_le size took
    have hpw := pieceW_size (s := restE size took) (by omega)
    have hl5 : (lastW []).1.size = 5 := by rw [lastW_nil]; rfl
    have hw : wholeW 3 n size took [] = (putE size took ++ (pieceW (restE size took) ++ (lastW []).1), 0) := by
      unfold wholeW
      rw [if_neg (by decide), if_neg (by rw [lastW_nil]; exact fun h => h rfl)]
    refine end42_c0 hpe h (by omega) he (fun st' m2 h2 => ?_)
    refine hR st' (m2.wide fun q _ e' => by have e' : q = p ∨ q = e := e'; omega) 0 _ (by rw [hw]) (fun _ => by rw [hw]; unfold partW; rw [if_pos rfl]) (by rw [app_size]; omega) (fun R' hR' => put42_done h2 ?_)
    have := hR' st'
    rw [if_pos rfl] at this
    exact this
  · obtain rfl := hn3 k3
    refine end42_n (.inl rfl) k3 h (fun st' h2 m2 => ?_)
    have mm := m2.wide (D := fun q => 0 < q) fun q _ e => by have e : q = p := e; omega
    by_cases hl : 0 < (if k = 2 then n - (took.size : Int) else 0)
    · have hk2 : k = 2 := Decidable.byContradiction fun hk2 => by rw [if_neg hk2] at hl; omega
      have hl2 := hl
      rw [if_pos hk2] at hl2
      have hw : wholeW k n size took [] = (⟨#[]⟩, 6) := by
        unfold wholeW
        rw [if_pos k3, if_pos ⟨hk2, by omega⟩]
      rw [if_pos hl]
      rw [decide_eq_false (by omega)] at h2
      refine hR st' mm 6 ⟨#[]⟩ (by rw [hw]) (fun h => by cases h) (Nat.zero_le _) (fun R' hR' => ?_)
      refine put42_len (.inr hk2) h2 (by rw [if_pos hk2]; omega) (Nat.zero_le _) (fun h => absurd h (by show ¬ _ < ((0 : Nat) : Int); omega)) (fun _ st3 _ _ => ?_)
      have := hR' st3
      rw [if_neg (by decide)] at this
      exact this
    · have hw : wholeW k n size took [] = (took, 0) := by
        unfold wholeW
        rw [if_pos k3, if_neg]
        rintro ⟨hk2, h9⟩
        rw [if_pos hk2] at hl
        omega
      rw [if_neg hl]
      rw [decide_eq_true (by omega)] at h2
      refine hR st' mm 0 ⟨#[]⟩ (by rw [hw]) (fun _ => by rw [hw]; unfold partW; rw [if_neg k3]; exact add_empB _) (Nat.zero_le _) (fun R' hR' => put42_done h2 ?_)
      have := hR' st'
      rw [if_pos rfl] at this
      exact this
end
theorem awake42_p : APure Tryz.prog 13 [] (.b true) [] := by
  have q1 := out42_p 4 0 1
  refine APure.of rfl ?_
  refine ACalls.of_vc T_ok mixed Tryz.func13 rfl Tryz.call13 ?_
  refine .s (new42_a (k := 2) (n := 3) (size := 9) (fun h => absurd h (by decide)) (fun _ st1 e p left x hpe h h3 hn3 hl hlt => ?_))
  obtain rfl := hn3 (by decide)
  rw [if_pos rfl] at hl
  subst hl
  refine .s (put42_len (.inr rfl) h (by omega) (by decide) (fun h => absurd h (by decide)) (fun _ st2 h2 m2 => ?_))
  refine .s (end42_n (.inl rfl) (by decide) h2 (fun st3 h4 m3 => ?_))
  rw [if_neg (by decide)]
  refine .p rfl q1 ?_
  refine ⟨by kernel_rfl, fun t ht => ?_⟩
  obtain rfl : t = true := ht.2 ⟨rfl, rfl, trivial⟩
  intro t ht
  obtain rfl : t = true := ht.2 rfl
  rfl
end Go.Proofs.YthcjiflmhjagiaaGreatDoor
