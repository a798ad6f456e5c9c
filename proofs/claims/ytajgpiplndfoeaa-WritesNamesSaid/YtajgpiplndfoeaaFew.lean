/- the laws' own cuts of rules. -/
import Derived.Test.YtajgpiplndfoeaaWr
namespace Go.Proofs.Ytajgpiplndfoeaa
open Go.RowKit

theorem flat_get {α : Type} (f : α → List Value) (size : Nat) (hf : ∀ a, (f a).length = size) : ∀ (ps : List α) (i : Nat) (hi : i < ps.length) (j : Nat), j < size → (ps.flatMap f)[i * size + j]? = (f ps[i])[j]?
  | [], i, hi, _, _ => absurd hi (by simp)
  | p :: ps, 0, _, j, hj => by
    rw [List.flatMap_cons, List.getElem?_append_left (by rw [hf]; omega)]
    simp
  | p :: ps, i + 1, hi, j, hj => by
    rw [List.flatMap_cons, List.getElem?_append_right (by rw [hf, Nat.add_mul]; omega), hf, show (i + 1) * size + j - size = i * size + j from by rw [Nat.add_mul]; omega]
    exact flat_get f size hf ps i (by simpa using hi) j hj
theorem flat_len {α : Type} (f : α → List Value) (size : Nat) (hf : ∀ a, (f a).length = size) (ps : List α) : (ps.flatMap f).length = ps.length * size := by
  induction ps with
  | nil => simp
  | cons p ps ih => rw [List.flatMap_cons, List.length_append, hf, ih, List.length_cons, Nat.add_mul]; omega
theorem Has.atF {α : Type} {f : α → List Value} {size : Nat} {w : World} {v : Value} {ps : List α} (h : Has w size v ps.length (ps.flatMap f)) (hf : ∀ a, (f a).length = size) (h0 : 0 < ps.length) :
    ∃ g o cap, v = .slice (some ⟨g, o, none⟩) ps.length cap ∧ cap ≤ maxLen ∧ ps.length ≤ cap ∧ ∀ i (hi : i < ps.length) j, j < size → w.cell? ⟨g, o + i * size + j, none⟩ = (f ps[i])[j]? := by
  rcases h.is with ⟨h1, _⟩ | ⟨g, o, cap, rfl, h1, h2, h3⟩
  · omega
  · refine ⟨g, o, cap, rfl, h2, h1, fun i hi j hj => ?_⟩
    rw [Nat.add_assoc, h3, flat_get f size hf ps i hi j hj]
    have : (i + 1) * size ≤ ps.length * size := Nat.mul_le_mul_right _ hi
    rw [Nat.add_mul] at this
    omega

def cutB (n : Nat) (s : ByteArray) : ByteArray := s.extract 0 (min s.size n)
def pcells (p : Int × ByteArray) : List Value := [.int .i64 p.1, .string p.2]
def pcut (p : Int × ByteArray) : Int × ByteArray := (p.1, cutB 60 p.2)
theorem infoPart : (Try.prog.info? 54).map (fun i => (i.zero, i.size, i.bytes)) = some (some (.agg #[.int .i64 0, .string .empty]), 2, 24) := by kernel_rfl

set_option maxHeartbeats 1000000 in
theorem few31_any (v : Value) (ps : List (Int × ByteArray)) (w : World) (h : Has w 2 v ps.length (ps.flatMap pcells)) (hsz : ∀ p ∈ ps, p.2.size ≤ maxLen) :
    Calls Try.prog 16 #[v] w fun e w' => ∃ a c, e = .returned (.slice a (min ps.length 40) c) ∧ Own w' w.heap.size 2 (.slice a (min ps.length 40) c) (min ps.length 40) (((ps.take 40).map pcut).flatMap pcells) ∧ Chg w w' (fun _ => False) := by
  obtain ⟨i0, hi, hz0, hz1, hz2⟩ := info_parts infoPart
  obtain ⟨sa, sc, rfl, hcl, hcm⟩ := h.slice
  unfold maxLen at hcm
  go_enter Try.func16, Try.ntmps16
  go_wp2_with fail
  go_loopg [3, 4] ps.length (fun g s3 s4 wr => ∃ (k : Nat) (a : Option Addr) (c : Nat), k + g = ps.length ∧ k ≤ 40 ∧ s4 = .int .i64 k ∧ s3 = .slice a k c ∧ Own wr w.heap.size 2 (.slice a k c) k (((ps.take k).map pcut).flatMap pcells) ∧ Chg w wr (fun _ => False))
  case atStart => exact ⟨0, none, 0, by omega, by omega, rfl, rfl, Own.nil _ _ _, Chg.refl _ _⟩
  case round =>
    obtain ⟨k, a, c, hk, hk40, rfl, rfl, hown, hC⟩ := hrel
    by_cases hlt : k < ps.length
    · by_cases h40 : k < 40
      · obtain ⟨g3, o3, cap3, hv3, _, _, hat⟩ := h.atF (fun _ => rfl) (by omega)
        obtain ⟨rfl, rfl⟩ : sa = some ⟨g3, o3, none⟩ ∧ sc = cap3 := by simpa using hv3
        have hg3 : g3 < w.heap.size := World.block_lt_of_cell? w ⟨g3, o3 + k * 2 + 0, none⟩ (hat k hlt 0 (by omega))
        have k0 := hC.cell (hat k hlt 0 (by omega)) (fun h => h)
        have k1 := hC.cell (hat k hlt 1 (by omega)) (fun h => h)
        have hsk := hsz ps[k] (List.getElem_mem hlt)
        have ht : ps.take (k + 1) = ps.take k ++ [ps[k]] := by rw [List.take_succ_eq_append_getElem hlt]
        have HT := Lib.hid ht
        have HP := Lib.hid (show pcut ps[k] = (ps[k].1, cutB 60 ps[k].2) from rfl)
        clear ht hat hv3
        generalize ps[k] = p at *
        obtain ⟨pk, pt⟩ := p
        replace k0 : wr.cell? ⟨g3, o3 + k * 2, none⟩ = some (.int .i64 pk) := k0
        replace k1 : wr.cell? ⟨g3, o3 + k * 2 + 1, none⟩ = some (.string pt) := k1
        replace hsk : pt.size ≤ maxLen := hsk
        obtain ⟨m, hm⟩ : ∃ m : Nat, m = min pt.size 60 := ⟨_, rfl⟩
        have hmin : (if (60 : Int) < (pt.size : Int) then (60 : Int) else (pt.size : Int)) = (m : Int) := by split <;> omega
        have hml : m ≤ pt.size := by omega
        have hcut : cutB 60 pt = pt.extract 0 m := by rw [hm]; rfl
        rw [hcut] at HP
        clear hm hcut
        have hwr : IntKind.i64.wrap ((k : Int) + 1) = (k : Int) + 1 := IntWalk.i64_in _ (by omega)
        go_wp2_with fail
        go_region_law (refine step_app _ rfl _ _ 33 33 rfl w.heap.size 54 i0 _ 2 24 Try.underlying33 hi hz0 hz1 hz2 rfl _ k (((ps.take k).map pcut).flatMap pcells) rfl ?_ (.slice (some ⟨wr.heap.size, 0, none⟩) 1 1) 1 [.int .i64 pk, .string (pt.extract 0 m)] ?_ ?_ ?_ ?_ ?_ ?_; (exact hown.chg (S := fun _ => False) (by repeat (first | exact Chg.refl _ _ | assumption | refine Chg.setCell ?_ (.inl (by first | (simp; done) | (simp; omega) | omega)) _ | refine Chg.drewN ?_ _ | refine Chg.drew ?_ | refine Chg.alloc ?_ _)) (fun _ _ h => h)); rfl; (exact ((Own.new (w := wr) (base := 0) (t := 54) (size := 2) (n := 1) (cs := #[.int .i64 pk, .string (pt.extract 0 m)]) (Nat.zero_le _) rfl (by decide)).chg (S := fun _ => False) (by repeat (first | exact Chg.refl _ _ | assumption | refine Chg.setCell ?_ (.inl (by first | (simp; done) | (simp; omega) | omega)) _ | refine Chg.drewN ?_ _ | refine Chg.drew ?_ | refine Chg.alloc ?_ _)) (fun _ _ h => h)).has.src Try.underlying33 (by simp; refine ⟨rfl, rfl⟩)); (unfold maxLen; omega); omega; (have := hC.size; simp; omega); intro a2 c2 w2 hown2 hchg2 hat2)
        all_goals clear hwr k0 k1
        all_goals go_wp2_with fail
        all_goals
          have hlo := hown.lt
          go_roundg (gk - 1)
          case measure => omega
          case rel =>
            refine ⟨k + 1, a2, c2, by omega, by omega, by go_num, rfl, ?_, ?_⟩
            · rw [HT.out, List.map_append, List.flatMap_append, List.map_cons, List.map_nil, HP.out]
              simpa [pcells] using hown2
            · refine Chg.next (w' := (wr.alloc (Obj.cells #[.int .i64 pk, .string (pt.extract 0 m)] 54)).drew) (by repeat (first | exact Chg.refl _ _ | assumption | refine Chg.setCell ?_ (.inl (by first | (simp; done) | (simp; omega) | omega)) _ | refine Chg.drewN ?_ _ | refine Chg.drew ?_ | refine Chg.alloc ?_ _)) hchg2 (fun i hi e => by have := (hlo i e).1; omega)
      · obtain rfl : k = 40 := by omega
        go_wp2_with fail
        go_ret
        have e : min ps.length 40 = 40 := by omega
        rw [e]
        exact ⟨a, c, rfl, hown, hC⟩
    · go_wp2_with fail
      go_ret
      have e : min ps.length 40 = k := by omega
      rw [e]
      have et : ps.take 40 = ps.take k := by rw [List.take_of_length_le (by omega), List.take_of_length_le (by omega)]
      rw [et]
      exact ⟨a, c, rfl, hown, hC⟩
end Go.Proofs.Ytajgpiplndfoeaa
