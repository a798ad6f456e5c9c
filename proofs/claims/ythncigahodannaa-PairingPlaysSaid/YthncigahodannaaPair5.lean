/- PairingPlays: awake. -/
import Derived.Test.YthncigahodannaaPair3
import Derived.Test.YthncigahodannaaPair4
import Derived.Deep.RegionHeld3
import Derived.Deep.DeepCutAuto
namespace Go.Proofs.Ythncigahodannaa
open Go.RowKit

def gETB : ByteArray := ⟨#[71, 69, 84]⟩

set_option maxHeartbeats 1000000 in
theorem awake_any (w : World) :
    Calls Try.prog 4 #[] w fun e w' => e = .returned (.bool true) ∧ Chg w w' (fun _ => False) := by
  have hN := Qat.new w w.heap.size (Nat.le_refl _) 1
  have hw1 : Chg w (w.alloc (.cells #[.slice none 0 0, .int .i64 1, .bool false] 45)) (fun _ => False) := (Chg.refl _ _).alloc _
  generalize he1 : w.alloc (.cells #[.slice none 0 0, .int .i64 1, .bool false] 45) = w1 at *
  have HE1 := Lib.hid he1
  clear he1
  go_enter Try.func4, Try.ntmps4
  go_wp2_with fail
  refine (new_good (by decide) (by decide)).mono ?_; rintro e w1' ⟨rfl, h1⟩
  rw [HE1.out] at h1
  subst h1
  go_wp2_with fail
  have hq2 := hN.chg ((Chg.refl w1' (fun _ => False)).alloc (Obj.cells #[.string .empty, .int .i64 0, .bool false, .string .empty, .int .i64 0, .bool false] 35)) (fun h => h) (fun _ _ h => h)
  have hs2 : Has (w1'.alloc (Obj.cells #[.string .empty, .int .i64 0, .bool false, .string .empty, .int .i64 0, .bool false] 35)) 3 (.slice (some ⟨w1'.heap.size, 0, none⟩) 2 2) 2 (tcs [(.empty, 0, false), (.empty, 0, false)]) :=
    (Own.new (base := 0) (cs := #[.string .empty, .int .i64 0, .bool false, .string .empty, .int .i64 0, .bool false]) (Nat.zero_le _) rfl (by decide)).has
  refine (push_full (us := [(.empty, 0, false), (.empty, 0, false)]) hq2 hs2 (by decide) (by decide) (by decide) (by decide)).mono ?_; rintro e w2 ⟨rfl, hc2⟩
  have hw2 : Chg w w2 (fun _ => False) := (hw1.alloc _).trans hc2
  have hq3 := hq2.chg hc2 (fun h => h) (fun _ _ h => h)
  clear hc2 hq2 hs2 hN hw1
  go_wp2_with fail
  have hq4 := hq3.chg ((Chg.refl w2 (fun _ => False)).alloc (Obj.cells #[.string gETB, .int .i64 0, .bool false] 35)) (fun h => h) (fun _ _ h => h)
  have hs4 : Has (w2.alloc (Obj.cells #[.string gETB, .int .i64 0, .bool false] 35)) 3 (.slice (some ⟨w2.heap.size, 0, none⟩) 1 1) 1 (tcs [(gETB, 0, false)]) :=
    (Own.new (base := 0) (cs := #[.string gETB, .int .i64 0, .bool false]) (Nat.zero_le _) rfl (by decide)).has
  have hl := hq3.lt
  refine (push_ok (us := [(gETB, 0, false)]) hq4 hs4 (by decide) (by decide) (by decide) (by decide) rfl (fun g hg => ?_)).mono ?_
  · simp [Value.ownBlock] at hg
    subst hg
    exact ⟨by omega, by simp [Value.ownBlock]⟩
  rintro e w3 ⟨rfl, hc3, v', hq5, _⟩
  have hw3 : Chg w w3 (fun _ => False) := (hw2.alloc _).next hc3 (fun i hi h => by rcases h with h | h; omega; simp [Value.ownBlock] at h)
  clear hw2 hc3 hq3 hq4 hs4 HE1
  go_wp2_with fail
  refine (front_some hq5).mono ?_; rintro e w4 ⟨rfl, hc4⟩
  have hq6 := (hq5.chg hc4 (fun h => h) (fun _ _ h => h)).chg ((Chg.refl w4 (fun _ => False)).alloc (Obj.cells #[.string gETB, .int .i64 0, .bool false] 35)) (fun h => h) (fun _ _ h => h)
  have hw4 : Chg w (w4.alloc (Obj.cells #[.string gETB, .int .i64 0, .bool false] 35)) (fun _ => False) := (hw3.trans hc4).alloc _
  have hgt : gETB.toList = [71, 69, 84] := by decide +kernel
  go_wp2_with fail
  refine (full_any hq6 (by decide) (by decide) (by decide)).mono ?_; rintro e w5 ⟨rfl, n, rfl⟩
  go_wp2_with fail
  go_ret
  exact ⟨rfl, hw4.drewN _⟩

/-- the tickets of a line, from number c on -/
def tk : Nat → List Bool → List (ByteArray × Int × Bool)
  | _, [] => []
  | c, b :: r => (.empty, (c : Int), b) :: tk (c + 1) r
theorem tk_len (c : Nat) (l : List Bool) : (tk c l).length = l.length := by
  induction l generalizing c with
  | nil => rfl
  | cons b r ih => simp [tk, ih]
theorem tk_append (c : Nat) (a b : List Bool) : tk c (a ++ b) = tk c a ++ tk (c + a.length) b := by
  induction a generalizing c with
  | nil => simp [tk]
  | cons x r ih => simp [tk, ih, Nat.add_assoc, Nat.add_comm 1]
theorem tk_at (c : Nat) (l : List Bool) (k : Nat) (hk : k < l.length) : (tk c l)[k]'(by rw [tk_len]; exact hk) = (.empty, ((c + k : Nat) : Int), l[k]) := by
  induction l generalizing c k with
  | nil => simp at hk
  | cons b r ih =>
    rcases k with _ | k
    · rfl
    · simp only [tk, List.getElem_cons_succ]
      rw [ih (c + 1) k (by simpa using hk)]
      congr 2
      omega
theorem tk_last (c : Nat) (l : List Bool) : lastB (tk c l) = lastb l := by
  induction l generalizing c with
  | nil => rfl
  | cons b r ih =>
    rcases r with _ | ⟨b2, r⟩
    · rfl
    · have := ih (c + 1)
      unfold lastB lastb at this ⊢
      simp only [tk] at this ⊢
      rw [List.getLast?_cons_cons, this, List.getLast?_cons_cons]
theorem tk_early (c : Nat) (l : List Bool) : earlyB (tk c l) = earlyb l := by
  unfold earlyB earlyb
  induction l generalizing c with
  | nil => rfl
  | cons b r ih =>
    rcases r with _ | ⟨b2, r⟩
    · rfl
    · have := ih (c + 1)
      simp only [tk] at this ⊢
      rw [List.dropLast_cons_cons, List.dropLast_cons_cons, List.any_cons, List.any_cons, this]
      rfl
theorem lastb_append (a : List Bool) (b : List Bool) (h : 0 < b.length) : lastb (a ++ b) = lastb b := by
  unfold lastb
  rw [List.getLast?_append]
  cases hb : b.getLast? with
  | none => simp at hb; subst hb; simp at h
  | some x => rfl
theorem tk_drop (cs : List Bool) (g : Nat) (h : g < cs.length) : tk g (cs.drop g) = (.empty, (g : Int), cs[g]) :: tk (g + 1) (cs.drop (g + 1)) := by
  rw [List.drop_eq_getElem_cons h]; rfl
theorem tk_push (cs d : List Bool) (g : Nat) (h : g ≤ cs.length) : tk g (cs.drop g) ++ tk cs.length d = tk g ((cs ++ d).drop g) := by
  rw [List.drop_append_of_le_length h, tk_append, List.length_drop]
  congr 2
  omega
end Go.Proofs.Ythncigahodannaa
