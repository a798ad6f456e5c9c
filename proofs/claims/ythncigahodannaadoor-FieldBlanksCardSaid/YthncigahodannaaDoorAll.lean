/- octet.All at the classes, octet.Token. -/
import Derived.Test.YthncigahodannaaDoorOct
import Derived.Deep.LoopGhost
namespace Go.Proofs.YthncigahodannaaDoor
open Go.RowKit

def allI (p : Int → Bool) (s : ByteArray) : Bool := s.data.toList.all fun b => p (b.toNat : Int)

theorem blen (s : ByteArray) : s.data.toList.length = s.size := by rw [Array.length_toList]; rfl
theorem bget (s : ByteArray) (k : Nat) (h : k < s.size) : s.data.toList[k]'(by rw [blen]; exact h) = s[k] := rfl
theorem allI_true {p : Int → Bool} {s : ByteArray} (h : ∀ k (hk : k < s.size), p (s[k].toNat : Int) = true) : allI p s = true := by
  unfold allI
  rw [List.all_eq_true]
  intro x hx
  obtain ⟨k, hk, rfl⟩ := List.getElem_of_mem hx
  exact h k (by rw [← blen]; exact hk)
theorem allI_false {p : Int → Bool} {s : ByteArray} {k : Nat} (hk : k < s.size) (h : p (s[k].toNat : Int) = false) : allI p s = false := by
  unfold allI
  rw [List.all_eq_false]
  exact ⟨s[k], List.mem_iff_getElem.2 ⟨k, by rw [blen]; exact hk, rfl⟩, by simp [h]⟩

def ARel (p : Int → Bool) (s : ByteArray) (k : Nat) : Prop := ∀ j (hj : j < s.size), j < k → p (s[j].toNat : Int) = true

set_option maxHeartbeats 400000 in
theorem all_value (s : ByteArray) (hs : s.size ≤ maxLen) (g o c : Nat) (w : World) (hc : w.cell? ⟨g, o, none⟩ = some (.string s)) :
    Calls Tryd.prog 19 #[.func (.func 20) #[] #[], .slice (some ⟨g, o, none⟩) 1 c] w fun e w' => e = .returned (.bool (allI valI s)) ∧ w = w' := by
  unfold maxLen at hs
  go_enter Tryd.func19, Tryd.ntmps19
  go_wp2_with fail
  go_loopg [10] 1 (fun gk s10 wr => w = wr ∧ ((gk = 1 ∧ s10 = .int .i64 0) ∨ (gk = 0 ∧ s10 = .int .i64 1 ∧ allI valI s = true)))
  case atStart => exact ⟨rfl, .inl ⟨rfl, rfl⟩⟩
  case round =>
    obtain ⟨rfl, h | h⟩ := hrel
    · obtain ⟨rfl, rfl⟩ := h
      go_wp2_with fail
      go_loopg [16] s.size (fun gk s16 wr => w = wr ∧ ∃ k : Nat, k + gk = s.size ∧ s16 = .int .i64 k ∧ ARel valI s k)
      case atStart => exact ⟨rfl, 0, by omega, rfl, fun j _ h => absurd h (by omega)⟩
      case round =>
        obtain ⟨rfl, k, hk, rfl, hr⟩ := hrel
        by_cases hlt : k < s.size
        · cases hp : valI (s[k].toNat : Int)
          · have hP := (isValue_any (s[k].toNat : Int) w)
            rw [hp] at hP
            have HF := Lib.hid (allI_false hlt hp)
            clear hp
            go_wp2_with fail
            refine hP.mono ?_; rintro e w1 ⟨rfl, rfl⟩
            go_wp2_with fail
            go_ret
            exact ⟨by rw [HF.out]; rfl, rfl⟩
          · have hP := (isValue_any (s[k].toNat : Int) w)
            rw [hp] at hP
            have HF := Lib.hid hp
            clear hp
            go_wp2_with fail
            refine hP.mono ?_; rintro e w1 ⟨rfl, rfl⟩
            go_wp2_with fail
            go_roundg (gk - 1)
            case measure => omega
            case rel =>
              refine ⟨rfl, k + 1, by omega, by go_num, fun j hj hjk => ?_⟩
              by_cases e : j = k
              · subst e; exact HF.out
              · exact hr j hj (by omega)
        · have HF := Lib.hid (allI_true (fun j hj => hr j hj (by omega)))
          clear hr
          go_wp2_with fail
          go_roundg 0
          case measure => omega
          case rel => exact ⟨rfl, .inr ⟨rfl, by go_num, HF.out⟩⟩
    · obtain ⟨rfl, rfl, ha⟩ := h
      have HF := Lib.hid ha
      clear ha
      go_wp2_with fail
      go_ret
      exact ⟨by rw [HF.out]; rfl, rfl⟩

set_option maxHeartbeats 400000 in
theorem all_token (s : ByteArray) (hs : s.size ≤ maxLen) (g o c : Nat) (w : World) (hc : w.cell? ⟨g, o, none⟩ = some (.string s)) :
    Calls Tryd.prog 19 #[.func (.func 31) #[] #[], .slice (some ⟨g, o, none⟩) 1 c] w fun e w' => e = .returned (.bool (allI tokI s)) ∧ w = w' := by
  unfold maxLen at hs
  go_enter Tryd.func19, Tryd.ntmps19
  go_wp2_with fail
  go_loopg [10] 1 (fun gk s10 wr => w = wr ∧ ((gk = 1 ∧ s10 = .int .i64 0) ∨ (gk = 0 ∧ s10 = .int .i64 1 ∧ allI tokI s = true)))
  case atStart => exact ⟨rfl, .inl ⟨rfl, rfl⟩⟩
  case round =>
    obtain ⟨rfl, h | h⟩ := hrel
    · obtain ⟨rfl, rfl⟩ := h
      go_wp2_with fail
      go_loopg [16] s.size (fun gk s16 wr => w = wr ∧ ∃ k : Nat, k + gk = s.size ∧ s16 = .int .i64 k ∧ ARel tokI s k)
      case atStart => exact ⟨rfl, 0, by omega, rfl, fun j _ h => absurd h (by omega)⟩
      case round =>
        obtain ⟨rfl, k, hk, rfl, hr⟩ := hrel
        by_cases hlt : k < s.size
        · cases hp : tokI (s[k].toNat : Int)
          · have hP := (isToken_any (s[k].toNat : Int) w (by omega) (by have := s[k].toNat_lt; omega))
            rw [hp] at hP
            have HF := Lib.hid (allI_false hlt hp)
            clear hp
            go_wp2_with fail
            refine hP.mono ?_; rintro e w1 ⟨rfl, rfl⟩
            go_wp2_with fail
            go_ret
            exact ⟨by rw [HF.out]; rfl, rfl⟩
          · have hP := (isToken_any (s[k].toNat : Int) w (by omega) (by have := s[k].toNat_lt; omega))
            rw [hp] at hP
            have HF := Lib.hid hp
            clear hp
            go_wp2_with fail
            refine hP.mono ?_; rintro e w1 ⟨rfl, rfl⟩
            go_wp2_with fail
            go_roundg (gk - 1)
            case measure => omega
            case rel =>
              refine ⟨rfl, k + 1, by omega, by go_num, fun j hj hjk => ?_⟩
              by_cases e : j = k
              · subst e; exact HF.out
              · exact hr j hj (by omega)
        · have HF := Lib.hid (allI_true (fun j hj => hr j hj (by omega)))
          clear hr
          go_wp2_with fail
          go_roundg 0
          case measure => omega
          case rel => exact ⟨rfl, .inr ⟨rfl, by go_num, HF.out⟩⟩
    · obtain ⟨rfl, rfl, ha⟩ := h
      have HF := Lib.hid ha
      clear ha
      go_wp2_with fail
      go_ret
      exact ⟨by rw [HF.out]; rfl, rfl⟩


theorem empB0 {s : ByteArray} (h : s.size = 0) : s.toList.isEmpty = true := by
  rw [Lib.toList_data]
  have := blen s
  cases hd : s.data.toList with
  | nil => rfl
  | cons x r => rw [hd] at this; simp at this; omega
theorem empB1 {s : ByteArray} (h : 0 < s.size) : s.toList.isEmpty = false := by
  rw [Lib.toList_data]
  have := blen s
  cases hd : s.data.toList with
  | nil => rw [hd] at this; simp at this; omega
  | cons x r => rfl

def tokB (s : ByteArray) : Bool := decide (0 < s.size) && allI tokI s

set_option maxHeartbeats 400000 in
theorem token_any (s : ByteArray) (hs : s.size ≤ maxLen) (w : World) :
    Calls Tryd.prog 27 #[.string s] w fun e w' => e = .returned (.bool (tokB s)) ∧ Chg w w' (fun _ => False) := by
  unfold tokB
  by_cases h0 : s.size = 0
  · have hz := empB0 h0
    have hd : decide (0 < s.size) = false := by rw [h0]; rfl
    rw [hd]
    clear hd h0
    go_enter Tryd.func27, Tryd.ntmps27
    go_wp2_with fail
    go_ret
    exact ⟨rfl, Chg.refl _ _⟩
  · have hz := empB1 (s := s) (by omega)
    have hd : decide (0 < s.size) = true := decide_eq_true (by omega)
    rw [hd]
    clear hd h0
    go_enter Tryd.func27, Tryd.ntmps27
    go_wp2_with fail
    refine (all_token s hs _ 0 1 _ (by simp)).mono ?_; rintro e w1 ⟨rfl, rfl⟩
    go_wp2_with fail
    go_ret
    exact ⟨rfl, by repeat (first | exact Chg.refl _ _ | assumption | refine Chg.drewN ?_ _ | refine Chg.drew ?_ | refine Chg.alloc ?_ _)⟩
end Go.Proofs.YthncigahodannaaDoor
