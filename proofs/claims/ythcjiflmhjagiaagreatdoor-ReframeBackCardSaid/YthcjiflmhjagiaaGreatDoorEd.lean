/- Data cut into pieces; the laws of the encoder. No statement of its own. -/
import Derived.Test.YthcjiflmhjagiaaGreatDoorEc
import Derived.Test.YthcjiflmhjagiaaGreatDoorVg
set_option linter.unusedSimpArgs false
set_option linter.unusedVariables false
set_option maxRecDepth 100000
namespace Go.Proofs.YthcjiflmhjagiaaGreatDoor
open Go.RowKit
def byL (l : List Int) : List (List AV) := l.map fun z => [AV.int .u8 z]
theorem byL_len (l : List Int) : (byL l).length = l.length := by simp [byL]
theorem byL_at {l : List Int} {k : Nat} (h : k < l.length) : (byL l)[k]? = some [.int .u8 l[k]] := by simp [byL, h]
def Byt (l : List Int) : Prop := ∀ z ∈ l, 0 ≤ z ∧ z < 256
theorem tmod_nat {z : Int} (h : 0 ≤ z ∧ z < 256) : z.tmod 17 = ((z.toNat % 17 : Nat) : Int) := by
  obtain ⟨n, rfl⟩ := Int.eq_ofNat_of_zero_le h.1
  rfl
theorem tmod_in {z : Int} (h : 0 ≤ z ∧ z < 256) : -9223372036854775808 ≤ z.tmod 17 ∧ z.tmod 17 ≤ 9223372036854775807 := by
  rw [tmod_nat h]
  omega
def cutW : List Int → ByteArray → List ByteArray
  | [], s => [s]
  | z :: r, s => s.extract 0 (if s.size < z.toNat % 17 then s.size else z.toNat % 17) :: cutW r (s.extract (if s.size < z.toNat % 17 then s.size else z.toNat % 17) s.size)
theorem cutW_at {l : List Int} {i : Nat} {s : ByteArray} (h : i < l.length) : cutW (l.drop i) s = s.extract 0 (if s.size < l[i].toNat % 17 then s.size else l[i].toNat % 17) :: cutW (l.drop (i + 1)) (s.extract (if s.size < l[i].toNat % 17 then s.size else l[i].toNat % 17) s.size) := by
  rw [List.drop_eq_getElem_cons h, cutW]
def catB (l : List ByteArray) : ByteArray := l.foldl (· ++ ·) ⟨#[]⟩
theorem foldl_app (l : List ByteArray) : ∀ a : ByteArray, l.foldl (· ++ ·) a = a ++ l.foldl (· ++ ·) ⟨#[]⟩ := by
  induction l with
  | nil => intro a; exact (add_empB a).symm
  | cons x l ih =>
    intro a
    rw [List.foldl_cons, List.foldl_cons, ih (a ++ x), ih (⟨#[]⟩ ++ x), ← ByteArray.append_assoc]
    have : (⟨#[]⟩ ++ x : ByteArray) = x := toInj (by rw [app_l']; rfl)
    rw [this]
theorem catB_cons (x : ByteArray) (l : List ByteArray) : catB (x :: l) = x ++ catB l := by
  unfold catB
  rw [List.foldl_cons, foldl_app, show (⟨#[]⟩ ++ x : ByteArray) = x from toInj (by rw [app_l']; rfl)]
theorem catB_take {l : List ByteArray} {k : Nat} (h : k < l.length) : catB (l.take (k + 1)) = catB (l.take k) ++ l[k] := by
  rw [List.take_succ_eq_append_getElem h]
  unfold catB
  rw [List.foldl_append]
  rfl
theorem cutW_cat : ∀ (l : List Int) (s : ByteArray), catB (cutW l s) = s
  | [], s => by
    rw [cutW, catB_cons]
    exact add_empB s
  | z :: r, s => by
    rw [cutW, catB_cons, cutW_cat r]
    generalize hm : (if s.size < z.toNat % 17 then s.size else z.toNat % 17) = m
    have hle : m ≤ s.size := by rw [← hm]; split <;> omega
    refine toInj ?_
    rw [app_l', extB, extB, List.drop_zero, List.take_of_length_le (l := s.data.toList) (i := s.size) (by rw [blen]; exact Nat.le_refl _), List.take_append_drop]
theorem cutW_len : ∀ (l : List Int) (s : ByteArray), (cutW l s).length = l.length + 1
  | [], s => rfl
  | z :: r, s => by
    rw [cutW, List.length_cons, cutW_len r, List.length_cons]
theorem catB_le {l : List ByteArray} {k : Nat} (h : k ≤ l.length) : (catB (l.take k)).size ≤ (catB l).size := by
  have e : catB l = catB (l.take k) ++ catB (l.drop k) := by
    conv => lhs; rw [← List.take_append_drop k l]
    unfold catB
    rw [List.foldl_append, foldl_app]
  rw [e, app_size]
  omega
section
attribute [local irreducible] vcApp
variable {st : St} {R : AV → St → Prop}
theorem all20_a {tg : Tk} (n : Int) (body : ByteArray) (l : List Fld) (hb : body.size ≤ 1000000) (hl : l.length ≤ 1000) (hz : ∀ f ∈ l, f.1.size ≤ 1100000 ∧ f.2.size ≤ 1100000)
    (hR : ∀ st', R (.tup [.s (allE n body l).1, .i (allE n body l).2]) st') : ACalls Tryz.prog 7 [.i n, .s body, .sl tg 2 (fldL l)] st R := by
  have hmx : maxLen = 9223372036854775807 := rfl
  have hE : allE n body l = if n < 1 ∨ 65536 < n then (⟨#[]⟩, 1) else if (lastW l).2 ≠ 0 then (⟨#[]⟩, (lastW l).2) else (putE n.toNat body ++ (pieceW (restE n.toNat body) ++ (lastW l).1), 0) := rfl
  generalize allE n body l = Z at hE hR
  have hlw := lastW_size hl hz
  refine ACalls.of_vc T_ok mixed Tryz.func7 rfl Tryz.call7 ?_
  refine .s (new20_a n (fun h => ?_) (fun h => ?_))
  · rw [if_pos h] at hE
    subst hE
    exact hR _
  · rw [if_neg h] at hE
    obtain ⟨m, rfl⟩ := Int.eq_ofNat_of_zero_le (show 0 ≤ n by omega)
    rw [Int.toNat_natCast] at hE
    have hemp : (⟨#[]⟩ ++ body : ByteArray) = body := toInj (by rw [app_l']; rfl)
    refine .s (put20_a (size := m) (buf := ⟨#[]⟩) body (by omega) (by omega) (by rw [hemp]; exact hb) (last_at _ _) (fun st1 m1 h1 => ?_))
    rw [hemp] at h1 ⊢
    have hpl := putE_le (size := m) (s := body) (by omega)
    have hrl := restE_le m body
    have hpw := pieceW_size (s := restE m body) (by omega)
    refine .s (end20_a l hl hz (by omega) h1 (fun h2 => ?_) (fun h2 st2 m2 h3 => ?_))
    · rw [if_pos h2] at hE
      subst hE
      refine cnd_split (fun _ => ?_) (fun h4 => absurd (bne_eq_false_iff_eq.1 h4) h2)
      exact hR _
    · rw [if_neg (fun h => h h2)] at hE
      subst hE
      refine ⟨by show (putE m body).size + (pieceW (restE m body) ++ (lastW l).1).size ≤ _; rw [app_size]; omega, ?_⟩
      exact hR _
theorem aw20 : allE 2 ⟨#[97, 98, 99]⟩ [] = (⟨#[50, 13, 10, 97, 98, 13, 10, 49, 13, 10, 99, 13, 10, 48, 13, 10, 13, 10]⟩, 0) := by decide +kernel
theorem awake20_p : APure Tryz.prog 5 [] (.b true) [] := by
  refine APure.of rfl ?_
  refine ACalls.of_vc T_ok mixed Tryz.func5 rfl Tryz.call5 ?_
  refine .s (ACalls.weak (args' := [.i 2, .s ⟨#[97, 98, 99]⟩, .sl .no 2 []]) ⟨.inl rfl, .inl rfl, .inr (.inr ⟨rfl, 2, rfl⟩), trivial⟩ (all20_a (tg := .no) 2 ⟨#[97, 98, 99]⟩ [] (by decide) (by simp) (fun f h => by cases h) (fun st' => ?_)))
  rw [aw20]
  intro t ht
  obtain rfl : t = true := ht.2 rfl
  rfl
theorem putE_emp (z : Nat) : putE z (⟨#[]⟩ : ByteArray) = ⟨#[]⟩ ∧ restE z (⟨#[]⟩ : ByteArray) = ⟨#[]⟩ := by
  have h : fullW z (⟨#[]⟩ : ByteArray).data.toList = ([], []) := fullW_lt (by show z = 0 ∨ 0 < z; omega)
  unfold putE restE
  rw [h]
  exact ⟨rfl, rfl⟩
theorem cutS (n : Nat) (s : ByteArray) : ∃ m, m = (if n < s.size then n else s.size) ∧ m ≤ s.size ∧ m ≤ n ∧ (s.extract 0 m).size = m := by
  refine ⟨_, rfl, by split <;> omega, by split <;> omega, ?_⟩
  rw [ext_size _ _ _ (by split <;> omega)]
  omega
end
end Go.Proofs.YthcjiflmhjagiaaGreatDoor
