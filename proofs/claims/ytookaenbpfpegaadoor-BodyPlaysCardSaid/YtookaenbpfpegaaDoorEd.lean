/- Data cut into pieces; the laws of the encoder. No statement of its own. -/
import Derived.Test.YtookaenbpfpegaaDoorEc
import Derived.Test.YtookaenbpfpegaaDoorVg
set_option linter.unusedSimpArgs false
set_option linter.unusedVariables false
set_option maxRecDepth 100000
namespace Go.Proofs.YtookaenbpfpegaaDoor
open Go.RowKit
def byL (l : List Int) : List (List AV) := l.map fun z => [AV.int .u8 z]
theorem byL_len (l : List Int) : (byL l).length = l.length := by simp [byL]
theorem byL_at {l : List Int} {k : Nat} (h : k < l.length) : (byL l)[k]? = some [.int .u8 l[k]] := by simp [byL, h]
def Byt (l : List Int) : Prop := ∀ z ∈ l, 0 ≤ z ∧ z < 256
theorem tmod_nat {z : Int} (h : 0 ≤ z ∧ z < 256) : z.tmod 17 = ((z.toNat % 17 : Nat) : Int) := by
  obtain ⟨n, rfl⟩ := Int.eq_ofNat_of_zero_le h.1
  rfl
theorem tmod_in {z : Int} (h : 0 ≤ z ∧ z < 256) : -9223372036854775808 ≤ z.tmod 17 ∧ z.tmod 17 ≤ 9223372036854775807 := by
  rw [tmod_nat h]
  omega
def cutW : List Int → ByteArray → List ByteArray
  | [], s => [s]
  | z :: r, s => s.extract 0 (if s.size < z.toNat % 17 then s.size else z.toNat % 17) :: cutW r (s.extract (if s.size < z.toNat % 17 then s.size else z.toNat % 17) s.size)
theorem cutW_at {l : List Int} {i : Nat} {s : ByteArray} (h : i < l.length) : cutW (l.drop i) s = s.extract 0 (if s.size < l[i].toNat % 17 then s.size else l[i].toNat % 17) :: cutW (l.drop (i + 1)) (s.extract (if s.size < l[i].toNat % 17 then s.size else l[i].toNat % 17) s.size) := by
  rw [List.drop_eq_getElem_cons h, cutW]
def catB (l : List ByteArray) : ByteArray := l.foldl (· ++ ·) ⟨#[]⟩
theorem foldl_app (l : List ByteArray) : ∀ a : ByteArray, l.foldl (· ++ ·) a = a ++ l.foldl (· ++ ·) ⟨#[]⟩ := by
  induction l with
  | nil => intro a; exact (add_empB a).symm
  | cons x l ih =>
    intro a
    rw [List.foldl_cons, List.foldl_cons, ih (a ++ x), ih (⟨#[]⟩ ++ x), ← ByteArray.append_assoc]
    have : (⟨#[]⟩ ++ x : ByteArray) = x := toInj (by rw [app_l']; rfl)
    rw [this]
theorem catB_cons (x : ByteArray) (l : List ByteArray) : catB (x :: l) = x ++ catB l := by
  unfold catB
  rw [List.foldl_cons, foldl_app, show (⟨#[]⟩ ++ x : ByteArray) = x from toInj (by rw [app_l']; rfl)]
theorem catB_take {l : List ByteArray} {k : Nat} (h : k < l.length) : catB (l.take (k + 1)) = catB (l.take k) ++ l[k] := by
  rw [List.take_succ_eq_append_getElem h]
  unfold catB
  rw [List.foldl_append]
  rfl
theorem cutW_cat : ∀ (l : List Int) (s : ByteArray), catB (cutW l s) = s
  | [], s => by
    rw [cutW, catB_cons]
    exact add_empB s
  | z :: r, s => by
    rw [cutW, catB_cons, cutW_cat r]
    generalize hm : (if s.size < z.toNat % 17 then s.size else z.toNat % 17) = m
    have hle : m ≤ s.size := by rw [← hm]; split <;> omega
    refine toInj ?_
    rw [app_l', extB, extB, List.drop_zero, List.take_of_length_le (l := s.data.toList) (i := s.size) (by rw [blen]; exact Nat.le_refl _), List.take_append_drop]
theorem cutW_len : ∀ (l : List Int) (s : ByteArray), (cutW l s).length = l.length + 1
  | [], s => rfl
  | z :: r, s => by
    rw [cutW, List.length_cons, cutW_len r, List.length_cons]
theorem catB_le {l : List ByteArray} {k : Nat} (h : k ≤ l.length) : (catB (l.take k)).size ≤ (catB l).size := by
  have e : catB l = catB (l.take k) ++ catB (l.drop k) := by
    conv => lhs; rw [← List.take_append_drop k l]
    unfold catB
    rw [List.foldl_append, foldl_app]
  rw [e, app_size]
  omega
section
attribute [local irreducible] vcApp
theorem cut16_p (s : ByteArray) (l : List Int) (hb : Byt l) (hs : s.size ≤ 1099511627776) : APure Tryd.prog 12 [.s s, .sl .no 1 (byL l)] (.sl .no 1 (strL (cutW (l.take 60) s))) [] := by
  have hmx : maxLen = 9223372036854775807 := rfl
  have el := byL_len l
  refine APure.ofX rfl ?_
  refine ACalls.of_vc T_ok mixed Tryd.func12 rfl Tryd.call12 ?_
  refine vc_loop [0, 5, 6] (fun g vals st' => ∃ (i : Nat) (S : ByteArray) (a' : AV) (o : List ByteArray), i + g = (l.take 60).length ∧ vals = [.s S, a', .i i] ∧ Acc 0 st'.tk 1 a' (strL o) ∧ o ++ cutW ((l.take 60).drop i) S = cutW (l.take 60) s ∧ o.length ≤ i) (l.take 60).length rfl ⟨0, s, .nilS, [], by omega, rfl, .nil, rfl, Nat.le_refl _⟩ ?_
  rintro g vals st' ⟨i, S, a', o, hi, rfl, hA, hO, hol0⟩
  rw [List.length_take] at hi
  rcases hA.form with rfl | ⟨t, e, rfl⟩
  · skip
    refine cnd_split (fun hd => ?_) (fun hd => ?_)
    · have hd := of_decide_eq_true hd
      have i1 : i < l.length := by omega
      refine cnd_split (fun h6 => ?_) (fun h6 => ?_)
      · have h6 := of_decide_eq_true h6
        have hb0 := hb _ (List.getElem_mem i1)
        have i2 : i < (l.take 60).length := by rw [List.length_take]; omega
        rw [cutW_at i2, List.getElem_take] at hO
        refine ⟨i, _, rfl, byL_at i1, ?_⟩
        refine ⟨by decide, ?_⟩
        intro c hc
        have hc2 : c = ((l[i].toNat % 17 : Nat) : Int) := by
          rw [IntWalk.i64_in _ (tmod_in hb0)] at hc
          rw [hc]
          exact tmod_nat hb0
        subst hc2
        have hmin := minI_at (l[i].toNat % 17) S.size
        obtain ⟨m, hm⟩ : ∃ m, m = (if S.size < l[i].toNat % 17 then S.size else l[i].toNat % 17) := ⟨_, rfl⟩
        have hmS : m ≤ S.size := by rw [hm]; split <;> omega
        rw [← hm] at hmin hO
        refine ⟨m, hmin, Nat.zero_le _, hmS, ?_⟩
        have hol : (strL o).length ≤ 61 := by rw [strL_len]; omega
        refine Acc.app (n := 0) (i := ti9) hA (Nat.zero_le _) (List.cons_ne_nil _ _) ?_ ?_ (fun t1 e1 tk1 q0 q1 q2 q3 => ?_)
        · show ((strL o).length + 1) * 16 ≤ _; omega
        · show (strL o).length + 1 ≤ _; omega
        refine ⟨m, hmin, hmS, Nat.le_refl _, ?_⟩
        intro c hc
        rw [IntWalk.i64_in _ (by omega)] at hc
        obtain rfl : c = ((i + 1 : Nat) : Int) := by omega
        refine ⟨g - 1, by omega, i + 1, S.extract m S.size, _, o ++ [S.extract 0 m], by rw [List.length_take]; omega, rfl, ?_, ?_, by rw [List.length_append]; simp; omega⟩
        · rw [← strL_snoc]
          exact .own _ _ _ q0 q1
        · rw [List.append_assoc]
          exact hO
      · have h6 := of_decide_eq_false h6
        have hdr : (l.take 60).drop i = [] := List.drop_of_length_le (by rw [List.length_take]; omega)
        rw [hdr] at hO
        have hol : (strL o).length ≤ 61 := by rw [strL_len]; omega
        refine Acc.app (n := 0) (i := ti9) hA (Nat.zero_le _) (List.cons_ne_nil _ _) ?_ ?_ (fun t1 e1 tk1 q0 q1 q2 q3 => ?_)
        · show ((strL o).length + 1) * 16 ≤ _; omega
        · show (strL o).length + 1 ≤ _; omega
        have e9 : strL o ++ [[.s S]] = strL (cutW (l.take 60) s) := by rw [strL_snoc, ← hO]; rfl
        exact .inl (.inl ⟨congrArg (AV.sl .no 1) e9, rfl⟩)
    · have hd := of_decide_eq_false hd
      have hdr : (l.take 60).drop i = [] := List.drop_of_length_le (by rw [List.length_take]; omega)
      rw [hdr] at hO
      have hol : (strL o).length ≤ 61 := by rw [strL_len]; omega
      refine Acc.app (n := 0) (i := ti9) hA (Nat.zero_le _) (List.cons_ne_nil _ _) ?_ ?_ (fun t1 e1 tk1 q0 q1 q2 q3 => ?_)
      · show ((strL o).length + 1) * 16 ≤ _; omega
      · show (strL o).length + 1 ≤ _; omega
      have e9 : strL o ++ [[.s S]] = strL (cutW (l.take 60) s) := by rw [strL_snoc, ← hO]; rfl
      exact .inl (.inl ⟨congrArg (AV.sl .no 1) e9, rfl⟩)
  · skip
    refine cnd_split (fun hd => ?_) (fun hd => ?_)
    · have hd := of_decide_eq_true hd
      have i1 : i < l.length := by omega
      refine cnd_split (fun h6 => ?_) (fun h6 => ?_)
      · have h6 := of_decide_eq_true h6
        have hb0 := hb _ (List.getElem_mem i1)
        have i2 : i < (l.take 60).length := by rw [List.length_take]; omega
        rw [cutW_at i2, List.getElem_take] at hO
        refine ⟨i, _, rfl, byL_at i1, ?_⟩
        refine ⟨by decide, ?_⟩
        intro c hc
        have hc2 : c = ((l[i].toNat % 17 : Nat) : Int) := by
          rw [IntWalk.i64_in _ (tmod_in hb0)] at hc
          rw [hc]
          exact tmod_nat hb0
        subst hc2
        have hmin := minI_at (l[i].toNat % 17) S.size
        obtain ⟨m, hm⟩ : ∃ m, m = (if S.size < l[i].toNat % 17 then S.size else l[i].toNat % 17) := ⟨_, rfl⟩
        have hmS : m ≤ S.size := by rw [hm]; split <;> omega
        rw [← hm] at hmin hO
        refine ⟨m, hmin, Nat.zero_le _, hmS, ?_⟩
        have hol : (strL o).length ≤ 61 := by rw [strL_len]; omega
        refine Acc.app (n := 0) (i := ti9) hA (Nat.zero_le _) (List.cons_ne_nil _ _) ?_ ?_ (fun t1 e1 tk1 q0 q1 q2 q3 => ?_)
        · show ((strL o).length + 1) * 16 ≤ _; omega
        · show (strL o).length + 1 ≤ _; omega
        refine ⟨m, hmin, hmS, Nat.le_refl _, ?_⟩
        intro c hc
        rw [IntWalk.i64_in _ (by omega)] at hc
        obtain rfl : c = ((i + 1 : Nat) : Int) := by omega
        refine ⟨g - 1, by omega, i + 1, S.extract m S.size, _, o ++ [S.extract 0 m], by rw [List.length_take]; omega, rfl, ?_, ?_, by rw [List.length_append]; simp; omega⟩
        · rw [← strL_snoc]
          exact .own _ _ _ q0 q1
        · rw [List.append_assoc]
          exact hO
      · have h6 := of_decide_eq_false h6
        have hdr : (l.take 60).drop i = [] := List.drop_of_length_le (by rw [List.length_take]; omega)
        rw [hdr] at hO
        have hol : (strL o).length ≤ 61 := by rw [strL_len]; omega
        refine Acc.app (n := 0) (i := ti9) hA (Nat.zero_le _) (List.cons_ne_nil _ _) ?_ ?_ (fun t1 e1 tk1 q0 q1 q2 q3 => ?_)
        · show ((strL o).length + 1) * 16 ≤ _; omega
        · show (strL o).length + 1 ≤ _; omega
        have e9 : strL o ++ [[.s S]] = strL (cutW (l.take 60) s) := by rw [strL_snoc, ← hO]; rfl
        exact .inl (.inl ⟨congrArg (AV.sl .no 1) e9, rfl⟩)
    · have hd := of_decide_eq_false hd
      have hdr : (l.take 60).drop i = [] := List.drop_of_length_le (by rw [List.length_take]; omega)
      rw [hdr] at hO
      have hol : (strL o).length ≤ 61 := by rw [strL_len]; omega
      refine Acc.app (n := 0) (i := ti9) hA (Nat.zero_le _) (List.cons_ne_nil _ _) ?_ ?_ (fun t1 e1 tk1 q0 q1 q2 q3 => ?_)
      · show ((strL o).length + 1) * 16 ≤ _; omega
      · show (strL o).length + 1 ≤ _; omega
      have e9 : strL o ++ [[.s S]] = strL (cutW (l.take 60) s) := by rw [strL_snoc, ← hO]; rfl
      exact .inl (.inl ⟨congrArg (AV.sl .no 1) e9, rfl⟩)
variable {st : St} {R : AV → St → Prop}
theorem aw20 : allE 2 ⟨#[97, 98, 99]⟩ [] = (⟨#[50, 13, 10, 97, 98, 13, 10, 49, 13, 10, 99, 13, 10, 48, 13, 10, 13, 10]⟩, 0) := by decide +kernel
theorem putE_emp (z : Nat) : putE z (⟨#[]⟩ : ByteArray) = ⟨#[]⟩ ∧ restE z (⟨#[]⟩ : ByteArray) = ⟨#[]⟩ := by
  have h : fullW z (⟨#[]⟩ : ByteArray).data.toList = ([], []) := fullW_lt (by show z = 0 ∨ 0 < z; omega)
  unfold putE restE
  rw [h]
  exact ⟨rfl, rfl⟩
theorem cutS (n : Nat) (s : ByteArray) : ∃ m, m = (if n < s.size then n else s.size) ∧ m ≤ s.size ∧ m ≤ n ∧ (s.extract 0 m).size = m := by
  refine ⟨_, rfl, by split <;> omega, by split <;> omega, ?_⟩
  rw [ext_size _ _ _ (by split <;> omega)]
  omega
end
end Go.Proofs.YtookaenbpfpegaaDoor
