/- Templates: plain words: what is written of parts. No program in sight. -/
import Derived.Test.YtgaidgblihnldaaGreatDoorTmP
import Derived.Lib.ReplaceLaws
set_option linter.unusedSimpArgs false
set_option linter.unusedVariables false
set_option maxRecDepth 100000
namespace Go.Proofs.YtgaidgblihnldaaGreatDoor
open Go.RowKit
theorem ext_all (s : ByteArray) : s.extract 0 s.size = s := by
  apply inL
  rw [cut_l]; rfl
def escL : List UInt8 → List UInt8
  | [] => []
  | b :: r => if b = 36 then 36 :: 36 :: escL r else b :: escL r
def escB (s : ByteArray) : ByteArray := ⟨(escL s.data.toList).toArray⟩
theorem escL_app (a b : List UInt8) : escL (a ++ b) = escL a ++ escL b := by
  induction a with
  | nil => rfl
  | cons x r ih =>
    simp only [List.cons_append, escL, ih]
    split <;> simp
theorem escL_len (l : List UInt8) : (escL l).length ≤ 2 * l.length := by
  induction l with
  | nil => exact Nat.le_refl _
  | cons x r ih =>
    simp only [escL]
    split <;> simp <;> omega
theorem escB_size (s : ByteArray) : (escB s).size ≤ 2 * s.size := by
  have := escL_len s.data.toList
  rw [blen] at this
  show (escL s.data.toList).toArray.size ≤ _
  rw [List.size_toArray]
  exact this
theorem escB_l (s : ByteArray) : (escB s).data.toList = escL s.data.toList := by unfold escB; show (escL s.data.toList).toArray.toList = _; rw [List.toList_toArray]
theorem escB_app (a b : ByteArray) : escB (a ++ b) = escB a ++ escB b := by
  refine inL ?_
  rw [escB_l, app_l, app_l, escL_app, escB_l, escB_l]
theorem replaceK_esc : ∀ l : List UInt8, Lib.replaceK [36] [36, 36] (Lib.count l [36]) l = escL l
  | [] => rfl
  | b :: l => by
    have ih := replaceK_esc l
    by_cases h : b = 36
    · subst h
      rw [Lib.count_cons_eq, Nat.add_comm, Lib.replaceK_hit [36] [36, 36] _ _ 0 (by rw [Lib.index_one]; rfl)]
      simp only [List.take_zero, List.nil_append, List.length_singleton, Nat.zero_add, List.drop_succ_cons, List.drop_zero, escL, if_pos]
      rw [ih]
      rfl
    · rw [Lib.count_cons_ne _ _ _ h]
      simp only [escL, if_neg h]
      rw [← ih]
      cases hc : Lib.count l [36] with
      | zero => rfl
      | succ k =>
        obtain ⟨i, hi⟩ := Lib.index_of_count (s := l) (old := [36]) (by omega)
        have hi2 : Lib.index (b :: l) [36] = ((i + 1 : Nat) : Int) := by
          rw [Lib.index_one] at hi ⊢
          unfold Lib.indexByte
          have hb : (b == 36) = false := by simpa using h
          rw [hb, hi]
          have : ((i : Int) == -1) = false := by rw [beq_eq_false_iff_ne]; omega
          simp [this]
        rw [Lib.replaceK_hit _ _ _ _ _ hi2, Lib.replaceK_hit _ _ _ _ _ hi]
        simp
theorem replaceAll_esc (s : ByteArray) : (⟨(Lib.replaceAll s.data.toList (⟨#[36]⟩ : ByteArray).data.toList (⟨#[36, 36]⟩ : ByteArray).data.toList).toArray⟩ : ByteArray) = escB s := by
  show (⟨(Lib.replaceAll s.data.toList [36] [36, 36]).toArray⟩ : ByteArray) = escB s
  unfold escB Lib.replaceAll Lib.replace
  rw [if_neg (by decide), ← replaceK_esc]
  congr 2
/-- a part's text -/
def wr1 (p : Prt) : ByteArray := if p.1 = 1 then escB p.2 else if p.1 = 2 then ⟨#[36, 123]⟩ ++ p.2 ++ ⟨#[125]⟩ else if p.1 = 3 then ⟨#[36, 123, 64]⟩ ++ p.2 ++ ⟨#[125]⟩ else ⟨#[]⟩
def wrL (l : List Prt) : ByteArray := l.foldl (fun s p => s ++ wr1 p) ⟨#[]⟩
theorem wrL_app (l : List Prt) (p : Prt) : wrL (l ++ [p]) = wrL l ++ wr1 p := by unfold wrL; rw [List.foldl_append]; rfl
theorem wrL_take {l : List Prt} {k : Nat} (h : k < l.length) : wrL (l.take (k + 1)) = wrL (l.take k) ++ wr1 l[k] := by rw [List.take_succ_eq_append_getElem h, wrL_app]
theorem emp_add (a : ByteArray) : (⟨#[]⟩ : ByteArray) ++ a = a := by
  refine inL ?_
  rw [app_l]; rfl
theorem add_emp (a : ByteArray) : a ++ (⟨#[]⟩ : ByteArray) = a := by
  refine inL ?_
  rw [app_l]; simp
theorem wrL_fold (s : ByteArray) (l : List Prt) : l.foldl (fun s p => s ++ wr1 p) s = s ++ wrL l := by
  induction l generalizing s with
  | nil => exact (add_emp s).symm
  | cons p r ih =>
    unfold wrL
    simp only [List.foldl_cons]
    rw [ih, ih, emp_add, ByteArray.append_assoc]
theorem wrL_cons (p : Prt) (l : List Prt) : wrL (p :: l) = wr1 p ++ wrL l := by
  show (p :: l).foldl (fun s p => s ++ wr1 p) ⟨#[]⟩ = _
  rw [List.foldl_cons, wrL_fold, emp_add]
theorem wrL_appL (a b : List Prt) : wrL (a ++ b) = wrL a ++ wrL b := by
  unfold wrL
  rw [List.foldl_append, wrL_fold]
  rfl
theorem wr1_size (p : Prt) : (wr1 p).size ≤ 2 * p.2.size + 4 := by
  have := escB_size p.2
  unfold wr1
  split
  · omega
  · split
    · rw [ByteArray.size_append, ByteArray.size_append]; show 2 + _ + 1 ≤ _; omega
    · split
      · rw [ByteArray.size_append, ByteArray.size_append]; show 3 + _ + 1 ≤ _; omega
      · exact Nat.zero_le _
theorem wrL_size (l : List Prt) : (wrL l).size ≤ 2 * sumT l + 4 * l.length := by
  induction l with
  | nil => exact Nat.zero_le _
  | cons p r ih =>
    have := wr1_size p
    rw [wrL_cons, ByteArray.size_append]
    simp only [sumT, List.map_cons, List.sum_cons, List.length_cons] at ih ⊢
    omega
theorem sumT_bound {l : List Prt} {b : Nat} (h : ∀ p ∈ l, p.2.size ≤ b) : sumT l ≤ l.length * b := by
  induction l with
  | nil => simp [sumT]
  | cons p r ih =>
    have h1 := ih (fun q hq => h q (.tail _ hq))
    have h2 := h p (.head _)
    simp only [sumT, List.map_cons, List.sum_cons, List.length_cons, Nat.add_mul] at h1 ⊢
    omega
/-- what a template's text is, or that it is none -/
def textT (l : List Prt) : ByteArray × Int := if (parseT (wrL l)).2 ≠ 0 ∨ (parseT (wrL l)).1 ≠ l then (⟨#[]⟩, 2) else (wrL l, 0)
/-- WHAT IS READ IS WRITTEN AS IT WAS -/
theorem wrL_mrg (acc : List Prt) (s : ByteArray) : wrL (mrgT acc s) = wrL acc ++ escB s := by
  by_cases h : ∃ p, acc[acc.length - 1]? = some p ∧ p.1 = 1
  · obtain ⟨p, h1, h2⟩ := h
    have hl := (List.getElem?_eq_some_iff.1 h1).1
    have h3 := (List.getElem?_eq_some_iff.1 h1).2
    rw [mrgT_old h1 h2]
    have e1 : acc = acc.take (acc.length - 1) ++ [p] := by
      conv => lhs; rw [← List.take_append_drop (acc.length - 1) acc]
      congr 1
      rw [List.drop_eq_getElem_cons hl, h3]
      congr 1
      exact List.drop_of_length_le (by omega)
    have e2 : acc.set (acc.length - 1) (1, p.2 ++ s) = acc.take (acc.length - 1) ++ [(1, p.2 ++ s)] := by
      rw [List.set_eq_take_append_cons_drop, if_pos hl]
      congr 1
      rw [List.drop_of_length_le (by omega)]
    rw [e2, wrL_app]
    conv => rhs; rw [e1, wrL_app]
    have : wr1 (1, p.2 ++ s) = wr1 p ++ escB s := by
      unfold wr1
      rw [if_pos rfl, if_pos h2, escB_app]
    rw [this, ByteArray.append_assoc]
  · rw [mrgT_new (fun p hp e => h ⟨p, hp, e⟩), wrL_app]
    congr 1
theorem escB_one {b : UInt8} (h : b ≠ 36) : escB ⟨#[b]⟩ = ⟨#[b]⟩ := by
  show (⟨(escL [b]).toArray⟩ : ByteArray) = _
  simp [escL, h]
theorem ext_one (s : ByteArray) {k : Nat} (h : k < s.size) : s.extract k (k + 1) = ⟨#[s[k]]⟩ := by
  refine inL ?_
  rw [exL, List.take_succ_eq_append_getElem (by rw [blen]; exact h), List.drop_append, List.drop_of_length_le (by rw [List.length_take]; omega), List.length_take, Nat.min_eq_left (by rw [blen]; omega), Nat.sub_self, bget s k h]
  rfl
theorem ext_two (s : ByteArray) {k : Nat} {a b : UInt8} (h1 : atB s k (a.toNat : Int) = true) (h2 : atB s (k + 1) (b.toNat : Int) = true) : s.extract k (k + 2) = ⟨#[a, b]⟩ := by
  obtain ⟨hk, e1⟩ := atB_of h1
  obtain ⟨hk1, e2⟩ := atB_of h2
  have e1 : s[k] = a := UInt8.toNat_inj.1 (by omega)
  have e2 : s[k + 1] = b := UInt8.toNat_inj.1 (by omega)
  rw [← ext_cat s (a := k) (b := k + 1) (c := k + 2) (by omega) (by omega) (by omega), ext_one s hk, ext_one s hk1, e1, e2]
  rfl
/-- a part that is read is written as it stood -/
theorem wr_one {s : ByteArray} {k j : Nat} {p : Prt} (h : oneT s k = some (p, j)) : wr1 p = s.extract k j := by
  unfold oneT at h
  split at h
  · rename_i h0
    split at h
    · rename_i hk
      split at h
      · cases h
        have hn := atB_no h0 hk
        have hb : s[k] ≠ 36 := fun e => hn (by rw [e]; rfl)
        unfold wr1
        rw [if_pos rfl, ext_one s hk, escB_one hb]
      · cases h
    · cases h
  · rename_i h0
    have h0 : atB s k 36 = true := by simpa using h0
    obtain ⟨hk, _⟩ := atB_of h0
    have hl := tw_le nbrI s k (by omega)
    split at h
    · rename_i h1
      cases h
      rw [ext_two s (a := 36) (b := 36) h0 h1]
      rfl
    · split at h
      · cases h
      · rename_i h2
        have hne : k + tw nbrI s k ≠ s.size := fun e => h2 (.inl e)
        have h3' : ¬ k + tw nbrI s k < k + 3 := fun e => h2 (.inr (.inl e))
        have h123 : atB s (k + 1) 123 = true := by
          cases hh : atB s (k + 1) 123 with
          | true => rfl
          | false => exact absurd (.inr (.inr hh)) h2
        have hend := tw_end (q := nbrI) (s := s) (k := k) (by omega) (by omega)
        have hend : (((s[k + tw nbrI s k]'(by omega)).toNat : Int) != 125) = false := hend
        have h125 : s[k + tw nbrI s k]'(by omega) = 125 := by
          have := bne_eq_false_iff_eq.1 hend
          exact UInt8.toNat_inj.1 (by show _ = 125; omega)
        have hlast := ext_one s (k := k + tw nbrI s k) (by omega)
        rw [h125] at hlast
        have h2x := ext_two s (a := 36) (b := 123) h0 h123
        split at h
        · rename_i h64
          split at h
          · cases h
            obtain ⟨hk2, e64⟩ := atB_of h64
            have e64 : s[k + 2] = 64 := UInt8.toNat_inj.1 (by show _ = 64; omega)
            have h3x := ext_one s hk2
            rw [e64] at h3x
            have h4x : s.extract k (k + 3) = ⟨#[36, 123, 64]⟩ := by
              rw [← ext_cat s (a := k) (b := k + 2) (c := k + 3) (by omega) (by omega) (by omega), h2x, h3x]
              rfl
            unfold wr1
            rw [if_neg (by show ¬ ((3 : Int) = 1); decide), if_neg (by show ¬ ((3 : Int) = 2); decide), if_pos rfl, ← h4x, ← hlast]
            simp only
            rw [ext_cat s (by omega) (by omega) (by omega), ext_cat s (by omega) (by omega) (by omega)]
          · cases h
        · split at h
          · cases h
            unfold wr1
            rw [if_neg (by show ¬ ((2 : Int) = 1); decide), if_pos rfl, ← h2x, ← hlast]
            simp only
            rw [ext_cat s (by omega) (by omega) (by omega), ext_cat s (by omega) (by omega) (by omega)]
          · cases h
theorem wr_put (acc : List Prt) (p : Prt) : wrL (putT acc p) = wrL acc ++ wr1 p := by
  unfold putT
  split
  · rename_i h
    rw [wrL_mrg]
    congr 1
    unfold wr1
    rw [if_pos h]
  · rw [wrL_app]
theorem wr_back (s : ByteArray) : ∀ (z k : Nat) (acc l : List Prt), s.size - k ≤ z → k ≤ s.size → wrL acc = s.extract 0 k → tpW s k acc = some l → wrL l = s := by
  intro z
  induction z with
  | zero =>
    intro k acc l hz hk ha h
    rw [tpW_end (by omega)] at h
    cases h
    rw [ha, show k = s.size by omega]
    exact ext_all s
  | succ z ih =>
    intro k acc l hz hk ha h
    by_cases hlt : k < s.size
    · cases ho : oneT s k with
      | none => rw [tpW_none hlt ho] at h; cases h
      | some x =>
        obtain ⟨p, j⟩ := x
        obtain ⟨j1, j2⟩ := oneT_lt ho
        rw [tpW_some hlt ho] at h
        refine ih j _ l (by omega) j2 ?_ h
        rw [wr_put, ha, wr_one ho]
        exact ext_cat s (by omega) (by omega) (by omega)
    · rw [tpW_end hlt] at h
      cases h
      rw [ha, show k = s.size by omega]
      exact ext_all s
theorem parseT_back {s : ByteArray} (h : (parseT s).2 = 0) : wrL (parseT s).1 = s := by
  have hP : parseT s = match tpW s 0 [] with
    | none => ([], 2)
    | some l => if 32 < l.length then ([], 3) else (l, 0) := rfl
  cases ht : tpW s 0 [] with
  | none =>
    rw [ht] at hP
    rw [hP] at h
    cases h
  | some l =>
    rw [ht] at hP
    simp only at hP
    by_cases hl : 32 < l.length
    · rw [if_pos hl] at hP
      rw [hP] at h
      cases h
    · rw [if_neg hl] at hP
      rw [hP]
      exact wr_back s _ 0 [] l (Nat.le_refl _) (Nat.zero_le _) (by refine inL ?_; rw [exL]; rfl) ht
theorem textT_back {s : ByteArray} (h : (parseT s).2 = 0) : textT (parseT s).1 = (s, 0) := by
  unfold textT
  rw [parseT_back h, if_neg]
  rintro (h1 | h1)
  · exact h1 h
  · exact h1 rfl
theorem parseT_sum (s : ByteArray) : ∀ (z k : Nat) (acc l : List Prt), s.size - k ≤ z → acc.length ≤ k → sumT acc ≤ k → k ≤ s.size → tpW s k acc = some l → l.length ≤ s.size ∧ sumT l ≤ s.size := by
  intro z
  induction z with
  | zero =>
    intro k acc l hz h1 h2 hk h
    rw [tpW_end (by omega)] at h
    cases h
    omega
  | succ z ih =>
    intro k acc l hz h1 h2 hk h
    by_cases hlt : k < s.size
    · cases ho : oneT s k with
      | none => rw [tpW_none hlt ho] at h; cases h
      | some x =>
        obtain ⟨p, j⟩ := x
        obtain ⟨j1, j2⟩ := oneT_lt ho
        rw [tpW_some hlt ho] at h
        have hp : p.2.size ≤ j - k := by
          unfold oneT at ho
          have ez : ∀ a b, (s.extract a b).size ≤ b - a := fun a b => by rw [ByteArray.size_extract]; omega
          repeat' split at ho
          all_goals first
            | (cases ho; done)
            | (cases ho; first | (show 1 ≤ _; omega) | (refine Nat.le_trans (ez _ _) ?_; omega))
        have hl := putT_len acc p
        have hs : sumT (putT acc p) ≤ sumT acc + p.2.size := by
          unfold putT
          split
          · rw [sumT_mrg]; exact Nat.le_refl _
          · simp [sumT]
        exact ih j _ l (by omega) (by omega) (by omega) j2 h
    · rw [tpW_end hlt] at h
      cases h
      omega
theorem parseT_len (s : ByteArray) : (parseT s).1.length ≤ 32 ∧ (parseT s).1.length ≤ s.size ∧ sumT (parseT s).1 ≤ s.size := by
  have hP : parseT s = match tpW s 0 [] with
    | none => ([], 2)
    | some l => if 32 < l.length then ([], 3) else (l, 0) := rfl
  cases ht : tpW s 0 [] with
  | none =>
    rw [ht] at hP
    rw [hP]
    exact ⟨by decide, Nat.zero_le _, Nat.zero_le _⟩
  | some l =>
    have := parseT_sum s _ 0 [] l (Nat.le_refl _) (Nat.le_refl _) (Nat.le_refl _) (Nat.zero_le _) ht
    rw [ht] at hP
    simp only at hP
    rw [hP]
    split
    · exact ⟨by decide, Nat.zero_le _, Nat.zero_le _⟩
    · exact ⟨by show l.length ≤ 32; omega, this.1, this.2⟩
/-- the names that must be known -/
def namT (l : List Prt) : List ByteArray := l.foldl (fun acc p => if p.1 = 2 ∧ memB acc p.2 = false then acc ++ [p.2] else acc) []
theorem namT_take {l : List Prt} {k : Nat} (h : k < l.length) : namT (l.take (k + 1)) = if l[k].1 = 2 ∧ memB (namT (l.take k)) l[k].2 = false then namT (l.take k) ++ [l[k].2] else namT (l.take k) := by
  rw [List.take_succ_eq_append_getElem h]
  unfold namT
  rw [List.foldl_append]
  rfl
theorem namT_len (l : List Prt) : ∀ k, k ≤ l.length → (namT (l.take k)).length ≤ k
  | 0, _ => by simp [namT]
  | k + 1, h => by
    have ih := namT_len l k (by omega)
    rw [namT_take (by omega)]
    split
    · simp; omega
    · omega
end Go.Proofs.YtgaidgblihnldaaGreatDoor
