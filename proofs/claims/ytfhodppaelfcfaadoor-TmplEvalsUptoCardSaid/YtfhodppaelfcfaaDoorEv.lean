/- Templates: what they come to, by the program and by the document: finding, cleaning. No statement of its own. -/
import Derived.Test.YtfhodppaelfcfaaDoorTmF
import Derived.Test.YtfhodppaelfcfaaDoorFd
set_option linter.unusedSimpArgs false
set_option linter.unusedVariables false
set_option maxRecDepth 100000
namespace Go.Proofs.YtfhodppaelfcfaaDoor
open Go.RowKit
/-- what is found of a name -/
def fndT (l : List Fld) (x : ByteArray) : ByteArray := match l.find? (fun f => decide (f.1 = x)) with
  | some f => f.2
  | none => ⟨#[]⟩
theorem fndT_at {l : List Fld} {x : ByteArray} {k : Nat} (h : k < l.length) (h1 : ∀ j (hj : j < l.length), j < k → l[j].1 ≠ x) (h2 : l[k].1 = x) : fndT l x = l[k].2 := by
  induction l generalizing k with
  | nil => simp at h
  | cons f r ih =>
    cases k with
    | zero =>
      have h2 : f.1 = x := h2
      unfold fndT
      simp only [List.find?_cons, h2, decide_true]
      rfl
    | succ k =>
      have h0 : f.1 ≠ x := h1 0 (by simp) (by omega)
      have := ih (k := k) (by simpa using h) (fun j hj hjk => h1 (j + 1) (Nat.succ_lt_succ hj) (by omega)) h2
      unfold fndT at this ⊢
      simp only [List.find?_cons, decide_eq_false h0]
      exact this
theorem fndT_no {l : List Fld} {x : ByteArray} (h1 : ∀ j (hj : j < l.length), l[j].1 ≠ x) : fndT l x = ⟨#[]⟩ := by
  unfold fndT
  rw [List.find?_eq_none.2 fun f hf => by
    obtain ⟨j, hj, rfl⟩ := List.getElem_of_mem hf
    simpa using h1 j hj]
theorem fndT_size {l : List Fld} {x : ByteArray} {B : Nat} (h : ∀ f ∈ l, f.2.size ≤ B) : (fndT l x).size ≤ B := by
  unfold fndT
  split
  · rename_i f hf
    exact h f (List.mem_of_find?_eq_some hf)
  · exact Nat.zero_le _
theorem find_p (l : List Fld) (x : ByteArray) (hl : l.length ≤ 1000000) : APure Tryd.prog 86 [.sl .no 2 (fldL l), .s x] (.s (fndT l x)) [] := by
  have hmx : maxLen = 9223372036854775807 := rfl
  have el := fldL_len l
  refine APure.of rfl (ACalls.of_vc T_ok mixed Tryd.func86 rfl Tryd.call86 ?_)
  refine vc_loop [9] (fun g vals st' => ∃ k : Nat, k + g = l.length ∧ vals = [.i k] ∧ ∀ j (hj : j < l.length), j < k → l[j].1 ≠ x) l.length rfl ⟨0, by omega, rfl, fun j _ h => absurd h (by omega)⟩ ?_
  rintro g vals st1 ⟨k, hk, rfl, ha⟩
  refine cnd_split (fun hd => ?_) (fun hd => ?_)
  · have hd := of_decide_eq_true hd
    have k1 : k < l.length := by omega
    refine ⟨k, _, rfl, fldL_at k1, ?_⟩
    refine ⟨_, last_at _ _, ?_⟩
    refine ⟨_, last_upd _ _ _, ?_⟩
    intro t ht
    cases t with
    | true =>
      refine ⟨_, last_upd _ _ _, ?_⟩
      exact rets (fndT_at k1 ha (ht.1 rfl)).symm
    | false =>
      have hne : l[k].1 ≠ x := fun e => by have := ht.2 e; cases this
      intro c hc
      rw [IntWalk.i64_in _ (by omega)] at hc
      obtain rfl : c = ((k + 1 : Nat) : Int) := by omega
      refine ⟨g - 1, by omega, k + 1, by omega, rfl, fun j hj hjk => ?_⟩
      by_cases e : j = k
      · subst e; exact hne
      · exact ha j hj (by omega)
  · have hd := of_decide_eq_false hd
    exact rets (fndT_no fun j hj => ha j hj (by omega)).symm
/-- the bytes that may be in a value, the first 65536 of them -/
def clF (s : ByteArray) (k : Nat) : List UInt8 := (s.data.toList.take k).filter fun b => valI (b.toNat : Int)
def clG (s : ByteArray) (k : Nat) : List UInt8 := (clF s k).take 65536
def clnB (s : ByteArray) : ByteArray := trimB ⟨(clG s s.size).toArray⟩
theorem clF_succ {s : ByteArray} {k : Nat} (h : k < s.size) : clF s (k + 1) = clF s k ++ (if valI (s[k].toNat : Int) = true then [s[k]] else []) := by
  unfold clF
  rw [List.take_succ_eq_append_getElem (by rw [blen]; exact h), List.filter_append, bget s k h]
  congr 1
  by_cases e : valI (s[k].toNat : Int) = true
  · rw [if_pos e]; simp only [List.filter, e]
  · rw [if_neg e]; rw [Bool.not_eq_true] at e; simp only [List.filter, e]
theorem clG_len (s : ByteArray) (k : Nat) : (clG s k).length ≤ 65536 := by unfold clG; rw [List.length_take]; omega
theorem clG_no {s : ByteArray} {k : Nat} (h : k < s.size) (e : valI (s[k].toNat : Int) = false) : clG s (k + 1) = clG s k := by
  unfold clG
  rw [clF_succ h, if_neg (by rw [e]; decide), List.append_nil]
theorem clG_yes {s : ByteArray} {k : Nat} (h : k < s.size) (e : valI (s[k].toNat : Int) = true) (hl : (clG s k).length < 65536) : clG s (k + 1) = clG s k ++ [s[k]] := by
  unfold clG at *
  rw [List.length_take] at hl
  rw [clF_succ h, if_pos e, List.take_of_length_le (by rw [List.length_append]; show _ + 1 ≤ _; omega), List.take_of_length_le (by omega)]
theorem clF_pre (s : ByteArray) (k n : Nat) : ∃ r, clF s (k + n) = clF s k ++ r := by
  unfold clF
  rw [List.take_add, List.filter_append]
  exact ⟨_, rfl⟩
theorem clG_full {s : ByteArray} {k n : Nat} (h : k ≤ n) (hl : ¬ (clG s k).length < 65536) : clG s n = clG s k := by
  obtain ⟨r, hr⟩ := clF_pre s k (n - k)
  rw [show k + (n - k) = n by omega] at hr
  unfold clG at *
  rw [List.length_take] at hl
  rw [hr, List.take_append_of_le_length (by omega)]
section
attribute [local irreducible] vcApp Int.decLt
theorem clean_p (s : ByteArray) (hs : s.size ≤ 1099511627776) : APure Tryd.prog 87 [.s s] (.s (clnB s)) [] := by
  have hmx : maxLen = 9223372036854775807 := rfl
  have ht := trim_p ⟨(clG s s.size).toArray⟩ spcS (by have := clG_len s s.size; show (clG s s.size).toArray.size ≤ _; rw [List.size_toArray]; omega) (by decide) (by decide)
  rw [trimCB] at ht
  refine APure.of rfl (ACalls.of_vc T_ok mixed Tryd.func87 rfl Tryd.call87 ?_)
  refine vc_loop [3, 4] (fun g vals st' => ∃ (k : Nat) (a : AV), k + g = s.size ∧ vals = [a, .i k] ∧ Acc 0 st'.tk 1 a (u8L (clG s k))) s.size rfl ⟨0, _, by omega, rfl, .nil⟩ ?_
  rintro g vals st1 ⟨k, a, hk, rfl, hA⟩
  have hgl := clG_len s k
  have hul := u8L_len (clG s k)
  generalize hes : u8L (clG s k) = es at hA hul
  cases hA with
  | nil =>
    have hul : 0 = (clG s k).length := hul
    refine cnd_split (fun hd => ?_) (fun hd => ?_)
    · have hd := of_decide_eq_true hd
      have k1 : k < s.size := by omega
      refine cnd_split (fun hd2 => ?_) (fun hd2 => ?_)
      case refine_2 => exact absurd (show (0 : Int) < 65536 by omega) (of_decide_eq_false hd2)
      refine ⟨k, k1, rfl, ?_⟩
      refine .p rfl (isValue_p _) ?_
      refine cnd_split (fun h2 => ?_) (fun h2 => ?_)
      · have hul2 : ([] : List (List AV)).length = 0 := rfl
        refine ⟨k, k1, rfl, ?_⟩
        refine Acc.app (n := 0) (i := ti5) (es := []) .nil (Nat.zero_le _) (List.cons_ne_nil _ _) ?_ ?_ (fun t9 e9 tk9 z0 z1 z2 z3 => ?_)
        · show (([] : List (List AV)).length + 1) * 1 ≤ _; omega
        · show ([] : List (List AV)).length + 1 ≤ _; omega
        intro c hc
        rw [IntWalk.i64_in _ (by omega)] at hc
        obtain rfl : c = ((k + 1 : Nat) : Int) := by omega
        refine ⟨g - 1, by omega, k + 1, _, by omega, rfl, ?_⟩
        rw [clG_yes k1 h2 (by omega), ← u8L_app, hes]
        exact .own _ _ _ (Nat.zero_le _) z1
      · skip
        intro c hc
        rw [IntWalk.i64_in _ (by omega)] at hc
        obtain rfl : c = ((k + 1 : Nat) : Int) := by omega
        refine ⟨g - 1, by omega, k + 1, _, by omega, rfl, ?_⟩
        rw [clG_no k1 h2, hes]
        exact .nil
    · have hd := of_decide_eq_false hd
      have e : k = s.size := by omega
      have hz : clG s s.size = [] := by rw [← e]; exact List.eq_nil_of_length_eq_zero hul.symm
      rw [hz] at ht
      refine .p rfl ht ?_
      unfold clnB
      rw [hz]
      rfl
  | own t e es q0 q1 =>
    refine cnd_split (fun hd => ?_) (fun hd => ?_)
    · have hd := of_decide_eq_true hd
      have k1 : k < s.size := by omega
      refine cnd_split (fun hd2 => ?_) (fun hd2 => ?_)
      · have hd2 : ((es.length : Nat) : Int) < 65536 := of_decide_eq_true hd2
        refine ⟨k, k1, rfl, ?_⟩
        refine .p rfl (isValue_p _) ?_
        refine cnd_split (fun h2 => ?_) (fun h2 => ?_)
        · skip
          refine ⟨k, k1, rfl, ?_⟩
          refine Acc.app (n := 0) (i := ti5) (es := es) (.own _ _ _ q0 q1) (Nat.zero_le _) (List.cons_ne_nil _ _) ?_ ?_ (fun t9 e9 tk9 z0 z1 z2 z3 => ?_)
          · show ((es : List (List AV)).length + 1) * 1 ≤ _; omega
          · show (es : List (List AV)).length + 1 ≤ _; omega
          intro c hc
          rw [IntWalk.i64_in _ (by omega)] at hc
          obtain rfl : c = ((k + 1 : Nat) : Int) := by omega
          refine ⟨g - 1, by omega, k + 1, _, by omega, rfl, ?_⟩
          rw [clG_yes k1 h2 (by omega), ← u8L_app, hes]
          exact .own _ _ _ (Nat.zero_le _) z1
        · skip
          intro c hc
          rw [IntWalk.i64_in _ (by omega)] at hc
          obtain rfl : c = ((k + 1 : Nat) : Int) := by omega
          refine ⟨g - 1, by omega, k + 1, _, by omega, rfl, ?_⟩
          rw [clG_no k1 h2, hes]
          exact (.own _ _ _ q0 q1)
      · have hd2 : ¬ ((es.length : Nat) : Int) < 65536 := of_decide_eq_false hd2
        have hf := clG_full (s := s) (k := k) (n := s.size) (by omega) (by omega)
        rw [hf] at ht
        refine ⟨(⟨(clG s k).toArray⟩ : ByteArray), by rw [← hes]; rfl, ?_⟩
        refine .p rfl ht ?_
        unfold clnB
        rw [hf]
        rfl
    · have hd := of_decide_eq_false hd
      have e : k = s.size := by omega
      subst e
      refine ⟨(⟨(clG s s.size).toArray⟩ : ByteArray), by rw [← hes]; rfl, ?_⟩
      refine .p rfl ht ?_
      rfl
end
def headV : List ByteArray → ByteArray × Bool
  | [] => (⟨#[]⟩, false)
  | v :: _ => (v, true)
theorem get_a {st : St} {R : AV → St → Prop} {p : Nat} (l : List Fld) (name : ByteArray) (hl : l.length ≤ 1099511627776) (hz : ∀ f ∈ l, f.1.size ≤ 1099511627776 ∧ f.2.size ≤ 1099511627776) (hn : name.size ≤ 1099511627776) (hp : st.heap[p]? = some [.sl .no 2 (fldL l)])
    (h : ∀ st', Gr st st' → R (.tup [.s (headV (valsW name l)).1, .b (headV (valsW name l)).2]) st') : ACalls Tryd.prog 46 [.ptr p 0, .s name] st R := by
  refine ACalls.of_vc T_ok mixed Tryd.func46 rfl Tryd.call46 ?_
  refine .s (values_a l name hl hz hn hp fun a st' hg hA => ?_)
  have h := h st' hg
  generalize valsW name l = V at hA h
  cases V with
  | nil =>
    cases hA with
    | nil => exact h
    | own t e es q0 q1 => exact h
  | cons v V =>
    have hA : Acc st.tk.length st'.tk 1 a ([.s v] :: strL V) := hA
    cases hA with
    | own t e es q0 q1 =>
      refine ⟨0, _, rfl, rfl, ?_⟩
      exact h
end Go.Proofs.YtfhodppaelfcfaaDoor
