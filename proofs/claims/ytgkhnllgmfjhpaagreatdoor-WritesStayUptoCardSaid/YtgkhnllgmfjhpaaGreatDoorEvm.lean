/- Templates: what they come to, by the program and by the document: finding, cleaning. No statement of its own. -/
import Derived.Test.YtgkhnllgmfjhpaaGreatDoorTmF
import Derived.Test.YtgkhnllgmfjhpaaGreatDoorFd
set_option linter.unusedSimpArgs false
set_option linter.unusedVariables false
set_option maxRecDepth 100000
namespace Go.Proofs.YtgkhnllgmfjhpaaGreatDoor
open Go.RowKit
/-- what is found of a name -/
def fndT (l : List Fld) (x : ByteArray) : ByteArray := match l.find? (fun f => decide (f.1 = x)) with
  | some f => f.2
  | none => ⟨#[]⟩
theorem fndT_at {l : List Fld} {x : ByteArray} {k : Nat} (h : k < l.length) (h1 : ∀ j (hj : j < l.length), j < k → l[j].1 ≠ x) (h2 : l[k].1 = x) : fndT l x = l[k].2 := by
  induction l generalizing k with
  | nil => simp at h
  | cons f r ih =>
    cases k with
    | zero =>
      have h2 : f.1 = x := h2
      unfold fndT
      simp only [List.find?_cons, h2, decide_true]
      rfl
    | succ k =>
      have h0 : f.1 ≠ x := h1 0 (by simp) (by omega)
      have := ih (k := k) (by simpa using h) (fun j hj hjk => h1 (j + 1) (Nat.succ_lt_succ hj) (by omega)) h2
      unfold fndT at this ⊢
      simp only [List.find?_cons, decide_eq_false h0]
      exact this
theorem fndT_no {l : List Fld} {x : ByteArray} (h1 : ∀ j (hj : j < l.length), l[j].1 ≠ x) : fndT l x = ⟨#[]⟩ := by
  unfold fndT
  rw [List.find?_eq_none.2 fun f hf => by
    obtain ⟨j, hj, rfl⟩ := List.getElem_of_mem hf
    simpa using h1 j hj]
theorem fndT_size {l : List Fld} {x : ByteArray} {B : Nat} (h : ∀ f ∈ l, f.2.size ≤ B) : (fndT l x).size ≤ B := by
  unfold fndT
  split
  · rename_i f hf
    exact h f (List.mem_of_find?_eq_some hf)
  · exact Nat.zero_le _
theorem find_p (l : List Fld) (x : ByteArray) (hl : l.length ≤ 1000000) : APure Tryz.prog 99 [.sl .no 2 (fldL l), .s x] (.s (fndT l x)) [] := by
  have hmx : maxLen = 9223372036854775807 := rfl
  have el := fldL_len l
  refine APure.of rfl (ACalls.of_vc T_ok mixed Tryz.func99 rfl Tryz.call99 ?_)
  refine vc_loop [9] (fun g vals st' => ∃ k : Nat, k + g = l.length ∧ vals = [.i k] ∧ ∀ j (hj : j < l.length), j < k → l[j].1 ≠ x) l.length rfl ⟨0, by omega, rfl, fun j _ h => absurd h (by omega)⟩ ?_
  rintro g vals st1 ⟨k, hk, rfl, ha⟩
  refine cnd_split (fun hd => ?_) (fun hd => ?_)
  · have hd := of_decide_eq_true hd
    have k1 : k < l.length := by omega
    refine ⟨k, _, rfl, fldL_at k1, ?_⟩
    refine ⟨_, last_at _ _, ?_⟩
    refine ⟨_, last_upd _ _ _, ?_⟩
    intro t ht
    cases t with
    | true =>
      refine ⟨_, last_upd _ _ _, ?_⟩
      exact rets (fndT_at k1 ha (ht.1 rfl)).symm
    | false =>
      have hne : l[k].1 ≠ x := fun e => by have := ht.2 e; cases this
      intro c hc
      rw [IntWalk.i64_in _ (by omega)] at hc
      obtain rfl : c = ((k + 1 : Nat) : Int) := by omega
      refine ⟨g - 1, by omega, k + 1, by omega, rfl, fun j hj hjk => ?_⟩
      by_cases e : j = k
      · subst e; exact hne
      · exact ha j hj (by omega)
  · have hd := of_decide_eq_false hd
    exact rets (fndT_no fun j hj => ha j hj (by omega)).symm
/-- the bytes that may be in a value, the first 65536 of them -/
def clF (s : ByteArray) (k : Nat) : List UInt8 := (s.data.toList.take k).filter fun b => valI (b.toNat : Int)
def clG (s : ByteArray) (k : Nat) : List UInt8 := (clF s k).take 65536
def clnB (s : ByteArray) : ByteArray := trimB ⟨(clG s s.size).toArray⟩
theorem clF_succ {s : ByteArray} {k : Nat} (h : k < s.size) : clF s (k + 1) = clF s k ++ (if valI (s[k].toNat : Int) = true then [s[k]] else []) := by
  unfold clF
  rw [List.take_succ_eq_append_getElem (by rw [blen]; exact h), List.filter_append, bget s k h]
  congr 1
  by_cases e : valI (s[k].toNat : Int) = true
  · rw [if_pos e]; simp only [List.filter, e]
  · rw [if_neg e]; rw [Bool.not_eq_true] at e; simp only [List.filter, e]
theorem clG_len (s : ByteArray) (k : Nat) : (clG s k).length ≤ 65536 := by unfold clG; rw [List.length_take]; omega
theorem clG_no {s : ByteArray} {k : Nat} (h : k < s.size) (e : valI (s[k].toNat : Int) = false) : clG s (k + 1) = clG s k := by
  unfold clG
  rw [clF_succ h, if_neg (by rw [e]; decide), List.append_nil]
theorem clG_yes {s : ByteArray} {k : Nat} (h : k < s.size) (e : valI (s[k].toNat : Int) = true) (hl : (clG s k).length < 65536) : clG s (k + 1) = clG s k ++ [s[k]] := by
  unfold clG at *
  rw [List.length_take] at hl
  rw [clF_succ h, if_pos e, List.take_of_length_le (by rw [List.length_append]; show _ + 1 ≤ _; omega), List.take_of_length_le (by omega)]
theorem clF_pre (s : ByteArray) (k n : Nat) : ∃ r, clF s (k + n) = clF s k ++ r := by
  unfold clF
  rw [List.take_add, List.filter_append]
  exact ⟨_, rfl⟩
theorem clG_full {s : ByteArray} {k n : Nat} (h : k ≤ n) (hl : ¬ (clG s k).length < 65536) : clG s n = clG s k := by
  obtain ⟨r, hr⟩ := clF_pre s k (n - k)
  rw [show k + (n - k) = n by omega] at hr
  unfold clG at *
  rw [List.length_take] at hl
  rw [hr, List.take_append_of_le_length (by omega)]
section
attribute [local irreducible] vcApp Int.decLt
theorem clean_p (s : ByteArray) (hs : s.size ≤ 1099511627776) : APure Tryz.prog 100 [.s s] (.s (clnB s)) [] := by
  have hmx : maxLen = 9223372036854775807 := rfl
  have ht := trim_p ⟨(clG s s.size).toArray⟩ spcS (by have := clG_len s s.size; show (clG s s.size).toArray.size ≤ _; rw [List.size_toArray]; omega) (by decide) (by decide)
  rw [trimCB] at ht
  refine APure.of rfl (ACalls.of_vc T_ok mixed Tryz.func100 rfl Tryz.call100 ?_)
  refine vc_loop [3, 4] (fun g vals st' => ∃ (k : Nat) (a : AV), k + g = s.size ∧ vals = [a, .i k] ∧ Acc 0 st'.tk 1 a (u8L (clG s k))) s.size rfl ⟨0, _, by omega, rfl, .nil⟩ ?_
  rintro g vals st1 ⟨k, a, hk, rfl, hA⟩
  have hgl := clG_len s k
  have hul := u8L_len (clG s k)
  generalize hes : u8L (clG s k) = es at hA hul
  cases hA with
  | nil =>
    have hul : 0 = (clG s k).length := hul
    refine cnd_split (fun hd => ?_) (fun hd => ?_)
    · have hd := of_decide_eq_true hd
      have k1 : k < s.size := by omega
      refine cnd_split (fun hd2 => ?_) (fun hd2 => ?_)
      case refine_2 => exact absurd (show (0 : Int) < 65536 by omega) (of_decide_eq_false hd2)
      refine ⟨k, k1, rfl, ?_⟩
      refine .p rfl (isValue_p _) ?_
      refine cnd_split (fun h2 => ?_) (fun h2 => ?_)
      · have hul2 : ([] : List (List AV)).length = 0 := rfl
        refine ⟨k, k1, rfl, ?_⟩
        refine Acc.app (n := 0) (i := ti5) (es := []) .nil (Nat.zero_le _) (List.cons_ne_nil _ _) ?_ ?_ (fun t9 e9 tk9 z0 z1 z2 z3 => ?_)
        · show (([] : List (List AV)).length + 1) * 1 ≤ _; omega
        · show ([] : List (List AV)).length + 1 ≤ _; omega
        intro c hc
        rw [IntWalk.i64_in _ (by omega)] at hc
        obtain rfl : c = ((k + 1 : Nat) : Int) := by omega
        refine ⟨g - 1, by omega, k + 1, _, by omega, rfl, ?_⟩
        rw [clG_yes k1 h2 (by omega), ← u8L_app, hes]
        exact .own _ _ _ (Nat.zero_le _) z1
      · skip
        intro c hc
        rw [IntWalk.i64_in _ (by omega)] at hc
        obtain rfl : c = ((k + 1 : Nat) : Int) := by omega
        refine ⟨g - 1, by omega, k + 1, _, by omega, rfl, ?_⟩
        rw [clG_no k1 h2, hes]
        exact .nil
    · have hd := of_decide_eq_false hd
      have e : k = s.size := by omega
      have hz : clG s s.size = [] := by rw [← e]; exact List.eq_nil_of_length_eq_zero hul.symm
      rw [hz] at ht
      refine .p rfl ht ?_
      unfold clnB
      rw [hz]
      rfl
  | own t e es q0 q1 =>
    refine cnd_split (fun hd => ?_) (fun hd => ?_)
    · have hd := of_decide_eq_true hd
      have k1 : k < s.size := by omega
      refine cnd_split (fun hd2 => ?_) (fun hd2 => ?_)
      · have hd2 : ((es.length : Nat) : Int) < 65536 := of_decide_eq_true hd2
        refine ⟨k, k1, rfl, ?_⟩
        refine .p rfl (isValue_p _) ?_
        refine cnd_split (fun h2 => ?_) (fun h2 => ?_)
        · skip
          refine ⟨k, k1, rfl, ?_⟩
          refine Acc.app (n := 0) (i := ti5) (es := es) (.own _ _ _ q0 q1) (Nat.zero_le _) (List.cons_ne_nil _ _) ?_ ?_ (fun t9 e9 tk9 z0 z1 z2 z3 => ?_)
          · show ((es : List (List AV)).length + 1) * 1 ≤ _; omega
          · show (es : List (List AV)).length + 1 ≤ _; omega
          intro c hc
          rw [IntWalk.i64_in _ (by omega)] at hc
          obtain rfl : c = ((k + 1 : Nat) : Int) := by omega
          refine ⟨g - 1, by omega, k + 1, _, by omega, rfl, ?_⟩
          rw [clG_yes k1 h2 (by omega), ← u8L_app, hes]
          exact .own _ _ _ (Nat.zero_le _) z1
        · skip
          intro c hc
          rw [IntWalk.i64_in _ (by omega)] at hc
          obtain rfl : c = ((k + 1 : Nat) : Int) := by omega
          refine ⟨g - 1, by omega, k + 1, _, by omega, rfl, ?_⟩
          rw [clG_no k1 h2, hes]
          exact (.own _ _ _ q0 q1)
      · have hd2 : ¬ ((es.length : Nat) : Int) < 65536 := of_decide_eq_false hd2
        have hf := clG_full (s := s) (k := k) (n := s.size) (by omega) (by omega)
        rw [hf] at ht
        refine ⟨(⟨(clG s k).toArray⟩ : ByteArray), by rw [← hes]; rfl, ?_⟩
        refine .p rfl ht ?_
        unfold clnB
        rw [hf]
        rfl
    · have hd := of_decide_eq_false hd
      have e : k = s.size := by omega
      subst e
      refine ⟨(⟨(clG s s.size).toArray⟩ : ByteArray), by rw [← hes]; rfl, ?_⟩
      refine .p rfl ht ?_
      rfl
end
def headV : List ByteArray → ByteArray × Bool
  | [] => (⟨#[]⟩, false)
  | v :: _ => (v, true)
theorem get_a {st : St} {R : AV → St → Prop} {p : Nat} (l : List Fld) (name : ByteArray) (hl : l.length ≤ 1099511627776) (hz : ∀ f ∈ l, f.1.size ≤ 1099511627776 ∧ f.2.size ≤ 1099511627776) (hn : name.size ≤ 1099511627776) (hp : st.heap[p]? = some [.sl .no 2 (fldL l)])
    (h : ∀ st', Gr st st' → R (.tup [.s (headV (valsW name l)).1, .b (headV (valsW name l)).2]) st') : ACalls Tryz.prog 60 [.ptr p 0, .s name] st R := by
  refine ACalls.of_vc T_ok mixed Tryz.func60 rfl Tryz.call60 ?_
  refine .s (values_a l name hl hz hn hp fun a st' hg hA => ?_)
  have h := h st' hg
  generalize valsW name l = V at hA h
  cases V with
  | nil =>
    cases hA with
    | nil => exact h
    | own t e es q0 q1 => exact h
  | cons v V =>
    have hA : Acc st.tk.length st'.tk 1 a ([.s v] :: strL V) := hA
    cases hA with
    | own t e es q0 q1 =>
      refine ⟨0, _, rfl, rfl, ?_⟩
      exact h
section
variable {kn fs : List Fld}
def pcv (kn fs : List Fld) (p : Prt) : List ByteArray := if p.1 = 1 then [p.2] else if p.1 = 2 then [fndT kn p.2] else if p.1 = 3 then [(headV (valsW p.2 fs)).1] else []
def vl1 (kn fs : List Fld) (p : Prt) : ByteArray := if p.1 = 1 then p.2 else if p.1 = 2 then fndT kn p.2 else if p.1 = 3 then (headV (valsW p.2 fs)).1 else ⟨#[]⟩
def evT (kn fs : List Fld) (l : List Prt) : ByteArray := joinC ⟨#[]⟩ (l.flatMap (pcv kn fs))
theorem pcv_1 {p : Prt} (h : p.1 = 1) : strL (pcv kn fs p) = [[.s p.2]] := by unfold pcv; rw [if_pos h]; rfl
theorem pcv_2 {p : Prt} (h : p.1 = 2) : strL (pcv kn fs p) = [[.s (fndT kn p.2)]] := by unfold pcv; rw [if_neg (by omega), if_pos h]; rfl
theorem pcv_3 {p : Prt} (h : p.1 = 3) : strL (pcv kn fs p) = [[.s (headV (valsW p.2 fs)).1]] := by unfold pcv; rw [if_neg (by omega), if_neg (by omega), if_pos h]; rfl
theorem pcv_0 {p : Prt} (h1 : p.1 ≠ 1) (h2 : p.1 ≠ 2) (h3 : p.1 ≠ 3) : strL (pcv kn fs p) = [] := by unfold pcv; rw [if_neg h1, if_neg h2, if_neg h3]; rfl
theorem pcv_take {l : List Prt} {k : Nat} (h : k < l.length) : (l.take (k + 1)).flatMap (pcv kn fs) = (l.take k).flatMap (pcv kn fs) ++ pcv kn fs l[k] := by rw [List.take_succ_eq_append_getElem h, List.flatMap_append]; simp
theorem pcv_len (l : List Prt) : ∀ k, k ≤ l.length → ((l.take k).flatMap (pcv kn fs)).length ≤ k
  | 0, _ => by simp
  | k + 1, h => by
    have ih := pcv_len l k (by omega)
    rw [pcv_take (by omega), List.length_append]
    have : (pcv kn fs l[k]).length ≤ 1 := by
      unfold pcv
      repeat' split
      all_goals simp
    omega
theorem join_pcv (p : Prt) : joinC ⟨#[]⟩ (pcv kn fs p) = vl1 kn fs p := by
  unfold pcv vl1
  repeat' split
  all_goals first | exact joinC_one _ _ | exact joinC_nil _
theorem evT_take {l : List Prt} {k : Nat} (h : k < l.length) : evT kn fs (l.take (k + 1)) = evT kn fs (l.take k) ++ vl1 kn fs l[k] := by
  unfold evT
  rw [pcv_take h, joinE_app, join_pcv]
theorem headV_size {n : ByteArray} {B : Nat} (h : ∀ f ∈ fs, f.2.size ≤ B) : (headV (valsW n fs)).1.size ≤ B := by
  cases hv : valsW n fs with
  | nil => exact Nat.zero_le _
  | cons v r =>
    obtain ⟨f, hf, e⟩ := valsW_mem (name := n) (l := fs) (v := v) (by rw [hv]; exact List.mem_cons_self)
    show v.size ≤ B
    rw [e]
    exact h f hf
theorem vl1_size {p : Prt} {B : Nat} (h1 : p.2.size ≤ B) (h2 : ∀ f ∈ kn, f.2.size ≤ B) (h3 : ∀ f ∈ fs, f.2.size ≤ B) : (vl1 kn fs p).size ≤ B := by
  unfold vl1
  split
  · exact h1
  · split
    · exact fndT_size h2
    · split
      · exact headV_size h3
      · exact Nat.zero_le _
theorem evT_size {B : Nat} (l : List Prt) (h1 : ∀ p ∈ l, p.2.size ≤ B) (h2 : ∀ f ∈ kn, f.2.size ≤ B) (h3 : ∀ f ∈ fs, f.2.size ≤ B) : ∀ k, k ≤ l.length → (evT kn fs (l.take k)).size ≤ k * B
  | 0, _ => by
    rw [List.take_zero]
    show (joinC ⟨#[]⟩ []).size ≤ _
    rw [joinC_nil]
    exact Nat.zero_le _
  | k + 1, h => by
    have ih := evT_size l h1 h2 h3 k (by omega)
    rw [evT_take (by omega), app_size, Nat.succ_mul]
    have := vl1_size (h1 _ (List.getElem_mem (show k < l.length by omega))) h2 h3
    omega
end
section
attribute [local irreducible] vcApp
set_option maxHeartbeats 1000000 in
theorem eval_p (kn fs : List Fld) (l : List Prt) (hkn : kn.length ≤ 1000000) (hfl : fs.length ≤ 1099511627776) (hfz : ∀ f ∈ fs, f.1.size ≤ 1099511627776 ∧ f.2.size ≤ 1099511627776) (hl : l.length ≤ 1000) (hlz : ∀ p ∈ l, p.2.size ≤ 1000000) (hev : (evT kn fs l).size ≤ 1099511627776) :
    APure Tryz.prog 82 [.sl .no 2 (fldL kn), .sl .no 2 (fldL fs), .sl .no 2 (prtL l)] (.s (clnB (evT kn fs l))) [] := by
  have hmx : maxLen = 9223372036854775807 := rfl
  have el := prtL_len l
  have hcl := clean_p _ hev
  have hjn := qjoin_p ⟨#[]⟩ (l.flatMap (pcv kn fs)) (by have := pcv_len (kn := kn) (fs := fs) l l.length (Nat.le_refl _); rw [List.take_of_length_le (Nat.le_refl _)] at this; omega) (by show (evT kn fs l).size ≤ _; omega)
  refine APure.of rfl (ACalls.of_vc T_ok mixed Tryz.func82 rfl Tryz.call82 ?_)
  refine .s (newB_a fs hfl ?_)
  refine vc_loop [8, 17] (fun g vals st' => ∃ (k : Nat) (a : AV), k + g = l.length ∧ vals = [a, .i k] ∧ st'.heap[0]? = some [.sl .no 2 (fldL fs)] ∧ Acc 0 st'.tk 1 a (strL ((l.take k).flatMap (pcv kn fs)))) l.length rfl ⟨0, _, by omega, rfl, rfl, .nil⟩ ?_
  rintro g vals st1 ⟨k, a, hk, rfl, hb, hA⟩
  have hpl := pcv_len (kn := kn) (fs := fs) l k (by omega)
  have hsl := strL_len ((l.take k).flatMap (pcv kn fs))
  generalize hes : strL ((l.take k).flatMap (pcv kn fs)) = es at hA hsl
  cases hA with
  | nil =>
    have hz0 : ([] : List (List AV)).length = 0 := rfl
    refine cnd_split (fun hd => ?_) (fun hd => ?_)
    · have hd := of_decide_eq_true hd
      have k1 : k < l.length := by omega
      have hlt := (List.getElem?_eq_some_iff.1 hb).1
      refine ⟨k, _, rfl, prtL_at k1, ?_⟩
      refine ⟨_, last_at _ _, ?_⟩
      have hb2 : ∀ c : List AV, (st1.heap ++ [c])[0]? = some [.sl .no 2 (fldL fs)] := fun c => by rw [List.getElem?_append_left hlt]; exact hb
      refine ⟨_, last_upd _ _ _, ?_⟩
      refine cnd_split (fun h1 => ?_) (fun h1 => ?_)
      · have h1 : l[k].1 = 1 := beq_iff_eq.1 h1
        refine ⟨_, last_upd _ _ _, ?_⟩
        refine Acc.app (n := 0) (i := ti9) (es := []) .nil (Nat.zero_le _) (List.cons_ne_nil _ _) ?_ ?_ (fun t9 e9 tk9 z0 z1 z2 z3 => ?_)
        · show (([] : List (List AV)).length + 1) * 16 ≤ _; omega
        · show ([] : List (List AV)).length + 1 ≤ _; omega
        intro c hc
        rw [IntWalk.i64_in _ (by omega)] at hc
        obtain rfl : c = ((k + 1 : Nat) : Int) := by omega
        refine ⟨g - 1, by omega, k + 1, _, by omega, rfl, (by rw [last_set]; exact hb2 _), ?_⟩
        rw [pcv_take k1, strL_appL, hes, pcv_1 h1]
        exact .own _ _ _ (Nat.zero_le _) z1
      have h1 : l[k].1 ≠ 1 := beq_eq_false_iff_ne.1 h1
      refine cnd_split (fun h2 => ?_) (fun h2 => ?_)
      · have h2 : l[k].1 = 2 := beq_iff_eq.1 h2
        refine ⟨_, last_upd _ _ _, ?_⟩
        refine .p rfl (find_p kn l[k].2 hkn) ?_
        refine Acc.app (n := 0) (i := ti9) (es := []) .nil (Nat.zero_le _) (List.cons_ne_nil _ _) ?_ ?_ (fun t9 e9 tk9 z0 z1 z2 z3 => ?_)
        · show (([] : List (List AV)).length + 1) * 16 ≤ _; omega
        · show ([] : List (List AV)).length + 1 ≤ _; omega
        intro c hc
        rw [IntWalk.i64_in _ (by omega)] at hc
        obtain rfl : c = ((k + 1 : Nat) : Int) := by omega
        refine ⟨g - 1, by omega, k + 1, _, by omega, rfl, (by rw [last_set]; exact hb2 _), ?_⟩
        rw [pcv_take k1, strL_appL, hes, pcv_2 h2]
        exact .own _ _ _ (Nat.zero_le _) z1
      have h2 : l[k].1 ≠ 2 := beq_eq_false_iff_ne.1 h2
      refine cnd_split (fun h3 => ?_) (fun h3 => ?_)
      · have h3 : l[k].1 = 3 := beq_iff_eq.1 h3
        refine ⟨_, last_upd _ _ _, ?_⟩
        refine .s (get_a fs l[k].2 hfl hfz (by have := hlz _ (List.getElem_mem k1); omega) (by rw [last_set]; exact hb2 _) fun st2 hg2 => ?_)
        have hb3 := hg2.pre.at' (p := 0) (cs := [.sl .no 2 (fldL fs)]) (by show ((st1.heap ++ _).set st1.heap.length _)[0]? = _; rw [last_set]; exact hb2 _)
        skip
        refine Acc.app (n := 0) (i := ti9) (es := []) .nil (Nat.zero_le _) (List.cons_ne_nil _ _) ?_ ?_ (fun t9 e9 tk9 z0 z1 z2 z3 => ?_)
        · show (([] : List (List AV)).length + 1) * 16 ≤ _; omega
        · show ([] : List (List AV)).length + 1 ≤ _; omega
        intro c hc
        rw [IntWalk.i64_in _ (by omega)] at hc
        obtain rfl : c = ((k + 1 : Nat) : Int) := by omega
        refine ⟨g - 1, by omega, k + 1, _, by omega, rfl, hb3, ?_⟩
        rw [pcv_take k1, strL_appL, hes, pcv_3 h3]
        exact .own _ _ _ (Nat.zero_le _) z1
      have h3 : l[k].1 ≠ 3 := beq_eq_false_iff_ne.1 h3
      intro c hc
      rw [IntWalk.i64_in _ (by omega)] at hc
      obtain rfl : c = ((k + 1 : Nat) : Int) := by omega
      refine ⟨g - 1, by omega, k + 1, _, by omega, rfl, (by rw [last_set]; exact hb2 _), ?_⟩
      rw [pcv_take k1, strL_appL, pcv_0 h1 h2 h3, List.append_nil, hes]
      exact .nil
    · have hd := of_decide_eq_false hd
      have hkl : k = l.length := by omega
      rw [hkl, List.take_of_length_le (Nat.le_refl _)] at hes
      rw [hes] at hjn
      refine .w (args' := [.s ⟨#[]⟩, .sl .no 1 []]) rfl ⟨.inl (.inl ⟨rfl, rfl⟩), .inr ⟨rfl, 1, rfl⟩, trivial⟩ hjn ?_
      refine .p rfl hcl ?_
      rfl
  | own t e es q0 q1 =>
    refine cnd_split (fun hd => ?_) (fun hd => ?_)
    · have hd := of_decide_eq_true hd
      have k1 : k < l.length := by omega
      have hlt := (List.getElem?_eq_some_iff.1 hb).1
      refine ⟨k, _, rfl, prtL_at k1, ?_⟩
      refine ⟨_, last_at _ _, ?_⟩
      have hb2 : ∀ c : List AV, (st1.heap ++ [c])[0]? = some [.sl .no 2 (fldL fs)] := fun c => by rw [List.getElem?_append_left hlt]; exact hb
      refine ⟨_, last_upd _ _ _, ?_⟩
      refine cnd_split (fun h1 => ?_) (fun h1 => ?_)
      · have h1 : l[k].1 = 1 := beq_iff_eq.1 h1
        refine ⟨_, last_upd _ _ _, ?_⟩
        refine Acc.app (n := 0) (i := ti9) (es := es) (.own _ _ _ q0 q1) (Nat.zero_le _) (List.cons_ne_nil _ _) ?_ ?_ (fun t9 e9 tk9 z0 z1 z2 z3 => ?_)
        · show ((es : List (List AV)).length + 1) * 16 ≤ _; omega
        · show (es : List (List AV)).length + 1 ≤ _; omega
        intro c hc
        rw [IntWalk.i64_in _ (by omega)] at hc
        obtain rfl : c = ((k + 1 : Nat) : Int) := by omega
        refine ⟨g - 1, by omega, k + 1, _, by omega, rfl, (by rw [last_set]; exact hb2 _), ?_⟩
        rw [pcv_take k1, strL_appL, hes, pcv_1 h1]
        exact .own _ _ _ (Nat.zero_le _) z1
      have h1 : l[k].1 ≠ 1 := beq_eq_false_iff_ne.1 h1
      refine cnd_split (fun h2 => ?_) (fun h2 => ?_)
      · have h2 : l[k].1 = 2 := beq_iff_eq.1 h2
        refine ⟨_, last_upd _ _ _, ?_⟩
        refine .p rfl (find_p kn l[k].2 hkn) ?_
        refine Acc.app (n := 0) (i := ti9) (es := es) (.own _ _ _ q0 q1) (Nat.zero_le _) (List.cons_ne_nil _ _) ?_ ?_ (fun t9 e9 tk9 z0 z1 z2 z3 => ?_)
        · show ((es : List (List AV)).length + 1) * 16 ≤ _; omega
        · show (es : List (List AV)).length + 1 ≤ _; omega
        intro c hc
        rw [IntWalk.i64_in _ (by omega)] at hc
        obtain rfl : c = ((k + 1 : Nat) : Int) := by omega
        refine ⟨g - 1, by omega, k + 1, _, by omega, rfl, (by rw [last_set]; exact hb2 _), ?_⟩
        rw [pcv_take k1, strL_appL, hes, pcv_2 h2]
        exact .own _ _ _ (Nat.zero_le _) z1
      have h2 : l[k].1 ≠ 2 := beq_eq_false_iff_ne.1 h2
      refine cnd_split (fun h3 => ?_) (fun h3 => ?_)
      · have h3 : l[k].1 = 3 := beq_iff_eq.1 h3
        refine ⟨_, last_upd _ _ _, ?_⟩
        refine .s (get_a fs l[k].2 hfl hfz (by have := hlz _ (List.getElem_mem k1); omega) (by rw [last_set]; exact hb2 _) fun st2 hg2 => ?_)
        have hb3 := hg2.pre.at' (p := 0) (cs := [.sl .no 2 (fldL fs)]) (by show ((st1.heap ++ _).set st1.heap.length _)[0]? = _; rw [last_set]; exact hb2 _)
        have q2 := (hg2.tk t (List.getElem?_eq_some_iff.1 q1).1).trans q1
        refine Acc.app (n := 0) (i := ti9) (es := es) (.own _ _ _ q0 q2) (Nat.zero_le _) (List.cons_ne_nil _ _) ?_ ?_ (fun t9 e9 tk9 z0 z1 z2 z3 => ?_)
        · show ((es : List (List AV)).length + 1) * 16 ≤ _; omega
        · show (es : List (List AV)).length + 1 ≤ _; omega
        intro c hc
        rw [IntWalk.i64_in _ (by omega)] at hc
        obtain rfl : c = ((k + 1 : Nat) : Int) := by omega
        refine ⟨g - 1, by omega, k + 1, _, by omega, rfl, hb3, ?_⟩
        rw [pcv_take k1, strL_appL, hes, pcv_3 h3]
        exact .own _ _ _ (Nat.zero_le _) z1
      have h3 : l[k].1 ≠ 3 := beq_eq_false_iff_ne.1 h3
      intro c hc
      rw [IntWalk.i64_in _ (by omega)] at hc
      obtain rfl : c = ((k + 1 : Nat) : Int) := by omega
      refine ⟨g - 1, by omega, k + 1, _, by omega, rfl, (by rw [last_set]; exact hb2 _), ?_⟩
      rw [pcv_take k1, strL_appL, pcv_0 h1 h2 h3, List.append_nil, hes]
      exact (.own _ _ _ q0 q1)
    · have hd := of_decide_eq_false hd
      have hkl : k = l.length := by omega
      rw [hkl, List.take_of_length_le (Nat.le_refl _)] at hes
      rw [hes] at hjn
      refine .p rfl hjn ?_
      refine .p rfl hcl ?_
      rfl
attribute [local irreducible] Int.decLt
end
end Go.Proofs.YtgkhnllgmfjhpaaGreatDoor
