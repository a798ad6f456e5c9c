/- Lines, as the program writes them. No statement of its own. -/
import Derived.Test.YticbonkojpabnaaGreatDoorRLnc
import Derived.Test.YticbonkojpabnaaGreatDoorRRqt
set_option linter.unusedSimpArgs false
set_option linter.unusedVariables false
set_option maxRecDepth 100000
namespace Go.Proofs.YticbonkojpabnaaGreatDoor
open Go.RowKit
section
def sp1 : ByteArray := ⟨#[32]⟩
/-- a line's bytes: a word and coded texts -/
def rowL (w : ByteArray) (l : List ByteArray) : List UInt8 := w.data.toList ++ l.flatMap fun x => 32 :: codeL x.data.toList
theorem join_row (w : ByteArray) (l : List ByteArray) : ∀ k, k <= l.length -> (joinC sp1 (w :: (l.take k).map codeB)).data.toList = rowL w (l.take k) := by
 intro k
 induction k with
 | zero => intro _; rw [List.take_zero, List.map_nil, joinC_one]; simp [rowL]
 | succ k ih =>
  intro hk
  have h := ih (by omega)
  rw [List.take_succ_eq_append_getElem (by omega : k < l.length), List.map_append, <- List.cons_append]
  show (joinC sp1 (_ ++ [codeB l[k]])).data.toList = _
  rw [joinC_snoc _ _ _ (List.cons_ne_nil _ _), app_l, app_l, h, codeB_l]
  simp only [rowL, List.flatMap_append, List.flatMap_cons, List.flatMap_nil, List.append_nil, List.append_assoc]
  rfl
attribute [local irreducible] vcApp
theorem row_a {st : St} {R : AV -> St -> Prop} {p m : Nat} {a : AV} {Lb : List UInt8} {tg : Tk} (w : ByteArray) (l : List ByteArray) (hl : l.length <= 1000) (hz : ∀ x ∈ l, x.size <= 1099511627776) (hp : st.heap[p]? = some [a, .i m]) (hAq : Acc 0 st.tk 1 a (u8L Lb))
  (hsz : Lb.length + (rowL w l).length + 1 <= m) (hm : m <= 1099511627776)
  (h : ∀ a' st', st'.heap[p]? = some [a', .i m] -> Acc 0 st'.tk 1 a' (u8L (Lb ++ (rowL w l ++ [10]))) -> Mv 0 (· = p) st st' -> R (.tup []) st') : ACalls Tryz.prog 26 [.agg [.ptr p 0], .s w, .sl tg 1 (strL l)] st R := by
 have hmx : maxLen = 9223372036854775807 := rfl
 have el := strL_len l
 refine ACalls.of_vc T_ok mixed Tryz.func26 rfl Tryz.call26 ?_
 refine ⟨lt_of hp, ?_⟩
 refine vc_loop [6, 13] (fun g vals st' => ∃ (k : Nat) (b : AV), k + g = l.length /\ vals = [b, .i k] /\ Acc2 st.tk.length st'.tk 1 b (strL (w :: (l.take k).map codeB)) /\ st'.heap[st.heap.length]? = some [.ptr p 0] /\ st'.heap[p]? = some [a, .i m] /\ Mv st.tk.length (· = p) st st') l.length rfl ⟨0, _, by omega, rfl, .tight _ _, last_at _ _, ap hp, (Mv.refl (Nat.le_refl _)).alloc _⟩ ?_
 rintro g vals st1 ⟨k, b, hk, rfl, hA, hb1, hp1, m1⟩
 have hA0 := hA
 generalize hes : strL (w :: (l.take k).map codeB) = es at hA0
 cases hA0 with
 | tight e0 es9 =>
  skip
  refine cnd_split (fun hd => ?_) (fun hd => ?_)
  ·have hd := of_decide_eq_true hd
   have k1 : k < l.length := by omega
   refine ⟨k, _, rfl, strL_at k1, ?_⟩
   refine .p rfl (code_p l[k] (hz _ (List.getElem_mem k1))) ?_
   refine Acc2.app (n := st.tk.length) (i := ti9) hA m1.tl (List.cons_ne_nil _ _) ?_ ?_ (fun t1 e1 tk1 q0 q1 q2 q3 => ?_)
   ·show ((strL (w :: (l.take k).map codeB)).length + 1) * 16 <= _; rw [strL_len, List.length_cons, List.length_map, List.length_take]; omega
   ·show (strL (w :: (l.take k).map codeB)).length + 1 <= _; rw [strL_len, List.length_cons, List.length_map, List.length_take]; omega
   intro c hc
   rw [IntWalk.i64_in _ (by omega)] at hc
   obtain rfl : c = ((k + 1 : Nat) : Int) := by omega
   refine ⟨g - 1, by omega, k + 1, _, by omega, rfl, ?_, hb1, hp1, m1.tks q2 q3⟩
   rw [List.take_succ_eq_append_getElem k1, List.map_append, <- List.cons_append, strL_appL]
   exact .own _ _ _ q0 q1
  ·have hd := of_decide_eq_false hd
   obtain rfl : k = l.length := by omega
   have hj := join_row w l l.length (Nat.le_refl _)
   rw [List.take_length] at hA hj hes
   have hA1 := hAq.mvT (m1.mono (Nat.le_refl _))
   have hjz : (joinC sp1 (w :: l.map codeB)).size = (rowL w l).length := by rw [<- hj, blen]
   refine .n (.one 0 (.one 1 (.one 2 (.one 3 (.one 4 (.only 5 .done)))))) (by kernel_rfl) ?_
   refine ⟨_, hb1, ?_⟩
   have hqj := qjoin_p sp1 (w :: l.map codeB) (by rw [List.length_cons, List.length_map]; omega) (by omega)
   rw [hes] at hqj
   refine .p rfl hqj ?_
   refine .s (qput_a (a := a) (m := m) (Lb := Lb) [joinC sp1 (w :: l.map codeB), ⟨#[10]⟩] (by simp) hp1 hA1 ?_ hm (fun a' st' r1 r2 r3 => ?_))
   ·simp only [catL, List.flatMap_cons, List.flatMap_nil, List.length_append, blen, hjz]
    simp
    omega
   refine h a' st' r1 ?_ ?_
   ·have e : catL [joinC sp1 (w :: l.map codeB), ⟨#[10]⟩] = rowL w l ++ [10] := by
     simp only [catL, List.flatMap_cons, List.flatMap_nil, hj]
     rfl
    rw [e] at r2
    exact r2
   ·exact (m1.mono (Nat.zero_le _)).trans r3 (fun q _ e => e)
 | own t0 e0 _ hn0 ht0 =>
  skip
  refine cnd_split (fun hd => ?_) (fun hd => ?_)
  ·have hd := of_decide_eq_true hd
   have k1 : k < l.length := by omega
   refine ⟨k, _, rfl, strL_at k1, ?_⟩
   refine .p rfl (code_p l[k] (hz _ (List.getElem_mem k1))) ?_
   refine Acc2.app (n := st.tk.length) (i := ti9) hA m1.tl (List.cons_ne_nil _ _) ?_ ?_ (fun t1 e1 tk1 q0 q1 q2 q3 => ?_)
   ·show ((strL (w :: (l.take k).map codeB)).length + 1) * 16 <= _; rw [strL_len, List.length_cons, List.length_map, List.length_take]; omega
   ·show (strL (w :: (l.take k).map codeB)).length + 1 <= _; rw [strL_len, List.length_cons, List.length_map, List.length_take]; omega
   intro c hc
   rw [IntWalk.i64_in _ (by omega)] at hc
   obtain rfl : c = ((k + 1 : Nat) : Int) := by omega
   refine ⟨g - 1, by omega, k + 1, _, by omega, rfl, ?_, hb1, hp1, m1.tks q2 q3⟩
   rw [List.take_succ_eq_append_getElem k1, List.map_append, <- List.cons_append, strL_appL]
   exact .own _ _ _ q0 q1
  ·have hd := of_decide_eq_false hd
   obtain rfl : k = l.length := by omega
   have hj := join_row w l l.length (Nat.le_refl _)
   rw [List.take_length] at hA hj hes
   have hA1 := hAq.mvT (m1.mono (Nat.le_refl _))
   have hjz : (joinC sp1 (w :: l.map codeB)).size = (rowL w l).length := by rw [<- hj, blen]
   refine .n (.one 0 (.one 1 (.one 2 (.one 3 (.one 4 (.only 5 .done)))))) (by kernel_rfl) ?_
   refine ⟨_, hb1, ?_⟩
   have hqj := qjoin_p sp1 (w :: l.map codeB) (by rw [List.length_cons, List.length_map]; omega) (by omega)
   rw [hes] at hqj
   refine .p rfl hqj ?_
   refine .s (qput_a (a := a) (m := m) (Lb := Lb) [joinC sp1 (w :: l.map codeB), ⟨#[10]⟩] (by simp) hp1 hA1 ?_ hm (fun a' st' r1 r2 r3 => ?_))
   ·simp only [catL, List.flatMap_cons, List.flatMap_nil, List.length_append, blen, hjz]
    simp
    omega
   refine h a' st' r1 ?_ ?_
   ·have e : catL [joinC sp1 (w :: l.map codeB), ⟨#[10]⟩] = rowL w l ++ [10] := by
     simp only [catL, List.flatMap_cons, List.flatMap_nil, hj]
     rfl
    rw [e] at r2
    exact r2
   ·exact (m1.mono (Nat.zero_le _)).trans r3 (fun q _ e => e)
end
section
abbrev Swp := ByteArray × ByteArray
/-- lines of swaps -/
def swpL (w : ByteArray) (l : List Swp) : List UInt8 := l.flatMap fun x => rowL w [x.1, x.2] ++ [10]
theorem swpL_take {w : ByteArray} {l : List Swp} {k : Nat} (h : k < l.length) : swpL w (l.take (k + 1)) = swpL w (l.take k) ++ (rowL w [l[k].1, l[k].2] ++ [10]) := by
 unfold swpL
 rw [List.take_succ_eq_append_getElem h, List.flatMap_append]
 simp
theorem swpL_le (w : ByteArray) (l : List Swp) (k : Nat) : (swpL w (l.take k)).length <= (swpL w l).length := by
 conv => rhs; rw [<- List.take_append_drop k l]
 unfold swpL
 rw [List.flatMap_append, List.length_append]
 omega
theorem swaps_a {st : St} {R : AV -> St -> Prop} {p m : Nat} {a : AV} {Lb : List UInt8} {tg : Tk} (w : ByteArray) (l : List Swp) (hl : l.length <= 1000000) (hz : ∀ x ∈ l, x.1.size <= 1099511627776 /\ x.2.size <= 1099511627776) (hp : st.heap[p]? = some [a, .i m]) (hAq : Acc 0 st.tk 1 a (u8L Lb))
  (hsz : Lb.length + (swpL w l).length <= m) (hm : m <= 1099511627776)
  (h : ∀ a' st', st'.heap[p]? = some [a', .i m] -> Acc 0 st'.tk 1 a' (u8L (Lb ++ swpL w l)) -> Mv 0 (· = p) st st' -> R (.tup []) st') : ACalls Tryz.prog 27 [.agg [.ptr p 0], .s w, .sl tg 2 (fldL l)] st R := by
 have hmx : maxLen = 9223372036854775807 := rfl
 have el := fldL_len l
 have hpl := lt_of hp
 refine ACalls.of_vc T_ok mixed Tryz.func27 rfl Tryz.call27 ?_
 refine ⟨hpl, ?_⟩
 refine vc_loop [10] (fun g vals st' => ∃ (k : Nat) (b : AV), k + g = l.length /\ vals = [.i k] /\ st'.heap[st.heap.length]? = some [.ptr p 0] /\ st'.heap[p]? = some [b, .i m] /\ Acc 0 st'.tk 1 b (u8L (Lb ++ swpL w (l.take k))) /\ Mv 0 (· = p) st st') l.length rfl ⟨0, a, by omega, rfl, last_at _ _, ap hp, by rw [List.take_zero]; simpa [swpL] using hAq, (Mv.refl (Nat.zero_le _)).alloc _⟩ ?_
 rintro g vals st1 ⟨k, b, hk, rfl, hb1, hp1, hA, m1⟩
 refine cnd_split (fun hd => ?_) (fun hd => ?_)
 ·have hd := of_decide_eq_true hd
  have k1 : k < l.length := by omega
  have hzk := hz _ (List.getElem_mem k1)
  have hsk := swpL_le w l (k + 1)
  rw [swpL_take k1, List.length_append, List.length_append, List.length_singleton] at hsk
  refine ⟨k, _, rfl, fldL_at k1, ?_⟩
  refine ⟨_, last_at _ _, ?_⟩
  have hb2 := (List.getElem?_set_ne (l := st1.heap ++ [[.s ⟨#[]⟩, .s ⟨#[]⟩]]) (i := st1.heap.length) (a := [.s l[k].1, .s l[k].2]) (by have := lt_of hb1; omega)).trans (ap hb1)
  have hp2 := (List.getElem?_set_ne (l := st1.heap ++ [[.s ⟨#[]⟩, .s ⟨#[]⟩]]) (i := st1.heap.length) (a := [.s l[k].1, .s l[k].2]) (by have := lt_of hp1; omega)).trans (ap hp1)
  refine ⟨_, hb2, ?_⟩
  refine ⟨_, last_upd _ _ _, ?_⟩
  refine ⟨_, last_upd _ _ _, ?_⟩
  refine .s (row_a (a := b) (m := m) (Lb := Lb ++ swpL w (l.take k)) w [l[k].1, l[k].2] (by simp) (fun x hx => ?_) hp2 hA (by rw [List.length_append]; omega) hm (fun a' st' r1 r2 r3 => ?_))
  ·rcases List.mem_cons.1 hx with rfl | hx
   ·exact hzk.1
   ·rw [List.mem_singleton.1 hx]; exact hzk.2
  ·skip
   intro c hc
   rw [IntWalk.i64_in _ (by omega)] at hc
   obtain rfl : c = ((k + 1 : Nat) : Int) := by omega
   refine ⟨g - 1, by omega, k + 1, a', by omega, rfl, r3.at' hb2 (fun e => by omega), r1, ?_, ?_⟩
   ·rw [swpL_take k1, <- List.append_assoc]
    exact r2
   ·exact ((m1.alloc _).set (fun e => absurd e (by have := m1.len; omega)) _).trans r3 (fun q _ e => e)
 ·have hd := of_decide_eq_false hd
  obtain rfl : k = l.length := by omega
  rw [List.take_length] at hA
  exact h b st1 hp1 hA m1
end
section
def envW : ByteArray := ⟨#[101, 110, 118]⟩
def domW : ByteArray := ⟨#[100, 111, 109, 97, 105, 110]⟩
def plcW : ByteArray := ⟨#[112, 108, 97, 99, 101]⟩
def rulW : ByteArray := ⟨#[114, 117, 108, 101]⟩
def rulP : ByteArray := ⟨#[114, 117, 108, 101, 32]⟩
def evtW : ByteArray := ⟨#[101, 118, 101, 110, 116]⟩
def evtP : ByteArray := ⟨#[101, 118, 101, 110, 116, 32]⟩
def enC : ByteArray := ⟨#[101, 110, 100, 115, 32, 99, 108, 105, 101, 110, 116]⟩
def enU : ByteArray := ⟨#[101, 110, 100, 115, 32, 117, 112, 115, 116, 114, 101, 97, 109]⟩
inductive Ln where
 | env (a b c d : ByteArray)
 | dom (a b : ByteArray)
 | plc (a b : ByteArray)
 | caps (h c q : Int)
 | rule (r : Rl)
 | cli (s : ByteArray)
 | ups (s : ByteArray)
 | ce
 | ue
 | ev (k n : Int)
def capsT (h c q : Int) : List UInt8 := capsB.data.toList ++ 32 :: ((numT h).data.toList ++ 32 :: ((numT c).data.toList ++ 32 :: (numT q).data.toList))
def Ln.bytes : Ln -> List UInt8
 | .env a b c d => rowL envW [a, b, c, d]
 | .dom a b => rowL domW [a, b]
 | .plc a b => rowL plcW [a, b]
 | .caps h c q => capsT h c q
 | .rule r => rulP.data.toList ++ (textB r).data.toList
 | .cli s => rowL cliW [s]
 | .ups s => rowL upsW [s]
 | .ce => enC.data.toList
 | .ue => enU.data.toList
 | .ev k n => evtP.data.toList ++ (evT k n).data.toList
def Ln.rank : Ln -> Nat
 | .env .. => 0
 | .dom .. => 1
 | .plc .. => 2
 | .caps .. => 3
 | .rule .. => 4
 | .cli .. => 5
 | .ups .. => 6
 | .ce => 7
 | .ue => 8
 | .ev .. => 9
def Ln.Ok : Ln -> Prop
 | .caps h c q => inR h /\ inR c /\ inR q
 | .rule r => checkR r = 0
 | .ev k n => evOk k n = true
 | _ => True
def restP (x w : ByteArray) : ByteArray := ⟨(Lib.trimPrefix x.data.toList w.data.toList).toArray⟩
def wd4 : List ByteArray × Bool -> Option Ln
 | ([a, b, c, d], true) => some (.env a b c d)
 | _ => none
def wd2 (f : ByteArray -> ByteArray -> Ln) : List ByteArray × Bool -> Option Ln
 | ([a, b], true) => some (f a b)
 | _ => none
def wd1 (f : ByteArray -> Ln) : List ByteArray × Bool -> Option Ln
 | ([a], true) => some (f a)
 | _ => none
def ruleO (t : ByteArray) : Option Ln := if (readRl t).2 = 0 /\ textB (readRl t).1 = t then some (.rule (readRl t).1) else none
def capsO (x : ByteArray) : Option Ln := (capsV x).map fun t => .caps t.1 t.2.1 t.2.2
def evO (t : ByteArray) : Option Ln := (evP t).map fun t => .ev t.1 t.2
def lnK : Nat -> ByteArray -> Option Ln
 | 0, x => wd4 (wordsF x envW 4)
 | 1, x => wd2 .dom (wordsF x domW 2)
 | 2, x => wd2 .plc (wordsF x plcW 2)
 | 3, x => capsO x
 | 4, x => if begB x rulP = true then ruleO (restP x rulP) else none
 | 5, x => wd1 .cli (wordsF x cliW 1)
 | 6, x => wd1 .ups (wordsF x upsW 1)
 | 7, _ => some .ce
 | 8, _ => some .ue
 | _, x => if begB x evtP = true then evO (restP x evtP) else none
/-- a line, as the program reads it -/
def lineP (x : ByteArray) : Option Ln := if (kindF x).2 = true then lnK (kindF x).1.toNat x else none
theorem wd4_some {W : List ByteArray × Bool} {y : Ln} (h : wd4 W = some y) : ∃ a b c d, W = ([a, b, c, d], true) /\ y = .env a b c d := by
 unfold wd4 at h
 split at h
 ·cases h; exact ⟨_, _, _, _, rfl, rfl⟩
 ·cases h
theorem wd2_some {f : ByteArray -> ByteArray -> Ln} {W : List ByteArray × Bool} {y : Ln} (h : wd2 f W = some y) : ∃ a b, W = ([a, b], true) /\ y = f a b := by
 unfold wd2 at h
 split at h
 ·cases h; exact ⟨_, _, rfl, rfl⟩
 ·cases h
theorem wd1_some {f : ByteArray -> Ln} {W : List ByteArray × Bool} {y : Ln} (h : wd1 f W = some y) : ∃ a, W = ([a], true) /\ y = f a := by
 unfold wd1 at h
 split at h
 ·cases h; exact ⟨_, rfl, rfl⟩
 ·cases h
theorem wF_some {x w : ByteArray} {n : Nat} {l : List ByteArray} (h : wordsF x w n = (l, true)) : x.data.toList = rowL w l := by
 have := (wordsF_true (s := x) (w := w) (n := n) (by rw [h])).1
 rw [h] at this
 exact this
theorem rest_app {x w : ByteArray} (h : begB x w = true) : x.data.toList = w.data.toList ++ (restP x w).data.toList := by
 obtain ⟨r, hr⟩ := begB_iff.1 h
 unfold restP
 have h' : Lib.hasPrefix x.data.toList w.data.toList = true := h
 show _ = _ ++ (List.toArray _).toList
 rw [List.toList_toArray, Lib.trimPrefix, if_pos h', hr, List.drop_left]
theorem rest_of {x w t : ByteArray} (h : x.data.toList = w.data.toList ++ t.data.toList) : begB x w = true /\ restP x w = t := by
 have hb : begB x w = true := begB_iff.2 ⟨_, h⟩
 refine ⟨hb, inL ?_⟩
 have := rest_app hb
 rw [h] at this
 exact (List.append_cancel_left this).symm
theorem ruleO_some {t : ByteArray} {y : Ln} (h : ruleO t = some y) : ∃ r, y = .rule r /\ checkR r = 0 /\ textB r = t := by
 unfold ruleO at h
 split at h
 ·rename_i hc; cases h; exact ⟨_, rfl, readRl_check hc.1, hc.2⟩
 ·cases h
theorem ruleO_of {r : Rl} (h : checkR r = 0) : ruleO (textB r) = some (.rule r) := by
 unfold ruleO
 rw [read_text h]
 exact if_pos ⟨rfl, rfl⟩
theorem evO_some {t : ByteArray} {y : Ln} (h : evO t = some y) : ∃ k n, y = .ev k n /\ evOk k n = true /\ evT k n = t := by
 unfold evO at h
 cases he : evP t with
 | none => rw [he] at h; cases h
 | some p =>
  obtain ⟨k, n⟩ := p
  rw [he] at h
  cases h
  obtain ⟨h1, h2⟩ := evP_some he
  exact ⟨k, n, rfl, h1, h2.symm⟩
theorem evO_of {k n : Int} (h : evOk k n = true) : evO (evT k n) = some (.ev k n) := by
 unfold evO
 rw [evP_of h]
 rfl
/-- what was cut, joined again -/
def joinL (c : UInt8) : List (List UInt8) -> List UInt8
 | [] => []
 | [x] => x
 | x :: y :: r => x ++ c :: joinL c (y :: r)
theorem cutL_ne (c : UInt8) (l : List UInt8) : cutL c l ≠ [] := by
 cases l with
 | nil => exact List.cons_ne_nil _ _
 | cons b r =>
  unfold cutL
  split
  ·exact List.cons_ne_nil _ _
  ·split <;> exact List.cons_ne_nil _ _
theorem join_cut (c : UInt8) : ∀ l : List UInt8, joinL c (cutL c l) = l
 | [] => rfl
 | b :: r => by
  have ih := join_cut c r
  unfold cutL
  split
  ·rename_i e
   subst e
   cases hr : cutL b r with
   | nil => exact absurd hr (cutL_ne _ _)
   | cons x t =>
    rw [hr] at ih
    show [] ++ b :: joinL b (x :: t) = _
    rw [ih]
    rfl
  ·split
   ·rename_i hr; exact absurd hr (cutL_ne _ _)
   ·rename_i x t hr
    rw [hr] at ih
    cases t with
    | nil => show b :: x = _; rw [<- ih]; rfl
    | cons y t => show (b :: x) ++ c :: joinL c (y :: t) = _; rw [<- ih]; rfl
theorem capsO_some {x : ByteArray} {y : Ln} (h : capsO x = some y) : y.Ok /\ x.data.toList = y.bytes /\ y.rank = 3 := by
 unfold capsO at h
 cases hc : capsV x with
 | none => rw [hc] at h; cases h
 | some t =>
  obtain ⟨a, b, c⟩ := t
  rw [hc] at h
  cases h
  unfold capsV capsL at hc
  split at hc
  ·rename_i w1 w2 w3 w4 hw
   split at hc
   ·rename_i h1
    split at hc
    ·rename_i n1 n2 n3 e1 e2 e3
     cases hc
     obtain ⟨rfl, r1⟩ := numV_some e1
     obtain ⟨rfl, r2⟩ := numV_some e2
     obtain ⟨rfl, r3⟩ := numV_some e3
     refine ⟨⟨r1, r2, r3⟩, ?_, rfl⟩
     have hj := join_cut 32 x.data.toList
     have hl : cutL 32 x.data.toList = (wordsB x).map fun z => z.data.toList := by
      unfold wordsB
      rw [List.map_map]
      exact (List.map_id _).symm
     rw [hl, hw, h1] at hj
     exact hj.symm
    ·cases hc
   ·cases hc
  ·cases hc
theorem capsO_of {h c q : Int} {x : ByteArray} (h1 : inR h) (h2 : inR c) (h3 : inR q) (hx : x.data.toList = capsT h c q) : wordsB x = [capsB, numT h, numT c, numT q] /\ capsO x = some (.caps h c q) := by
 have hw : wordsB x = [capsB, numT h, numT c, numT q] := by
  unfold wordsB
  rw [hx]
  unfold capsT
  rw [cutL_hit (by decide), cutL_hit (fun b hb => (numT_no b hb).2), cutL_hit (fun b hb => (numT_no b hb).2), cutL_miss (fun b hb => (numT_no b hb).2)]
  rfl
 refine ⟨hw, ?_⟩
 unfold capsO capsV
 rw [hw]
 unfold capsL
 simp only [if_true, numV_T h1, numV_T h2, numV_T h3]
 rfl
theorem lnK_some {k : Nat} {x : ByteArray} {y : Ln} (hk : k <= 9) (h : lnK k x = some y) (h7 : k = 7 -> x = enC) (h8 : k = 8 -> x = enU) : y.Ok /\ x.data.toList = y.bytes /\ y.rank = k := by
 obtain rfl | rfl | rfl | rfl | rfl | rfl | rfl | rfl | rfl | rfl : k = 0 \/ k = 1 \/ k = 2 \/ k = 3 \/ k = 4 \/ k = 5 \/ k = 6 \/ k = 7 \/ k = 8 \/ k = 9 := by omega
 ·obtain ⟨a, b, c, d, e, rfl⟩ := wd4_some h; exact ⟨trivial, wF_some e, rfl⟩
 iterate 2
  ·obtain ⟨a, b, e, rfl⟩ := wd2_some h; exact ⟨trivial, wF_some e, rfl⟩
 ·exact capsO_some h
 ·have h : (if begB x rulP = true then ruleO (restP x rulP) else none) = some y := h
  split at h
  ·rename_i hb
   obtain ⟨r, rfl, h1, h2⟩ := ruleO_some h
   have := rest_app hb
   rw [<- h2] at this
   exact ⟨h1, this, rfl⟩
  ·cases h
 iterate 2
  ·obtain ⟨a, e, rfl⟩ := wd1_some h; exact ⟨trivial, wF_some e, rfl⟩
 ·cases h; exact ⟨trivial, by rw [h7 rfl]; rfl, rfl⟩
 ·cases h; exact ⟨trivial, by rw [h8 rfl]; rfl, rfl⟩
 ·have h : (if begB x evtP = true then evO (restP x evtP) else none) = some y := h
  split at h
  ·rename_i hb
   obtain ⟨a, b, rfl, h1, h2⟩ := evO_some h
   have := rest_app hb
   rw [<- h2] at this
   exact ⟨h1, this, rfl⟩
  ·cases h
theorem kind_le (x : ByteArray) : 0 <= (kindF x).1 /\ (kindF x).1 <= 9 := by
 unfold kindF
 repeat' split
 all_goals simp
theorem kind_end {x : ByteArray} (h : (kindF x).2 = true) : ((kindF x).1 = 7 -> x = enC) /\ ((kindF x).1 = 8 -> x = enU) := by
 unfold kindF at h ⊢
 repeat' split
 all_goals first
  | exact ⟨fun e => absurd e (by decide), fun e => absurd e (by decide)⟩
  | exact ⟨fun _ => by assumption, fun e => absurd e (by decide)⟩
  | skip
 ·refine ⟨fun e => absurd (show (8 : Int) = 7 from e) (by decide), fun _ => ?_⟩
  simp only [*, if_true, if_false] at h
  exact of_decide_eq_true h
 ·exact ⟨fun e => absurd (show (9 : Int) = 7 from e) (by decide), fun e => absurd (show (9 : Int) = 8 from e) (by decide)⟩
theorem P_some {x : ByteArray} {y : Ln} (h : lineP x = some y) : y.Ok /\ x.data.toList = y.bytes /\ kindF x = ((y.rank : Int), true) := by
 unfold lineP at h
 split at h
 ·rename_i hk
  obtain ⟨k1, k2⟩ := kind_le x
  obtain ⟨e1, e2⟩ := kind_end hk
  obtain ⟨r1, r2, r3⟩ := lnK_some (by omega) h (fun e => e1 (by omega)) (fun e => e2 (by omega))
  exact ⟨r1, r2, Prod.ext (by show (kindF x).1 = (y.rank : Int); omega) hk⟩
 ·cases h
theorem row_cons (w a : ByteArray) (l : List ByteArray) : rowL w (a :: l) = w.data.toList ++ 32 :: (codeL a.data.toList ++ l.flatMap fun x => 32 :: codeL x.data.toList) := by simp [rowL]
theorem word_is {x w : ByteArray} {r : List UInt8} (h : ∀ b ∈ w.data.toList, b ≠ 32) (hs : x.data.toList = w.data.toList ++ 32 :: r) : wordC x = w /\ (wordsB x).head? = some w := by
 have := word_app (s := x) (a := w) (b := ⟨r.toArray⟩) h (by rw [hs])
 exact ⟨this.1, by rw [this.2.2]; rfl⟩
theorem kind_of {y : Ln} {x : ByteArray} (hx : x.data.toList = y.bytes) : kindF x = ((y.rank : Int), true) := by
 cases y with
 | env a b c d =>
  have hw := word_is (x := x) (w := envW) (by decide) (hx.trans (row_cons _ _ _))
  unfold kindF
  rw [hw.1]
  exact (if_pos rfl)
 | dom a b =>
  have hw := word_is (x := x) (w := domW) (by decide) (hx.trans (row_cons _ _ _))
  unfold kindF
  rw [hw.1]
  exact ((if_neg (by decide)).trans (if_pos rfl))
 | plc a b =>
  have hw := word_is (x := x) (w := plcW) (by decide) (hx.trans (row_cons _ _ _))
  unfold kindF
  rw [hw.1]
  exact ((if_neg (by decide)).trans ((if_neg (by decide)).trans (if_pos rfl)))
 | caps h c q =>
  have hw := word_is (x := x) (w := capsB) (by decide) hx
  unfold kindF
  rw [hw.1]
  exact ((if_neg (by decide)).trans ((if_neg (by decide)).trans ((if_neg (by decide)).trans (if_pos rfl))))
 | rule r =>
  have hw := word_is (x := x) (w := rulW) (by decide) (r := (textB r).data.toList) hx
  unfold kindF
  rw [hw.1]
  exact ((if_neg (by decide)).trans ((if_neg (by decide)).trans ((if_neg (by decide)).trans ((if_neg (by decide)).trans (if_pos rfl)))))
 | cli a =>
  have hw := word_is (x := x) (w := cliW) (by decide) (hx.trans (row_cons _ _ _))
  unfold kindF
  rw [hw.1]
  exact ((if_neg (by decide)).trans ((if_neg (by decide)).trans ((if_neg (by decide)).trans ((if_neg (by decide)).trans ((if_neg (by decide)).trans (if_pos rfl))))))
 | ups a =>
  have hw := word_is (x := x) (w := upsW) (by decide) (hx.trans (row_cons _ _ _))
  unfold kindF
  rw [hw.1]
  exact ((if_neg (by decide)).trans ((if_neg (by decide)).trans ((if_neg (by decide)).trans ((if_neg (by decide)).trans ((if_neg (by decide)).trans ((if_neg (by decide)).trans (if_pos rfl)))))))
 | ce =>
  obtain rfl : x = enC := inL hx
  kernel_rfl
 | ue =>
  obtain rfl : x = enU := inL hx
  kernel_rfl
 | ev k n =>
  have hw := word_is (x := x) (w := evtW) (by decide) (r := (evT k n).data.toList) hx
  unfold kindF
  rw [hw.1]
  exact ((if_neg (by decide)).trans ((if_neg (by decide)).trans ((if_neg (by decide)).trans ((if_neg (by decide)).trans ((if_neg (by decide)).trans ((if_neg (by decide)).trans ((if_neg (by decide)).trans (if_neg (by decide)))))))))
theorem P_of {y : Ln} {x : ByteArray} (hy : y.Ok) (hx : x.data.toList = y.bytes) : lineP x = some y := by
 have hk := kind_of hx
 unfold lineP
 rw [hk]
 show lnK y.rank x = some y
 cases y with
 | env a b c d => show wd4 (wordsF x envW [a, b, c, d].length) = _; rw [wordsF_of hx]; rfl
 | dom a b => show wd2 .dom (wordsF x domW [a, b].length) = _; rw [wordsF_of hx]; rfl
 | plc a b => show wd2 .plc (wordsF x plcW [a, b].length) = _; rw [wordsF_of hx]; rfl
 | caps h c q => exact (capsO_of hy.1 hy.2.1 hy.2.2 hx).2
 | rule r =>
  obtain ⟨h1, h2⟩ := rest_of (x := x) (w := rulP) (t := textB r) hx
  show (if begB x rulP = true then ruleO (restP x rulP) else none) = _
  rw [if_pos h1, h2, ruleO_of hy]
 | cli a => show wd1 .cli (wordsF x cliW [a].length) = _; rw [wordsF_of hx]; rfl
 | ups a => show wd1 .ups (wordsF x upsW [a].length) = _; rw [wordsF_of hx]; rfl
 | ce => rfl
 | ue => rfl
 | ev k n =>
  obtain ⟨h1, h2⟩ := rest_of (x := x) (w := evtP) (t := evT k n) hx
  show (if begB x evtP = true then evO (restP x evtP) else none) = _
  rw [if_pos h1, h2, evO_of hy]
end
section
structure Scr where
 ec : ByteArray
 eh : ByteArray
 es : ByteArray
 eb : ByteArray
 doms : List Swp
 locs : List Swp
 ch : Int
 cc : Int
 cq : Int
 rules : List Rl
 cl : ByteArray
 up : ByteArray
 ce : Bool
 ue : Bool
 evs : List (Int × Int)
def e0 : ByteArray := ⟨#[]⟩
def s0 : Scr := ⟨e0, e0, e0, e0, [], [], 0, 0, 0, [], e0, e0, false, false, []⟩
def apL (s : Scr) : Ln -> Scr
 | .env a b c d => { s with ec := a, eh := b, es := c, eb := d }
 | .dom a b => { s with doms := s.doms ++ [(a, b)] }
 | .plc a b => { s with locs := s.locs ++ [(a, b)] }
 | .caps h c q => { s with ch := h, cc := c, cq := q }
 | .rule r => { s with rules := s.rules ++ [r] }
 | .cli a => { s with cl := a }
 | .ups a => { s with up := a }
 | .ce => { s with ce := true }
 | .ue => { s with ue := true }
 | .ev k n => { s with evs := s.evs ++ [(k, n)] }
def stepL (p : Scr × Nat) (y : Ln) : Option (Scr × Nat) := if follB p.2 y.rank = true then some (apL p.1 y, y.rank + 1) else none
def foldS : List Ln -> Scr × Nat -> Option (Scr × Nat)
 | [], p => some p
 | y :: r, p => match stepL p y with
  | none => none
  | some q => foldS r q
theorem foldS_app : ∀ {a b : List Ln} {p q : Scr × Nat}, foldS a p = some q -> foldS (a ++ b) p = foldS b q
 | [], _, _, _, h => by cases h; rfl
 | y :: r, b, p, q, h => by
  have h : (match stepL p y with | none => none | some q => foldS r q) = some q := h
  show (match stepL p y with | none => none | some q => foldS (r ++ b) q) = _
  cases hs : stepL p y with
  | none => rw [hs] at h; cases h
  | some z => rw [hs] at h; exact foldS_app h
def bI {α : Type} (b : Bool) (x : α) : List α := if b = true then [x] else []
def domN (x : Swp) : Ln := .dom x.1 x.2
def plcN (x : Swp) : Ln := .plc x.1 x.2
def evN (x : Int × Int) : Ln := .ev x.1 x.2
/-- a script's lines, as far as they have come -/
def prG (s : Scr) (l : Nat) : List Ln :=
 bI (decide (1 <= l)) (.env s.ec s.eh s.es s.eb) ++ (s.doms.map domN ++ (s.locs.map plcN ++ (bI (decide (4 <= l)) (.caps s.ch s.cc s.cq) ++ (s.rules.map .rule ++ (bI (decide (6 <= l)) (.cli s.cl) ++ (bI (decide (7 <= l)) (.ups s.up) ++ (bI s.ce .ce ++ (bI s.ue .ue ++ s.evs.map evN))))))))
def prL (s : Scr) : List Ln := prG s 7
structure InvS (s : Scr) (l : Nat) : Prop where
 doms : l < 2 -> s.doms = []
 locs : l < 3 -> s.locs = []
 rules : l < 5 -> s.rules = []
 ce : l < 8 -> s.ce = false
 ue : l < 9 -> s.ue = false
 evs : l < 10 -> s.evs = []
 l1 : l < 1 -> s.ec = e0 /\ s.eh = e0 /\ s.es = e0 /\ s.eb = e0
 l4 : l < 4 -> s.ch = 0 /\ s.cc = 0 /\ s.cq = 0
 l6 : l < 6 -> s.cl = e0
 l7 : l < 7 -> s.up = e0
theorem InvS.zero : InvS s0 0 := ⟨fun _ => rfl, fun _ => rfl, fun _ => rfl, fun _ => rfl, fun _ => rfl, fun _ => rfl, fun _ => ⟨rfl, rfl, rfl, rfl⟩, fun _ => ⟨rfl, rfl, rfl⟩, fun _ => rfl, fun _ => rfl⟩
theorem rank_le (y : Ln) : y.rank + 1 <= 10 := by cases y <;> simp [Ln.rank]
theorem fold_doms : ∀ (ds : List Swp) (s : Scr) (l : Nat), (l = 1 \/ l = 2) -> ∃ l', (l' = 1 \/ l' = 2) /\ foldS (ds.map domN) (s, l) = some ({ s with doms := s.doms ++ ds }, l')
 | [], s, l, h => ⟨l, h, by show some (s, l) = _; rw [List.append_nil]⟩
 | d :: ds, s, l, h => by
  obtain ⟨l', h1, h2⟩ := fold_doms ds (apL s (domN d)) 2 (.inr rfl)
  refine ⟨l', h1, ?_⟩
  have hs : stepL (s, l) (domN d) = some (apL s (domN d), 2) := by rcases h with rfl | rfl <;> rfl
  rw [List.map_cons]
  unfold foldS
  rw [hs]
  refine h2.trans ?_
  simp [apL, domN]
theorem fold_locs : ∀ (ds : List Swp) (s : Scr) (l : Nat), (l = 1 \/ l = 2 \/ l = 3) -> ∃ l', (l' = 1 \/ l' = 2 \/ l' = 3) /\ foldS (ds.map plcN) (s, l) = some ({ s with locs := s.locs ++ ds }, l')
 | [], s, l, h => ⟨l, h, by show some (s, l) = _; rw [List.append_nil]⟩
 | d :: ds, s, l, h => by
  obtain ⟨l', h1, h2⟩ := fold_locs ds (apL s (plcN d)) 3 (.inr (.inr rfl))
  refine ⟨l', h1, ?_⟩
  have hs : stepL (s, l) (plcN d) = some (apL s (plcN d), 3) := by rcases h with rfl | rfl | rfl <;> rfl
  rw [List.map_cons]
  unfold foldS
  rw [hs]
  refine h2.trans ?_
  simp [apL, plcN]
theorem fold_rules : ∀ (ds : List Rl) (s : Scr) (l : Nat), (l = 4 \/ l = 5) -> ∃ l', (l' = 4 \/ l' = 5) /\ foldS (ds.map .rule) (s, l) = some ({ s with rules := s.rules ++ ds }, l')
 | [], s, l, h => ⟨l, h, by show some (s, l) = _; rw [List.append_nil]⟩
 | d :: ds, s, l, h => by
  obtain ⟨l', h1, h2⟩ := fold_rules ds (apL s (.rule d)) 5 (.inr rfl)
  refine ⟨l', h1, ?_⟩
  have hs : stepL (s, l) (.rule d) = some (apL s (.rule d), 5) := by rcases h with rfl | rfl <;> rfl
  rw [List.map_cons]
  unfold foldS
  rw [hs]
  refine h2.trans ?_
  simp [apL]
theorem fold_evs : ∀ (ds : List (Int × Int)) (s : Scr) (l : Nat), 7 <= l -> ∃ l', 7 <= l' /\ foldS (ds.map evN) (s, l) = some ({ s with evs := s.evs ++ ds }, l')
 | [], s, l, h => ⟨l, h, by show some (s, l) = _; rw [List.append_nil]⟩
 | d :: ds, s, l, h => by
  obtain ⟨l', h1, h2⟩ := fold_evs ds (apL s (evN d)) 10 (by decide)
  refine ⟨l', h1, ?_⟩
  have hs : stepL (s, l) (evN d) = some (apL s (evN d), 10) := by
   show (if follB l 9 = true then some (apL s (evN d), 10) else none) = _
   rw [if_pos (show follB l 9 = true from decide_eq_true h)]
  rw [List.map_cons]
  unfold foldS
  rw [hs]
  refine h2.trans ?_
  simp [apL, evN]
theorem fold_one {s : Scr} {l : Nat} {y : Ln} (h : follB l y.rank = true) : foldS [y] (s, l) = some (apL s y, y.rank + 1) := by
 unfold foldS stepL
 rw [if_pos h]
 rfl
theorem fold_pr (s : Scr) : ∃ l, 7 <= l /\ foldS (prL s) (s0, 0) = some (s, l) := by
 obtain ⟨ec, eh, es, eb, doms, locs, ch, cc, cq, rules, cl, up, ce, ue, evs⟩ := s
 unfold prL prG
 have t1 : decide (1 <= 7) = true := rfl
 have t4 : decide (4 <= 7) = true := rfl
 have t6 : decide (6 <= 7) = true := rfl
 have t7 : decide (7 <= 7) = true := rfl
 rw [t1, t4, t6, t7]
 have h1 := fold_one (s := s0) (l := 0) (y := .env ec eh es eb) rfl
 rw [show bI true (Ln.env ec eh es eb) = [.env ec eh es eb] from rfl, foldS_app h1]
 obtain ⟨l2, k2, h2⟩ := fold_doms doms (apL s0 (.env ec eh es eb)) 1 (.inl rfl)
 rw [show ((Ln.env ec eh es eb).rank + 1) = 1 from rfl, foldS_app h2]
 obtain ⟨l3, k3, h3⟩ := fold_locs locs { apL s0 (.env ec eh es eb) with doms := (apL s0 (.env ec eh es eb)).doms ++ doms } l2 (by omega)
 rw [foldS_app h3]
 have h4 := fold_one (s := ⟨ec, eh, es, eb, doms, locs, 0, 0, 0, [], e0, e0, false, false, []⟩) (l := l3) (y := .caps ch cc cq) (by rcases k3 with rfl | rfl | rfl <;> rfl)
 rw [show bI true (Ln.caps ch cc cq) = [.caps ch cc cq] from rfl]
 obtain ⟨l5, k5, h5⟩ := fold_rules rules ⟨ec, eh, es, eb, doms, locs, ch, cc, cq, [], e0, e0, false, false, []⟩ 4 (.inl rfl)
 have h6 := fold_one (s := ⟨ec, eh, es, eb, doms, locs, ch, cc, cq, rules, e0, e0, false, false, []⟩) (l := l5) (y := .cli cl) (by rcases k5 with rfl | rfl <;> rfl)
 have h7 := fold_one (s := ⟨ec, eh, es, eb, doms, locs, ch, cc, cq, rules, cl, e0, false, false, []⟩) (l := 6) (y := .ups up) rfl
 have h8 : ∃ l8, 7 <= l8 /\ l8 <= 8 /\ foldS (bI ce .ce) (⟨ec, eh, es, eb, doms, locs, ch, cc, cq, rules, cl, up, false, false, []⟩, 7) = some (⟨ec, eh, es, eb, doms, locs, ch, cc, cq, rules, cl, up, ce, false, []⟩, l8) := by
  cases ce
  ·exact ⟨7, by decide, by decide, rfl⟩
  ·exact ⟨8, by decide, by decide, rfl⟩
 obtain ⟨l8, k8, k8', h8⟩ := h8
 have h9 : ∃ l9, 7 <= l9 /\ foldS (bI ue .ue) (⟨ec, eh, es, eb, doms, locs, ch, cc, cq, rules, cl, up, ce, false, []⟩, l8) = some (⟨ec, eh, es, eb, doms, locs, ch, cc, cq, rules, cl, up, ce, ue, []⟩, l9) := by
  cases ue
  ·exact ⟨l8, k8, rfl⟩
  ·obtain rfl | rfl : l8 = 7 \/ l8 = 8 := by omega
   ·exact ⟨9, by decide, rfl⟩
   ·exact ⟨9, by decide, rfl⟩
 obtain ⟨l9, k9, h9⟩ := h9
 obtain ⟨lA, kA, hA⟩ := fold_evs evs ⟨ec, eh, es, eb, doms, locs, ch, cc, cq, rules, cl, up, ce, ue, []⟩ l9 k9
 refine ⟨lA, kA, ?_⟩
 refine (foldS_app (b := rules.map .rule ++ (bI true (.cli cl) ++ (bI true (.ups up) ++ (bI ce .ce ++ (bI ue .ue ++ evs.map evN))))) (a := [.caps ch cc cq]) (q := (⟨ec, eh, es, eb, doms, locs, ch, cc, cq, [], e0, e0, false, false, []⟩, 4)) ?_).trans ?_
 ·exact h4
 refine (foldS_app h5).trans ?_
 refine (foldS_app (a := bI true (.cli cl)) h6).trans ?_
 refine (foldS_app (a := bI true (.ups up)) h7).trans ?_
 refine (foldS_app h8).trans ?_
 refine (foldS_app h9).trans ?_
 exact hA
/-- lines' bytes -/
def linesOf (l : List Ln) : List UInt8 := l.flatMap fun y => y.bytes ++ [10]
theorem linesOf_app (a b : List Ln) : linesOf (a ++ b) = linesOf a ++ linesOf b := by simp [linesOf]
def lnB (y : Ln) : ByteArray := ⟨y.bytes.toArray⟩
theorem lnB_l (y : Ln) : (lnB y).data.toList = y.bytes := by
 unfold lnB
 show (List.toArray _).toList = _
 rw [List.toList_toArray]
theorem row_no10 (w : ByteArray) (l : List ByteArray) (hw : ∀ b ∈ w.data.toList, b ≠ 10) : ∀ b ∈ rowL w l, b ≠ 10 := fun b hb => by
 rcases List.mem_append.1 hb with h | h
 ·exact hw b h
 ·obtain ⟨x, _, hx⟩ := List.mem_flatMap.1 h
  rcases List.mem_cons.1 hx with rfl | hx
  ·decide
  ·exact codeL_no10 _ b hx
theorem caps_no10 (h c q : Int) : ∀ b ∈ capsT h c q, b ≠ 10 := fun b hb => by
 unfold capsT at hb
 rcases List.mem_append.1 hb with k | k
 ·exact (by decide : ∀ b ∈ capsB.data.toList, b ≠ 10) b k
 rcases List.mem_cons.1 k with rfl | k
 ·decide
 rcases List.mem_append.1 k with k | k
 ·exact (numT_no b k).1
 rcases List.mem_cons.1 k with rfl | k
 ·decide
 rcases List.mem_append.1 k with k | k
 ·exact (numT_no b k).1
 rcases List.mem_cons.1 k with rfl | k
 ·decide
 exact (numT_no b k).1
theorem evT_no10 {k n : Int} (h : evOk k n = true) : ∀ b ∈ (evT k n).data.toList, b ≠ 10 := fun b hb => by
 obtain ⟨w, r, e, _, _, hc⟩ := evT_word h
 rw [e] at hb
 rcases hc with ⟨rfl, _, rfl, _⟩ | ⟨rfl, _, rfl, _⟩ | ⟨rfl, _, _, rfl⟩ | ⟨rfl, _, _, rfl⟩
 ·rcases List.mem_append.1 hb with h | h
  ·exact (by decide : ∀ b ∈ cliW.data.toList, b ≠ 10) b h
  ·rcases List.mem_cons.1 h with rfl | h
   ·decide
   ·exact (numT_no b h).1
 ·rcases List.mem_append.1 hb with h | h
  ·exact (by decide : ∀ b ∈ upsW.data.toList, b ≠ 10) b h
  ·rcases List.mem_cons.1 h with rfl | h
   ·decide
   ·exact (numT_no b h).1
 ·exact (by decide : ∀ b ∈ cliW.data.toList ++ 32 :: endB.data.toList, b ≠ 10) b hb
 ·exact (by decide : ∀ b ∈ upsW.data.toList ++ 32 :: endB.data.toList, b ≠ 10) b hb
theorem ln_no10 {y : Ln} (hy : y.Ok) : ∀ b ∈ y.bytes, b ≠ 10 := by
 cases y with
 | env a b c d => exact row_no10 _ _ (by decide)
 | dom a b => exact row_no10 _ _ (by decide)
 | plc a b => exact row_no10 _ _ (by decide)
 | caps h c q => exact caps_no10 h c q
 | rule r =>
  intro b hb
  rcases List.mem_append.1 hb with h | h
  ·exact (by decide : ∀ b ∈ rulP.data.toList, b ≠ 10) b h
  ·exact text_no10 hy b h
 | cli a => exact row_no10 _ _ (by decide)
 | ups a => exact row_no10 _ _ (by decide)
 | ce => show ∀ b ∈ enC.data.toList, b ≠ 10; decide
 | ue => show ∀ b ∈ enU.data.toList, b ≠ 10; decide
 | ev k n =>
  intro b hb
  rcases List.mem_append.1 hb with h | h
  ·exact (by decide : ∀ b ∈ evtP.data.toList, b ≠ 10) b h
  ·exact evT_no10 hy b h
theorem cut_lines : ∀ {l : List Ln}, (∀ y ∈ l, y.Ok) -> cutL 10 (linesOf l) = l.map Ln.bytes ++ [[]]
 | [], _ => rfl
 | y :: l, h => by
  have e : linesOf (y :: l) = y.bytes ++ 10 :: linesOf l := by simp [linesOf]
  rw [e, cutL_hit (ln_no10 (h y (.head _))), cut_lines (fun x hx => h x (.tail _ hx))]
  rfl
theorem linesB_of {s : ByteArray} {l : List Ln} (h : ∀ y ∈ l, y.Ok) (hs : s.data.toList = linesOf l) : linesB s = l.map lnB ++ [e0] := by
 unfold linesB
 rw [hs, cut_lines h, List.map_append, List.map_map]
 rfl
/-- a script, read line by line -/
def stepO (p : Scr × Nat) (x : ByteArray) : Option (Scr × Nat) := match lineP x with
 | none => none
 | some y => stepL p y
def runS : List ByteArray -> Nat -> Scr -> Nat -> Scr × Int × Int
 | [], i, _, _ => (s0, (i : Int), 2)
 | [x], i, s, l => if x = e0 /\ 7 <= l then (s, 0, 0) else (s0, ((i + 1 : Nat) : Int), 2)
 | x :: y :: r, i, s, l => match stepO (s, l) x with
  | none => (s0, ((i + 1 : Nat) : Int), 2)
  | some (s', l') => runS (y :: r) (i + 1) s' l'
def readS (t : ByteArray) : Scr × Int × Int := if 4194304 < t.size then (s0, 0, 3) else runS (linesB t) 0 s0 0
theorem runS_cons {x : ByteArray} {L : List ByteArray} (h : L ≠ []) (i : Nat) (s : Scr) (l : Nat) : runS (x :: L) i s l = match stepO (s, l) x with
  | none => (s0, ((i + 1 : Nat) : Int), 2)
  | some (s', l') => runS L (i + 1) s' l' := by
 cases L with
 | nil => exact absurd rfl h
 | cons y r => rfl
theorem run_ok : ∀ {ys : List Ln} {i : Nat} {s : Scr} {l : Nat} {q : Scr × Nat}, (∀ y ∈ ys, y.Ok) -> foldS ys (s, l) = some q -> 7 <= q.2 -> runS (ys.map lnB ++ [e0]) i s l = (q.1, 0, 0)
 | [], i, s, l, q, _, h, h7 => by
  cases h
  show (if e0 = e0 /\ 7 <= l then (s, (0 : Int), (0 : Int)) else _) = _
  rw [if_pos ⟨rfl, h7⟩]
 | y :: ys, i, s, l, q, hy, h, h7 => by
  rw [List.map_cons, List.cons_append, runS_cons (by simp)]
  unfold stepO
  rw [P_of (hy y (.head _)) (lnB_l y)]
  unfold foldS at h
  cases hs : stepL (s, l) y with
  | none => rw [hs] at h; cases h
  | some z =>
   obtain ⟨s', l'⟩ := z
   rw [hs] at h
   show (match stepL (s, l) y with | none => (s0, ((i + 1 : Nat) : Int), (2 : Int)) | some (s', l') => runS (List.map lnB ys ++ [e0]) (i + 1) s' l') = _
   rw [hs]
   exact run_ok (fun x hx => hy x (.tail _ hx)) h h7
def prB (s : Scr) : List UInt8 := linesOf (prL s)
def okRu (s : Scr) : Bool := s.rules.all fun r => decide (checkR r = 0)
def okEv (s : Scr) : Bool := s.evs.all fun x => evOk x.1 x.2
def printS (s : Scr) : ByteArray × Int :=
 if okRu s = false then (e0, 9) else if okEv s = false then (e0, 1) else if 4194304 < (prB s).length then (e0, 3) else (⟨(prB s).toArray⟩, 0)
theorem print_ok {s : Scr} (h : (printS s).2 = 0) : okRu s = true /\ okEv s = true /\ (prB s).length <= 4194304 /\ printS s = (⟨(prB s).toArray⟩, 0) := by
 unfold printS at h ⊢
 split at h
 ·cases h
 split at h
 ·cases h
 split at h
 ·cases h
 rename_i h1 h2 h3
 refine ⟨by simpa using h1, by simpa using h2, by omega, ?_⟩
 rw [if_neg h1, if_neg h2, if_neg h3]
structure Scr.In (s : Scr) : Prop where
 h : inR s.ch
 c : inR s.cc
 q : inR s.cq
theorem pr_all {s : Scr} (h1 : okRu s = true) (h2 : okEv s = true) (hi : s.In) : ∀ y ∈ prL s, y.Ok := by
 have h1 := List.all_eq_true.1 h1
 have h2 := List.all_eq_true.1 h2
 intro y hy
 unfold prL prG bI at hy
 simp only [List.mem_append, List.mem_map] at hy
 rcases hy with hy | ⟨x, _, rfl⟩ | ⟨x, _, rfl⟩ | hy | ⟨x, hx, rfl⟩ | hy | hy | hy | hy | ⟨x, hx, rfl⟩
 ·rw [if_pos (by decide), List.mem_singleton] at hy; subst hy; exact trivial
 ·exact trivial
 ·exact trivial
 ·rw [if_pos (by decide), List.mem_singleton] at hy; subst hy; exact ⟨hi.h, hi.c, hi.q⟩
 ·exact (show checkR x = 0 from of_decide_eq_true (h1 x hx))
 iterate 2
  ·rw [if_pos (by decide), List.mem_singleton] at hy; subst hy; exact trivial
 iterate 2
  ·split at hy
   ·rw [List.mem_singleton] at hy; subst hy; exact trivial
   ·cases hy
 ·exact h2 x hx
/-- what is printed is read again -/
theorem read_pr {s : Scr} {t : ByteArray} (h1 : okRu s = true) (h2 : okEv s = true) (hi : s.In) (ht : t.data.toList = prB s) (hz : t.size <= 4194304) : readS t = (s, 0, 0) := by
 obtain ⟨l, hl, hf⟩ := fold_pr s
 have ho := pr_all h1 h2 hi
 unfold readS
 rw [if_neg (by omega), linesB_of ho ht, run_ok ho hf hl]
end
section
def evL (l : List (Int × Int)) : List (List AV) := l.map fun x => [AV.i x.1, AV.i x.2]
theorem evL_len (l : List (Int × Int)) : (evL l).length = l.length := by simp [evL]
theorem evL_at {l : List (Int × Int)} {k : Nat} (h : k < l.length) : (evL l)[k]? = some [.i l[k].1, .i l[k].2] := by simp [evL, h]
theorem evL_snoc (l : List (Int × Int)) (x : Int × Int) : evL l ++ [[.i x.1, .i x.2]] = evL (l ++ [x]) := by simp [evL]
def Scr.cells (s : Scr) : List AV := [.s s.ec, .s s.eh, .s s.es, .s s.eb, .sl .no 2 (fldL s.doms), .sl .no 2 (fldL s.locs), .i s.ch, .i s.cc, .i s.cq, .sl .no 8 (rlL s.rules), .s s.cl, .s s.up, .b s.ce, .b s.ue, .sl .no 2 (evL s.evs)]
def Scr.av (s : Scr) : AV := .agg s.cells
section
variable {st : St} {R : AV -> St -> Prop} {p m : Nat} {a : AV} {Lb : List UInt8}
theorem qnewL_a (h : R (.ptr st.heap.length 0) ⟨st.heap ++ [[.nilS, .i 1099511627776]], st.tk⟩) : ACalls Tryz.prog 25 [.i 1099511627776] st R := by
 refine ACalls.of_vc T_ok mixed Tryz.func25 rfl Tryz.call25 ?_
 exact h
theorem qlen_a (hp : st.heap[p]? = some [a, .i m]) (hA : Acc 0 st.tk 1 a (u8L Lb)) (h : R (.i Lb.length) st) : ACalls Tryz.prog 33 [.ptr p 0] st R := by
 have hl := u8L_len Lb
 rcases hA.form with rfl | ⟨t, e, rfl⟩
 ·have h0 := acc_nil hA
  subst h0
  refine ACalls.of_vc T_ok mixed Tryz.func33 rfl Tryz.call33 ?_
  refine ⟨_, hp, ?_⟩
  exact h
 ·rw [<- hl] at h
  refine ACalls.of_vc T_ok mixed Tryz.func33 rfl Tryz.call33 ?_
  refine ⟨_, hp, ?_⟩
  exact h
end
def evsB (l : List (Int × Int)) : List UInt8 := linesOf (l.map evN)
theorem evsB_take {l : List (Int × Int)} {k : Nat} (h : k < l.length) : evsB (l.take (k + 1)) = evsB (l.take k) ++ (evtP.data.toList ++ (evT l[k].1 l[k].2).data.toList ++ [10]) := by
 unfold evsB
 rw [List.take_succ_eq_append_getElem h, List.map_append, linesOf_app]
 simp [linesOf, evN, Ln.bytes]
theorem evsB_le (l : List (Int × Int)) (k : Nat) : (evsB (l.take k)).length <= (evsB l).length := by
 conv => rhs; rw [<- List.take_append_drop k l]
 unfold evsB
 rw [List.map_append, linesOf_app, List.length_append]
 omega
/-- the lines behind the rules -/
def tailN (s : Scr) : List Ln := [.cli s.cl, .ups s.up] ++ (bI s.ce .ce ++ (bI s.ue .ue ++ s.evs.map evN))
theorem evC_ok {k n : Int} (h : evOk k n = true) : evC k n = 0 /\ evTX k n = evT k n := by
 unfold evC evTX
 rw [if_pos h, if_pos h]
 exact ⟨rfl, rfl⟩
theorem evC_no {k n : Int} (h : evOk k n = false) : evC k n = 1 := by
 unfold evC
 rw [if_neg (by rw [h]; decide)]
def encN : ByteArray := ⟨#[101, 110, 100, 115, 32, 99, 108, 105, 101, 110, 116, 10]⟩
def enuN : ByteArray := ⟨#[101, 110, 100, 115, 32, 117, 112, 115, 116, 114, 101, 97, 109, 10]⟩
theorem ce_cat : linesOf (bI true .ce) = catL [encN] := by decide +kernel
theorem ue_cat : linesOf (bI true .ue) = catL [enuN] := by decide +kernel
attribute [local irreducible] vcApp
theorem tail_a {st : St} {R : AV -> St -> Prop} {p m : Nat} {a : AV} {Lb : List UInt8} (s : Scr) (hl : s.evs.length <= 1000000) (hc : s.cl.size <= 1099511627776) (hu : s.up.size <= 1099511627776) (hp : st.heap[p]? = some [a, .i m]) (hAq : Acc 0 st.tk 1 a (u8L Lb))
  (hsz : Lb.length + (linesOf (tailN s)).length <= m) (hm : m <= 1099511627776)
  (h0 : okEv s = true -> ∀ a' st', st'.heap[p]? = some [a', .i m] -> Acc 0 st'.tk 1 a' (u8L (Lb ++ linesOf (tailN s))) -> Mv 0 (· = p) st st' -> R (.i 0) st') (h1 : okEv s = false -> ∀ st', R (.i 1) st') : ACalls Tryz.prog 32 [.agg [.ptr p 0], s.av] st R := by
 have hmx : maxLen = 9223372036854775807 := rfl
 refine ACalls.of_vc T_ok mixed Tryz.func32 rfl Tryz.call32 ?_
 refine ⟨lt_of hp, ?_⟩
 have hb0 : (st.heap ++ [[AV.ptr p 0]] ++ [s.cells])[st.heap.length]? = some [.ptr p 0] := ap (last_at _ _)
 have hs0 : (st.heap ++ [[AV.ptr p 0]] ++ [s.cells])[(st.heap ++ [[AV.ptr p 0]]).length]? = some s.cells := last_at _ _
 have hp0 : (st.heap ++ [[AV.ptr p 0]] ++ [s.cells])[p]? = some [a, .i m] := ap (ap hp)
 have hpl := lt_of hp
 have hln : (st.heap ++ [[AV.ptr p 0]]).length = st.heap.length + 1 := by simp
 refine ⟨_, hb0, ?_⟩
 refine ⟨_, hs0, ?_⟩
 have hT : linesOf (tailN s) = (rowL cliW [s.cl] ++ [10]) ++ ((rowL upsW [s.up] ++ [10]) ++ (linesOf (bI s.ce .ce) ++ (linesOf (bI s.ue .ue) ++ evsB s.evs))) := by
  unfold tailN evsB
  rw [linesOf_app, linesOf_app, linesOf_app]
  simp [linesOf, Ln.bytes]
 rw [hT] at hsz
 simp only [List.length_append, List.length_singleton] at hsz
 refine .s (row_a (a := a) (m := m) (Lb := Lb) cliW [s.cl] (by simp) (fun x hx => by rw [List.mem_singleton.1 hx]; exact hc) hp0 hAq (by omega) hm (fun a1 st1 hp1 hA1 m1 => ?_))
 have hb1 := m1.at' hb0 (fun e => by omega)
 have hs1 := m1.at' hs0 (fun e => by omega)
 refine ⟨_, hb1, ?_⟩
 refine ⟨_, hs1, ?_⟩
 refine .s (row_a (a := a1) (m := m) upsW [s.up] (by simp) (fun x hx => by rw [List.mem_singleton.1 hx]; exact hu) hp1 hA1 (by simp only [List.length_append, List.length_singleton]; omega) hm (fun a2 st2 hp2 hA2 m2 => ?_))
 have hb2 := m2.at' hb1 (fun e => by omega)
 have hs2 := m2.at' hs1 (fun e => by omega)
 have mm2 := ((((Mv.refl (C := (· = p)) (st := st) (Nat.zero_le _)).alloc [AV.ptr p 0]).alloc s.cells).trans m1 (fun q _ e => e)).trans m2 (fun q _ e => e)
 clear hb0 hb1 hs0 hs1 hp0 hp1 m1 m2
 generalize hL2 : Lb ++ (rowL cliW [s.cl] ++ [10]) ++ (rowL upsW [s.up] ++ [10]) = L2 at hA2
 have hz2 : L2.length + (linesOf (bI s.ce .ce)).length + (linesOf (bI s.ue .ue)).length + (evsB s.evs).length <= m := by
  rw [<- hL2]
  simp only [List.length_append, List.length_singleton]
  omega
 have hfin : Lb ++ linesOf (tailN s) = L2 ++ (linesOf (bI s.ce .ce) ++ (linesOf (bI s.ue .ue) ++ evsB s.evs)) := by
  rw [hT, <- hL2]
  simp only [List.append_assoc]
 rw [hfin] at h0
 clear hfin hT hsz hA1 hAq hL2
 have zc : s.ce = true -> linesOf (bI s.ce .ce) = catL [encN] := fun h => by rw [h]; exact ce_cat
 have zu : s.ue = true -> linesOf (bI s.ue .ue) = catL [enuN] := fun h => by rw [h]; exact ue_cat
 have nc : s.ce = false -> linesOf (bI s.ce .ce) = [] := fun h => by rw [h]; rfl
 have nu : s.ue = false -> linesOf (bI s.ue .ue) = [] := fun h => by rw [h]; rfl
 refine ⟨_, hs2, ?_⟩
 refine cnd_split (fun hce => ?_) (fun hce => ?_)
 ·rw [zc hce] at hz2 h0
  refine ⟨_, hb2, ?_⟩
  have z3 : L2.length + (catL [encN]).length <= m := by omega
  refine .s (qput_a (a := a2) (m := m) (Lb := L2) [encN] (by show 1 <= _; omega) hp2 hA2 z3 hm (fun a3 st3 hp3 hA3 m3 => ?_))
  have hb3 := m3.at' hb2 (fun e => by omega)
  have hs3 := m3.at' hs2 (fun e => by omega)
  refine ⟨_, hs3, ?_⟩
  rw [<- List.append_assoc] at h0
  refine cnd_split (fun hue => ?_) (fun hue => ?_)
  ·rw [zu hue] at hz2 h0
   refine ⟨_, hb3, ?_⟩
   have z4 : (L2 ++ catL [encN]).length + (catL [enuN]).length <= m := by rw [List.length_append]; omega
   refine .s (qput_a (a := a3) (m := m) (Lb := L2 ++ catL [encN]) [enuN] (by show 1 <= _; omega) hp3 hA3 z4 hm (fun a4 st4 hp4 hA4 m4 => ?_))
   have hb4 := m4.at' hb3 (fun e => by omega)
   have hs4 := m4.at' hs3 (fun e => by omega)
   rw [<- List.append_assoc] at h0
   refine ⟨_, hs4, ?_⟩
   generalize hL5 : L2 ++ catL [encN] ++ catL [enuN] = L5 at hA4 h0
   have z5 : L5.length + (evsB s.evs).length <= m := by
    rw [<- hL5]
    simp only [List.length_append]; omega
   clear hL5 hz2
   have el := evL_len s.evs
   refine vc_loop [34] (fun g vals st' => ∃ (k : Nat) (b : AV), k + g = s.evs.length /\ vals = [.i k] /\ st'.heap[st.heap.length]? = some [.ptr p 0] /\ st'.heap[p]? = some [b, .i m] /\ Acc 0 st'.tk 1 b (u8L (L5 ++ evsB (s.evs.take k))) /\ Mv 0 (· = p) st st' /\ ∀ x ∈ s.evs.take k, evOk x.1 x.2 = true) s.evs.length rfl ⟨0, a4, by omega, rfl, hb4, hp4, by rw [List.take_zero]; simpa [evsB, linesOf] using hA4, ((mm2.trans m3 (fun q _ e => e)).trans m4 (fun q _ e => e)), fun x hx => by rw [List.take_zero] at hx; cases hx⟩ ?_
   rintro g vals st7 ⟨k, b, hk, rfl, hb7, hp7, hA7, m7, hall⟩
   refine cnd_split (fun hd => ?_) (fun hd => ?_)
   ·have hd := of_decide_eq_true hd
    have k1 : k < s.evs.length := by omega
    have hes := evsB_le s.evs (k + 1)
    rw [evsB_take k1, List.length_append] at hes
    have ht := evText_p s.evs[k].1 s.evs[k].2
    refine ⟨k, _, rfl, evL_at k1, ?_⟩
    refine ⟨_, last_at _ _, ?_⟩
    have hb8 := (List.getElem?_set_ne (l := st7.heap ++ [[.i 0, .i 0]]) (i := st7.heap.length) (a := [.i s.evs[k].1, .i s.evs[k].2]) (by have := lt_of hb7; omega)).trans (ap hb7)
    have hp8 := (List.getElem?_set_ne (l := st7.heap ++ [[.i 0, .i 0]]) (i := st7.heap.length) (a := [.i s.evs[k].1, .i s.evs[k].2]) (by have := lt_of hp7; omega)).trans (ap hp7)
    refine ⟨_, last_upd _ _ _, ?_⟩
    cases hev : evOk s.evs[k].1 s.evs[k].2 with
    | true =>
     rw [(evC_ok hev).1, (evC_ok hev).2] at ht
     refine .p rfl ht ?_
     refine ⟨_, hb8, ?_⟩
     refine .s (qput_a (a := b) (m := m) (Lb := L5 ++ evsB (s.evs.take k)) [evtP, evT s.evs[k].1 s.evs[k].2, ⟨#[10]⟩] (by show 3 <= _; omega) hp8 hA7 (by simp only [catL, List.flatMap_cons, List.flatMap_nil, List.length_append, List.length_nil] at hes ⊢; simp at hes ⊢; omega) hm (fun a' st' r1 r2 r3 => ?_))
     intro c hc
     rw [IntWalk.i64_in _ (by omega)] at hc
     obtain rfl : c = ((k + 1 : Nat) : Int) := by omega
     refine ⟨g - 1, by omega, k + 1, a', by omega, rfl, r3.at' hb8 (fun e => by omega), r1, ?_, ((m7.alloc _).set (fun e => absurd e (by have := m7.len; omega)) _).trans r3 (fun q _ e => e), ?_⟩
     ·rw [evsB_take k1]
      have e : catL [evtP, evT s.evs[k].1 s.evs[k].2, ⟨#[10]⟩] = evtP.data.toList ++ (evT s.evs[k].1 s.evs[k].2).data.toList ++ [10] := by simp [catL]
      rw [e, List.append_assoc] at r2
      exact r2
     ·intro x hx
      rw [List.take_succ_eq_append_getElem k1] at hx
      rcases List.mem_append.1 hx with hx | hx
      ·exact hall x hx
      ·rw [List.mem_singleton.1 hx]; exact hev
    | false =>
     rw [evC_no hev] at ht
     refine .p rfl ht ?_
     refine h1 ?_ _
     rw [Bool.eq_false_iff]
     intro e
     have := List.all_eq_true.1 e _ (List.getElem_mem k1)
     rw [hev] at this
     cases this
   ·have hd := of_decide_eq_false hd
    obtain rfl : k = s.evs.length := by omega
    rw [List.take_length] at hA7 hall
    exact h0 (List.all_eq_true.2 hall) b st7 hp7 hA7 m7
  ·rw [nu hue, List.nil_append] at h0
   rw [nu hue] at hz2
   simp only [List.length_nil] at hz2
   refine ⟨_, hs3, ?_⟩
   generalize hL5 : L2 ++ catL [encN] = L5 at hA3 h0
   have z5 : L5.length + (evsB s.evs).length <= m := by
    rw [<- hL5]
    simp only [List.length_append]; omega
   clear hL5 hz2
   have el := evL_len s.evs
   refine vc_loop [34] (fun g vals st' => ∃ (k : Nat) (b : AV), k + g = s.evs.length /\ vals = [.i k] /\ st'.heap[st.heap.length]? = some [.ptr p 0] /\ st'.heap[p]? = some [b, .i m] /\ Acc 0 st'.tk 1 b (u8L (L5 ++ evsB (s.evs.take k))) /\ Mv 0 (· = p) st st' /\ ∀ x ∈ s.evs.take k, evOk x.1 x.2 = true) s.evs.length rfl ⟨0, a3, by omega, rfl, hb3, hp3, by rw [List.take_zero]; simpa [evsB, linesOf] using hA3, (mm2.trans m3 (fun q _ e => e)), fun x hx => by rw [List.take_zero] at hx; cases hx⟩ ?_
   rintro g vals st7 ⟨k, b, hk, rfl, hb7, hp7, hA7, m7, hall⟩
   refine cnd_split (fun hd => ?_) (fun hd => ?_)
   ·have hd := of_decide_eq_true hd
    have k1 : k < s.evs.length := by omega
    have hes := evsB_le s.evs (k + 1)
    rw [evsB_take k1, List.length_append] at hes
    have ht := evText_p s.evs[k].1 s.evs[k].2
    refine ⟨k, _, rfl, evL_at k1, ?_⟩
    refine ⟨_, last_at _ _, ?_⟩
    have hb8 := (List.getElem?_set_ne (l := st7.heap ++ [[.i 0, .i 0]]) (i := st7.heap.length) (a := [.i s.evs[k].1, .i s.evs[k].2]) (by have := lt_of hb7; omega)).trans (ap hb7)
    have hp8 := (List.getElem?_set_ne (l := st7.heap ++ [[.i 0, .i 0]]) (i := st7.heap.length) (a := [.i s.evs[k].1, .i s.evs[k].2]) (by have := lt_of hp7; omega)).trans (ap hp7)
    refine ⟨_, last_upd _ _ _, ?_⟩
    cases hev : evOk s.evs[k].1 s.evs[k].2 with
    | true =>
     rw [(evC_ok hev).1, (evC_ok hev).2] at ht
     refine .p rfl ht ?_
     refine ⟨_, hb8, ?_⟩
     refine .s (qput_a (a := b) (m := m) (Lb := L5 ++ evsB (s.evs.take k)) [evtP, evT s.evs[k].1 s.evs[k].2, ⟨#[10]⟩] (by show 3 <= _; omega) hp8 hA7 (by simp only [catL, List.flatMap_cons, List.flatMap_nil, List.length_append, List.length_nil] at hes ⊢; simp at hes ⊢; omega) hm (fun a' st' r1 r2 r3 => ?_))
     intro c hc
     rw [IntWalk.i64_in _ (by omega)] at hc
     obtain rfl : c = ((k + 1 : Nat) : Int) := by omega
     refine ⟨g - 1, by omega, k + 1, a', by omega, rfl, r3.at' hb8 (fun e => by omega), r1, ?_, ((m7.alloc _).set (fun e => absurd e (by have := m7.len; omega)) _).trans r3 (fun q _ e => e), ?_⟩
     ·rw [evsB_take k1]
      have e : catL [evtP, evT s.evs[k].1 s.evs[k].2, ⟨#[10]⟩] = evtP.data.toList ++ (evT s.evs[k].1 s.evs[k].2).data.toList ++ [10] := by simp [catL]
      rw [e, List.append_assoc] at r2
      exact r2
     ·intro x hx
      rw [List.take_succ_eq_append_getElem k1] at hx
      rcases List.mem_append.1 hx with hx | hx
      ·exact hall x hx
      ·rw [List.mem_singleton.1 hx]; exact hev
    | false =>
     rw [evC_no hev] at ht
     refine .p rfl ht ?_
     refine h1 ?_ _
     rw [Bool.eq_false_iff]
     intro e
     have := List.all_eq_true.1 e _ (List.getElem_mem k1)
     rw [hev] at this
     cases this
   ·have hd := of_decide_eq_false hd
    obtain rfl : k = s.evs.length := by omega
    rw [List.take_length] at hA7 hall
    exact h0 (List.all_eq_true.2 hall) b st7 hp7 hA7 m7
 ·rw [nc hce, List.nil_append] at h0
  rw [nc hce] at hz2
  simp only [List.length_nil] at hz2
  refine ⟨_, hs2, ?_⟩
  refine cnd_split (fun hue => ?_) (fun hue => ?_)
  ·rw [zu hue] at hz2 h0
   refine ⟨_, hb2, ?_⟩
   have z4 : L2.length + (catL [enuN]).length <= m := by omega
   refine .s (qput_a (a := a2) (m := m) (Lb := L2) [enuN] (by show 1 <= _; omega) hp2 hA2 z4 hm (fun a4 st4 hp4 hA4 m4 => ?_))
   have hb4 := m4.at' hb2 (fun e => by omega)
   have hs4 := m4.at' hs2 (fun e => by omega)
   rw [<- List.append_assoc] at h0
   refine ⟨_, hs4, ?_⟩
   generalize hL5 : L2 ++ catL [enuN] = L5 at hA4 h0
   have z5 : L5.length + (evsB s.evs).length <= m := by
    rw [<- hL5]
    simp only [List.length_append]; omega
   clear hL5 hz2
   have el := evL_len s.evs
   refine vc_loop [34] (fun g vals st' => ∃ (k : Nat) (b : AV), k + g = s.evs.length /\ vals = [.i k] /\ st'.heap[st.heap.length]? = some [.ptr p 0] /\ st'.heap[p]? = some [b, .i m] /\ Acc 0 st'.tk 1 b (u8L (L5 ++ evsB (s.evs.take k))) /\ Mv 0 (· = p) st st' /\ ∀ x ∈ s.evs.take k, evOk x.1 x.2 = true) s.evs.length rfl ⟨0, a4, by omega, rfl, hb4, hp4, by rw [List.take_zero]; simpa [evsB, linesOf] using hA4, (mm2.trans m4 (fun q _ e => e)), fun x hx => by rw [List.take_zero] at hx; cases hx⟩ ?_
   rintro g vals st7 ⟨k, b, hk, rfl, hb7, hp7, hA7, m7, hall⟩
   refine cnd_split (fun hd => ?_) (fun hd => ?_)
   ·have hd := of_decide_eq_true hd
    have k1 : k < s.evs.length := by omega
    have hes := evsB_le s.evs (k + 1)
    rw [evsB_take k1, List.length_append] at hes
    have ht := evText_p s.evs[k].1 s.evs[k].2
    refine ⟨k, _, rfl, evL_at k1, ?_⟩
    refine ⟨_, last_at _ _, ?_⟩
    have hb8 := (List.getElem?_set_ne (l := st7.heap ++ [[.i 0, .i 0]]) (i := st7.heap.length) (a := [.i s.evs[k].1, .i s.evs[k].2]) (by have := lt_of hb7; omega)).trans (ap hb7)
    have hp8 := (List.getElem?_set_ne (l := st7.heap ++ [[.i 0, .i 0]]) (i := st7.heap.length) (a := [.i s.evs[k].1, .i s.evs[k].2]) (by have := lt_of hp7; omega)).trans (ap hp7)
    refine ⟨_, last_upd _ _ _, ?_⟩
    cases hev : evOk s.evs[k].1 s.evs[k].2 with
    | true =>
     rw [(evC_ok hev).1, (evC_ok hev).2] at ht
     refine .p rfl ht ?_
     refine ⟨_, hb8, ?_⟩
     refine .s (qput_a (a := b) (m := m) (Lb := L5 ++ evsB (s.evs.take k)) [evtP, evT s.evs[k].1 s.evs[k].2, ⟨#[10]⟩] (by show 3 <= _; omega) hp8 hA7 (by simp only [catL, List.flatMap_cons, List.flatMap_nil, List.length_append, List.length_nil] at hes ⊢; simp at hes ⊢; omega) hm (fun a' st' r1 r2 r3 => ?_))
     intro c hc
     rw [IntWalk.i64_in _ (by omega)] at hc
     obtain rfl : c = ((k + 1 : Nat) : Int) := by omega
     refine ⟨g - 1, by omega, k + 1, a', by omega, rfl, r3.at' hb8 (fun e => by omega), r1, ?_, ((m7.alloc _).set (fun e => absurd e (by have := m7.len; omega)) _).trans r3 (fun q _ e => e), ?_⟩
     ·rw [evsB_take k1]
      have e : catL [evtP, evT s.evs[k].1 s.evs[k].2, ⟨#[10]⟩] = evtP.data.toList ++ (evT s.evs[k].1 s.evs[k].2).data.toList ++ [10] := by simp [catL]
      rw [e, List.append_assoc] at r2
      exact r2
     ·intro x hx
      rw [List.take_succ_eq_append_getElem k1] at hx
      rcases List.mem_append.1 hx with hx | hx
      ·exact hall x hx
      ·rw [List.mem_singleton.1 hx]; exact hev
    | false =>
     rw [evC_no hev] at ht
     refine .p rfl ht ?_
     refine h1 ?_ _
     rw [Bool.eq_false_iff]
     intro e
     have := List.all_eq_true.1 e _ (List.getElem_mem k1)
     rw [hev] at this
     cases this
   ·have hd := of_decide_eq_false hd
    obtain rfl : k = s.evs.length := by omega
    rw [List.take_length] at hA7 hall
    exact h0 (List.all_eq_true.2 hall) b st7 hp7 hA7 m7
  ·rw [nu hue, List.nil_append] at h0
   rw [nu hue] at hz2
   simp only [List.length_nil] at hz2
   refine ⟨_, hs2, ?_⟩
   generalize hL5 : L2 = L5 at hA2 h0
   have z5 : L5.length + (evsB s.evs).length <= m := by
    rw [<- hL5]
    omega
   clear hL5 hz2
   have el := evL_len s.evs
   refine vc_loop [34] (fun g vals st' => ∃ (k : Nat) (b : AV), k + g = s.evs.length /\ vals = [.i k] /\ st'.heap[st.heap.length]? = some [.ptr p 0] /\ st'.heap[p]? = some [b, .i m] /\ Acc 0 st'.tk 1 b (u8L (L5 ++ evsB (s.evs.take k))) /\ Mv 0 (· = p) st st' /\ ∀ x ∈ s.evs.take k, evOk x.1 x.2 = true) s.evs.length rfl ⟨0, a2, by omega, rfl, hb2, hp2, by rw [List.take_zero]; simpa [evsB, linesOf] using hA2, mm2, fun x hx => by rw [List.take_zero] at hx; cases hx⟩ ?_
   rintro g vals st7 ⟨k, b, hk, rfl, hb7, hp7, hA7, m7, hall⟩
   refine cnd_split (fun hd => ?_) (fun hd => ?_)
   ·have hd := of_decide_eq_true hd
    have k1 : k < s.evs.length := by omega
    have hes := evsB_le s.evs (k + 1)
    rw [evsB_take k1, List.length_append] at hes
    have ht := evText_p s.evs[k].1 s.evs[k].2
    refine ⟨k, _, rfl, evL_at k1, ?_⟩
    refine ⟨_, last_at _ _, ?_⟩
    have hb8 := (List.getElem?_set_ne (l := st7.heap ++ [[.i 0, .i 0]]) (i := st7.heap.length) (a := [.i s.evs[k].1, .i s.evs[k].2]) (by have := lt_of hb7; omega)).trans (ap hb7)
    have hp8 := (List.getElem?_set_ne (l := st7.heap ++ [[.i 0, .i 0]]) (i := st7.heap.length) (a := [.i s.evs[k].1, .i s.evs[k].2]) (by have := lt_of hp7; omega)).trans (ap hp7)
    refine ⟨_, last_upd _ _ _, ?_⟩
    cases hev : evOk s.evs[k].1 s.evs[k].2 with
    | true =>
     rw [(evC_ok hev).1, (evC_ok hev).2] at ht
     refine .p rfl ht ?_
     refine ⟨_, hb8, ?_⟩
     refine .s (qput_a (a := b) (m := m) (Lb := L5 ++ evsB (s.evs.take k)) [evtP, evT s.evs[k].1 s.evs[k].2, ⟨#[10]⟩] (by show 3 <= _; omega) hp8 hA7 (by simp only [catL, List.flatMap_cons, List.flatMap_nil, List.length_append, List.length_nil] at hes ⊢; simp at hes ⊢; omega) hm (fun a' st' r1 r2 r3 => ?_))
     intro c hc
     rw [IntWalk.i64_in _ (by omega)] at hc
     obtain rfl : c = ((k + 1 : Nat) : Int) := by omega
     refine ⟨g - 1, by omega, k + 1, a', by omega, rfl, r3.at' hb8 (fun e => by omega), r1, ?_, ((m7.alloc _).set (fun e => absurd e (by have := m7.len; omega)) _).trans r3 (fun q _ e => e), ?_⟩
     ·rw [evsB_take k1]
      have e : catL [evtP, evT s.evs[k].1 s.evs[k].2, ⟨#[10]⟩] = evtP.data.toList ++ (evT s.evs[k].1 s.evs[k].2).data.toList ++ [10] := by simp [catL]
      rw [e, List.append_assoc] at r2
      exact r2
     ·intro x hx
      rw [List.take_succ_eq_append_getElem k1] at hx
      rcases List.mem_append.1 hx with hx | hx
      ·exact hall x hx
      ·rw [List.mem_singleton.1 hx]; exact hev
    | false =>
     rw [evC_no hev] at ht
     refine .p rfl ht ?_
     refine h1 ?_ _
     rw [Bool.eq_false_iff]
     intro e
     have := List.all_eq_true.1 e _ (List.getElem_mem k1)
     rw [hev] at this
     cases this
   ·have hd := of_decide_eq_false hd
    obtain rfl : k = s.evs.length := by omega
    rw [List.take_length] at hA7 hall
    exact h0 (List.all_eq_true.2 hall) b st7 hp7 hA7 m7
end
section
structure Scr.Sz (s : Scr) : Prop where
 ec : s.ec.size <= 1099511627776
 eh : s.eh.size <= 1099511627776
 es : s.es.size <= 1099511627776
 eb : s.eb.size <= 1099511627776
 dl : s.doms.length <= 1000000
 dz : ∀ x ∈ s.doms, x.1.size <= 1099511627776 /\ x.2.size <= 1099511627776
 ll : s.locs.length <= 1000000
 lz : ∀ x ∈ s.locs, x.1.size <= 1099511627776 /\ x.2.size <= 1099511627776
 inn : s.In
 rl : s.rules.length <= 1000000
 rok : ∀ r ∈ s.rules, r.Ok
 cl : s.cl.size <= 1099511627776
 up : s.up.size <= 1099511627776
 el : s.evs.length <= 1000000
 tot : (prB s).length <= 1099511627776
def rulB (l : List Rl) : List UInt8 := linesOf (l.map .rule)
theorem rulB_take {l : List Rl} {k : Nat} (h : k < l.length) : rulB (l.take (k + 1)) = rulB (l.take k) ++ (rulP.data.toList ++ (textB l[k]).data.toList ++ [10]) := by
 unfold rulB
 rw [List.take_succ_eq_append_getElem h, List.map_append, linesOf_app]
 simp [linesOf, Ln.bytes]
theorem rulB_le (l : List Rl) (k : Nat) : (rulB (l.take k)).length <= (rulB l).length := by
 conv => rhs; rw [<- List.take_append_drop k l]
 unfold rulB
 rw [List.map_append, linesOf_app, List.length_append]
 omega
theorem caps_join (h c q : Int) : (joinC sp1 [capsB, numT h, numT c, numT q]).data.toList = capsT h c q := by
 rw [joinC_cons (by simp), joinC_cons (by simp), joinC_cons (by simp), joinC_one]
 simp only [app_l]
 unfold capsT
 simp [sp1]
theorem swp_lines (w : ByteArray) (f : Swp -> Ln) (hf : ∀ x : Swp, (f x).bytes = rowL w [x.1, x.2]) : ∀ l : List Swp, linesOf (l.map f) = swpL w l
 | [] => rfl
 | x :: l => by
  have ih := swp_lines w f hf l
  unfold swpL linesOf at ih ⊢
  rw [List.map_cons, List.flatMap_cons, List.flatMap_cons, ih, hf]
theorem prB_eq (s : Scr) : prB s = (rowL envW [s.ec, s.eh, s.es, s.eb] ++ [10]) ++ (swpL domW s.doms ++ (swpL plcW s.locs ++ ((capsT s.ch s.cc s.cq ++ [10]) ++ (rulB s.rules ++ linesOf (tailN s))))) := by
 unfold prB prL prG tailN rulB
 have t1 : decide (1 <= 7) = true := rfl
 have t4 : decide (4 <= 7) = true := rfl
 have t6 : decide (6 <= 7) = true := rfl
 have t7 : decide (7 <= 7) = true := rfl
 rw [t1, t4, t6, t7]
 have e1 : bI true (Ln.env s.ec s.eh s.es s.eb) = [.env s.ec s.eh s.es s.eb] := rfl
 have e4 : bI true (Ln.caps s.ch s.cc s.cq) = [.caps s.ch s.cc s.cq] := rfl
 have e6 : bI true (Ln.cli s.cl) = [.cli s.cl] := rfl
 have e7 : bI true (Ln.ups s.up) = [.ups s.up] := rfl
 rw [e1, e4, e6, e7]
 simp only [linesOf_app]
 rw [swp_lines domW domN (fun _ => rfl), swp_lines plcW plcN (fun _ => rfl)]
 have f1 : linesOf [Ln.env s.ec s.eh s.es s.eb] = rowL envW [s.ec, s.eh, s.es, s.eb] ++ [10] := by simp [linesOf, Ln.bytes]
 have f4 : linesOf [Ln.caps s.ch s.cc s.cq] = capsT s.ch s.cc s.cq ++ [10] := by simp [linesOf, Ln.bytes]
 have f6 : linesOf [Ln.cli s.cl, Ln.ups s.up] = linesOf [Ln.cli s.cl] ++ linesOf [Ln.ups s.up] := by rw [<- linesOf_app]; rfl
 rw [f1, f4, f6]
 simp only [List.append_assoc]
theorem print_bad {s : Scr} (h : okRu s = false) : printS s = (e0, 9) := by unfold printS; rw [if_pos h]
theorem print_ev {s : Scr} (h : okRu s = true) (h2 : okEv s = false) : printS s = (e0, 1) := by unfold printS; rw [if_neg (by rw [h]; decide), if_pos h2]
theorem print_long {s : Scr} (h : okRu s = true) (h2 : okEv s = true) (h3 : 4194304 < (prB s).length) : printS s = (e0, 3) := by unfold printS; rw [if_neg (by rw [h]; decide), if_neg (by rw [h2]; decide), if_pos h3]
theorem print_is {s : Scr} (h : okRu s = true) (h2 : okEv s = true) (h3 : ¬ 4194304 < (prB s).length) : printS s = (tBy (prB s), 0) := by unfold printS; rw [if_neg (by rw [h]; decide), if_neg (by rw [h2]; decide), if_neg h3]; rfl
attribute [local irreducible] vcApp
theorem print_p (s : Scr) (hz : s.Sz) : APure Tryz.prog 12 [s.av] (.tup [.s (printS s).1, .i (printS s).2]) [] := by
 have hmx : maxLen = 9223372036854775807 := rfl
 have hT := prB_eq s
 have htot := hz.tot
 rw [hT] at htot
 simp only [List.length_append, List.length_singleton] at htot
 obtain ⟨X, hX⟩ : ∃ X, printS s = X := ⟨_, rfl⟩
 rw [hX]
 refine APure.of rfl (ACalls.of_vc T_ok mixed Tryz.func12 rfl Tryz.call12 ?_)
 refine .s (qnewL_a ?_)
 iterate 6 refine ⟨_, rfl, ?_⟩
 refine .s (row_a (p := 1) (a := .nilS) (m := 1099511627776) (Lb := []) envW [s.ec, s.eh, s.es, s.eb] (by simp) (fun x hx => ?_) rfl .nil ?_ (Nat.le_refl _) (fun a1 st1 hp1 hA1 m1 => ?_))
 ·simp only [List.mem_cons, List.not_mem_nil, or_false] at hx
  rcases hx with rfl | rfl | rfl | rfl
  ·exact hz.ec
  ·exact hz.eh
  ·exact hz.es
  ·exact hz.eb
 ·simp only [List.length_nil]; omega
 have hs1 := m1.at' (q := 0) (cs := s.cells) rfl (fun e => by cases e)
 have hb1 := m1.at' (q := 2) (cs := [.ptr 1 0]) rfl (fun e => by cases e)
 clear m1
 rw [List.nil_append] at hA1
 refine ⟨_, hb1, ?_⟩
 refine ⟨_, hs1, ?_⟩
 refine .s (swaps_a (p := 1) (a := a1) (m := 1099511627776) domW s.doms hz.dl hz.dz hp1 hA1 (by simp only [List.length_append, List.length_singleton]; omega) (Nat.le_refl _) (fun a2 st2 hp2 hA2 m2 => ?_))
 have hs2 := m2.at' hs1 (fun e => by cases e)
 have hb2 := m2.at' hb1 (fun e => by cases e)
 clear m2 hs1 hb1 hp1 hA1
 refine ⟨_, hb2, ?_⟩
 refine ⟨_, hs2, ?_⟩
 refine .s (swaps_a (p := 1) (a := a2) (m := 1099511627776) plcW s.locs hz.ll hz.lz hp2 hA2 (by simp only [List.length_append, List.length_singleton]; omega) (Nat.le_refl _) (fun a3 st3 hp3 hA3 m3 => ?_))
 have hs3 := m3.at' hs2 (fun e => by cases e)
 have hb3 := m3.at' hb2 (fun e => by cases e)
 clear m3 hs2 hb2 hp2 hA2
 refine .x (by kernel_rfl) ?_
 refine ⟨_, hs3, ?_⟩
 refine .p rfl (itoa_p s.ch hz.inn.h) ?_
 refine ⟨_, hs3, ?_⟩
 refine .p rfl (itoa_p s.cc hz.inn.c) ?_
 refine ⟨_, hs3, ?_⟩
 refine .p rfl (itoa_p s.cq hz.inn.q) ?_
 refine .n (.one 0 (.one 1 (.one 2 (.one 3 (.one 4 (.only 5 .done)))))) (by kernel_rfl) ?_
 refine ⟨_, hb3, ?_⟩
 have hjl := caps_join s.ch s.cc s.cq
 have hjz : (joinC sp1 [capsB, numT s.ch, numT s.cc, numT s.cq]).size = (capsT s.ch s.cc s.cq).length := by rw [<- hjl, blen]
 refine .p rfl (qjoin_p sp1 [capsB, numT s.ch, numT s.cc, numT s.cq] (by show 4 <= _; omega) (by omega)) ?_
 refine .s (qput_a (p := 1) (a := a3) (m := 1099511627776) [joinC sp1 [capsB, numT s.ch, numT s.cc, numT s.cq], ⟨#[10]⟩] (by show 2 <= _; omega) hp3 hA3 ?_ (Nat.le_refl _) (fun a4 st4 hp4 hA4 m4 => ?_))
 ·simp only [catL, List.flatMap_cons, List.flatMap_nil, List.length_append, blen, hjz, List.length_singleton]
  simp
  omega
 have hs4 := m4.at' hs3 (fun e => by cases e)
 have hb4 := m4.at' hb3 (fun e => by cases e)
 clear m4 hs3 hb3 hp3 hA3
 have hcat : catL [joinC sp1 [capsB, numT s.ch, numT s.cc, numT s.cq], ⟨#[10]⟩] = capsT s.ch s.cc s.cq ++ [10] := by
  simp only [catL, List.flatMap_cons, List.flatMap_nil, hjl]
  rfl
 rw [hcat] at hA4
 have hfin : prB s = ((rowL envW [s.ec, s.eh, s.es, s.eb] ++ [10]) ++ swpL domW s.doms ++ swpL plcW s.locs ++ (capsT s.ch s.cc s.cq ++ [10])) ++ (rulB s.rules ++ linesOf (tailN s)) := by
  rw [hT]
  simp only [List.append_assoc]
 have htot := hz.tot
 generalize (rowL envW [s.ec, s.eh, s.es, s.eb] ++ [10]) ++ swpL domW s.doms ++ swpL plcW s.locs ++ (capsT s.ch s.cc s.cq ++ [10]) = L4 at hA4 hfin
 rw [hfin] at htot
 simp only [List.length_append] at htot
 clear hcat hjz hjl hT
 have el := rlL_len s.rules
 have hrl := hz.rl
 refine ⟨_, hs4, ?_⟩
 refine vc_loop [60] (fun g vals st' => ∃ (k : Nat) (b : AV), k + g = s.rules.length /\ vals = [.i k] /\ st'.heap[0]? = some s.cells /\ st'.heap[2]? = some [.ptr 1 0] /\ st'.heap[1]? = some [b, .i ((1099511627776 : Nat) : Int)] /\ Acc 0 st'.tk 1 b (u8L (L4 ++ rulB (s.rules.take k))) /\ ∀ x ∈ s.rules.take k, checkR x = 0) s.rules.length rfl ⟨0, a4, by omega, rfl, hs4, hb4, hp4, by rw [List.take_zero]; simpa [rulB, linesOf] using hA4, fun x hx => by rw [List.take_zero] at hx; cases hx⟩ ?_
 rintro g vals st7 ⟨k, b, hk, rfl, hs7, hb7, hp7, hA7, hall⟩
 refine cnd_split (fun hd => ?_) (fun hd => ?_)
 ·have hd := of_decide_eq_true hd
  have k1 : k < s.rules.length := by omega
  have hes := rulB_le s.rules (k + 1)
  rw [rulB_take k1, List.length_append] at hes
  have ht := rtext_p s.rules[k] (hz.rok _ (List.getElem_mem k1))
  refine ⟨k, _, rfl, rlL_at k1, ?_⟩
  refine ⟨_, last_at _ _, ?_⟩
  have n7 : ∀ (z c : List AV) (q : Nat) (v : List AV), st7.heap[q]? = some v -> ((st7.heap ++ [z]).set st7.heap.length c)[q]? = some v := fun z c q v h => st_ne (n := q) (by have := lt_of h; omega) (ap h)
  refine ⟨_, last_upd _ _ _, ?_⟩
  by_cases hev : checkR s.rules[k] = 0
  ·rw [textR_ok hev] at ht
   refine .p rfl ht ?_
   refine ⟨_, n7 _ _ _ _ hb7, ?_⟩
   have e7 : catL [rulP, textB s.rules[k], ⟨#[10]⟩] = rulP.data.toList ++ (textB s.rules[k]).data.toList ++ [10] := by simp [catL]
   have z7 : (L4 ++ rulB (s.rules.take k)).length + (catL [rulP, textB s.rules[k], ⟨#[10]⟩]).length <= 1099511627776 := by
    rw [e7, List.length_append]
    omega
   refine .s (qput_a (p := 1) (a := b) (m := 1099511627776) (Lb := L4 ++ rulB (s.rules.take k)) [rulP, textB s.rules[k], ⟨#[10]⟩] (by show 3 <= _; omega) (n7 _ _ _ _ hp7) hA7 z7 (Nat.le_refl _) (fun a' st' r1 r2 r3 => ?_))
   intro c hc
   rw [IntWalk.i64_in _ (by omega)] at hc
   obtain rfl : c = ((k + 1 : Nat) : Int) := by omega
   refine ⟨g - 1, by omega, k + 1, a', by omega, rfl, r3.at' (n7 _ _ _ _ hs7) (fun e => by cases e), r3.at' (n7 _ _ _ _ hb7) (fun e => by cases e), r1, ?_, ?_⟩
   ·rw [rulB_take k1]
    have e : catL [rulP, textB s.rules[k], ⟨#[10]⟩] = rulP.data.toList ++ (textB s.rules[k]).data.toList ++ [10] := by simp [catL]
    rw [e, List.append_assoc] at r2
    exact r2
   ·intro x hx
    rw [List.take_succ_eq_append_getElem k1] at hx
    rcases List.mem_append.1 hx with hx | hx
    ·exact hall x hx
    ·rw [List.mem_singleton.1 hx]; exact hev
  ·have hbad : okRu s = false := by
    rw [Bool.eq_false_iff]
    intro e
    have := List.all_eq_true.1 e _ (List.getElem_mem k1)
    exact hev (of_decide_eq_true this)
   rw [textR_no hev, (checkR_02 _).resolve_left hev] at ht
   refine .p rfl ht ?_
   rw [print_bad hbad] at hX
   subst hX
   rfl
 ·have hd := of_decide_eq_false hd
  obtain rfl : k = s.rules.length := by omega
  rw [List.take_length] at hA7 hall
  have hru : okRu s = true := List.all_eq_true.2 fun x hx => decide_eq_true (hall x hx)
  refine ⟨_, hb7, ?_⟩
  refine ⟨_, hs7, ?_⟩
  have z8 : (L4 ++ rulB s.rules).length + (linesOf (tailN s)).length <= 1099511627776 := by
   rw [List.length_append]
   exact Nat.le_trans (Nat.le_of_eq (Nat.add_assoc _ _ _)) htot
  refine .s (tail_a (p := 1) (a := b) (m := 1099511627776) s hz.el hz.cl hz.up hp7 hA7 z8 (Nat.le_refl _) (fun hev a8 st8 hp8 hA8 m8 => ?_) (fun hev st8 => ?_))
  ·have hb8 := m8.at' hb7 (fun e => by cases e)
   have e8 : L4 ++ rulB s.rules ++ linesOf (tailN s) = prB s := by rw [hfin, List.append_assoc]
   rw [e8] at hA8
   refine ⟨_, hb8, ?_⟩
   refine .s (qlen_a (p := 1) (m := 1099511627776) hp8 hA8 ?_)
   refine cnd_split (fun hg => ?_) (fun hg => ?_)
   ·have hg := of_decide_eq_true hg
    rw [print_long hru hev (by omega)] at hX
    subst hX
    rfl
   ·have hg := of_decide_eq_false hg
    rw [print_is hru hev (by omega)] at hX
    subst hX
    refine ⟨_, hb8, ?_⟩
    refine .s (qtake_a (p := 1) (m := 1099511627776) hp8 hA8 ?_)
    rfl
  ·rw [print_ev hru hev] at hX
   subst hX
   rfl
end
end Go.Proofs.YticbonkojpabnaaGreatDoor
