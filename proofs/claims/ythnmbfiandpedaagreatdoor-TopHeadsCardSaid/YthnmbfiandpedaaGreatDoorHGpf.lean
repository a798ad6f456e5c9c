/- Field lines, read and written: plain words, no program in sight. -/
import Derived.Test.YthnmbfiandpedaaGreatDoorHPl
import Derived.Lib.SlTrimSet
import Derived.Lib.IndexAny
import Derived.Test.YthnmbfiandpedaaGreatDoorHShelf
import Derived.Test.YthnmbfiandpedaaGreatDoorHGsb
import Derived.Shelf.Strings.SlTrimAscii
import Derived.Laws.RangeAny
import Derived.Lib.OthersKept
import Derived.Test.YthnmbfiandpedaaGreatDoorHGca
set_option linter.unusedSimpArgs false
set_option linter.unusedVariables false
set_option maxRecDepth 100000
namespace Go.Proofs.YthnmbfiandpedaaGreatDoor
open Go.RowKit
def trimB (s : ByteArray) : ByteArray := ⟨(Lib.trimS s.data.toList [32, 9]).toArray⟩
/-- a rune beyond ASCII takes bytes beyond ASCII alone -/
theorem decode_bytes (s : ByteArray) (pos : Nat) (h : pos < s.size) (ha : 128 ≤ (s[pos]'h).toNat) : ∀ j, pos ≤ j → j < pos + (Utf8.decode s pos).2 → ∃ hj : j < s.size, 128 ≤ (s[j]'hj).toNat := by
  have e0 := get_at s pos h
  have cont : ∀ k, (decide (pos + k < s.size) && (s.get! (pos + k)).toNat / 64 == 2) = true → ∃ hj : pos + k < s.size, 128 ≤ (s[pos + k]'hj).toNat := fun k hk => by
    simp only [Bool.and_eq_true, decide_eq_true_eq, beq_iff_eq] at hk
    refine ⟨hk.1, ?_⟩
    have e := get_at s (pos + k) hk.1
    rw [Nat.add_zero] at e
    rw [e] at hk
    omega
  have one : ∀ j, pos ≤ j → j < pos + 1 → ∃ hj : j < s.size, 128 ≤ (s[j]'hj).toNat := fun j h1 h2 => by
    obtain rfl : j = pos := by omega
    exact ⟨h, ha⟩
  have two : ∀ n, (∀ k, 1 ≤ k → k < n → (decide (pos + k < s.size) && (s.get! (pos + k)).toNat / 64 == 2) = true) → ∀ j, pos ≤ j → j < pos + n → ∃ hj : j < s.size, 128 ≤ (s[j]'hj).toNat := fun n hn j h1 h2 => by
    by_cases hj : j = pos
    · exact one j h1 (by omega)
    · obtain ⟨k, rfl⟩ : ∃ k, j = pos + k := ⟨j - pos, by omega⟩
      exact cont k (hn k (by omega) (by omega))
  unfold Utf8.decode
  dsimp only
  rw [if_neg (by rw [e0]; omega)]
  split
  · rename_i hc
    simp only [Bool.and_eq_true] at hc
    split
    · exact two 2 (fun k h1 h2 => by
        have e1 : k = 1 := by omega
        subst e1
        simpa using hc.2)
    · exact one
  · split
    · rename_i hc
      simp only [Bool.and_eq_true] at hc
      split
      · exact two 3 (fun k h1 h2 => by
          rcases (show k = 1 ∨ k = 2 by omega) with rfl | rfl
          · simpa using hc.1.2
          · simpa using hc.2)
      · exact one
    · split
      · rename_i hc
        simp only [Bool.and_eq_true] at hc
        split
        · exact two 4 (fun k h1 h2 => by
            rcases (show k = 1 ∨ k = 2 ∨ k = 3 by omega) with rfl | rfl | rfl
            · simpa using hc.1.1.2
            · simpa using hc.1.2
            · simpa using hc.2)
        · exact one
      · exact one
def High (q : ByteArray) : Prop := 2 ≤ q.size ∧ q.size ≤ 4 ∧ ∀ (hs : q.size = 2), 128 ≤ (q[1]'(by omega)).toNat
theorem encode_high (r : Int) (h : 128 ≤ r) : High (Utf8.encode r) := by
  have hc : 128 ≤ (if Utf8.valid r then r.toNat else Utf8.runeError) := by
    split
    · omega
    · decide
  generalize hg : (if Utf8.valid r then r.toNat else Utf8.runeError) = c at hc
  have e : Utf8.encode r = (if c < 0x80 then ⟨#[UInt8.ofNat c]⟩
    else if c < 0x800 then ⟨#[UInt8.ofNat (0xC0 + c / 64), UInt8.ofNat (0x80 + c % 64)]⟩
    else if c < 0x10000 then ⟨#[UInt8.ofNat (0xE0 + c / 4096), UInt8.ofNat (0x80 + c / 64 % 64), UInt8.ofNat (0x80 + c % 64)]⟩
    else ⟨#[UInt8.ofNat (0xF0 + c / 262144), UInt8.ofNat (0x80 + c / 4096 % 64), UInt8.ofNat (0x80 + c / 64 % 64), UInt8.ofNat (0x80 + c % 64)]⟩) := by
    unfold Utf8.encode
    dsimp only
    rw [hg]
  rw [if_neg (by omega)] at e
  by_cases h1 : c < 0x800
  · rw [if_pos h1] at e
    rw [e]
    refine ⟨show 2 ≤ 2 by decide, show 2 ≤ 4 by decide, fun _ => ?_⟩
    show 128 ≤ (UInt8.ofNat (0x80 + c % 64)).toNat
    rw [UInt8.toNat_ofNat']
    omega
  · rw [if_neg h1] at e
    by_cases h2 : c < 0x10000
    · rw [if_pos h2] at e
      rw [e]
      exact ⟨show 2 ≤ 3 by decide, show 3 ≤ 4 by decide, fun h => absurd (show 3 = 2 from h) (by decide)⟩
    · rw [if_neg h2] at e
      rw [e]
      exact ⟨show 2 ≤ 4 by decide, show 4 ≤ 4 by decide, fun h => absurd (show 4 = 2 from h) (by decide)⟩
def crlfB (s : ByteArray) : Bool := s.data.toList.any fun b => b == 13 || b == 10
theorem crlf_contains (x : UInt8) : ([13, 10] : List UInt8).contains x = (x == 13 || x == 10) := by rw [Bool.eq_iff_iff]; simp
theorem indexAny_crlf (l : List UInt8) : decide (0 ≤ Lib.indexAny l [13, 10]) = l.any fun b => b == 13 || b == 10 := by
  induction l with
  | nil => rfl
  | cons x r ih =>
    rw [List.any_cons, ← ih, ← crlf_contains]
    have hge := Lib.indexAny_ge [13, 10] r
    have e0 : Lib.indexAny (x :: r) [13, 10] = if ([13, 10] : List UInt8).contains x then 0 else if Lib.indexAny r [13, 10] == -1 then -1 else Lib.indexAny r [13, 10] + 1 := rfl
    rw [e0]
    cases ([13, 10] : List UInt8).contains x
    · simp only [Bool.false_eq_true, if_false, Bool.false_or]
      split
      · rename_i h; rw [beq_iff_eq] at h; rw [h]
      · rename_i h
        have h' : Lib.indexAny r [13, 10] ≠ -1 := fun e => h (by rw [e]; rfl)
        rw [decide_eq_true (by omega : (0 : Int) ≤ Lib.indexAny r [13, 10] + 1), decide_eq_true (by omega : (0 : Int) ≤ Lib.indexAny r [13, 10])]
    · rfl
/-- fieldline.Parse, as it goes -/
def parseF (s : ByteArray) : Fld × Int :=
  if crlfB s then ((.empty, .empty), 24)
  else if 0 < tw blkI s 0 then ((.empty, .empty), 23)
  else
    let n := tw tokI s 0
    let g := n + tw blkI s n
    if n = 0 ∨ ¬ (s.data.toList[g]? = some 58) then ((.empty, .empty), 21)
    else if g ≠ n then ((.empty, .empty), 22)
    else if allI valI (s.extract (g + 1) s.size) = false then ((.empty, .empty), 25)
    else ((s.extract 0 n, trimB (s.extract (g + 1) s.size)), 0)
def checkF (f : Fld) : Int := if tokB f.1 = false then 21 else if allI valI f.2 = false ∨ trimB f.2 ≠ f.2 then 25 else 0
def textF (f : Fld) : ByteArray × Int := if checkF f ≠ 0 then (.empty, checkF f) else if f.2.size = 0 then (f.1 ++ ⟨#[58]⟩, 0) else (f.1 ++ ⟨#[58, 32]⟩ ++ f.2, 0)
def rt (p : UInt8 → Bool) (l : List UInt8) : List UInt8 := (l.reverse.dropWhile p).reverse
theorem rt_cons (p : UInt8 → Bool) (x : UInt8) (r : List UInt8) : rt p (x :: r) = if rt p r = [] then (if p x then [] else [x]) else x :: rt p r := by
  unfold rt
  rw [List.reverse_cons, List.dropWhile_append]
  cases h : r.reverse.dropWhile p with
  | nil => cases hx : p x <;> simp [hx]
  | cons y t => simp
theorem rt_dw (p : UInt8 → Bool) (l : List UInt8) : rt p (l.dropWhile p) = (rt p l).dropWhile p := by
  induction l with
  | nil => rfl
  | cons x r ih =>
    rw [rt_cons]
    cases hx : p x
    · rw [List.dropWhile_cons_of_neg (by simp [hx]), rt_cons, hx]
      by_cases h : rt p r = [] <;> simp [h, hx]
    · rw [List.dropWhile_cons_of_pos hx, ih]
      by_cases h : rt p r = [] <;> simp [h, hx]
def blkP (x : UInt8) : Bool := blkI (x.toNat : Int)
theorem blkP_contains (x : UInt8) : ([32, 9] : List UInt8).contains x = blkP x := by
  have : ∀ n : Nat, n < 256 → ([32, 9] : List UInt8).contains (UInt8.ofNat n) = blkP (UInt8.ofNat n) := by decide +kernel
  have h := this x.toNat x.toNat_lt
  rwa [UInt8.ofNat_toNat] at h
theorem trimB_eq (s : ByteArray) : trimB s = ⟨(rt blkP (s.data.toList.dropWhile blkP)).toArray⟩ := by
  have e : (fun x => ([32, 9] : List UInt8).contains x) = blkP := funext blkP_contains
  unfold trimB Lib.trimS Lib.trimLeftS Lib.trimRightS
  rw [show (fun x => List.contains ([32, 9] : List UInt8) x) = blkP from e, rt_dw]
  rfl
theorem extB (s : ByteArray) (a b : Nat) : (s.extract a b).data.toList = (s.data.toList.take b).drop a := by
  rw [ByteArray.data_extract, Array.toList_extract, List.extract_eq_take_drop, List.drop_take]
theorem trimB_size (s : ByteArray) : (trimB s).size ≤ s.size := by
  rw [trimB_eq, ← blen s]
  show (rt blkP (s.data.toList.dropWhile blkP)).toArray.size ≤ _
  rw [List.size_toArray]
  unfold rt
  rw [List.length_reverse]
  have h1 := (List.dropWhile_sublist blkP (l := (s.data.toList.dropWhile blkP).reverse)).length_le
  have h2 := (List.dropWhile_sublist blkP (l := s.data.toList)).length_le
  rw [List.length_reverse] at h1
  omega
theorem all_tw {f : UInt8 → Bool} : ∀ (l : List UInt8), ∀ x ∈ l.takeWhile f, f x = true := by
  intro l
  induction l with
  | nil => intro x h; cases h
  | cons y r ih =>
    intro x h
    cases hy : f y
    · rw [List.takeWhile_cons_of_neg (by simp [hy])] at h; cases h
    · rw [List.takeWhile_cons_of_pos hy] at h
      cases h with
      | head => exact hy
      | tail _ h => exact ih x h
theorem tw_all {q : Int → Bool} {s : ByteArray} {k : Nat} : ∀ i (hi : i < s.size), k ≤ i → i < k + tw q s k → q (s[i].toNat : Int) = true := by
  intro i hi h1 h2
  have hp := List.takeWhile_prefix (fun b : UInt8 => q (b.toNat : Int)) (l := s.data.toList.drop k)
  unfold tw at h2
  have hlt : i - k < (List.takeWhile (fun b : UInt8 => q (b.toNat : Int)) (s.data.toList.drop k)).length := by omega
  have hm := List.getElem_mem hlt
  have hq := all_tw _ _ hm
  have e := hp.getElem hlt
  rw [e, List.getElem_drop] at hq
  have e2 : k + (i - k) = i := by omega
  simp only [e2] at hq
  exact hq
theorem toInj {a b : ByteArray} (h : a.data.toList = b.data.toList) : a = b := ByteArray.ext (Array.toList_inj.1 h)
theorem tw_list {q : Int → Bool} {s : ByteArray} {k : Nat} {p r : List UInt8} (h : s.data.toList.drop k = p ++ r) (h1 : ∀ b ∈ p, q (b.toNat : Int) = true)
    (h2 : ∀ b, r.head? = some b → q (b.toNat : Int) = false) : tw q s k = p.length := by
  unfold tw
  rw [h]
  clear h
  induction p with
  | nil =>
    cases r with
    | nil => rfl
    | cons x r => rw [List.nil_append, List.takeWhile_cons_of_neg (by simp [h2 x rfl])]
  | cons x p ih =>
    rw [List.cons_append, List.takeWhile_cons_of_pos (p := fun b : UInt8 => q (b.toNat : Int)) (h1 x (.head _)), List.length_cons, ih (fun b hb => h1 b (.tail _ hb)), List.length_cons]
theorem allI_mem {q : Int → Bool} {s : ByteArray} (h : allI q s = true) : ∀ b ∈ s.data.toList, q (b.toNat : Int) = true := List.all_eq_true.1 h
theorem allI_mk {q : Int → Bool} {s : ByteArray} (h : ∀ b ∈ s.data.toList, q (b.toNat : Int) = true) : allI q s = true := List.all_eq_true.2 h
theorem u8_of {q : UInt8 → Bool} (h : ∀ n : Nat, n < 256 → q (UInt8.ofNat n) = true) (b : UInt8) : q b = true := by
  have := h b.toNat b.toNat_lt
  rwa [UInt8.ofNat_toNat] at this
theorem tok_facts (b : UInt8) (h : tokI (b.toNat : Int) = true) : (b == 13 || b == 10) = false ∧ blkI (b.toNat : Int) = false ∧ (b == 58) = false := by
  have := u8_of (q := fun b => !tokI (b.toNat : Int) || (!(b == 13 || b == 10) && !blkI (b.toNat : Int) && !(b == 58))) (by decide +kernel) b
  simp only [h, Bool.not_true, Bool.false_or, Bool.and_eq_true, Bool.not_eq_true'] at this
  exact ⟨this.1.1, this.1.2, this.2⟩
theorem val_facts (b : UInt8) (h : valI (b.toNat : Int) = true) : (b == 13 || b == 10) = false := by
  have := u8_of (q := fun b => !valI (b.toNat : Int) || !(b == 13 || b == 10)) (by decide +kernel) b
  simpa only [h, Bool.not_true, Bool.false_or, Bool.not_eq_true'] using this
theorem blk_facts (b : UInt8) (h : blkI (b.toNat : Int) = true) : (b == 13 || b == 10) = false ∧ tokI (b.toNat : Int) = false ∧ valI (b.toNat : Int) = true := by
  have := u8_of (q := fun b => !blkI (b.toNat : Int) || (!(b == 13 || b == 10) && !tokI (b.toNat : Int) && valI (b.toNat : Int))) (by decide +kernel) b
  simp only [h, Bool.not_true, Bool.false_or, Bool.and_eq_true, Bool.not_eq_true'] at this
  exact ⟨this.1.1, this.1.2, this.2⟩
theorem tokB_facts {n : ByteArray} (h : tokB n = true) : 0 < n.size ∧ ∀ b ∈ n.data.toList, tokI (b.toNat : Int) = true := by
  unfold tokB at h
  rw [Bool.and_eq_true, decide_eq_true_eq] at h
  exact ⟨h.1, allI_mem h.2⟩
theorem crlf_of {s : ByteArray} (h : ∀ b ∈ s.data.toList, (b == 13 || b == 10) = false) : crlfB s = false := by
  unfold crlfB
  rw [List.any_eq_false]
  intro b hb
  rw [h b hb]
  decide
theorem line_l {n x v s : ByteArray} (hs : s = n ++ x ++ ⟨#[58]⟩ ++ v) : s.data.toList = n.data.toList ++ (x.data.toList ++ (58 :: v.data.toList)) := by
  rw [hs, app_l, app_l, app_l, List.append_assoc, List.append_assoc]
  rfl
theorem line_crlf {n x v s : ByteArray} (hs : s = n ++ x ++ ⟨#[58]⟩ ++ v) (hn : tokB n = true) (hx : allI blkI x = true) (hv : allI valI v = true) : crlfB s = false := by
  apply crlf_of
  intro b hb
  rw [line_l hs, List.mem_append, List.mem_append, List.mem_cons] at hb
  rcases hb with hb | hb | rfl | hb
  · exact (tok_facts b ((tokB_facts hn).2 b hb)).1
  · exact (blk_facts b (allI_mem hx b hb)).1
  · rfl
  · exact val_facts b (allI_mem hv b hb)
theorem parse_line {n x v s : ByteArray} (hs : s = n ++ x ++ ⟨#[58]⟩ ++ v) (hn : tokB n = true) (hx : allI blkI x = true) (hv : allI valI v = true) :
    parseF s = if x.size ≠ 0 then ((.empty, .empty), 22) else ((n, trimB v), 0) := by
  have hl := line_l hs
  have hcr := line_crlf hs hn hx hv
  obtain ⟨hn0, hnt⟩ := tokB_facts hn
  have ln := blen n
  have lx := blen x
  have lv := blen v
  have ls := blen s
  have hsz : s.size = n.size + (x.size + (v.size + 1)) := by rw [← ls, hl, List.length_append, List.length_append, List.length_cons, ln, lx, lv]
  have h0 : tw blkI s 0 = 0 := by
    refine tw_list (p := []) (r := s.data.toList) (by simp) (by simp) (fun b hb => ?_)
    rw [hl] at hb
    cases hnl : n.data.toList with
    | nil => rw [hnl] at ln; simp at ln; omega
    | cons y r =>
      rw [hnl] at hb
      obtain rfl : y = b := by simpa using hb
      exact (tok_facts y (hnt y (by rw [hnl]; exact .head _))).2.1
  have h1 : tw tokI s 0 = n.size := by
    rw [← ln]
    refine tw_list (r := x.data.toList ++ (58 :: v.data.toList)) (by rw [List.drop_zero, hl]) hnt (fun b hb => ?_)
    cases hxl : x.data.toList with
    | nil =>
      rw [hxl] at hb
      obtain rfl : 58 = b := by simpa using hb
      decide +kernel
    | cons y r =>
      rw [hxl] at hb
      obtain rfl : y = b := by simpa using hb
      exact (blk_facts y (allI_mem hx y (by rw [hxl]; exact .head _))).2.1
  have h2 : tw blkI s n.size = x.size := by
    rw [← lx]
    refine tw_list (r := 58 :: v.data.toList) (by rw [hl, List.drop_left' ln]) (allI_mem hx) (fun b hb => ?_)
    obtain rfl : 58 = b := by simpa using hb
    decide +kernel
  have h3 : s.data.toList[n.size + x.size]? = some 58 := by
    rw [hl, List.getElem?_append_right (by omega), List.getElem?_append_right (by omega)]
    rw [show n.size + x.size - n.data.toList.length - x.data.toList.length = 0 from by omega]
    rfl
  have h4 : s.extract 0 n.size = n := by
    apply toInj
    rw [extB, List.drop_zero, hl, List.take_left' ln]
  have h5 : s.extract (n.size + x.size + 1) s.size = v := by
    apply toInj
    rw [extB, ← ls, List.take_length, hl, show n.size + x.size + 1 = n.size + (x.size + 1) from by omega, ← List.drop_drop, List.drop_left' ln, ← List.drop_drop, List.drop_left' lx]
    rfl
  unfold parseF
  rw [hcr, h0, h1]
  simp only [h2, h3, h4, h5, hv]
  rw [if_neg (by decide), if_neg (by omega), if_neg (show ¬ (n.size = 0 ∨ ¬ True) from fun h => h.elim (fun h => by omega) (fun h => h trivial))]
  by_cases hx0 : x.size = 0
  · rw [if_neg (by omega), if_neg (by decide), if_neg (by omega)]
  · rw [if_pos (by omega), if_pos hx0]
theorem dw_dw (p : UInt8 → Bool) (l : List UInt8) : (l.dropWhile p).dropWhile p = l.dropWhile p := by
  induction l with
  | nil => rfl
  | cons x r ih =>
    cases hx : p x
    · rw [List.dropWhile_cons_of_neg (by simp [hx]), List.dropWhile_cons_of_neg (by simp [hx])]
    · rw [List.dropWhile_cons_of_pos hx, ih]
theorem rt_rt (p : UInt8 → Bool) (l : List UInt8) : rt p (rt p l) = rt p l := by
  unfold rt
  rw [List.reverse_reverse, dw_dw]
theorem dw_app {p : UInt8 → Bool} (x m : List UInt8) (hx : ∀ b ∈ x, p b = true) : (x ++ m).dropWhile p = m.dropWhile p := by
  induction x with
  | nil => rfl
  | cons y r ih => rw [List.cons_append, List.dropWhile_cons_of_pos (hx y (.head _)), ih (fun b hb => hx b (.tail _ hb))]
theorem rt_app {p : UInt8 → Bool} (m y : List UInt8) (hy : ∀ b ∈ y, p b = true) : rt p (m ++ y) = rt p m := by
  unfold rt
  rw [List.reverse_append, dw_app _ _ (fun b hb => hy b (List.mem_reverse.1 hb))]
theorem trim_l (s : ByteArray) : (trimB s).data.toList = rt blkP (s.data.toList.dropWhile blkP) := by
  rw [trimB_eq]
theorem trim_trim (s : ByteArray) : trimB (trimB s) = trimB s := by
  apply toInj
  rw [trim_l, trim_l, rt_dw, rt_rt, rt_dw, dw_dw]
theorem trim_about (x v y : ByteArray) (hx : allI blkI x = true) (hy : allI blkI y = true) : trimB (x ++ v ++ y) = trimB v := by
  apply toInj
  rw [trim_l, trim_l, app_l, app_l, List.append_assoc, dw_app (p := blkP) _ _ (allI_mem hx), rt_dw, rt_app (p := blkP) _ _ (allI_mem hy), rt_dw]
theorem trim_mem {s : ByteArray} : ∀ b ∈ (trimB s).data.toList, b ∈ s.data.toList := by
  intro b hb
  rw [trim_l] at hb
  unfold rt at hb
  rw [List.mem_reverse] at hb
  have h1 := (List.dropWhile_sublist blkP).mem hb
  rw [List.mem_reverse] at h1
  exact (List.dropWhile_sublist blkP).mem h1
theorem check_ok {f : Fld} (h : checkF f = 0) : tokB f.1 = true ∧ allI valI f.2 = true ∧ trimB f.2 = f.2 := by
  unfold checkF at h
  split at h
  · cases h
  · split at h
    · cases h
    · rename_i h1 h2
      simp only [not_or, ne_eq, Classical.not_not] at h2
      exact ⟨by simpa using h1, by simpa using h2.1, h2.2⟩
theorem ok_check {f : Fld} (h1 : tokB f.1 = true) (h2 : allI valI f.2 = true) (h3 : trimB f.2 = f.2) : checkF f = 0 := by
  unfold checkF
  rw [if_neg (by rw [h1]; decide), if_neg (by rw [h2, h3]; simp)]
theorem parse_ok {s : ByteArray} (h : (parseF s).2 = 0) : checkF (parseF s).1 = 0 ∧ (textF (parseF s).1).1.size ≤ s.size + 1 := by
  unfold parseF at h ⊢
  dsimp only at h ⊢
  split at h
  · cases h
  · rename_i hcr
    split at h
    · cases h
    · rename_i hb
      rw [if_neg hcr, if_neg hb]
      have hn := tw_le tokI s 0 (Nat.zero_le _)
      have hall := tw_all (q := tokI) (s := s) (k := 0)
      rw [Nat.zero_add] at hn hall
      generalize tw tokI s 0 = n at *
      generalize n + tw blkI s n = g at *
      split at h
      · cases h
      · rename_i h1
        split at h
        · cases h
        · rename_i h2
          split at h
          · cases h
          · rename_i h3
            rw [if_neg h1, if_neg h2, if_neg h3]
            simp only [not_or, Classical.not_not] at h1 h2 h3
            obtain ⟨h1, h58⟩ := h1
            subst h2
            have hgs : g < s.size := by
              have := (List.getElem?_eq_some_iff.1 h58).1
              rw [blen] at this
              exact this
            have hz := ext_size s 0 g (by omega)
            have hc : checkF (s.extract 0 g, trimB (s.extract (g + 1) s.size)) = 0 := by
              refine ok_check ?_ (allI_mk fun b hb => ?_) (trim_trim _)
              · unfold tokB
                rw [Bool.and_eq_true, decide_eq_true_eq]
                refine ⟨by show 0 < (s.extract 0 g).size; omega, allI_mk fun b hb => ?_⟩
                rw [extB, List.drop_zero] at hb
                obtain ⟨i, hi, rfl⟩ := List.getElem_of_mem hb
                rw [List.length_take, blen] at hi
                rw [List.getElem_take]
                exact hall i (by omega) (Nat.zero_le _) (by omega)
              · exact allI_mem (by simpa using h3) b (trim_mem b hb)
            refine ⟨hc, ?_⟩
            have ht := trimB_size (s.extract (g + 1) s.size)
            rw [ext_size _ _ _ (Nat.le_refl _)] at ht
            unfold textF
            rw [if_neg (by rw [hc]; decide)]
            split
            · show (s.extract 0 g ++ _).size ≤ _
              rw [ByteArray.size_append, hz]
              show g - 0 + 1 ≤ _
              omega
            · show (s.extract 0 g ++ _ ++ trimB _).size ≤ _
              rw [ByteArray.size_append, ByteArray.size_append, hz]
              show g - 0 + 2 + _ ≤ _
              omega
theorem text_ok {f : Fld} (h : checkF f = 0) : textF f = (if f.2.size = 0 then f.1 ++ ⟨#[58]⟩ else f.1 ++ ⟨#[58, 32]⟩ ++ f.2, 0) := by
  unfold textF
  rw [if_neg (by rw [h]; decide)]
  split <;> rfl
theorem parse_text {f : Fld} (h : checkF f = 0) : parseF (textF f).1 = (f, 0) := by
  obtain ⟨h1, h2, h3⟩ := check_ok h
  rw [text_ok h]
  by_cases h0 : f.2.size = 0
  · rw [if_pos h0]
    have he : f.2 = .empty := by
      apply toInj
      have := blen f.2
      rw [List.eq_nil_of_length_eq_zero (this.trans h0)]
      rfl
    rw [parse_line (n := f.1) (x := .empty) (v := .empty) (by apply toInj; simp) h1 (by rfl) (by rfl), if_neg (by decide)]
    rw [show trimB .empty = .empty from by decide +kernel, ← he]
  · rw [if_neg h0]
    rw [parse_line (n := f.1) (x := .empty) (v := ⟨#[32]⟩ ++ f.2) (by apply toInj; simp) h1 (by rfl) (allI_mk fun b hb => ?_), if_neg (by decide)]
    · have := trim_about ⟨#[32]⟩ f.2 .empty (by decide +kernel) (by rfl)
      rw [ByteArray.append_empty] at this
      rw [this, h3]
    · rw [app_l, List.mem_append] at hb
      rcases hb with hb | hb
      · obtain rfl : b = 32 := by simpa using hb
        decide +kernel
      · exact allI_mem h2 b hb
end Go.Proofs.YthnmbfiandpedaaGreatDoor
/- strings.ContainsAny of 13 and 10, any text. No statement of its own. -/
set_option linter.unusedSimpArgs false
set_option linter.unusedVariables false
set_option maxRecDepth 100000
namespace Go.Proofs.YthnmbfiandpedaaGreatDoor
open Go.RowKit
theorem sIndexByte_any (s : ByteArray) (c : Int) (w : World) :
    Calls Tryz.prog 201 #[.string s, .int .u8 c] w fun e w' => e = .returned (.int .i64 (Lib.indexByte s.data.toList c.toNat.toUInt8)) ∧ w = w' := (Tryz.strings_IndexByte s c w).mono fun _ _ ⟨h1, h2⟩ => ⟨h1, h2.symm⟩
set_option maxHeartbeats 1000000 in
theorem indexRune_high (r : Int) (h0 : 128 ≤ r) (h1 : r ≤ 2147483647) (w : World) :
    Calls Tryz.prog 157 #[.string ⟨#[13, 10]⟩, .int .i32 r] w fun e w' => e = .returned (.int .i64 (-1)) ∧ Chg w w' (fun _ => False) := by
  cases he : (r == 65533)
  · cases hv : Lib.validRune r
    · have hV := Tryz.utf8_ValidRune r w
      rw [hv] at hV
      go_enter Tryz.func157, Tryz.ntmps157
      go_wp2_with (go_at_call 214; refine hV.mono ?_; rintro e w' ⟨rfl, hw⟩; rw [hw])
      go_ret
      exact ⟨rfl, Chg.refl _ _⟩
    · have hV := Tryz.utf8_ValidRune r w
      rw [hv] at hV
      have q1 := (encode_high r h0).1
      have q2 := (encode_high r h0).2.1
      go_enter Tryz.func157, Tryz.ntmps157
      go_wp2_with (go_at_call 214; refine hV.mono ?_; rintro e w' ⟨rfl, hw⟩; rw [hw])
      go_step3
      go_wp2_with fail
      have hq0 := encode_high r h0
      clear hV
      generalize Utf8.encode r = q at *
      obtain ⟨_, _, q3⟩ := hq0
      by_cases hq : q.size = 2
      · have q4 := q3 hq
        have q5 : (((((⟨#[13, 10]⟩ : ByteArray)[1]'(by decide)).toNat : Int)) != ((q[1]'(by omega)).toNat : Int)) = true := by
          rw [bne_iff_ne]
          show (10 : Int) ≠ _
          omega
        clear q3
        go_loopg [9] 1 (fun g s9 wx => w = wx ∧ s9 = .int .i64 ((q.size : Int) - 1))
        case atStart => exact ⟨rfl, rfl⟩
        case round =>
          obtain ⟨rfl, rfl⟩ := hrel
          go_wp2_with fail
          go_step3
          go_wp2_with fail
          go_quiet (fail)
          go_wp2_with fail
          go_quiet ((go_at_call 201; exact quiet_add_left (sIndexByte_any _ _ _)))
          go_wp2_with fail
          · rw [Exit.noGoto_ret]
            go_wp2_with fail
            rw [Exit.noGoto_ret]
            go_ret
            exact ⟨rfl, by repeat (first | exact Chg.refl _ _ | assumption | refine Chg.drewN ?_ _ | refine Chg.drew ?_ | refine Chg.alloc ?_ _)⟩
      · go_loopg [9] 1 (fun g s9 wx => w = wx ∧ s9 = .int .i64 ((q.size : Int) - 1))
        case atStart => exact ⟨rfl, rfl⟩
        case round =>
          obtain ⟨rfl, rfl⟩ := hrel
          clear q3
          have q5 : 3 ≤ q.size := by omega
          clear hq
          go_wp2_with fail
          rw [Exit.noGoto_ret]
          go_ret
          exact ⟨rfl, Chg.refl _ _⟩
  · go_enter Tryz.func157, Tryz.ntmps157
    go_wp2_with fail
    go_loopg [176] 2 (fun g _ wx => ∃ i : Nat, i + g = 2 ∧ wx = w.iter ⟨#[13, 10]⟩ i)
    case atStart => exact ⟨0, rfl, rfl⟩
    case round =>
      obtain ⟨i, hig, rfl⟩ := hrel
      rcases (show i = 0 ∨ i = 1 ∨ i = 2 by omega) with rfl | rfl | rfl
      · have hnx := fun ty => run_next_ascii (P := Tryz.prog) w ⟨#[13, 10]⟩ 0 ty (by decide) (by decide)
        go_wp2_with fail
        go_roundg 1
        case measure => omega
        case rel => exact ⟨1, rfl, rfl⟩
      · have hnx := fun ty => run_next_ascii (P := Tryz.prog) w ⟨#[13, 10]⟩ 1 ty (by decide) (by decide)
        go_wp2_with fail
        go_roundg 0
        case measure => omega
        case rel => exact ⟨2, rfl, rfl⟩
      · have hnx := run_next_end (P := Tryz.prog) w ⟨#[13, 10]⟩ 2
        go_wp2_with fail
        go_ret
        exact ⟨rfl, (Chg.refl _ _).alloc _⟩


theorem Chg.iterAt (w : World) (k : Nat) (s : ByteArray) (p : Nat) : Chg w (w.iterAt k s p) (fun j => j = k) :=
  ⟨rfl, rfl, rfl, by simp [World.iterAt], fun j _ hj => Lib.iterAt_other w k j s p hj⟩

theorem indexAny_any (s : ByteArray) (hs : s.size ≤ 4000000000) (w : World) :
    Calls Tryz.prog 106 #[.string s, .string ⟨#[13, 10]⟩] w fun e w' => e = .returned (.int .i64 (Lib.indexAny s.data.toList [13, 10])) ∧ Chg w w' (fun _ => False) := by
  by_cases h8 : 8 < s.size
  · exact (Tryz.strings_IndexAny_long (zero_of_info info_set).1 s ⟨#[13, 10]⟩ w (by decide) h8 (by omega) (by decide) (fun j b h => by
      rcases j with _ | _ | j
      · simp at h; subst h; decide
      · simp at h; subst h; decide
      · simp at h)).mono fun e w' ⟨he, hb⟩ => ⟨he, by subst hb; exact ((Chg.refl _ _).alloc _).alloc _⟩
  · have h8z : decide ((8 : Int) < (s.size : Int)) = false := decide_eq_false (by omega)
    have hS := Tryz.strings_shouldUseASCIISet (s.size : Int) w
    rw [h8z] at hS
    go_enter Tryz.func106, Tryz.ntmps106
    go_wp2_with (go_at_call 158; refine hS.mono ?_; rintro e w' ⟨rfl, hw⟩; rw [hw])
    go_loopg [9, 10] s.size (fun g _ _ wx => ∃ i : Nat, i + g = s.size ∧ wx.heap[w.heap.size]? = some (.stringIter s i) ∧ Chg w wx (fun _ => False) ∧ Lib.NoAny s.data.toList [13, 10] i)
    case atStart => exact ⟨0, by omega, World.iter_heap w s 0, (Chg.refl _ _).alloc _, Lib.NoAny.zero _ _⟩
    case round =>
      obtain ⟨i, hig, hit, hc, hno⟩ := hrel
      have HN := Lib.hid hno
      clear hno
      by_cases hi : i < s.size
      · by_cases ha : (s[i]'hi).toNat < 128
        · have hnx := fun ty => Lib.run_next_ascii_at (P := Tryz.prog) wr w.heap.size s i ty hit hi ha
          have Hx : Hid (s.data.toList[i]? = some (s[i]'hi)) := Lib.data_getElem? s i hi
          have hcon := Lib.contains_iff_indexByte [13, 10] (s[i]'hi)
          have hback : (((s[i]'hi).toNat : Int)).toNat.toUInt8 = s[i]'hi := by simp
          have hIR := Tryz.strings_IndexRune_ascii ⟨#[13, 10]⟩ ((s[i]'hi).toNat : Int) (wr.iterAt w.heap.size s (i + 1)) (by omega) (by omega)
          rw [hback] at hIR
          clear hback
          generalize s[i]'hi = x at *
          change Calls _ _ _ _ (fun e w' => e = .returned (.int .i64 (Lib.indexByte [13, 10] x)) ∧ _) at hIR
          cases hin : ([13, 10] : List UInt8).contains x
          · rw [hin] at hcon
            have hlt : ¬ ((0 : Int) ≤ Lib.indexByte [13, 10] x) := of_decide_eq_false hcon.symm
            clear hcon
            generalize Lib.indexByte [13, 10] x = q at *
            have HI := Lib.hid hin
            clear hin
            go_wp2_with (go_at_call 157; refine hIR.mono ?_; rintro e w' ⟨rfl, hw⟩; rw [hw])
            go_roundg (gk - 1)
            case measure => omega
            case rel => exact ⟨i + 1, by omega, Lib.iterAt_heap wr _ s i _ hit, hc.next (Chg.iterAt wr _ s _) (fun j hj e => by omega), HN.out.succ Hx.out HI.out⟩
          · rw [hin] at hcon
            have hge : (0 : Int) ≤ Lib.indexByte [13, 10] x := of_decide_eq_true hcon.symm
            clear hcon
            generalize Lib.indexByte [13, 10] x = q at *
            have HI := Lib.hid hin
            clear hin
            go_wp2_with (go_at_call 157; refine hIR.mono ?_; rintro e w' ⟨rfl, hw⟩; rw [hw])
            go_ret
            exact ⟨by rw [Lib.indexAny_hit HN.out Hx.out HI.out]; rfl, hc.next (Chg.iterAt wr _ s _) (fun j hj e => by omega)⟩
        · have hnx := fun ty => Lib.run_next_any_at (P := Tryz.prog) wr w.heap.size s i ty hit hi
          obtain ⟨hr1, hr2⟩ := decode_high s i hi (by omega)
          have hr3 := decode_le s i
          have hby := decode_bytes s i hi (by omega)
          generalize (Utf8.decode s i).1 = r at *
          generalize (Utf8.decode s i).2 = k at *
          have hIR := fun W => indexRune_high (r : Int) (by omega) (by omega) W
          have HB := Lib.hid hby
          have hle : i + k ≤ s.size := by
            obtain ⟨h, _⟩ := hby (i + k - 1) (by omega) (by omega)
            omega
          clear hby ha
          go_wp2_with fail
          refine (hIR _).mono ?_; rintro e w2 ⟨rfl, hc2⟩
          have hw2 : w2.heap[w.heap.size]? = some (.stringIter s (i + k)) := (hc2.block _ (by simp [World.iterAt]; exact (Array.getElem?_eq_some_iff.1 hit).1) (fun h => h)).trans (Lib.iterAt_heap wr _ s i _ hit)
          have hcc := (hc.next (Chg.iterAt wr w.heap.size s (i + k)) (fun j hj e => by omega)).trans hc2
          go_wp2_with fail
          go_roundg (gk - k)
          case measure => omega
          case rel =>
            refine ⟨i + k, by omega, hw2, hcc, fun j b hj hb => ?_⟩
            by_cases hji : j < i
            · exact HN.out j b hji hb
            · obtain ⟨hjs, h128⟩ := HB.out j (by omega) hj
              rw [Lib.data_getElem? s j hjs] at hb
              obtain rfl := Option.some.inj hb
              rw [crlf_contains]
              generalize s[j] = x at *
              rw [Bool.or_eq_false_iff]
              exact ⟨by rw [beq_eq_false_iff_ne]; intro e; subst e; exact absurd h128 (by decide), by rw [beq_eq_false_iff_ne]; intro e; subst e; exact absurd h128 (by decide)⟩
      · have hnx := fun ty => Lib.run_next_end_at (P := Tryz.prog) wr w.heap.size s i ty hit (by omega)
        obtain rfl : i = s.size := by omega
        go_wp2_with fail
        go_ret
        exact ⟨by rw [Lib.indexAny_none (by rw [blen]; exact HN.out)]; rfl, hc⟩

theorem containsAny_any (s : ByteArray) (hs : s.size ≤ 4000000000) (w : World) :
    Calls Tryz.prog 60 #[.string s, .string ⟨#[13, 10]⟩] w fun e w' => e = .returned (.bool (crlfB s)) ∧ Chg w w' (fun _ => False) := by
  have hI := indexAny_any s hs w
  have he := Lib.hid (indexAny_crlf s.data.toList)
  generalize Lib.indexAny s.data.toList [13, 10] = q at *
  go_enter Tryz.func60, Tryz.ntmps60
  go_wp2_with (go_at_call 106; refine hI.mono ?_; rintro e w' ⟨rfl, hc⟩)
  go_ret
  exact ⟨by unfold crlfB; rw [← he.out]; rfl, hc⟩
theorem containsAny_p (s : ByteArray) (hs : s.size ≤ 4000000000) : APure Tryz.prog 60 [.s s, .s ⟨#[13, 10]⟩] (.b (crlfB s)) [] :=
  APure.of_lits #[.string s, .string ⟨#[13, 10]⟩] (.inl rfl) rfl Tryz.call60 fun w _ => (containsAny_any s hs w).mono fun e w1 ⟨he, hc⟩ => ⟨he, hc.below (Nat.le_refl _) (fun _ _ h => h)⟩
end Go.Proofs.YthnmbfiandpedaaGreatDoor
/- Fields: checked, and written as lines, by the program and by the document. No statement of its own. -/
set_option linter.unusedSimpArgs false
set_option linter.unusedVariables false
set_option maxRecDepth 100000
namespace Go.Proofs.YthnmbfiandpedaaGreatDoor
open Go.RowKit
theorem isValue_f : ByteF 55 valI := fun n _ _ => isValue_p n
theorem trimCB (s : ByteArray) : trimC s spcS = trimB s := rfl
theorem checkF_1 {a b : ByteArray} (h : tokB a = false) : checkF (a, b) = 21 := by unfold checkF; rw [if_pos h]
theorem checkF_2 {a b : ByteArray} (h : tokB a = true) (h2 : allI valI b = false ∨ trimB b ≠ b) : checkF (a, b) = 25 := by unfold checkF; rw [if_neg (by rw [h]; decide), if_pos h2]
theorem checkF_3 {a b : ByteArray} (h : tokB a = true) (h2 : allI valI b = true) (h3 : trimB b = b) : checkF (a, b) = 0 := by
  unfold checkF
  rw [if_neg (by rw [h]; decide), if_neg (fun h => h.elim (fun h => by have h : allI valI b = false := h; rw [h2] at h; cases h) (fun h => h h3))]
theorem check_p (a b : ByteArray) (ha : a.size ≤ 1099511627776) (hb : b.size ≤ 1099511627776) : APure Tryz.prog 32 [.agg [.s a, .s b]] (.i (checkF (a, b))) [] := by
  have hmx : maxLen = 9223372036854775807 := rfl
  have ht := trim_p b spcS (by omega) (by decide) (by decide)
  rw [trimCB] at ht
  refine APure.of rfl (ACalls.of_vc T_ok mixed Tryz.func32 rfl Tryz.call32 ?_)
  refine ⟨_, rfl, ?_⟩
  refine .p rfl (token_p a (by omega)) ?_
  refine cnd_split (fun h => ?_) (fun h => ?_)
  · rw [Bool.not_eq_true'] at h
    exact reti (checkF_1 h).symm
  · rw [Bool.not_eq_false'] at h
    refine .x (by kernel_rfl) ?_
    refine ⟨_, rfl, ?_⟩
    refine .p rfl (allF_p isValue_f b (by omega)) ?_
    refine cnd_split (fun h2 => ?_) (fun h2 => ?_)
    · rw [Bool.not_eq_true'] at h2
      exact reti (checkF_2 h (.inl h2)).symm
    · rw [Bool.not_eq_false'] at h2
      refine ⟨_, rfl, ?_⟩
      refine .p rfl ht ?_
      refine ⟨_, rfl, ?_⟩
      intro t htt
      cases t with
      | true =>
        have h3 : trimB b ≠ b := fun e => by have := htt.2 e; cases this
        exact reti (checkF_2 h (.inr h3)).symm
      | false => exact reti (checkF_3 h h2 (htt.1 rfl)).symm
/-- a field's line -/
def lineF (f : Fld) : ByteArray := if f.2.size = 0 then f.1 ++ ⟨#[58]⟩ else f.1 ++ ⟨#[58, 32]⟩ ++ f.2
theorem textF_line (f : Fld) : textF f = if checkF f ≠ 0 then (⟨#[]⟩, checkF f) else (lineF f, 0) := by
  unfold textF lineF
  split
  · rfl
  · split <;> rfl
theorem lineF_size (f : Fld) : (lineF f).size ≤ f.1.size + f.2.size + 2 := by
  unfold lineF
  split
  · rw [ByteArray.size_append]; show _ + 1 ≤ _; omega
  · rw [ByteArray.size_append, ByteArray.size_append]; show _ + 2 + _ ≤ _; omega
theorem ftext_p (a b : ByteArray) (ha : a.size ≤ 1099511627776) (hb : b.size ≤ 1099511627776) : APure Tryz.prog 19 [.agg [.s a, .s b]] (.tup [.s (textF (a, b)).1, .i (textF (a, b)).2]) [] := by
  have hmx : maxLen = 9223372036854775807 := rfl
  have hT := textF_line (a, b)
  have hc := check_p a b ha hb
  generalize textF (a, b) = Z at hT
  generalize checkF (a, b) = c at hT hc
  refine APure.of rfl (ACalls.of_vc T_ok mixed Tryz.func19 rfl Tryz.call19 ?_)
  refine ⟨_, rfl, ?_⟩
  refine .p rfl hc ?_
  refine cnd_split (fun h => ?_) (fun h => ?_)
  · have h : c ≠ 0 := bne_iff_ne.1 h
    rw [if_pos h] at hT
    subst hT
    rfl
  · have h : c = 0 := bne_eq_false_iff_eq.1 h
    rw [if_neg (fun h' => h' h)] at hT
    subst hT
    refine ⟨_, rfl, ?_⟩
    intro t ht
    cases t with
    | true =>
      have hz : b.size = 0 := (emp_iff _).1 (ht.1 rfl)
      refine ⟨_, rfl, ?_⟩
      refine ⟨by show a.size + 1 ≤ _; omega, ?_⟩
      show (AV.tup [.s (a ++ ⟨#[58]⟩), .i 0]) = _
      unfold lineF
      rw [if_pos hz]
    | false =>
      have hz : b.size ≠ 0 := fun e => by have := ht.2 ((emp_iff _).2 e); cases this
      refine ⟨_, rfl, ?_⟩
      refine ⟨by show a.size + 2 ≤ _; omega, ?_⟩
      refine ⟨_, rfl, ?_⟩
      refine ⟨by rw [app_size]; show a.size + 2 + b.size ≤ _; omega, ?_⟩
      show (AV.tup [.s (a ++ ⟨#[58, 32]⟩ ++ b), .i 0]) = _
      unfold lineF
      rw [if_neg hz]
end Go.Proofs.YthnmbfiandpedaaGreatDoor
/- Field lines read, in the program and in the document. No statement of its own. -/
set_option linter.unusedSimpArgs false
set_option linter.unusedVariables false
set_option maxRecDepth 100000
namespace Go.Proofs.YthnmbfiandpedaaGreatDoor
open Go.RowKit
def fldA (f : Fld) : AV := .agg [.s f.1, .s f.2]
theorem blk_f : ByteF 91 blkI := fun n _ _ => isBlank_p n
theorem blanks_m {st : St} {p k n m : Nat} {s : ByteArray} {R : AV → St → Prop} (h : Sc st p s k) (hn : n ≤ st.tk.length) (hm : k + tw blkI s k = m) (hR : ∀ st', Mv n (· = p) st st' → Sc st' p s m → R (.s (s.extract k m)) st') : ACalls Tryz.prog 83 [.ptr p 0] st R := by
  refine ACalls.of_vc T_ok mixed Tryz.func83 rfl Tryz.call83 ?_
  refine .s (while_m blk_f h hn hm (fun st' m hs => ?_))
  exact hR _ m hs
theorem rest_m {st : St} {p k : Nat} {s x : ByteArray} {R : AV → St → Prop} (h : Sc st p s k) (hx : s.extract k s.size = x) (hR : R (.s x) st) : ACalls Tryz.prog 86 [.ptr p 0] st R := by
  subst hx
  exact rest_a h hR
theorem atB_58 (s : ByteArray) (k : Nat) : atB s k 58 = true ↔ s.data.toList[k]? = some 58 := by
  unfold atB
  cases h : s.data.toList[k]? with
  | none => simp
  | some x =>
    simp only [Option.any_some, beq_iff_eq, Option.some.injEq]
    exact ⟨fun h => UInt8.toNat_inj.1 (by show _ = 58; omega), fun h => by subst h; rfl⟩
set_option maxHeartbeats 1000000 in
theorem fparse_p (s : ByteArray) (hs : s.size ≤ 1000000) : APure Tryz.prog 51 [.s s] (.tup [fldA (parseF s).1, .i (parseF s).2]) [] := by
  have hmx : maxLen = 9223372036854775807 := rfl
  have hZ : parseF s = if crlfB s then ((.empty, .empty), 24) else if 0 < tw blkI s 0 then ((.empty, .empty), 23) else
    if tw tokI s 0 = 0 ∨ ¬ (s.data.toList[tw tokI s 0 + tw blkI s (tw tokI s 0)]? = some 58) then ((.empty, .empty), 21)
    else if tw tokI s 0 + tw blkI s (tw tokI s 0) ≠ tw tokI s 0 then ((.empty, .empty), 22)
    else if allI valI (s.extract (tw tokI s 0 + tw blkI s (tw tokI s 0) + 1) s.size) = false then ((.empty, .empty), 25)
    else ((s.extract 0 (0 + tw tokI s 0), trimB (s.extract (tw tokI s 0 + tw blkI s (tw tokI s 0) + 1) s.size)), 0) := by rw [Nat.zero_add]; rfl
  generalize parseF s = Z at hZ ⊢
  have hle := tw_le tokI s 0 (Nat.zero_le _)
  have hlb := tw_le blkI s 0 (Nat.zero_le _)
  have hlc := tw_le blkI s (tw tokI s 0) (by omega)
  refine APure.of rfl (ACalls.of_vc T_ok mixed Tryz.func51 rfl Tryz.call51 ?_)
  refine .p rfl (containsAny_p s (by omega)) ?_
  refine cnd_split (fun h => ?_) (fun h => ?_)
  · rw [if_pos h] at hZ
    subst hZ
    have h0 : ([[AV.s ⟨#[]⟩, .s ⟨#[]⟩]] : List (List AV))[0]? = some [.s ⟨#[]⟩, .s ⟨#[]⟩] := rfl
    refine ⟨_, h0, ?_⟩
    refine ⟨_, st_eq h0, ?_⟩
    rfl
  rw [if_neg (by rw [h]; decide)] at hZ
  refine .s (new_a ?_)
  have hS : Sc ⟨[[AV.s ⟨#[]⟩, .s ⟨#[]⟩]] ++ [[.s s, .i 0]], []⟩ 1 s 0 := ⟨rfl, Nat.zero_le _, by omega⟩
  have h0 : ([[AV.s ⟨#[]⟩, .s ⟨#[]⟩]] ++ [[.s s, .i 0]] : List (List AV))[0]? = some [.s ⟨#[]⟩, .s ⟨#[]⟩] := rfl
  refine .s (blanks_m (n := 0) hS (Nat.zero_le _) rfl (fun S1 m1 hs1 => ?_))
  have h0 := m1.at' h0 (by decide)
  intro t ht
  cases t with
  | true =>
    have hp : 0 < tw blkI s 0 := Decidable.byContradiction fun hc => by
      have := ht.2 ((emp_iff _).2 (by rw [ByteArray.size_extract]; omega))
      cases this
    rw [if_pos hp] at hZ
    subst hZ
    refine ⟨_, h0, ?_⟩
    refine ⟨_, st_eq h0, ?_⟩
    rfl
  | false =>
    have hp : tw blkI s 0 = 0 := by
      have := (emp_iff _).1 (ht.1 rfl)
      rw [ByteArray.size_extract] at this
      omega
    rw [if_neg (by omega)] at hZ
    rw [Nat.zero_add, hp] at hs1
    refine .s (token_m hs1 (Nat.zero_le _) (fun he S2 m2 hs2 => ?_) (fun he S2 m2 hs2 => ?_))
    · have h0 := m2.at' h0 (by decide)
      refine .s (blanks_m (n := 0) hs2 (Nat.zero_le _) rfl (fun S3 m3 hs3 => ?_))
      have h0 := m3.at' h0 (by decide)
      rw [if_pos (.inl he)] at hZ
      subst hZ
      refine ⟨_, h0, ?_⟩
      refine ⟨_, st_eq h0, ?_⟩
      rfl
    · have h0 := m2.at' h0 (by decide)
      rw [Nat.zero_add] at hs2
      refine .s (blanks_m (n := 0) hs2 (Nat.zero_le _) rfl (fun S3 m3 hs3 => ?_))
      have h0 := m3.at' h0 (by decide)
      refine .s (byte_m hs3 (Nat.zero_le _) 58 (fun hb S4 m4 hs4 => ?_) (fun hb hlt S4 m4 hs4 => ?_))
      · have h0 := m4.at' h0 (by decide)
        have hb : ¬ s.data.toList[tw tokI s 0 + tw blkI s (tw tokI s 0)]? = some 58 := fun h => by rw [(atB_58 _ _).2 h] at hb; cases hb
        rw [if_pos (.inr hb)] at hZ
        subst hZ
        refine ⟨_, h0, ?_⟩
        refine ⟨_, st_eq h0, ?_⟩
        rfl
      · have h0 := m4.at' h0 (by decide)
        have hb := (atB_58 _ _).1 hb
        rw [if_neg (fun h => h.elim he (fun h => h hb))] at hZ
        intro t ht
        cases t with
        | true =>
          have hp : tw tokI s 0 + tw blkI s (tw tokI s 0) ≠ tw tokI s 0 := fun hc => by
            have := ht.2 ((emp_iff _).2 (by rw [ByteArray.size_extract]; omega))
            cases this
          rw [if_pos hp] at hZ
          subst hZ
          refine ⟨_, h0, ?_⟩
          refine ⟨_, st_eq h0, ?_⟩
          rfl
        | false =>
          have hp : tw tokI s 0 + tw blkI s (tw tokI s 0) = tw tokI s 0 := by
            have := (emp_iff _).1 (ht.1 rfl)
            rw [ByteArray.size_extract] at this
            omega
          rw [if_neg (fun h => h hp)] at hZ
          obtain ⟨x, hx⟩ : ∃ x, s.extract (tw tokI s 0 + tw blkI s (tw tokI s 0) + 1) s.size = x := ⟨_, rfl⟩
          have hxs : x.size ≤ s.size := by rw [← hx, ByteArray.size_extract]; omega
          rw [hx] at hZ
          have ht := trim_p x spcS (by omega) (by decide) (by decide)
          rw [trimCB] at ht
          have hv := allF_p isValue_f x (by omega)
          generalize trimB x = y at hZ ht
          generalize allI valI x = v at hZ hv
          refine .s (rest_m hs4 hx ?_)
          refine .p rfl hv ?_
          cases v with
          | false =>
            rw [if_pos rfl] at hZ
            subst hZ
            refine ⟨_, h0, ?_⟩
            refine ⟨_, st_eq h0, ?_⟩
            rfl
          | true =>
            rw [if_neg (by decide)] at hZ
            refine .s (rest_m hs4 hx ?_)
            refine .p rfl ht ?_
            subst hZ
            refine ⟨_, h0, ?_⟩
            refine ⟨_, st_eq h0, ?_⟩
            rfl
end Go.Proofs.YthnmbfiandpedaaGreatDoor
/- The library's searches in texts. No statement of its own. -/
set_option linter.unusedSimpArgs false
set_option linter.unusedVariables false
set_option maxRecDepth 100000
namespace Go.Proofs.YthnmbfiandpedaaGreatDoor
open Go.RowKit
theorem index_p (s sub : ByteArray) (hs : s.size ≤ 4000000000) : APure Tryz.prog 87 [.s s, .s sub] (.i (Lib.index s.data.toList sub.data.toList)) [] := by
  refine APure.of_lits #[.string s, .string sub] (.inl rfl) rfl Tryz.call87 fun w hw => ?_
  obtain ⟨m, hm⟩ := hw.max
  refine (Tryz.strings_Index s sub m w (by omega) hm).mono ?_
  rintro e w' ⟨rfl, rfl⟩
  exact ⟨rfl, .refl _ _⟩
theorem cutG_p (s sep : ByteArray) (hs : s.size ≤ 4000000000) : APure Tryz.prog 114 [.s s, .s sep] (.tup [.s ⟨(Lib.cut s.data.toList sep.data.toList).1.toArray⟩, .s ⟨(Lib.cut s.data.toList sep.data.toList).2.1.toArray⟩, .b (Lib.cut s.data.toList sep.data.toList).2.2]) [] := by
  refine APure.of_lits #[.string s, .string sep] (.inr ⟨[_, _, _], rfl, rfl⟩) rfl Tryz.call114 fun w hw => ?_
  obtain ⟨m, hm⟩ := hw.max
  refine (Tryz.strings_Cut s sep m w (by omega) hm).mono ?_
  rintro e w' ⟨rfl, n, rfl⟩
  exact ⟨rfl, rfl, rfl, rfl, Nat.le_refl _, fun _ _ => rfl⟩
theorem strL_fl (l : List ByteArray) : ∀ e ∈ strL l, e.length = 1 ∧ e.all AV.flat = true := fun e he => by
  obtain ⟨x, _, rfl⟩ := List.mem_map.1 he
  exact ⟨rfl, rfl⟩
def splG (s sep : ByteArray) : List ByteArray := Lib.splitB sep 0 (Lib.countB s sep) s
theorem splG_len (s sep : ByteArray) (h1 : 1 ≤ sep.size) : (splG s sep).length ≤ s.size + 1 := by
  unfold splG
  rw [Lib.splitB_all _ h1 0 _ s rfl]
  have := Lib.countB_le sep h1 s.size s (Nat.le_refl _)
  omega
theorem splitG_p (s sep : ByteArray) (hs : s.size ≤ 4000000000) (h1 : 1 ≤ sep.size) : APure Tryz.prog 88 [.s s, .s sep] (.sl .no 1 (strL (splG s sep))) [] := by
  refine ⟨rfl, Tryz.call88, fun J w vs hw hlen ha => ?_⟩
  have hv : vs = #[.string s, .string sep] := by
    apply Array.ext
    · simpa using hlen.symm
    · intro i h1 h2
      have h2' : i < 2 := by simpa using h2
      match i, h2' with
      | 0, _ =>
        have := (ha 0 _ vs[0] rfl (by simp [h1])).of_lit
        rw [this]; rfl
      | 1, _ =>
        have := (ha 1 _ vs[1] rfl (by simp [h1])).of_lit
        rw [this]; rfl
  subst hv
  obtain ⟨m, hm⟩ := (hw w (Below.refl _ _)).max
  refine (Tryz.strings_Split s sep m w (by omega) hm h1).mono ?_
  rintro e w' ⟨rfl, rfl⟩
  have hl : (splG s sep).length = Lib.countB s sep + 1 := Lib.splitB_all _ h1 0 _ s rfl
  have hll := splG_len s sep h1
  have hmx : maxLen = 9223372036854775807 := rfl
  rw [← hl]
  have hb : Below w.heap.size w (w.alloc (.cells ((splG s sep).map Value.string).toArray 9)) := (Below.refl _ w).alloc (Nat.le_refl _) _
  refine ⟨_, fun _ => ⟨0, 0, 0⟩, rfl, ⟨⟨Nat.le_refl _, hw⟩, hb, fun p cs h => by simp at h, fun p q h => by simp at h, fun t e h => by simp at h⟩, ?_⟩
  have hrow : Row w.heap.size J ⟨[], []⟩ (fun _ => 0) (fun _ => ⟨0, 0, 0⟩) (w.alloc (.cells ((splG s sep).map Value.string).toArray 9)) 1 (strL (splG s sep)) ((splG s sep).map Value.string) := by
    refine ⟨by rw [List.length_map, strL_len, Nat.mul_one], fun k e he => ?_, fun k e j a he ha => ?_⟩
    · have := strL_fl (splG s sep) e (List.mem_of_getElem? he)
      exact this
    · unfold strL at he
      rw [List.getElem?_map, Option.map_eq_some_iff] at he
      obtain ⟨x, hx, rfl⟩ := he
      match j, ha with
      | 0, ha =>
        cases ha
        refine ⟨.string x, ?_, .lit _⟩
        rw [Nat.mul_one, Nat.add_zero, List.getElem?_map, hx]
        rfl
      | j + 1, ha => simp at ha
  have hsl := hrow.sl .no w.heap.size 0 (splG s sep).length (by rw [strL_len]; exact Nat.le_refl _) (by omega) (fun j u hu => ⟨⟨fun h => absurd h (Nat.lt_irrefl _), fun p hp => by simp at hp, fun t e ht => by simp at ht⟩, ?_⟩) (fun h => by cases h) (fun i e h => by cases h)
  · rw [strL_len] at hsl
    exact hsl
  · rw [cell_block (heap_alloc_new w _), List.getElem?_toArray, Nat.zero_add, hu]
end Go.Proofs.YthnmbfiandpedaaGreatDoor
/- Hooks of the runs: what is known of functions by their contracts. No statement of its own. -/
set_option linter.unusedSimpArgs false
set_option linter.unusedVariables false
set_option maxRecDepth 100000
namespace Go.Proofs.YthnmbfiandpedaaGreatDoor
open Go.RowKit
noncomputable def hkIdxB (args : List AV) : Option AV := match args with
  | [.lit (.string s), .lit (.int .u8 (.ofNat c))] => some (.i (Lib.indexByte s.data.toList c.toUInt8))
  | _ => none
theorem hkIdxB_ok : FhOk Tryz.prog 201 (.hook hkIdxB) := by
  intro args r h
  unfold hkIdxB at h
  split at h
  · cases h
    exact indexByte_p _ _
  · cases h
/-- a text of fewer bytes than some -/
noncomputable def small8 (s : ByteArray) (r : AV) : Option AV := match Nat.ble (lenE s.data.toList) 1000000 with | true => some r | false => none
theorem small8_of {s : ByteArray} {r r' : AV} (h : small8 s r = some r') : s.size ≤ 1000000 ∧ r = r' := by
  unfold small8 at h
  split at h
  · rename_i e
    have e := Nat.le_of_ble_eq_true e
    rw [lenE_eq, size8] at e
    cases h
    exact ⟨e, rfl⟩
  · cases h
noncomputable def hkIdx (args : List AV) : Option AV := match args with
  | [.lit (.string s), .lit (.string t)] => small8 s (.i (Lib.index s.data.toList t.data.toList))
  | _ => none
theorem hkIdx_ok : FhOk Tryz.prog 87 (.hook hkIdx) := by
  intro args r h
  unfold hkIdx at h
  split at h
  · obtain ⟨h1, rfl⟩ := small8_of h
    exact index_p _ _ (by omega)
  · cases h
noncomputable def hkCut (args : List AV) : Option AV := match args with
  | [.lit (.string s), .lit (.string t)] => small8 s (.tup [.s ⟨(Lib.cut s.data.toList t.data.toList).1.toArray⟩, .s ⟨(Lib.cut s.data.toList t.data.toList).2.1.toArray⟩, .b (Lib.cut s.data.toList t.data.toList).2.2])
  | _ => none
theorem hkCut_ok : FhOk Tryz.prog 114 (.hook hkCut) := by
  intro args r h
  unfold hkCut at h
  split at h
  · obtain ⟨h1, rfl⟩ := small8_of h
    exact cutG_p _ _ (by omega)
  · cases h
noncomputable def hkSplit (args : List AV) : Option AV := match args with
  | [.lit (.string s), .lit (.string t)] => match t.data.toList with
    | [] => none
    | _ :: _ => small8 s (.sl .no 1 (strL (splG s t)))
  | _ => none
theorem hkSplit_ok : FhOk Tryz.prog 88 (.hook hkSplit) := by
  intro args r h
  unfold hkSplit at h
  split at h
  · rename_i s t
    split at h
    · cases h
    · rename_i a l e
      obtain ⟨h1, rfl⟩ := small8_of h
      refine splitG_p _ _ (by omega) ?_
      have := congrArg List.length e
      rw [size8] at this
      rw [this]
      simp
  · cases h
noncomputable def hkFp (args : List AV) : Option AV := match args with
  | [.lit (.string s)] => small8 s (.tup [fldA (parseF s).1, .i (parseF s).2])
  | _ => none
theorem hkFp_ok : FhOk Tryz.prog 51 (.hook hkFp) := by
  intro args r h
  unfold hkFp at h
  split at h
  · obtain ⟨h1, rfl⟩ := small8_of h
    exact fparse_p _ h1
  · cases h
noncomputable def hkCA (args : List AV) : Option AV := match args with
  | [.lit (.string s), .lit (.string t)] => match eq8 t.data.toList [13, 10] with
    | true => small8 s (.b (crlfB s))
    | false => none
  | _ => none
theorem hkCA_ok : FhOk Tryz.prog 60 (.hook hkCA) := by
  intro args r h
  unfold hkCA at h
  split at h
  · rename_i s t
    split at h
    · rename_i e
      obtain ⟨h1, rfl⟩ := small8_of h
      have : t = ⟨#[13, 10]⟩ := (eq8_str t ⟨#[13, 10]⟩).1 e
      rw [this]
      exact containsAny_p s (by omega)
    · cases h
  · cases h
/-- a class of bytes -/
def hkQ (q : Int → Bool) (args : List AV) : Option AV := match args with
  | [.lit (.int .u8 n)] => match inK .u8 n with | true => some (.b (q n)) | false => none
  | _ => none
theorem inK8 {n : Int} (h : inK .u8 n = true) : 0 ≤ n ∧ n ≤ 255 := by
  cases n with
  | ofNat m =>
    have := ltOfBlt h
    have e : Int.ofNat m = (m : Int) := rfl
    omega
  | negSucc m => cases h
theorem hkQ_ok {f : FuncId} {q : Int → Bool} (hq : ∀ n : Int, 0 ≤ n → n ≤ 255 → APure Tryz.prog f [.int .u8 n] (.b (q n)) []) : FhOk Tryz.prog f (.hook (hkQ q)) := by
  intro args r h
  unfold hkQ at h
  split at h
  · split at h
    · rename_i e
      cases h
      obtain ⟨h1, h2⟩ := inK8 e
      exact hq _ h1 h2
    · cases h
  · cases h
end Go.Proofs.YthnmbfiandpedaaGreatDoor
