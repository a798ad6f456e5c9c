/- Field lines, read and written: plain words, no program in sight. -/
import Derived.Test.YtgaidgblihnldaaGreatDoorPl
import Derived.Lib.SlTrimSet
import Derived.Lib.IndexAny
set_option linter.unusedSimpArgs false
set_option linter.unusedVariables false
set_option maxRecDepth 100000
namespace Go.Proofs.YtgaidgblihnldaaGreatDoor
open Go.RowKit
def trimB (s : ByteArray) : ByteArray := ⟨(Lib.trimS s.data.toList [32, 9]).toArray⟩
/-- a rune beyond ASCII takes bytes beyond ASCII alone -/
theorem decode_bytes (s : ByteArray) (pos : Nat) (h : pos < s.size) (ha : 128 ≤ (s[pos]'h).toNat) : ∀ j, pos ≤ j → j < pos + (Utf8.decode s pos).2 → ∃ hj : j < s.size, 128 ≤ (s[j]'hj).toNat := by
  have e0 := get_at s pos h
  have cont : ∀ k, (decide (pos + k < s.size) && (s.get! (pos + k)).toNat / 64 == 2) = true → ∃ hj : pos + k < s.size, 128 ≤ (s[pos + k]'hj).toNat := fun k hk => by
    simp only [Bool.and_eq_true, decide_eq_true_eq, beq_iff_eq] at hk
    refine ⟨hk.1, ?_⟩
    have e := get_at s (pos + k) hk.1
    rw [Nat.add_zero] at e
    rw [e] at hk
    omega
  have one : ∀ j, pos ≤ j → j < pos + 1 → ∃ hj : j < s.size, 128 ≤ (s[j]'hj).toNat := fun j h1 h2 => by
    obtain rfl : j = pos := by omega
    exact ⟨h, ha⟩
  have two : ∀ n, (∀ k, 1 ≤ k → k < n → (decide (pos + k < s.size) && (s.get! (pos + k)).toNat / 64 == 2) = true) → ∀ j, pos ≤ j → j < pos + n → ∃ hj : j < s.size, 128 ≤ (s[j]'hj).toNat := fun n hn j h1 h2 => by
    by_cases hj : j = pos
    · exact one j h1 (by omega)
    · obtain ⟨k, rfl⟩ : ∃ k, j = pos + k := ⟨j - pos, by omega⟩
      exact cont k (hn k (by omega) (by omega))
  unfold Utf8.decode
  dsimp only
  rw [if_neg (by rw [e0]; omega)]
  split
  · rename_i hc
    simp only [Bool.and_eq_true] at hc
    split
    · exact two 2 (fun k h1 h2 => by
        have e1 : k = 1 := by omega
        subst e1
        simpa using hc.2)
    · exact one
  · split
    · rename_i hc
      simp only [Bool.and_eq_true] at hc
      split
      · exact two 3 (fun k h1 h2 => by
          rcases (show k = 1 ∨ k = 2 by omega) with rfl | rfl
          · simpa using hc.1.2
          · simpa using hc.2)
      · exact one
    · split
      · rename_i hc
        simp only [Bool.and_eq_true] at hc
        split
        · exact two 4 (fun k h1 h2 => by
            rcases (show k = 1 ∨ k = 2 ∨ k = 3 by omega) with rfl | rfl | rfl
            · simpa using hc.1.1.2
            · simpa using hc.1.2
            · simpa using hc.2)
        · exact one
      · exact one
def High (q : ByteArray) : Prop := 2 ≤ q.size ∧ q.size ≤ 4 ∧ ∀ (hs : q.size = 2), 128 ≤ (q[1]'(by omega)).toNat
theorem encode_high (r : Int) (h : 128 ≤ r) : High (Utf8.encode r) := by
  have hc : 128 ≤ (if Utf8.valid r then r.toNat else Utf8.runeError) := by
    split
    · omega
    · decide
  generalize hg : (if Utf8.valid r then r.toNat else Utf8.runeError) = c at hc
  have e : Utf8.encode r = (if c < 0x80 then ⟨#[UInt8.ofNat c]⟩
    else if c < 0x800 then ⟨#[UInt8.ofNat (0xC0 + c / 64), UInt8.ofNat (0x80 + c % 64)]⟩
    else if c < 0x10000 then ⟨#[UInt8.ofNat (0xE0 + c / 4096), UInt8.ofNat (0x80 + c / 64 % 64), UInt8.ofNat (0x80 + c % 64)]⟩
    else ⟨#[UInt8.ofNat (0xF0 + c / 262144), UInt8.ofNat (0x80 + c / 4096 % 64), UInt8.ofNat (0x80 + c / 64 % 64), UInt8.ofNat (0x80 + c % 64)]⟩) := by
    unfold Utf8.encode
    dsimp only
    rw [hg]
  rw [if_neg (by omega)] at e
  by_cases h1 : c < 0x800
  · rw [if_pos h1] at e
    rw [e]
    refine ⟨show 2 ≤ 2 by decide, show 2 ≤ 4 by decide, fun _ => ?_⟩
    show 128 ≤ (UInt8.ofNat (0x80 + c % 64)).toNat
    rw [UInt8.toNat_ofNat']
    omega
  · rw [if_neg h1] at e
    by_cases h2 : c < 0x10000
    · rw [if_pos h2] at e
      rw [e]
      exact ⟨show 2 ≤ 3 by decide, show 3 ≤ 4 by decide, fun h => absurd (show 3 = 2 from h) (by decide)⟩
    · rw [if_neg h2] at e
      rw [e]
      exact ⟨show 2 ≤ 4 by decide, show 4 ≤ 4 by decide, fun h => absurd (show 4 = 2 from h) (by decide)⟩
def crlfB (s : ByteArray) : Bool := s.data.toList.any fun b => b == 13 || b == 10
theorem crlf_contains (x : UInt8) : ([13, 10] : List UInt8).contains x = (x == 13 || x == 10) := by rw [Bool.eq_iff_iff]; simp
theorem indexAny_crlf (l : List UInt8) : decide (0 ≤ Lib.indexAny l [13, 10]) = l.any fun b => b == 13 || b == 10 := by
  induction l with
  | nil => rfl
  | cons x r ih =>
    rw [List.any_cons, ← ih, ← crlf_contains]
    have hge := Lib.indexAny_ge [13, 10] r
    have e0 : Lib.indexAny (x :: r) [13, 10] = if ([13, 10] : List UInt8).contains x then 0 else if Lib.indexAny r [13, 10] == -1 then -1 else Lib.indexAny r [13, 10] + 1 := rfl
    rw [e0]
    cases ([13, 10] : List UInt8).contains x
    · simp only [Bool.false_eq_true, if_false, Bool.false_or]
      split
      · rename_i h; rw [beq_iff_eq] at h; rw [h]
      · rename_i h
        have h' : Lib.indexAny r [13, 10] ≠ -1 := fun e => h (by rw [e]; rfl)
        rw [decide_eq_true (by omega : (0 : Int) ≤ Lib.indexAny r [13, 10] + 1), decide_eq_true (by omega : (0 : Int) ≤ Lib.indexAny r [13, 10])]
    · rfl
/-- fieldline.Parse, as it goes -/
def parseF (s : ByteArray) : Fld × Int :=
  if crlfB s then ((.empty, .empty), 24)
  else if 0 < tw blkI s 0 then ((.empty, .empty), 23)
  else
    let n := tw tokI s 0
    let g := n + tw blkI s n
    if n = 0 ∨ ¬ (s.data.toList[g]? = some 58) then ((.empty, .empty), 21)
    else if g ≠ n then ((.empty, .empty), 22)
    else if allI valI (s.extract (g + 1) s.size) = false then ((.empty, .empty), 25)
    else ((s.extract 0 n, trimB (s.extract (g + 1) s.size)), 0)
def checkF (f : Fld) : Int := if tokB f.1 = false then 21 else if allI valI f.2 = false ∨ trimB f.2 ≠ f.2 then 25 else 0
def textF (f : Fld) : ByteArray × Int := if checkF f ≠ 0 then (.empty, checkF f) else if f.2.size = 0 then (f.1 ++ ⟨#[58]⟩, 0) else (f.1 ++ ⟨#[58, 32]⟩ ++ f.2, 0)
def rt (p : UInt8 → Bool) (l : List UInt8) : List UInt8 := (l.reverse.dropWhile p).reverse
theorem rt_cons (p : UInt8 → Bool) (x : UInt8) (r : List UInt8) : rt p (x :: r) = if rt p r = [] then (if p x then [] else [x]) else x :: rt p r := by
  unfold rt
  rw [List.reverse_cons, List.dropWhile_append]
  cases h : r.reverse.dropWhile p with
  | nil => cases hx : p x <;> simp [hx]
  | cons y t => simp
theorem rt_dw (p : UInt8 → Bool) (l : List UInt8) : rt p (l.dropWhile p) = (rt p l).dropWhile p := by
  induction l with
  | nil => rfl
  | cons x r ih =>
    rw [rt_cons]
    cases hx : p x
    · rw [List.dropWhile_cons_of_neg (by simp [hx]), rt_cons, hx]
      by_cases h : rt p r = [] <;> simp [h, hx]
    · rw [List.dropWhile_cons_of_pos hx, ih]
      by_cases h : rt p r = [] <;> simp [h, hx]
theorem dw_head {p : UInt8 → Bool} {l : List UInt8} (h : ∀ (hl : 0 < l.length), p l[0] = false) : l.dropWhile p = l := by
  cases l with
  | nil => rfl
  | cons x r => rw [List.dropWhile_cons_of_neg (by have := h (by simp); simpa using this)]
theorem rt_last {p : UInt8 → Bool} {l : List UInt8} (h : ∀ (hl : 0 < l.length), p (l[l.length - 1]'(by omega)) = false) : rt p l = l := by
  unfold rt
  rw [dw_head, List.reverse_reverse]
  intro hl
  rw [List.length_reverse] at hl
  rw [List.getElem_reverse]
  simpa using h hl
def blkP (x : UInt8) : Bool := blkI (x.toNat : Int)
theorem blkP_contains (x : UInt8) : ([32, 9] : List UInt8).contains x = blkP x := by
  have : ∀ n : Nat, n < 256 → ([32, 9] : List UInt8).contains (UInt8.ofNat n) = blkP (UInt8.ofNat n) := by decide +kernel
  have h := this x.toNat x.toNat_lt
  rwa [UInt8.ofNat_toNat] at h
theorem trimB_eq (s : ByteArray) : trimB s = ⟨(rt blkP (s.data.toList.dropWhile blkP)).toArray⟩ := by
  have e : (fun x => ([32, 9] : List UInt8).contains x) = blkP := funext blkP_contains
  unfold trimB Lib.trimS Lib.trimLeftS Lib.trimRightS
  rw [show (fun x => List.contains ([32, 9] : List UInt8) x) = blkP from e, rt_dw]
  rfl
theorem extB (s : ByteArray) (a b : Nat) : (s.extract a b).data.toList = (s.data.toList.take b).drop a := by
  rw [ByteArray.data_extract, Array.toList_extract, List.extract_eq_take_drop, List.drop_take]
theorem headB (u : ByteArray) (h : 0 < u.size) : u.data.toList = u[0] :: u.data.toList.drop 1 := by
  have hl := blen u
  cases hu : u.data.toList with
  | nil => rw [hu] at hl; simp at hl; omega
  | cons x r =>
    have e : u.data.toList[0]'(by omega) = u[0] := bget u 0 h
    simp only [hu, List.getElem_cons_zero] at e
    rw [← e]; rfl
theorem dropB1 (u : ByteArray) : (u.extract 1 u.size).data.toList = u.data.toList.drop 1 := by
  rw [extB, ← blen u, List.take_length]
theorem lastB1 (u : ByteArray) : (u.extract 0 (u.size - 1)).data.toList = u.data.toList.take (u.size - 1) := by
  rw [extB, List.drop_zero]
theorem rt_drop {p : UInt8 → Bool} {l : List UInt8} (hl : 0 < l.length) (h : p (l[l.length - 1]'(by omega)) = true) : rt p (l.take (l.length - 1)) = rt p l := by
  have e : l = l.take (l.length - 1) ++ [l[l.length - 1]'(by omega)] := by
    rw [← List.take_succ_eq_append_getElem (by omega), show l.length - 1 + 1 = l.length from by omega, List.take_length]
  conv => rhs; rw [e]
  unfold rt
  rw [List.reverse_append, List.reverse_cons, List.reverse_nil, List.nil_append, List.singleton_append, List.dropWhile_cons_of_pos h]
theorem mkB {s : ByteArray} {l : List UInt8} (h : s.data.toList = l) : s = ⟨l.toArray⟩ := by
  subst h
  exact ByteArray.ext (by simp)
def colI (n : Int) : Bool := n != 58
def parseR (s : ByteArray) : Fld × Int :=
  if crlfB s then ((.empty, .empty), 24)
  else if (s.data.toList.head?.any blkP) = true then ((.empty, .empty), 23)
  else
    let n := tw colI s 0
    let nm := trimB (s.extract 0 n)
    if n = s.size ∨ tokB nm = false then ((.empty, .empty), 21)
    else if nm.size < n then ((.empty, .empty), 22)
    else if allI valI (s.extract (n + 1) s.size) = false then ((.empty, .empty), 25)
    else ((nm, trimB (s.extract (n + 1) s.size)), 0)
theorem crlf_yes {s : ByteArray} {k : Nat} (hk : k < s.size) (h : ((s[k].toNat : Int) == 13 || (s[k].toNat : Int) == 10) = true) : crlfB s = true := by
  unfold crlfB
  rw [List.any_eq_true]
  refine ⟨s[k], List.mem_iff_getElem.2 ⟨k, by rw [blen]; exact hk, rfl⟩, ?_⟩
  simp only [Bool.or_eq_true, beq_iff_eq] at h ⊢
  exact h.imp (fun h => UInt8.toNat_inj.1 (by show _ = 13; omega)) (fun h => UInt8.toNat_inj.1 (by show _ = 10; omega))
theorem crlf_no {s : ByteArray} (h : ∀ k (hk : k < s.size), ((s[k].toNat : Int) == 13) = false ∧ ((s[k].toNat : Int) == 10) = false) : crlfB s = false := by
  unfold crlfB
  rw [List.any_eq_false]
  intro x hx
  obtain ⟨k, hk, rfl⟩ := List.getElem_of_mem hx
  obtain ⟨h1, h2⟩ := h k (by rw [← blen]; exact hk)
  rw [beq_eq_false_iff_ne] at h1 h2
  simp only [Bool.or_eq_true, beq_iff_eq, not_or]
  constructor
  · intro e; apply h1; show ((s.data.toList[k].toNat : Nat) : Int) = 13; rw [e]; rfl
  · intro e; apply h2; show ((s.data.toList[k].toNat : Nat) : Int) = 10; rw [e]; rfl
theorem headAny {s : ByteArray} (h : 0 < s.size) : s.data.toList.head?.any blkP = blkP s[0] := by
  rw [headB s h]; rfl
theorem trimB_size (s : ByteArray) : (trimB s).size ≤ s.size := by
  rw [trimB_eq, ← blen s]
  show (rt blkP (s.data.toList.dropWhile blkP)).toArray.size ≤ _
  rw [List.size_toArray]
  unfold rt
  rw [List.length_reverse]
  have h1 := (List.dropWhile_sublist blkP (l := (s.data.toList.dropWhile blkP).reverse)).length_le
  have h2 := (List.dropWhile_sublist blkP (l := s.data.toList)).length_le
  rw [List.length_reverse] at h1
  omega
theorem rt_take (p : UInt8 → Bool) (l : List UInt8) : ∃ m, m ≤ l.length ∧ rt p l = l.take m ∧ (∀ i (hi : i < l.length), m ≤ i → p l[i] = true) ∧ (m = 0 ∨ ∃ (h : m - 1 < l.length), p (l[m - 1]'h) = false) := by
  induction l with
  | nil => exact ⟨0, Nat.le_refl _, rfl, fun i hi => absurd hi (by simp), .inl rfl⟩
  | cons x r ih =>
    obtain ⟨m, h1, h2, h3, h4⟩ := ih
    rw [rt_cons]
    by_cases h : rt p r = []
    · rw [if_pos h]
      have hm : m = 0 := by
        rw [h] at h2
        have h5 := congrArg List.length h2
        rw [List.length_take, List.length_nil] at h5
        omega
      subst hm
      cases hx : p x
      · refine ⟨1, by simp, by simp, fun i hi h1i => ?_, .inr ⟨by simp, hx⟩⟩
        rcases i with _ | i
        · omega
        · exact h3 i (by simpa using hi) (by omega)
      · refine ⟨0, by simp, by simp, fun i hi _ => ?_, .inl rfl⟩
        rcases i with _ | i
        · exact hx
        · exact h3 i (by simpa using hi) (by omega)
    · rw [if_neg h, h2]
      refine ⟨m + 1, by simpa using h1, by simp, fun i hi hmi => ?_, .inr ?_⟩
      · rcases i with _ | i
        · omega
        · exact h3 i (by simpa using hi) (by omega)
      · rcases h4 with h4 | ⟨h5, h6⟩
        · subst h4; rw [h2] at h; simp at h
        · obtain ⟨k, rfl⟩ : ∃ k, m = k + 1 := by
            rcases m with _ | k
            · rw [h2] at h; simp at h
            · exact ⟨k, rfl⟩
          exact ⟨by simpa using h5, by simpa using h6⟩
theorem trim_take (s : ByteArray) (c : Nat) (hc : c ≤ s.size) (hh : s.data.toList.head?.any blkP = false) :
    ∃ m, m ≤ c ∧ trimB (s.extract 0 c) = s.extract 0 m ∧ (∀ i (hi : i < s.size), m ≤ i → i < c → blkI (s[i].toNat : Int) = true) ∧ (m = 0 ∨ ∃ (h : m - 1 < s.size), blkI ((s[m - 1]'h).toNat : Int) = false) := by
  have hl := blen s
  have e : (s.extract 0 c).data.toList = s.data.toList.take c := by rw [extB, List.drop_zero]
  have hd : (s.data.toList.take c).dropWhile blkP = s.data.toList.take c := by
    apply dw_head
    intro h
    have h0 : 0 < s.size := by rw [List.length_take] at h; omega
    rw [headAny h0] at hh
    rw [List.getElem_take]
    exact hh
  obtain ⟨m, h1, h2, h3, h4⟩ := rt_take blkP (s.data.toList.take c)
  rw [List.length_take, hl] at h1
  refine ⟨m, by omega, ?_, fun i hi hmi hic => ?_, ?_⟩
  · rw [trimB_eq, e, hd, h2, List.take_take, Nat.min_eq_left (by omega)]
    exact (mkB (by rw [extB, List.drop_zero])).symm
  · have := h3 i (by rw [List.length_take]; omega) hmi
    rw [List.getElem_take] at this
    exact this
  · rcases h4 with h4 | ⟨h5, h6⟩
    · exact .inl h4
    · rw [List.length_take] at h5
      rw [List.getElem_take] at h6
      exact .inr ⟨by omega, h6⟩
theorem tok_blk : ∀ n : Nat, n < 256 → tokI (n : Int) = true → blkI (n : Int) = false := by decide +kernel
theorem tok_col : ∀ n : Nat, n < 256 → tokI (n : Int) = true → colI (n : Int) = true := by decide +kernel
theorem blk_col : ∀ n : Nat, n < 256 → blkI (n : Int) = true → colI (n : Int) = true := by decide +kernel
theorem all_tw {f : UInt8 → Bool} : ∀ (l : List UInt8), ∀ x ∈ l.takeWhile f, f x = true := by
  intro l
  induction l with
  | nil => intro x h; cases h
  | cons y r ih =>
    intro x h
    cases hy : f y
    · rw [List.takeWhile_cons_of_neg (by simp [hy])] at h; cases h
    · rw [List.takeWhile_cons_of_pos hy] at h
      cases h with
      | head => exact hy
      | tail _ h => exact ih x h
theorem tw_all {q : Int → Bool} {s : ByteArray} {k : Nat} : ∀ i (hi : i < s.size), k ≤ i → i < k + tw q s k → q (s[i].toNat : Int) = true := by
  intro i hi h1 h2
  have hp := List.takeWhile_prefix (fun b : UInt8 => q (b.toNat : Int)) (l := s.data.toList.drop k)
  unfold tw at h2
  have hlt : i - k < (List.takeWhile (fun b : UInt8 => q (b.toNat : Int)) (s.data.toList.drop k)).length := by omega
  have hm := List.getElem_mem hlt
  have hq := all_tw _ _ hm
  have e := hp.getElem hlt
  rw [e, List.getElem_drop] at hq
  have e2 : k + (i - k) = i := by omega
  simp only [e2] at hq
  exact hq
theorem tw_stop {q : Int → Bool} {s : ByteArray} {k : Nat} (hj : k + tw q s k < s.size) : q ((s[k + tw q s k]'hj).toNat : Int) = false := by
  have key : ∀ (f : UInt8 → Bool) (l : List UInt8) (h : (l.takeWhile f).length < l.length), f (l[(l.takeWhile f).length]'h) = false := by
    intro f l
    induction l with
    | nil => intro h; simp at h
    | cons x r ih =>
      intro h
      cases hx : f x
      · simp [hx]
      · have e : (List.takeWhile f (x :: r)) = x :: r.takeWhile f := List.takeWhile_cons_of_pos hx
        simp only [e, List.length_cons, List.getElem_cons_succ]
        exact ih (by rw [e] at h; simpa using h)
  have hl := blen s
  have := key (fun b : UInt8 => q (b.toNat : Int)) (s.data.toList.drop k) (by rw [List.length_drop]; unfold tw at hj; omega)
  rw [List.getElem_drop] at this
  exact this
theorem parse_eq (s : ByteArray) : parseR s = parseF s := by
  unfold parseR parseF
  cases hcr : crlfB s
  · simp only [Bool.false_eq_true, if_false]
    cases hh : s.data.toList.head?.any blkP
    · have hb0 : tw blkI s 0 = 0 := by
        unfold tw
        rw [List.drop_zero]
        cases hs : s.data.toList with
        | nil => rfl
        | cons x r =>
          rw [hs] at hh
          have hx : blkI (x.toNat : Int) = false := by simpa [blkP] using hh
          rw [List.takeWhile_cons_of_neg (by simp [hx])]
          rfl
      rw [if_neg (by decide), if_neg (show ¬ 0 < tw blkI s 0 by omega)]
      have hl := blen s
      have hn := tw_le tokI s 0 (Nat.zero_le _)
      rw [Nat.zero_add] at hn
      have hg := tw_le blkI s (tw tokI s 0) hn
      have hnall := tw_all (q := tokI) (s := s) (k := 0)
      have hgall := tw_all (q := blkI) (s := s) (k := tw tokI s 0)
      have hns := @tw_stop tokI s 0
      have hgs := @tw_stop blkI s (tw tokI s 0)
      have hns : ∀ (hj : tw tokI s 0 < s.size), tokI ((s[tw tokI s 0]'hj).toNat : Int) = false := fun hj => by
        have := hns (by omega)
        simpa only [Nat.zero_add] using this
      simp only [Nat.zero_add] at hnall
      generalize tw tokI s 0 = n at *
      generalize hgd : n + tw blkI s n = g at *
      by_cases hA : n = 0 ∨ ¬ (s.data.toList[g]? = some 58)
      · rw [if_pos hA]
        have hcs := @tw_stop colI s 0
        have hcl := tw_le colI s 0 (Nat.zero_le _)
        have hcs : ∀ (hj : tw colI s 0 < s.size), colI ((s[tw colI s 0]'hj).toNat : Int) = false := fun hj => by
          have := hcs (by omega)
          simpa only [Nat.zero_add] using this
        rw [Nat.zero_add] at hcl
        generalize tw colI s 0 = c at *
        by_cases hB : c = s.size ∨ tokB (trimB (s.extract 0 c)) = false
        · rw [if_pos hB]
        · exfalso
          simp only [not_or] at hB
          obtain ⟨hB1, hB2⟩ := hB
          obtain ⟨m, h1, h2, h3, h4⟩ := trim_take s c hcl hh
          have htb : tokB (s.extract 0 m) = true := by rw [← h2]; simpa using hB2
          unfold tokB at htb
          rw [Bool.and_eq_true, decide_eq_true_eq, ext_size _ _ _ (by omega)] at htb
          obtain ⟨hm0, hta⟩ := htb
          have hmt : ∀ i (hi : i < s.size), i < m → tokI (s[i].toNat : Int) = true := fun i hi him => by
            unfold allI at hta
            rw [List.all_eq_true, extB, List.drop_zero] at hta
            exact hta s[i] (List.mem_iff_getElem.2 ⟨i, by rw [List.length_take]; omega, by rw [List.getElem_take]; rfl⟩)
          have hcol := hcs (by omega)
          have hc58 : s[c]'(by omega) = 58 := by
            have h := hcol
            unfold colI at h
            rw [bne_eq_false_iff_eq] at h
            exact UInt8.toNat_inj.1 (by show _ = 58; omega)
          have hnm : n = m := by
            rcases Nat.lt_trichotomy n m with h | h | h
            · have := hns (by omega)
              rw [hmt n (by omega) h] at this
              cases this
            · exact h
            · have htk := hnall m (by omega) (Nat.zero_le _) h
              by_cases hmc : m = c
              · subst hmc
                have := tok_col _ (s[m]'(by omega)).toNat_lt htk
                rw [hcol] at this
                cases this
              · have hb := h3 m (by omega) (Nat.le_refl _) (by omega)
                rw [tok_blk _ (s[m]'(by omega)).toNat_lt htk] at hb
                cases hb
          subst hnm
          have hgc : g = c := by
            rcases Nat.lt_trichotomy g c with h | h | h
            · have := hgs (by omega)
              rw [h3 g (by omega) (by omega) h] at this
              cases this
            · exact h
            · have := hgall c (by omega) h1 h
              have := blk_col _ (s[c]'(by omega)).toNat_lt this
              rw [hcol] at this
              cases this
          subst hgc
          rcases hA with hA | hA
          · omega
          · exact hA (by rw [Lib.data_getElem? s g (by omega), hc58])
      · rw [if_neg hA]
        simp only [not_or, Classical.not_not] at hA
        obtain ⟨hn0, h58⟩ := hA
        have hgs2 : g < s.size := by
          have := (List.getElem?_eq_some_iff.1 h58).1
          omega
        rw [Lib.data_getElem? s g hgs2] at h58
        have h58' := Option.some.inj h58
        have hcg : tw colI s 0 = g := by
          have := tw_at (q := colI) (s := s) (k := 0) (m := g) (fun i hi _ hig => ?_) (Nat.zero_le _) (by omega) (fun _ => by rw [h58']; rfl)
          · rw [Nat.zero_add] at this; exact this
          · by_cases hin : i < n
            · exact tok_col _ s[i].toNat_lt (hnall i hi (Nat.zero_le _) hin)
            · exact blk_col _ s[i].toNat_lt (hgall i hi (by omega) hig)
        rw [hcg]
        obtain ⟨m, h1, h2, h3, h4⟩ := trim_take s g (by omega) hh
        have hmn : m = n := by
          rcases Nat.lt_trichotomy m n with h | h | h
          · have hb := h3 (n - 1) (by omega) (by omega) (by omega)
            have ht := hnall (n - 1) (by omega) (Nat.zero_le _) (by omega)
            rw [tok_blk _ (s[n - 1]'(by omega)).toNat_lt ht] at hb
            cases hb
          · exact h
          · rcases h4 with h4 | ⟨h5, h6⟩
            · omega
            · rw [hgall (m - 1) h5 (by omega) (by omega)] at h6
              cases h6
        subst hmn
        have htb : tokB (s.extract 0 m) = true := by
          unfold tokB
          rw [Bool.and_eq_true, decide_eq_true_eq, ext_size _ _ _ (by omega)]
          refine ⟨by omega, ?_⟩
          unfold allI
          rw [List.all_eq_true, extB, List.drop_zero]
          intro x hx
          obtain ⟨i, hi, rfl⟩ := List.getElem_of_mem hx
          rw [List.length_take] at hi
          rw [List.getElem_take]
          exact hnall i (by omega) (Nat.zero_le _) (by omega)
        rw [h2, htb, ext_size _ _ _ (by omega), if_neg (by simp; omega)]
        by_cases hgm : g = m
        · subst hgm
          rw [if_neg (show ¬ g - 0 < g by omega), if_neg (show ¬ (g ≠ g) by simp)]
        · rw [if_pos (show m - 0 < g by omega), if_pos hgm]
    · rw [if_pos rfl, if_pos (show 0 < tw blkI s 0 from ?_)]
      unfold tw
      rw [List.drop_zero]
      cases hs : s.data.toList with
      | nil => rw [hs] at hh; cases hh
      | cons x r =>
        rw [hs] at hh
        have hx : blkI (x.toNat : Int) = true := by simpa [blkP] using hh
        rw [List.takeWhile_cons_of_pos (p := fun b : UInt8 => blkI (b.toNat : Int)) hx]
        simp
  · rw [if_pos rfl, if_pos rfl]
def fewB (s : ByteArray) : ByteArray := s.extract 0 (min s.size 300)
theorem fewB_size (s : ByteArray) : (fewB s).size ≤ 300 := by unfold fewB; rw [ext_size _ _ _ (Nat.min_le_left _ _)]; omega
theorem toInj {a b : ByteArray} (h : a.data.toList = b.data.toList) : a = b := ByteArray.ext (Array.toList_inj.1 h)
theorem tw_list {q : Int → Bool} {s : ByteArray} {k : Nat} {p r : List UInt8} (h : s.data.toList.drop k = p ++ r) (h1 : ∀ b ∈ p, q (b.toNat : Int) = true)
    (h2 : ∀ b, r.head? = some b → q (b.toNat : Int) = false) : tw q s k = p.length := by
  unfold tw
  rw [h]
  clear h
  induction p with
  | nil =>
    cases r with
    | nil => rfl
    | cons x r => rw [List.nil_append, List.takeWhile_cons_of_neg (by simp [h2 x rfl])]
  | cons x p ih =>
    rw [List.cons_append, List.takeWhile_cons_of_pos (p := fun b : UInt8 => q (b.toNat : Int)) (h1 x (.head _)), List.length_cons, ih (fun b hb => h1 b (.tail _ hb)), List.length_cons]
theorem allI_mem {q : Int → Bool} {s : ByteArray} (h : allI q s = true) : ∀ b ∈ s.data.toList, q (b.toNat : Int) = true := List.all_eq_true.1 h
theorem allI_mk {q : Int → Bool} {s : ByteArray} (h : ∀ b ∈ s.data.toList, q (b.toNat : Int) = true) : allI q s = true := List.all_eq_true.2 h
theorem u8_of {q : UInt8 → Bool} (h : ∀ n : Nat, n < 256 → q (UInt8.ofNat n) = true) (b : UInt8) : q b = true := by
  have := h b.toNat b.toNat_lt
  rwa [UInt8.ofNat_toNat] at this
theorem tok_facts (b : UInt8) (h : tokI (b.toNat : Int) = true) : (b == 13 || b == 10) = false ∧ blkI (b.toNat : Int) = false ∧ (b == 58) = false := by
  have := u8_of (q := fun b => !tokI (b.toNat : Int) || (!(b == 13 || b == 10) && !blkI (b.toNat : Int) && !(b == 58))) (by decide +kernel) b
  simp only [h, Bool.not_true, Bool.false_or, Bool.and_eq_true, Bool.not_eq_true'] at this
  exact ⟨this.1.1, this.1.2, this.2⟩
theorem val_facts (b : UInt8) (h : valI (b.toNat : Int) = true) : (b == 13 || b == 10) = false := by
  have := u8_of (q := fun b => !valI (b.toNat : Int) || !(b == 13 || b == 10)) (by decide +kernel) b
  simpa only [h, Bool.not_true, Bool.false_or, Bool.not_eq_true'] using this
theorem blk_facts (b : UInt8) (h : blkI (b.toNat : Int) = true) : (b == 13 || b == 10) = false ∧ tokI (b.toNat : Int) = false ∧ valI (b.toNat : Int) = true := by
  have := u8_of (q := fun b => !blkI (b.toNat : Int) || (!(b == 13 || b == 10) && !tokI (b.toNat : Int) && valI (b.toNat : Int))) (by decide +kernel) b
  simp only [h, Bool.not_true, Bool.false_or, Bool.and_eq_true, Bool.not_eq_true'] at this
  exact ⟨this.1.1, this.1.2, this.2⟩
theorem tokB_facts {n : ByteArray} (h : tokB n = true) : 0 < n.size ∧ ∀ b ∈ n.data.toList, tokI (b.toNat : Int) = true := by
  unfold tokB at h
  rw [Bool.and_eq_true, decide_eq_true_eq] at h
  exact ⟨h.1, allI_mem h.2⟩
theorem crlf_of {s : ByteArray} (h : ∀ b ∈ s.data.toList, (b == 13 || b == 10) = false) : crlfB s = false := by
  unfold crlfB
  rw [List.any_eq_false]
  intro b hb
  rw [h b hb]
  decide
theorem line_l {n x v s : ByteArray} (hs : s = n ++ x ++ ⟨#[58]⟩ ++ v) : s.data.toList = n.data.toList ++ (x.data.toList ++ (58 :: v.data.toList)) := by
  rw [hs, app_l, app_l, app_l, List.append_assoc, List.append_assoc]
  rfl
theorem line_crlf {n x v s : ByteArray} (hs : s = n ++ x ++ ⟨#[58]⟩ ++ v) (hn : tokB n = true) (hx : allI blkI x = true) (hv : allI valI v = true) : crlfB s = false := by
  apply crlf_of
  intro b hb
  rw [line_l hs, List.mem_append, List.mem_append, List.mem_cons] at hb
  rcases hb with hb | hb | rfl | hb
  · exact (tok_facts b ((tokB_facts hn).2 b hb)).1
  · exact (blk_facts b (allI_mem hx b hb)).1
  · rfl
  · exact val_facts b (allI_mem hv b hb)
theorem parse_line {n x v s : ByteArray} (hs : s = n ++ x ++ ⟨#[58]⟩ ++ v) (hn : tokB n = true) (hx : allI blkI x = true) (hv : allI valI v = true) :
    parseF s = if x.size ≠ 0 then ((.empty, .empty), 22) else ((n, trimB v), 0) := by
  have hl := line_l hs
  have hcr := line_crlf hs hn hx hv
  obtain ⟨hn0, hnt⟩ := tokB_facts hn
  have ln := blen n
  have lx := blen x
  have lv := blen v
  have ls := blen s
  have hsz : s.size = n.size + (x.size + (v.size + 1)) := by rw [← ls, hl, List.length_append, List.length_append, List.length_cons, ln, lx, lv]
  have h0 : tw blkI s 0 = 0 := by
    refine tw_list (p := []) (r := s.data.toList) (by simp) (by simp) (fun b hb => ?_)
    rw [hl] at hb
    cases hnl : n.data.toList with
    | nil => rw [hnl] at ln; simp at ln; omega
    | cons y r =>
      rw [hnl] at hb
      obtain rfl : y = b := by simpa using hb
      exact (tok_facts y (hnt y (by rw [hnl]; exact .head _))).2.1
  have h1 : tw tokI s 0 = n.size := by
    rw [← ln]
    refine tw_list (r := x.data.toList ++ (58 :: v.data.toList)) (by rw [List.drop_zero, hl]) hnt (fun b hb => ?_)
    cases hxl : x.data.toList with
    | nil =>
      rw [hxl] at hb
      obtain rfl : 58 = b := by simpa using hb
      decide +kernel
    | cons y r =>
      rw [hxl] at hb
      obtain rfl : y = b := by simpa using hb
      exact (blk_facts y (allI_mem hx y (by rw [hxl]; exact .head _))).2.1
  have h2 : tw blkI s n.size = x.size := by
    rw [← lx]
    refine tw_list (r := 58 :: v.data.toList) (by rw [hl, List.drop_left' ln]) (allI_mem hx) (fun b hb => ?_)
    obtain rfl : 58 = b := by simpa using hb
    decide +kernel
  have h3 : s.data.toList[n.size + x.size]? = some 58 := by
    rw [hl, List.getElem?_append_right (by omega), List.getElem?_append_right (by omega)]
    rw [show n.size + x.size - n.data.toList.length - x.data.toList.length = 0 from by omega]
    rfl
  have h4 : s.extract 0 n.size = n := by
    apply toInj
    rw [extB, List.drop_zero, hl, List.take_left' ln]
  have h5 : s.extract (n.size + x.size + 1) s.size = v := by
    apply toInj
    rw [extB, ← ls, List.take_length, hl, show n.size + x.size + 1 = n.size + (x.size + 1) from by omega, ← List.drop_drop, List.drop_left' ln, ← List.drop_drop, List.drop_left' lx]
    rfl
  unfold parseF
  rw [hcr, h0, h1]
  simp only [h2, h3, h4, h5, hv]
  rw [if_neg (by decide), if_neg (by omega), if_neg (show ¬ (n.size = 0 ∨ ¬ True) from fun h => h.elim (fun h => by omega) (fun h => h trivial))]
  by_cases hx0 : x.size = 0
  · rw [if_neg (by omega), if_neg (by decide), if_neg (by omega)]
  · rw [if_pos (by omega), if_pos hx0]
theorem parse_fold {s : ByteArray} (hcr : crlfB s = false) (h : s.data.toList.head?.any blkP = true) : parseF s = ((.empty, .empty), 23) := by
  unfold parseF
  rw [hcr, if_neg (by decide), if_pos (show 0 < tw blkI s 0 from ?_)]
  unfold tw
  rw [List.drop_zero]
  cases hs : s.data.toList with
  | nil => rw [hs] at h; cases h
  | cons x r =>
    rw [hs] at h
    have hx : blkI (x.toNat : Int) = true := by simpa [blkP] using h
    rw [List.takeWhile_cons_of_pos (p := fun b : UInt8 => blkI (b.toNat : Int)) hx]
    simp
theorem dw_dw (p : UInt8 → Bool) (l : List UInt8) : (l.dropWhile p).dropWhile p = l.dropWhile p := by
  induction l with
  | nil => rfl
  | cons x r ih =>
    cases hx : p x
    · rw [List.dropWhile_cons_of_neg (by simp [hx]), List.dropWhile_cons_of_neg (by simp [hx])]
    · rw [List.dropWhile_cons_of_pos hx, ih]
theorem rt_rt (p : UInt8 → Bool) (l : List UInt8) : rt p (rt p l) = rt p l := by
  unfold rt
  rw [List.reverse_reverse, dw_dw]
theorem dw_app {p : UInt8 → Bool} (x m : List UInt8) (hx : ∀ b ∈ x, p b = true) : (x ++ m).dropWhile p = m.dropWhile p := by
  induction x with
  | nil => rfl
  | cons y r ih => rw [List.cons_append, List.dropWhile_cons_of_pos (hx y (.head _)), ih (fun b hb => hx b (.tail _ hb))]
theorem rt_app {p : UInt8 → Bool} (m y : List UInt8) (hy : ∀ b ∈ y, p b = true) : rt p (m ++ y) = rt p m := by
  unfold rt
  rw [List.reverse_append, dw_app _ _ (fun b hb => hy b (List.mem_reverse.1 hb))]
theorem trim_l (s : ByteArray) : (trimB s).data.toList = rt blkP (s.data.toList.dropWhile blkP) := by
  rw [trimB_eq]
theorem trim_trim (s : ByteArray) : trimB (trimB s) = trimB s := by
  apply toInj
  rw [trim_l, trim_l, rt_dw, rt_rt, rt_dw, dw_dw]
theorem trim_about (x v y : ByteArray) (hx : allI blkI x = true) (hy : allI blkI y = true) : trimB (x ++ v ++ y) = trimB v := by
  apply toInj
  rw [trim_l, trim_l, app_l, app_l, List.append_assoc, dw_app (p := blkP) _ _ (allI_mem hx), rt_dw, rt_app (p := blkP) _ _ (allI_mem hy), rt_dw]
theorem trim_mem {s : ByteArray} : ∀ b ∈ (trimB s).data.toList, b ∈ s.data.toList := by
  intro b hb
  rw [trim_l] at hb
  unfold rt at hb
  rw [List.mem_reverse] at hb
  have h1 := (List.dropWhile_sublist blkP).mem hb
  rw [List.mem_reverse] at h1
  exact (List.dropWhile_sublist blkP).mem h1
theorem check_ok {f : Fld} (h : checkF f = 0) : tokB f.1 = true ∧ allI valI f.2 = true ∧ trimB f.2 = f.2 := by
  unfold checkF at h
  split at h
  · cases h
  · split at h
    · cases h
    · rename_i h1 h2
      simp only [not_or, ne_eq, Classical.not_not] at h2
      exact ⟨by simpa using h1, by simpa using h2.1, h2.2⟩
theorem ok_check {f : Fld} (h1 : tokB f.1 = true) (h2 : allI valI f.2 = true) (h3 : trimB f.2 = f.2) : checkF f = 0 := by
  unfold checkF
  rw [if_neg (by rw [h1]; decide), if_neg (by rw [h2, h3]; simp)]
theorem parse_ok {s : ByteArray} (h : (parseF s).2 = 0) : checkF (parseF s).1 = 0 ∧ (textF (parseF s).1).1.size ≤ s.size + 1 := by
  unfold parseF at h ⊢
  dsimp only at h ⊢
  split at h
  · cases h
  · rename_i hcr
    split at h
    · cases h
    · rename_i hb
      rw [if_neg hcr, if_neg hb]
      have hn := tw_le tokI s 0 (Nat.zero_le _)
      have hall := tw_all (q := tokI) (s := s) (k := 0)
      rw [Nat.zero_add] at hn hall
      generalize tw tokI s 0 = n at *
      generalize n + tw blkI s n = g at *
      split at h
      · cases h
      · rename_i h1
        split at h
        · cases h
        · rename_i h2
          split at h
          · cases h
          · rename_i h3
            rw [if_neg h1, if_neg h2, if_neg h3]
            simp only [not_or, Classical.not_not] at h1 h2 h3
            obtain ⟨h1, h58⟩ := h1
            subst h2
            have hgs : g < s.size := by
              have := (List.getElem?_eq_some_iff.1 h58).1
              rw [blen] at this
              exact this
            have hz := ext_size s 0 g (by omega)
            have hc : checkF (s.extract 0 g, trimB (s.extract (g + 1) s.size)) = 0 := by
              refine ok_check ?_ (allI_mk fun b hb => ?_) (trim_trim _)
              · unfold tokB
                rw [Bool.and_eq_true, decide_eq_true_eq]
                refine ⟨by show 0 < (s.extract 0 g).size; omega, allI_mk fun b hb => ?_⟩
                rw [extB, List.drop_zero] at hb
                obtain ⟨i, hi, rfl⟩ := List.getElem_of_mem hb
                rw [List.length_take, blen] at hi
                rw [List.getElem_take]
                exact hall i (by omega) (Nat.zero_le _) (by omega)
              · exact allI_mem (by simpa using h3) b (trim_mem b hb)
            refine ⟨hc, ?_⟩
            have ht := trimB_size (s.extract (g + 1) s.size)
            rw [ext_size _ _ _ (Nat.le_refl _)] at ht
            unfold textF
            rw [if_neg (by rw [hc]; decide)]
            split
            · show (s.extract 0 g ++ _).size ≤ _
              rw [ByteArray.size_append, hz]
              show g - 0 + 1 ≤ _
              omega
            · show (s.extract 0 g ++ _ ++ trimB _).size ≤ _
              rw [ByteArray.size_append, ByteArray.size_append, hz]
              show g - 0 + 2 + _ ≤ _
              omega
theorem text_ok {f : Fld} (h : checkF f = 0) : textF f = (if f.2.size = 0 then f.1 ++ ⟨#[58]⟩ else f.1 ++ ⟨#[58, 32]⟩ ++ f.2, 0) := by
  unfold textF
  rw [if_neg (by rw [h]; decide)]
  split <;> rfl
theorem parse_text {f : Fld} (h : checkF f = 0) : parseF (textF f).1 = (f, 0) := by
  obtain ⟨h1, h2, h3⟩ := check_ok h
  rw [text_ok h]
  by_cases h0 : f.2.size = 0
  · rw [if_pos h0]
    have he : f.2 = .empty := by
      apply toInj
      have := blen f.2
      rw [List.eq_nil_of_length_eq_zero (this.trans h0)]
      rfl
    rw [parse_line (n := f.1) (x := .empty) (v := .empty) (by apply toInj; simp) h1 (by rfl) (by rfl), if_neg (by decide)]
    rw [show trimB .empty = .empty from by decide +kernel, ← he]
  · rw [if_neg h0]
    rw [parse_line (n := f.1) (x := .empty) (v := ⟨#[32]⟩ ++ f.2) (by apply toInj; simp) h1 (by rfl) (allI_mk fun b hb => ?_), if_neg (by decide)]
    · have := trim_about ⟨#[32]⟩ f.2 .empty (by decide +kernel) (by rfl)
      rw [ByteArray.append_empty] at this
      rw [this, h3]
    · rw [app_l, List.mem_append] at hb
      rcases hb with hb | hb
      · obtain rfl : b = 32 := by simpa using hb
        decide +kernel
      · exact allI_mem h2 b hb
def l12a : ByteArray := "Host : a".toUTF8
def l12b : ByteArray := "Host:a".toUTF8
theorem parse_cases (s : ByteArray) : (∃ e : Int, parseF s = ((.empty, .empty), e) ∧ e ≠ 0 ∧ 0 ≤ e ∧ e ≤ 25) ∨
    ∃ a b, parseF s = ((a, b), 0) ∧ a.size ≤ s.size ∧ b.size ≤ s.size := by
  have h5 := trimB_size
  unfold parseF
  dsimp only
  split
  · exact .inl ⟨_, rfl, by decide, by decide, by decide⟩
  · split
    · exact .inl ⟨_, rfl, by decide, by decide, by decide⟩
    · split
      · exact .inl ⟨_, rfl, by decide, by decide, by decide⟩
      · split
        · exact .inl ⟨_, rfl, by decide, by decide, by decide⟩
        · split
          · exact .inl ⟨_, rfl, by decide, by decide, by decide⟩
          · have hn := tw_le tokI s 0 (Nat.zero_le _)
            refine .inr ⟨_, _, rfl, ?_, ?_⟩
            · rw [ext_size _ _ _ (by omega)]; omega
            · refine Nat.le_trans (h5 _) ?_
              rw [ext_size _ _ _ (Nat.le_refl _)]; omega
theorem size0 {x : ByteArray} (h : x.size = 0) : x = .empty := by
  apply toInj
  have := blen x
  rw [List.eq_nil_of_length_eq_zero (this.trans h)]
  rfl
theorem blanks_one {n v x y : ByteArray} (h : checkF (n, v) = 0) (hx : allI blkI x = true) (hy : allI blkI y = true) : parseF (n ++ ⟨#[58]⟩ ++ x ++ v ++ y) = ((n, v), 0) := by
  obtain ⟨h1, h2, h3⟩ := check_ok h
  rw [parse_line (n := n) (x := .empty) (v := x ++ v ++ y) (by apply toInj; simp) h1 (by rfl) (allI_mk fun b hb => ?_), if_neg (by decide), trim_about _ _ _ hx hy, h3]
  rw [app_l, app_l, List.mem_append, List.mem_append] at hb
  rcases hb with (hb | hb) | hb
  · exact (blk_facts b (allI_mem hx b hb)).2.2
  · exact allI_mem h2 b hb
  · exact (blk_facts b (allI_mem hy b hb)).2.2
theorem blanks_two {n v x : ByteArray} (h : checkF (n, v) = 0) (hx : allI blkI x = true) : parseF (n ++ x ++ ⟨#[58]⟩ ++ v) = if x.size ≠ 0 then ((.empty, .empty), 22) else ((n, v), 0) := by
  obtain ⟨h1, h2, h3⟩ := check_ok h
  rw [parse_line rfl h1 hx h2, h3]
theorem blanks_three {n v x : ByteArray} (h : checkF (n, v) = 0) (hx : allI blkI x = true) : parseF (x ++ n ++ ⟨#[58]⟩ ++ v) = if x.size ≠ 0 then ((.empty, .empty), 23) else ((n, v), 0) := by
  obtain ⟨h1, h2, h3⟩ := check_ok h
  by_cases h0 : x.size = 0
  · rw [if_neg (by omega)]
    obtain rfl := size0 h0
    have := blanks_two (x := .empty) h (by rfl)
    rw [if_neg (by decide)] at this
    rw [← this, ByteArray.append_empty, ByteArray.empty_append]
  · rw [if_pos h0]
    apply parse_fold
    · apply crlf_of
      intro b hb
      rw [app_l, app_l, app_l, List.mem_append, List.mem_append, List.mem_append] at hb
      rcases hb with ((hb | hb) | hb) | hb
      · exact (blk_facts b (allI_mem hx b hb)).1
      · exact (tok_facts b ((tokB_facts h1).2 b hb)).1
      · obtain rfl : b = 58 := by simpa using hb
        decide
      · exact val_facts b (allI_mem h2 b hb)
    · rw [app_l, app_l, app_l]
      have := blen x
      cases hxl : x.data.toList with
      | nil => rw [hxl] at this; simp at this; omega
      | cons c r =>
        have := allI_mem hx c (by rw [hxl]; exact .head _)
        simpa [blkP] using this
theorem allI_app {q : Int → Bool} {a b : ByteArray} (ha : allI q a = true) (hb : allI q b = true) : allI q (a ++ b) = true := by
  apply allI_mk
  intro c hc
  rw [app_l, List.mem_append] at hc
  exact hc.elim (allI_mem ha c) (allI_mem hb c)

end Go.Proofs.YtgaidgblihnldaaGreatDoor
