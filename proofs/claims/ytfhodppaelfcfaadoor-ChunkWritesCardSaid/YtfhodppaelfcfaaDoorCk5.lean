/- Lines of chunks: texts of numbers, pieces, rows of attributes; the laws. No statement of its own. -/
import Derived.Test.YtfhodppaelfcfaaDoorCk4
import Derived.Test.YtfhodppaelfcfaaDoorS9
set_option maxRecDepth 100000
namespace Go.Proofs.YtfhodppaelfcfaaDoor
open Go.RowKit
def crlf : ByteArray := ⟨#[13, 10]⟩
theorem toNat_cast {n : Int} (h : ¬ n < 0) : n = ((n.toNat : Nat) : Int) := (Int.toNat_of_nonneg (by omega)).symm
theorem r3text16_p (n : Int) (hn : n < 2 ^ 63) : APure Tryd.prog 19 [.i n, .i 16] (.s (textH n)) [] := by
  refine APure.of rfl (ACalls.of_vc T_ok mixed Tryd.func19 rfl Tryd.call19 ?_)
  refine cnd_split (fun hd => ?_) (fun hd => ?_)
  · have hd := of_decide_eq_true hd
    exact rets (by unfold textH; rw [if_pos hd])
  · have hd := of_decide_eq_false hd
    have hp := r3Digits_p 16 (by decide) (by decide) n.toNat (by omega)
    rw [← toNat_cast hd] at hp
    refine .p rfl hp ?_
    exact rets (by unfold textH; rw [if_neg hd])
theorem ctext_p (n : Int) (hn : n < 2 ^ 63) : APure Tryd.prog 18 [.i n] (.s (textH n)) [] := by
  refine APure.of rfl (ACalls.of_vc T_ok mixed Tryd.func18 rfl Tryd.call18 ?_)
  refine .p rfl (text16_p n hn) ?_
  rfl
def pieceW (data : ByteArray) : ByteArray := if data.size = 0 then ⟨#[]⟩ else textH data.size ++ crlf ++ data ++ crlf
theorem textH_size {n : Int} (h : n < 2 ^ 63) : (textH n).size ≤ 64 := by
  unfold textH
  split
  · exact Nat.zero_le _
  · exact digB_size (by omega) (by omega)
theorem crlf_size : crlf.size = 2 := rfl
theorem emp_b {data : ByteArray} {t : Bool} (ht : t = true ↔ data = ⟨#[]⟩) : t = decide (data.size = 0) := by
  rw [Bool.eq_iff_iff, ht, emp_iff, decide_eq_true_eq]
theorem joinC_emp (sep a d : ByteArray) : joinC sep [a, d, ⟨#[]⟩] = a ++ sep ++ d ++ sep := by
  rw [joinC_cons (by simp), joinC_cons (by simp), joinC_one, emp_app, ByteArray.append_empty, ← ByteArray.append_assoc]
theorem piece_p (data : ByteArray) (hd : data.size ≤ 1099511627776) : APure Tryd.prog 20 [.s data] (.s (pieceW data)) [] := by
  have hmx : maxLen = 9223372036854775807 := rfl
  have hs := textH_size (n := data.size) (by omega)
  have hj := joinC_emp crlf (textH data.size) data
  have hq := qjoin_p crlf [textH data.size, data, ⟨#[]⟩] (by simp) (by rw [hj, app_size, app_size, app_size, crlf_size]; omega)
  rw [hj] at hq
  refine APure.of rfl (ACalls.of_vc T_ok mixed Tryd.func20 rfl Tryd.call20 ?_)
  intro t ht
  have ht := emp_b ht
  subst ht
  refine cnd_split (fun h => ?_) (fun h => ?_)
  · exact rets (by unfold pieceW; rw [if_pos (of_decide_eq_true h)])
  · refine .p rfl (ctext_p _ (by omega)) ?_
    refine .p rfl hq ?_
    exact rets (by unfold pieceW; rw [if_neg (of_decide_eq_false h)])
theorem r18piece_p (data : ByteArray) (hd : data.size ≤ 1099511627776) : APure Tryd.prog 21 [.s data] (.s (pieceW data)) [] := by
  have hmx : maxLen = 9223372036854775807 := rfl
  have hs := textH_size (n := data.size) (by omega)
  refine APure.of rfl (ACalls.of_vc T_ok mixed Tryd.func21 rfl Tryd.call21 ?_)
  intro t ht
  have ht := emp_b ht
  subst ht
  refine cnd_split (fun h => ?_) (fun h => ?_)
  · exact rets (by unfold pieceW; rw [if_pos (of_decide_eq_true h)])
  · refine .p rfl (r3text16_p _ (by omega)) ?_
    refine ⟨by show (textH data.size).size + 2 ≤ _; omega, ?_⟩
    refine ⟨by rw [app_size]; show (textH data.size).size + 2 + _ ≤ _; omega, ?_⟩
    refine ⟨by rw [app_size, app_size]; show (textH data.size).size + 2 + _ + 2 ≤ _; omega, ?_⟩
    exact rets (by unfold pieceW; rw [if_neg (of_decide_eq_false h)]; rfl)
theorem same18_p (l m : List Atr) (h1 : l.length ≤ 1099511627776) (h2 : m.length ≤ 1099511627776) : APure Tryd.prog 17 [.sl .no 3 (atrL l), .sl .no 3 (atrL m)] (.b (decide (l = m))) [] := by
  have el := atrL_len l
  have em := atrL_len m
  refine APure.of rfl (ACalls.of_vc T_ok mixed Tryd.func17 rfl Tryd.call17 ?_)
  refine cnd_split (fun hd => ?_) (fun hd => ?_)
  · have hd : ¬ ((atrL l).length : Int) = (atrL m).length := by simpa using hd
    exact retb (decide_eq_false (fun e => by subst e; omega)).symm
  · have hd : ((atrL l).length : Int) = (atrL m).length := by simpa using hd
    refine vc_loop [5] (fun g vals st' => ∃ k : Nat, k + g = l.length ∧ vals = [.i k] ∧ ∀ j, j < k → l[j]? = m[j]?) l.length rfl ⟨0, by omega, rfl, fun j h => absurd h (by omega)⟩ ?_
    rintro g vals st' ⟨k, hk, rfl, ha⟩
    refine cnd_split (fun hd2 => ?_) (fun hd2 => ?_)
    · have hd2 := of_decide_eq_true hd2
      have k1 : k < l.length := by omega
      have k2 : k < m.length := by omega
      refine .x (by kernel_rfl) ?_
      refine ⟨k, _, rfl, atrL_at k1, ?_⟩
      refine ⟨k, _, rfl, atrL_at k2, ?_⟩
      refine ⟨by kernel_rfl, fun q hq => ?_⟩
      have hq : q = true ↔ l[k].1 = m[k].1 ∧ l[k].2.1 = m[k].2.1 ∧ l[k].2.2 = m[k].2.2 ∧ True := hq
      cases q with
      | false =>
        refine retb (decide_eq_false (fun e => ?_)).symm
        subst e
        have := hq.2 ⟨rfl, rfl, rfl, trivial⟩
        cases this
      | true =>
        obtain ⟨e1, e2, e3, _⟩ := hq.1 rfl
        intro c hc
        rw [IntWalk.i64_in _ (by omega)] at hc
        obtain rfl : c = ((k + 1 : Nat) : Int) := by omega
        refine ⟨g - 1, by omega, k + 1, by omega, rfl, fun j hj => ?_⟩
        by_cases hjk : j = k
        · subst hjk; rw [List.getElem?_eq_getElem k1, List.getElem?_eq_getElem k2]; exact congrArg some (Prod.ext e1 (Prod.ext e2 e3))
        · exact ha j (by omega)
    · have hd2 := of_decide_eq_false hd2
      refine retb (decide_eq_true (List.ext_getElem? fun j => ?_)).symm
      by_cases hj : j < k
      · exact ha j hj
      · rw [List.getElem?_eq_none (by omega), List.getElem?_eq_none (by omega)]
def awC : ByteArray := ⟨#[49, 65, 59, 97, 61, 98, 59, 99]⟩
def awA : List Atr := [(⟨#[97]⟩, ⟨#[98]⟩, true), (⟨#[99]⟩, ⟨#[]⟩, false)]
theorem aw18 : parseC awC = (26, awA, 0) := by decide +kernel
theorem aw18p : pieceW ⟨#[97, 98, 99]⟩ = ⟨#[51, 13, 10, 97, 98, 99, 13, 10]⟩ := by decide +kernel
theorem awake18_p : APure Tryd.prog 14 [] (.b true) [] := by
  have h1 := parse18_p awC (by decide)
  rw [aw18] at h1
  have h2 := same18_p awA awA (by decide) (by decide)
  rw [decide_eq_true rfl] at h2
  have h3 := piece_p ⟨#[97, 98, 99]⟩ (by decide)
  rw [aw18p] at h3
  refine APure.of rfl (ACalls.of_vc T_ok mixed Tryd.func14 rfl Tryd.call14 ?_)
  refine .p rfl h1 ?_
  refine .p rfl h2 ?_
  refine .p rfl h3 ?_
  intro t ht
  exact retb (ht.2 rfl)
/-- how many extensions there may be -/
theorem extW_len (s : ByteArray) : ∀ (z k : Nat) (acc l : List Atr) (j : Nat), s.size - k ≤ z → acc.length ≤ k → k ≤ s.size → extW s k acc = some (l, j) → l.length ≤ j ∧ j ≤ s.size := by
  intro z
  induction z with
  | zero =>
    intro k acc l j hz ha hk h
    rw [extW_end acc (atB_ge (by omega) _)] at h
    cases h
    exact ⟨ha, hk⟩
  | succ z ih =>
    intro k acc l j hz ha hk h
    cases hb : atB s k 59 with
    | false =>
      rw [extW_end acc hb] at h
      cases h
      exact ⟨ha, hk⟩
    | true =>
      cases ho : oneS s (k + 1) with
      | none => rw [extW_none acc hb ho] at h; cases h
      | some x =>
        obtain ⟨a, j2⟩ := x
        have hk1 := atB_iff hb
        have := oneS_lt (by omega) ho
        rw [extW_some acc hb ho] at h
        exact ih j2 _ l j (by omega) (by simp; omega) (by omega) h
theorem parseC_len (s : ByteArray) : (parseC s).2.1.length ≤ s.size := by
  have hl := tw_le hexI s 0 (Nat.zero_le _)
  unfold parseC
  simp only
  cases he : extW s (tw hexI s 0) [] with
  | none => exact Nat.zero_le _
  | some x =>
    obtain ⟨l, j⟩ := x
    have := extW_len s _ _ _ l j (Nat.le_refl _) (by simp) (by omega) he
    simp only
    split
    · exact Nat.zero_le _
    · split
      · exact Nat.zero_le _
      · show l.length ≤ _; omega
theorem chunkReads_p (s : ByteArray) : APure Tryd.prog 3 [.s s] (.b true) [] := by
  refine APure.of rfl (ACalls.of_vc T_ok mixed Tryd.func3 rfl Tryd.call3 ?_)
  refine .p rfl awake18_p ?_
  refine ⟨_, minI_at s.size 300, Nat.zero_le _, by split <;> omega, ?_⟩
  have b3 : (s.extract 0 (if 300 < s.size then 300 else s.size)).size ≤ 300 := by rw [ByteArray.size_extract]; split <;> omega
  generalize s.extract 0 (if 300 < s.size then 300 else s.size) = t at *
  have h1 := parse18_p t (by omega)
  have h2 := r18parse_p t (by omega)
  have h4 := parseC_len t
  generalize parseC t = Z at *
  obtain ⟨n, l, e⟩ := Z
  have h4 : l.length ≤ t.size := h4
  have h3 := same18_p l l (by omega) (by omega)
  rw [decide_eq_true rfl] at h3
  refine .p rfl h1 ?_
  refine .p rfl h2 ?_
  refine cnd_split (fun h => ?_) (fun h => ?_)
  case refine_2 => exact absurd rfl (beq_eq_false_iff_ne.1 h)
  refine .p rfl h3 ?_
  exact retb (beq_self_eq_true _)
theorem digV_digH (n : Nat) : digV (digB 16 n) = digs 16 n := by
  obtain ⟨_, h2, _⟩ := digs_facts (B := 16) (by omega) n
  unfold digV digB
  show ((digs 16 n).map dgt).toArray.toList.map _ = _
  rw [List.toList_toArray, List.map_map]
  conv => rhs; rw [← List.map_id (digs 16 n)]
  refine List.map_congr_left fun d hd => ?_
  have := (dgt_worth d (by have := h2 d hd; omega)).2
  simp [this]
theorem digH_dig (n : Nat) : ∀ b ∈ (digB 16 n).data.toList, ∃ d, d < 16 ∧ b = dgt d := fun b hb => by
  obtain ⟨_, h2, _⟩ := digs_facts (B := 16) (by omega) n
  have hb : b ∈ (digs 16 n).map dgt := by
    have : (digB 16 n).data.toList = (digs 16 n).map dgt := by unfold digB; show ((digs 16 n).map dgt).toArray.toList = _; rw [List.toList_toArray]
    rwa [this] at hb
  obtain ⟨d, hd, rfl⟩ := List.mem_map.1 hb
  exact ⟨d, h2 d hd, rfl⟩
theorem digH_pos (n : Nat) : 0 < (digB 16 n).size := by
  obtain ⟨_, _, h3, _⟩ := digs_facts (B := 16) (by omega) n
  have : (digB 16 n).size = (digs 16 n).length := by unfold digB; show ((digs 16 n).map dgt).toArray.size = _; rw [List.size_toArray, List.length_map]
  rw [this]
  exact List.length_pos_iff.2 h3.1
theorem digH_hex (n : Nat) : allI hexI (digB 16 n) = true := by
  unfold allI
  refine List.all_eq_true.2 fun b hb => ?_
  obtain ⟨d, hd, rfl⟩ := digH_dig n b hb
  exact (dgt_worth d hd).1
theorem readH_dig (n : Nat) : readH (digB 16 n) mostB = if mostB < n then (0, 7) else ((n : Int), 0) := by
  have ha : allI (isD 16) (digB 16 n) = true := by
    unfold allI
    refine List.all_eq_true.2 fun b hb => ?_
    obtain ⟨d, hd, rfl⟩ := digH_dig n b hb
    obtain ⟨x1, x2⟩ := dgt_worth d (by omega)
    unfold isD
    rw [x1, x2]
    simp; omega
  have hp := digH_pos n
  have hv : valN 16 (digV (digB 16 n)) = n := by
    rw [digV_digH]
    exact (digs_facts (B := 16) (by omega) n).1
  rw [← readG_H]
  unfold readG
  rw [if_neg (fun h => h.elim (fun h => by omega) (fun h => by rw [ha] at h; cases h)), hv]
theorem ext_all (s : ByteArray) : s.extract 0 s.size = s := by
  apply inL
  rw [cut_l]; rfl
theorem tw_all {q : Int → Bool} {s : ByteArray} (h : allI q s = true) : tw q s 0 = s.size := by
  have := tw_at (q := q) (s := s) (k := 0) (m := s.size) (fun i hi _ _ => allI_at h i hi) (Nat.zero_le _) (Nat.le_refl _) (fun h => absurd h (by omega))
  omega
theorem parseC_text (n : Int) : parseC (textH n) = if n < 0 then (0, [], 31) else if (mostB : Int) < n then (0, [], 7) else (n, [], 0) := by
  unfold textH
  split
  · decide +kernel
  · rename_i hn
    have hk := toNat_cast hn
    generalize n.toNat = k at *
    subst hk
    have he : extW (digB 16 k) (digB 16 k).size [] = some ([], (digB 16 k).size) := extW_end [] (atB_ge (Nat.le_refl _) _)
    unfold parseC
    simp only
    rw [tw_all (digH_hex k), ext_all, he, readH_dig]
    by_cases h : mostB < k
    · rw [if_pos h, if_pos (by omega)]
      simp
    · rw [if_neg h, if_neg (by omega)]
      simp
theorem chunkWrites_p (n : Int) (data : ByteArray) (hn : n < 2 ^ 63) : APure Tryd.prog 4 [.i n, .s data] (.b true) [] := by
  refine APure.of rfl (ACalls.of_vc T_ok mixed Tryd.func4 rfl Tryd.call4 ?_)
  refine .p rfl awake18_p ?_
  refine ⟨_, minI_at data.size 300, Nat.zero_le _, by split <;> omega, ?_⟩
  have b3 : (data.extract 0 (if 300 < data.size then 300 else data.size)).size ≤ 300 := by rw [ByteArray.size_extract]; split <;> omega
  generalize data.extract 0 (if 300 < data.size then 300 else data.size) = t at *
  have b4 := textH_size hn
  have h1 := parse18_p (textH n) (by omega)
  rw [parseC_text] at h1
  refine .p rfl (ctext_p n hn) ?_
  have h2 := r3text16_p n hn
  generalize textH n = T at *
  have h3 := piece_p t (by omega)
  have h4 := r18piece_p t (by omega)
  by_cases hneg : n < 0
  · rw [if_pos hneg] at h1
    refine .p rfl h1 ?_
    refine .p rfl h2 ?_
    intro a ha
    obtain rfl : a = false := ha.2 rfl
    refine .p rfl h3 ?_
    refine .p rfl h4 ?_
    intro a ha
    obtain rfl : a = false := ha.2 rfl
    refine cnd_split (fun h => ?_) (fun h => ?_)
    case refine_2 => exact absurd hneg (of_decide_eq_false h)
    exact retb rfl
  · rw [if_neg hneg] at h1
    by_cases hbig : (mostB : Int) < n
    · rw [if_pos hbig] at h1
      refine .p rfl h1 ?_
      refine .p rfl h2 ?_
      intro a ha
      obtain rfl : a = false := ha.2 rfl
      refine .p rfl h3 ?_
      refine .p rfl h4 ?_
      intro a ha
      obtain rfl : a = false := ha.2 rfl
      refine cnd_split (fun h => ?_) (fun h => ?_)
      case refine_1 => exact absurd (of_decide_eq_true h) hneg
      refine cnd_split (fun h => ?_) (fun h => ?_)
      case refine_2 => exact absurd hbig (of_decide_eq_false h)
      exact retb rfl
    · rw [if_neg hbig] at h1
      refine .p rfl h1 ?_
      refine .p rfl h2 ?_
      intro a ha
      obtain rfl : a = false := ha.2 rfl
      refine .p rfl h3 ?_
      refine .p rfl h4 ?_
      intro a ha
      obtain rfl : a = false := ha.2 rfl
      refine cnd_split (fun h => ?_) (fun h => ?_)
      case refine_1 => exact absurd (of_decide_eq_true h) hneg
      refine cnd_split (fun h => ?_) (fun h => ?_)
      case refine_1 => exact absurd (of_decide_eq_true h) hbig
      refine cnd_split (fun h => ?_) (fun h => ?_)
      case refine_2 => exact absurd rfl (beq_eq_false_iff_ne.1 h)
      exact retb rfl
end Go.Proofs.YtfhodppaelfcfaaDoor
