/- Field lines: what is written is read: plain law. -/
import Derived.Test.YthncigahodannaaDoorField5
namespace Go.Proofs.YthncigahodannaaDoor
open Go.RowKit

theorem app_l (a b : ByteArray) : (a ++ b).data.toList = a.data.toList ++ b.data.toList := by
  rw [ByteArray.data_append, Array.toList_append]
theorem toInj {a b : ByteArray} (h : a.data.toList = b.data.toList) : a = b := ByteArray.ext (Array.toList_inj.1 h)

theorem tw_list {q : Int → Bool} {s : ByteArray} {k : Nat} {p r : List UInt8} (h : s.data.toList.drop k = p ++ r) (h1 : ∀ b ∈ p, q (b.toNat : Int) = true)
    (h2 : ∀ b, r.head? = some b → q (b.toNat : Int) = false) : tw q s k = p.length := by
  unfold tw
  rw [h]
  clear h
  induction p with
  | nil =>
    cases r with
    | nil => rfl
    | cons x r => rw [List.nil_append, List.takeWhile_cons_of_neg (by simp [h2 x rfl])]
  | cons x p ih =>
    rw [List.cons_append, List.takeWhile_cons_of_pos (p := fun b : UInt8 => q (b.toNat : Int)) (h1 x (.head _)), List.length_cons, ih (fun b hb => h1 b (.tail _ hb)), List.length_cons]

theorem allI_mem {q : Int → Bool} {s : ByteArray} (h : allI q s = true) : ∀ b ∈ s.data.toList, q (b.toNat : Int) = true := List.all_eq_true.1 h
theorem allI_mk {q : Int → Bool} {s : ByteArray} (h : ∀ b ∈ s.data.toList, q (b.toNat : Int) = true) : allI q s = true := List.all_eq_true.2 h
theorem u8_of {q : UInt8 → Bool} (h : ∀ n : Nat, n < 256 → q (UInt8.ofNat n) = true) (b : UInt8) : q b = true := by
  have := h b.toNat b.toNat_lt
  rwa [UInt8.ofNat_toNat] at this
theorem tok_facts (b : UInt8) (h : tokI (b.toNat : Int) = true) : (b == 13 || b == 10) = false ∧ blkI (b.toNat : Int) = false ∧ (b == 58) = false := by
  have := u8_of (q := fun b => !tokI (b.toNat : Int) || (!(b == 13 || b == 10) && !blkI (b.toNat : Int) && !(b == 58))) (by decide +kernel) b
  simp only [h, Bool.not_true, Bool.false_or, Bool.and_eq_true, Bool.not_eq_true'] at this
  exact ⟨this.1.1, this.1.2, this.2⟩
theorem val_facts (b : UInt8) (h : valI (b.toNat : Int) = true) : (b == 13 || b == 10) = false := by
  have := u8_of (q := fun b => !valI (b.toNat : Int) || !(b == 13 || b == 10)) (by decide +kernel) b
  simpa only [h, Bool.not_true, Bool.false_or, Bool.not_eq_true'] using this
theorem blk_facts (b : UInt8) (h : blkI (b.toNat : Int) = true) : (b == 13 || b == 10) = false ∧ tokI (b.toNat : Int) = false ∧ valI (b.toNat : Int) = true := by
  have := u8_of (q := fun b => !blkI (b.toNat : Int) || (!(b == 13 || b == 10) && !tokI (b.toNat : Int) && valI (b.toNat : Int))) (by decide +kernel) b
  simp only [h, Bool.not_true, Bool.false_or, Bool.and_eq_true, Bool.not_eq_true'] at this
  exact ⟨this.1.1, this.1.2, this.2⟩
theorem tokB_facts {n : ByteArray} (h : tokB n = true) : 0 < n.size ∧ ∀ b ∈ n.data.toList, tokI (b.toNat : Int) = true := by
  unfold tokB at h
  rw [Bool.and_eq_true, decide_eq_true_eq] at h
  exact ⟨h.1, allI_mem h.2⟩
theorem crlf_of {s : ByteArray} (h : ∀ b ∈ s.data.toList, (b == 13 || b == 10) = false) : crlfB s = false := by
  unfold crlfB
  rw [List.any_eq_false]
  intro b hb
  rw [h b hb]
  decide

theorem line_l {n x v s : ByteArray} (hs : s = n ++ x ++ ⟨#[58]⟩ ++ v) : s.data.toList = n.data.toList ++ (x.data.toList ++ (58 :: v.data.toList)) := by
  rw [hs, app_l, app_l, app_l, List.append_assoc, List.append_assoc]
  rfl
theorem line_crlf {n x v s : ByteArray} (hs : s = n ++ x ++ ⟨#[58]⟩ ++ v) (hn : tokB n = true) (hx : allI blkI x = true) (hv : allI valI v = true) : crlfB s = false := by
  apply crlf_of
  intro b hb
  rw [line_l hs, List.mem_append, List.mem_append, List.mem_cons] at hb
  rcases hb with hb | hb | rfl | hb
  · exact (tok_facts b ((tokB_facts hn).2 b hb)).1
  · exact (blk_facts b (allI_mem hx b hb)).1
  · rfl
  · exact val_facts b (allI_mem hv b hb)

theorem parse_line {n x v s : ByteArray} (hs : s = n ++ x ++ ⟨#[58]⟩ ++ v) (hn : tokB n = true) (hx : allI blkI x = true) (hv : allI valI v = true) :
    parseF s = if x.size ≠ 0 then ((.empty, .empty), 22) else ((n, trimB v), 0) := by
  have hl := line_l hs
  have hcr := line_crlf hs hn hx hv
  obtain ⟨hn0, hnt⟩ := tokB_facts hn
  have ln := blen n
  have lx := blen x
  have lv := blen v
  have ls := blen s
  have hsz : s.size = n.size + (x.size + (v.size + 1)) := by rw [← ls, hl, List.length_append, List.length_append, List.length_cons, ln, lx, lv]
  have h0 : tw blkI s 0 = 0 := by
    refine tw_list (p := []) (r := s.data.toList) (by simp) (by simp) (fun b hb => ?_)
    rw [hl] at hb
    cases hnl : n.data.toList with
    | nil => rw [hnl] at ln; simp at ln; omega
    | cons y r =>
      rw [hnl] at hb
      obtain rfl : y = b := by simpa using hb
      exact (tok_facts y (hnt y (by rw [hnl]; exact .head _))).2.1
  have h1 : tw tokI s 0 = n.size := by
    rw [← ln]
    refine tw_list (r := x.data.toList ++ (58 :: v.data.toList)) (by rw [List.drop_zero, hl]) hnt (fun b hb => ?_)
    cases hxl : x.data.toList with
    | nil =>
      rw [hxl] at hb
      obtain rfl : 58 = b := by simpa using hb
      decide +kernel
    | cons y r =>
      rw [hxl] at hb
      obtain rfl : y = b := by simpa using hb
      exact (blk_facts y (allI_mem hx y (by rw [hxl]; exact .head _))).2.1
  have h2 : tw blkI s n.size = x.size := by
    rw [← lx]
    refine tw_list (r := 58 :: v.data.toList) (by rw [hl, List.drop_left' ln]) (allI_mem hx) (fun b hb => ?_)
    obtain rfl : 58 = b := by simpa using hb
    decide +kernel
  have h3 : s.data.toList[n.size + x.size]? = some 58 := by
    rw [hl, List.getElem?_append_right (by omega), List.getElem?_append_right (by omega)]
    rw [show n.size + x.size - n.data.toList.length - x.data.toList.length = 0 from by omega]
    rfl
  have h4 : s.extract 0 n.size = n := by
    apply toInj
    rw [extB, List.drop_zero, hl, List.take_left' ln]
  have h5 : s.extract (n.size + x.size + 1) s.size = v := by
    apply toInj
    rw [extB, ← ls, List.take_length, hl, show n.size + x.size + 1 = n.size + (x.size + 1) from by omega, ← List.drop_drop, List.drop_left' ln, ← List.drop_drop, List.drop_left' lx]
    rfl
  unfold parseF
  rw [hcr, h0, h1]
  simp only [h2, h3, h4, h5, hv]
  rw [if_neg (by decide), if_neg (by omega), if_neg (show ¬ (n.size = 0 ∨ ¬ True) from fun h => h.elim (fun h => by omega) (fun h => h trivial))]
  by_cases hx0 : x.size = 0
  · rw [if_neg (by omega), if_neg (by decide), if_neg (by omega)]
  · rw [if_pos (by omega), if_pos hx0]

theorem parse_fold {s : ByteArray} (hcr : crlfB s = false) (h : s.data.toList.head?.any blkP = true) : parseF s = ((.empty, .empty), 23) := by
  unfold parseF
  rw [hcr, if_neg (by decide), if_pos (show 0 < tw blkI s 0 from ?_)]
  unfold tw
  rw [List.drop_zero]
  cases hs : s.data.toList with
  | nil => rw [hs] at h; cases h
  | cons x r =>
    rw [hs] at h
    have hx : blkI (x.toNat : Int) = true := by simpa [blkP] using h
    rw [List.takeWhile_cons_of_pos (p := fun b : UInt8 => blkI (b.toNat : Int)) hx]
    simp

/-! trims -/
theorem dw_dw (p : UInt8 → Bool) (l : List UInt8) : (l.dropWhile p).dropWhile p = l.dropWhile p := by
  induction l with
  | nil => rfl
  | cons x r ih =>
    cases hx : p x
    · rw [List.dropWhile_cons_of_neg (by simp [hx]), List.dropWhile_cons_of_neg (by simp [hx])]
    · rw [List.dropWhile_cons_of_pos hx, ih]
theorem rt_rt (p : UInt8 → Bool) (l : List UInt8) : rt p (rt p l) = rt p l := by
  unfold rt
  rw [List.reverse_reverse, dw_dw]
theorem dw_app {p : UInt8 → Bool} (x m : List UInt8) (hx : ∀ b ∈ x, p b = true) : (x ++ m).dropWhile p = m.dropWhile p := by
  induction x with
  | nil => rfl
  | cons y r ih => rw [List.cons_append, List.dropWhile_cons_of_pos (hx y (.head _)), ih (fun b hb => hx b (.tail _ hb))]
theorem rt_app {p : UInt8 → Bool} (m y : List UInt8) (hy : ∀ b ∈ y, p b = true) : rt p (m ++ y) = rt p m := by
  unfold rt
  rw [List.reverse_append, dw_app _ _ (fun b hb => hy b (List.mem_reverse.1 hb))]
theorem trim_l (s : ByteArray) : (trimB s).data.toList = rt blkP (s.data.toList.dropWhile blkP) := by
  rw [trimB_eq]
theorem trim_trim (s : ByteArray) : trimB (trimB s) = trimB s := by
  apply toInj
  rw [trim_l, trim_l, rt_dw, rt_rt, rt_dw, dw_dw]
theorem trim_about (x v y : ByteArray) (hx : allI blkI x = true) (hy : allI blkI y = true) : trimB (x ++ v ++ y) = trimB v := by
  apply toInj
  rw [trim_l, trim_l, app_l, app_l, List.append_assoc, dw_app (p := blkP) _ _ (allI_mem hx), rt_dw, rt_app (p := blkP) _ _ (allI_mem hy), rt_dw]
theorem trim_mem {s : ByteArray} : ∀ b ∈ (trimB s).data.toList, b ∈ s.data.toList := by
  intro b hb
  rw [trim_l] at hb
  unfold rt at hb
  rw [List.mem_reverse] at hb
  have h1 := (List.dropWhile_sublist blkP).mem hb
  rw [List.mem_reverse] at h1
  exact (List.dropWhile_sublist blkP).mem h1

/-! the laws -/
theorem check_ok {f : Fld} (h : checkF f = 0) : tokB f.1 = true ∧ allI valI f.2 = true ∧ trimB f.2 = f.2 := by
  unfold checkF at h
  split at h
  · cases h
  · split at h
    · cases h
    · rename_i h1 h2
      simp only [not_or, ne_eq, Classical.not_not] at h2
      exact ⟨by simpa using h1, by simpa using h2.1, h2.2⟩
theorem ok_check {f : Fld} (h1 : tokB f.1 = true) (h2 : allI valI f.2 = true) (h3 : trimB f.2 = f.2) : checkF f = 0 := by
  unfold checkF
  rw [if_neg (by rw [h1]; decide), if_neg (by rw [h2, h3]; simp)]
theorem parse_ok {s : ByteArray} (h : (parseF s).2 = 0) : checkF (parseF s).1 = 0 ∧ (textF (parseF s).1).1.size ≤ s.size + 1 := by
  unfold parseF at h ⊢
  dsimp only at h ⊢
  split at h
  · cases h
  · rename_i hcr
    split at h
    · cases h
    · rename_i hb
      rw [if_neg hcr, if_neg hb]
      have hn := tw_le tokI s 0 (Nat.zero_le _)
      have hall := tw_all (q := tokI) (s := s) (k := 0)
      rw [Nat.zero_add] at hn hall
      generalize tw tokI s 0 = n at *
      generalize n + tw blkI s n = g at *
      split at h
      · cases h
      · rename_i h1
        split at h
        · cases h
        · rename_i h2
          split at h
          · cases h
          · rename_i h3
            rw [if_neg h1, if_neg h2, if_neg h3]
            simp only [not_or, Classical.not_not] at h1 h2 h3
            obtain ⟨h1, h58⟩ := h1
            subst h2
            have hgs : g < s.size := by
              have := (List.getElem?_eq_some_iff.1 h58).1
              rw [blen] at this
              exact this
            have hz := ext_size s 0 g (by omega)
            have hc : checkF (s.extract 0 g, trimB (s.extract (g + 1) s.size)) = 0 := by
              refine ok_check ?_ (allI_mk fun b hb => ?_) (trim_trim _)
              · unfold tokB
                rw [Bool.and_eq_true, decide_eq_true_eq]
                refine ⟨by show 0 < (s.extract 0 g).size; omega, allI_mk fun b hb => ?_⟩
                rw [extB, List.drop_zero] at hb
                obtain ⟨i, hi, rfl⟩ := List.getElem_of_mem hb
                rw [List.length_take, blen] at hi
                rw [List.getElem_take]
                exact hall i (by omega) (Nat.zero_le _) (by omega)
              · exact allI_mem (by simpa using h3) b (trim_mem b hb)
            refine ⟨hc, ?_⟩
            have ht := trimB_size (s.extract (g + 1) s.size)
            rw [ext_size _ _ _ (Nat.le_refl _)] at ht
            unfold textF
            rw [if_neg (by rw [hc]; decide)]
            split
            · show (s.extract 0 g ++ _).size ≤ _
              rw [ByteArray.size_append, hz]
              show g - 0 + 1 ≤ _
              omega
            · show (s.extract 0 g ++ _ ++ trimB _).size ≤ _
              rw [ByteArray.size_append, ByteArray.size_append, hz]
              show g - 0 + 2 + _ ≤ _
              omega
theorem text_ok {f : Fld} (h : checkF f = 0) : textF f = (if f.2.size = 0 then f.1 ++ ⟨#[58]⟩ else f.1 ++ ⟨#[58, 32]⟩ ++ f.2, 0) := by
  unfold textF
  rw [if_neg (by rw [h]; decide)]
  split <;> rfl
theorem parse_text {f : Fld} (h : checkF f = 0) : parseF (textF f).1 = (f, 0) := by
  obtain ⟨h1, h2, h3⟩ := check_ok h
  rw [text_ok h]
  by_cases h0 : f.2.size = 0
  · rw [if_pos h0]
    have he : f.2 = .empty := by
      apply toInj
      have := blen f.2
      rw [List.eq_nil_of_length_eq_zero (this.trans h0)]
      rfl
    rw [parse_line (n := f.1) (x := .empty) (v := .empty) (by apply toInj; simp) h1 (by rfl) (by rfl), if_neg (by decide)]
    rw [show trimB .empty = .empty from by decide +kernel, ← he]
  · rw [if_neg h0]
    rw [parse_line (n := f.1) (x := .empty) (v := ⟨#[32]⟩ ++ f.2) (by apply toInj; simp) h1 (by rfl) (allI_mk fun b hb => ?_), if_neg (by decide)]
    · have := trim_about ⟨#[32]⟩ f.2 .empty (by decide +kernel) (by rfl)
      rw [ByteArray.append_empty] at this
      rw [this, h3]
    · rw [app_l, List.mem_append] at hb
      rcases hb with hb | hb
      · obtain rfl : b = 32 := by simpa using hb
        decide +kernel
      · exact allI_mem h2 b hb
end Go.Proofs.YthncigahodannaaDoor
