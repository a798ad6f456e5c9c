/- Chunks and trailers that were written, as a decoder takes them, in plain words. No statement of its own. -/
import Derived.Test.YtookaenbpfpegaaDoorDp
set_option linter.unusedSimpArgs false
set_option linter.unusedVariables false
set_option maxRecDepth 100000
namespace Go.Proofs.YtookaenbpfpegaaDoor
open Go.RowKit
theorem noFin : ¬ ((false = true) ∨ ((0 : Int) ≠ 0)) := fun h => h.elim (fun h => by cases h) (fun h => h rfl)
theorem yesFin : (true = true) ∨ ((0 : Int) ≠ 0) := .inl rfl
theorem endD_zero {d : Dc} (h : d.a = 0) (s : ByteArray) : endD d s = ((sizeD d s).1, false, (sizeD d s).2) := if_pos h
theorem endD_three {d : Dc} (h : d.a = 3) (s : ByteArray) : endD d s = trailD d s := if_neg (by omega)
theorem dgt_ok : ∀ d : Nat, d < 16 → dgt d ≠ 10 ∧ dgt d ≠ 13 := by decide
theorem app_l' (a b : ByteArray) : (a ++ b).data.toList = a.data.toList ++ b.data.toList := by
  rw [ByteArray.data_append, Array.toList_append]
def pcL (x : List UInt8) : List UInt8 := (textH x.length).data.toList ++ 13 :: 10 :: (x ++ [13, 10])
theorem pieceW_l {s : ByteArray} (h : ¬ s.size = 0) : (pieceW s).data.toList = pcL s.data.toList := by
  unfold pieceW
  rw [if_neg h, app_l', app_l', app_l']
  unfold pcL
  rw [blen]
  show _ ++ [13, 10] ++ _ ++ [13, 10] = _
  simp
theorem pcL_len (x : List UInt8) : (pcL x).length = (textH x.length).size + x.length + 4 := by
  unfold pcL
  simp only [List.length_append, List.length_cons, List.length_nil, blen]
  omega
theorem piece_run {L : Nat} {d : Dc} (ha : d.a = 0) (hl : d.line = []) (hf : d.left = 0) {x : List UInt8} (hx : x ≠ []) (hm : d.sum + x.length ≤ mostB) (hL : d.spent + 100 ≤ L) (r : List UInt8) :
    runD L d (pcL x ++ r) = (runD L { d with sum := d.sum + x.length } r).more (pcL x).length x := by
  have hx1 : 1 ≤ x.length := by cases x with | nil => exact absurd rfl hx | cons a b => simp
  have hmb : mostB = 1099511627776 := rfl
  have hts : (textH (x.length : Int)).size ≤ 64 := textH_size (by omega)
  have hch : ∀ b ∈ ([] : List UInt8) ++ (textH (x.length : Int)).data.toList, b ≠ 10 ∧ b ≠ 13 := fun b hb => by
    rw [List.nil_append] at hb
    have e : textH (x.length : Int) = digB 16 x.length := by
      unfold textH
      rw [if_neg (by omega), Int.toNat_natCast]
    rw [e] at hb
    obtain ⟨k, hk, rfl⟩ := digH_dig x.length b hb
    exact dgt_ok k hk
  have hp := parseC_text (x.length : Int)
  rw [if_neg (by omega), if_neg (by omega)] at hp
  have h1 := plain_run (L := L) (.inl ha) (textH (x.length : Int)).data.toList [] (x ++ 13 :: 10 :: r) hl hch (by rw [List.nil_append, blen]; omega) (by rw [List.nil_append, blen]; omega)
  rw [Dc.put_nil, List.nil_append, toB_s] at h1
  have he : endD (d.next ((textH (x.length : Int)).data.toList.length + 2)) (textH (x.length : Int)) = ({ d with a := 1, left := x.length, sum := d.sum + x.length }, false, 0) := by
    unfold endD
    rw [if_pos (show (d.next _).a = 0 from ha)]
    unfold sizeD
    rw [hp]
    have e1 : ¬ ((mostB : Int) - ((d.next ((textH (x.length : Int)).data.toList.length + 2)).sum : Int) < (x.length : Int)) := by
      show ¬ ((mostB : Int) - (d.sum : Int) < _)
      omega
    rw [if_neg (fun h => h rfl), if_neg e1, if_neg (show ¬ ((x.length : Int) = 0) by omega)]
    unfold Dc.next
    rw [if_neg (by omega)]
    simp [hl]
  rw [he] at h1
  have hsplit : pcL x ++ r = (textH (x.length : Int)).data.toList ++ 13 :: 10 :: (x ++ 13 :: 10 :: r) := by unfold pcL; simp
  rw [hsplit, h1]
  dsimp only
  rw [if_neg noFin]
  obtain ⟨k, hk⟩ : ∃ k, x.length = k + 1 := ⟨x.length - 1, by omega⟩
  by_cases hd : k < x.length
  · have h2 := runD_data (L := L) k { d with a := 1, left := x.length, sum := d.sum + x.length } (x ++ 13 :: 10 :: r) rfl (by show k < x.length; omega) (by simp; omega)
    rw [← hk, List.drop_left, List.take_left] at h2
    have ht : ({ d with a := 1, left := x.length, sum := d.sum + x.length } : Dc).took x.length = { d with a := 2, left := 2, sum := d.sum + x.length } := by
      unfold Dc.took
      exact if_pos rfl
    rw [ht, runD_crlf r rfl rfl] at h2
    rw [h2, Rs.more_more, Rs.more_more]
    have e3 : ({ d with a := 0, left := 0, sum := d.sum + x.length } : Dc) = { d with sum := d.sum + x.length } := by
      cases d
      simp only at ha hf
      subst ha hf
      rfl
    show Rs.more (runD L ({ d with a := 0, left := 0, sum := d.sum + x.length } : Dc) r) _ _ = _
    rw [e3]
    unfold Rs.more
    simp only [List.nil_append, Rs.mk.injEq, and_true, List.append_nil]
    rw [pcL_len, blen]
    omega
  · omega
/-- many pieces -/
def pcsL (l : List (List UInt8)) : List UInt8 := l.flatMap fun x => if x = [] then [] else pcL x
theorem pieces_run {L : Nat} : ∀ (l : List (List UInt8)) (d : Dc), d.a = 0 → d.line = [] → d.left = 0 → d.sum + l.flatten.length ≤ mostB → d.spent + 100 ≤ L → ∀ r : List UInt8,
    runD L d (pcsL l ++ r) = (runD L { d with sum := d.sum + l.flatten.length } r).more (pcsL l).length l.flatten
  | [], d, _, _, _, _, _, r => by
    show runD L d r = _
    exact (Rs.more_zero _).symm
  | x :: l, d, ha, hl, hf, hm, hL, r => by
    have hfl : (x :: l).flatten = x ++ l.flatten := rfl
    rw [hfl, List.length_append] at hm
    by_cases hx : x = []
    · have e : pcsL (x :: l) = pcsL l := by unfold pcsL; rw [List.flatMap_cons, if_pos hx]; rfl
      rw [e, hfl, hx]
      exact pieces_run l d ha hl hf (by omega) hL r
    · have e : pcsL (x :: l) = pcL x ++ pcsL l := by unfold pcsL; rw [List.flatMap_cons, if_neg hx]
      rw [e, List.append_assoc, piece_run ha hl hf hx (by omega) hL, pieces_run l { d with sum := d.sum + x.length } ha hl hf (by show d.sum + x.length + _ ≤ _; omega) hL r, Rs.more_more, hfl]
      have e2 : ({ d with sum := d.sum + x.length + l.flatten.length } : Dc) = { d with sum := d.sum + (x ++ l.flatten).length } := by rw [List.length_append, Nat.add_assoc]
      show Rs.more (runD L ({ d with sum := d.sum + x.length + l.flatten.length } : Dc) r) _ _ = _
      rw [e2, show (pcsL l).length + (pcL x).length = (pcL x ++ pcsL l).length by rw [List.length_append]; omega]
/-- trailers -/
def trL (l : List Fld) : List UInt8 := l.flatMap fun f => (lineF f).data.toList ++ [13, 10]
theorem lineF_ok {f : Fld} (h : checkF f = 0) : (parseF (lineF f)) = (f, 0) ∧ (lineF f).size ≠ 0 ∧ ∀ b ∈ (lineF f).data.toList, b ≠ 10 ∧ b ≠ 13 := by
  have ht := parse_text h
  have e : (textF f).1 = lineF f := by
    rw [textF_line, if_neg (fun h' => h' h)]
  rw [e] at ht
  obtain ⟨h1, h2, h3⟩ := check_ok h
  obtain ⟨n1, n2⟩ := tokB_facts h1
  have hx : ∀ b : UInt8, (b == 13 || b == 10) = false → b ≠ 10 ∧ b ≠ 13 := fun b hb => by
    rw [Bool.or_eq_false_iff] at hb
    exact ⟨fun e => by rw [e] at hb; exact absurd hb.2 (by decide), fun e => by rw [e] at hb; exact absurd hb.1 (by decide)⟩
  refine ⟨ht, ?_, fun b hb => hx b ?_⟩
  · unfold lineF
    split
    · rw [ByteArray.size_append]; omega
    · rw [ByteArray.size_append, ByteArray.size_append]; omega
  · unfold lineF at hb
    split at hb
    · rw [app_l'] at hb
      rcases List.mem_append.1 hb with hb | hb
      · exact (tok_facts b (n2 b hb)).1
      · have : b = 58 := List.mem_singleton.1 hb
        subst this
        decide
    · rw [app_l', app_l'] at hb
      rcases List.mem_append.1 hb with hb | hb
      · rcases List.mem_append.1 hb with hb | hb
        · exact (tok_facts b (n2 b hb)).1
        · have : b = 58 ∨ b = 32 := by
            have hb : b ∈ [(58 : UInt8), 32] := hb
            simpa using hb
          rcases this with rfl | rfl <;> decide
      · exact val_facts b (allI_mem h2 b hb)
theorem trailers_run {L : Nat} : ∀ (l : List Fld) (d : Dc), d.a = 3 → d.line = [] → (∀ f ∈ l, checkF f = 0 ∧ (lineF f).size ≤ 300) → d.tr.length + l.length ≤ 100 → d.spent + (l.length + 1) * 302 ≤ L → ∀ r : List UInt8,
    ∃ X : Dc, runD L d (trL l ++ 13 :: 10 :: r) = ⟨(trL l).length + 2, [], true, 0, X⟩ ∧ X.tr = d.tr ++ l ∧ X.line = []
  | [], d, ha, hl, _, _, hL, r => by
    have h1 := plain_run (L := L) (.inr ha) [] [] r hl (fun b hb => by cases hb) (by simp) (by simp; omega)
    rw [Dc.put_nil] at h1
    have he : endD (d.next (([] : List UInt8).length + 2)) (toB []) = (d.next (([] : List UInt8).length + 2), true, 0) := by
      unfold endD
      rw [if_neg (show ¬ (d.next _).a = 0 by show ¬ d.a = 0; omega)]
      unfold trailD
      rw [if_pos (show (toB []).size = 0 from rfl)]
    simp only [List.nil_append] at h1
    refine ⟨(d.next 2).shut, ?_, by simp [Dc.shut, Dc.next], rfl⟩
    show runD L d ([] ++ 13 :: 10 :: r) = _
    rw [List.nil_append, h1]
    rw [show endD (d.next (([] : List UInt8).length + 2)) (toB []) = _ from he]
    dsimp only
    rw [if_pos yesFin]
    rfl
  | f :: l, d, ha, hl, hf, hn, hL, r => by
    obtain ⟨hc, hz⟩ := hf f List.mem_cons_self
    obtain ⟨p1, p2, p3⟩ := lineF_ok hc
    rw [List.length_cons] at hn hL
    have h1 := plain_run (L := L) (.inr ha) (lineF f).data.toList [] (trL l ++ 13 :: 10 :: r) hl (by rw [List.nil_append]; exact p3) (by rw [List.nil_append, blen]; omega) (by rw [List.nil_append, blen]; omega)
    rw [Dc.put_nil, List.nil_append, toB_s] at h1
    have he : endD (d.next ((lineF f).data.toList.length + 2)) (lineF f) = ({ d.next ((lineF f).data.toList.length + 2) with tr := d.tr ++ [f] }, false, 0) := by
      unfold endD
      rw [if_neg (show ¬ (d.next _).a = 0 by show ¬ d.a = 0; omega)]
      unfold trailD
      rw [if_neg p2, p1, if_neg (fun h => h rfl), if_neg (show ¬ 100 ≤ (d.next _).tr.length by show ¬ 100 ≤ d.tr.length; omega)]
      rfl
    have e : trL (f :: l) ++ 13 :: 10 :: r = (lineF f).data.toList ++ 13 :: 10 :: (trL l ++ 13 :: 10 :: r) := by unfold trL; rw [List.flatMap_cons]; simp
    rw [e, h1, he]
    dsimp only
    rw [if_neg noFin]
    have hsp : ({ d.next ((lineF f).data.toList.length + 2) with tr := d.tr ++ [f] } : Dc).spent ≤ d.spent + 302 := by
      show (if d.a = 3 then d.spent + _ else d.spent) ≤ _
      rw [if_pos ha, blen]
      omega
    obtain ⟨X, i1, i2, i3⟩ := trailers_run (L := L) l { d.next ((lineF f).data.toList.length + 2) with tr := d.tr ++ [f] } ha rfl (fun g hg => hf g (List.mem_cons_of_mem _ hg)) (by show (d.tr ++ [f]).length + _ ≤ _; rw [List.length_append, List.length_singleton]; omega) (by omega) r
    refine ⟨X, ?_, by rw [i2]; simp, i3⟩
    rw [i1]
    unfold Rs.more
    have el : (trL (f :: l)).length = (lineF f).data.toList.length + 2 + (trL l).length := by
      unfold trL
      rw [List.flatMap_cons]
      simp
      omega
    simp only [List.nil_append, Rs.mk.injEq, and_true]
    omega
theorem lastB_l (l : List Fld) : ∀ k, k ≤ l.length → (lastB (l.take k)).data.toList = 48 :: 13 :: 10 :: trL (l.take k)
  | 0, _ => rfl
  | k + 1, hk => by
    rw [lastB_at hk, app_l', app_l', lastB_l l k (by omega), List.take_succ_eq_append_getElem hk]
    unfold trL
    rw [List.flatMap_append]
    show _ ++ _ ++ [13, 10] = _
    simp
theorem lastE_zero : ∀ {l : List Fld}, lastE l = 0 → ∀ f ∈ l, checkF f = 0
  | [], _, f, hf => by cases hf
  | g :: l, h, f, hf => by
    rw [lastE] at h
    by_cases hg : checkF g ≠ 0
    · rw [if_pos hg] at h
      exact absurd h hg
    · rw [if_neg hg] at h
      rcases List.mem_cons.1 hf with rfl | hf
      · exact Decidable.not_not.1 hg
      · exact lastE_zero h f hf
theorem lastW_ok {l : List Fld} (h : (lastW l).2 = 0) : (lastW l).1 = lastB l ++ crlf ∧ lastE l = 0 ∧ l.length ≤ 100 := by
  unfold lastW at h ⊢
  by_cases h1 : lastE l ≠ 0
  · rw [if_pos h1] at h
    exact absurd h h1
  · rw [if_neg h1] at h ⊢
    by_cases h2 : 100 < l.length
    · rw [if_pos h2] at h; cases h
    · rw [if_neg h2]
      exact ⟨rfl, Decidable.not_not.1 h1, by omega⟩
/-- a whole body: its pieces, its trailers -/
theorem whole_run (l : List (List UInt8)) (trs : List Fld) (hm : l.flatten.length ≤ mostB) (hw : (lastW trs).2 = 0) (hz : ∀ f ∈ trs, f.1.size ≤ 50 ∧ f.2.size ≤ 200) (r : List UInt8) :
    ∃ X : Dc, runD 65536 Dc.new (pcsL l ++ ((lastW trs).1.data.toList ++ r)) = ⟨(pcsL l).length + (lastW trs).1.size, l.flatten, true, 0, X⟩ ∧ X.tr = trs ∧ X.line = [] := by
  obtain ⟨w1, w2, w3⟩ := lastW_ok hw
  have hmb : mostB = 1099511627776 := rfl
  have hall := lastE_zero w2
  have hlb := lastB_l trs trs.length (Nat.le_refl _)
  rw [List.take_of_length_le (Nat.le_refl _)] at hlb
  have hll : (lastW trs).1.data.toList = 48 :: 13 :: 10 :: (trL trs ++ [13, 10]) := by
    rw [w1, app_l', hlb]
    show _ ++ [13, 10] = _
    simp
  have hp : parseC (toB [48]) = (0, [], 0) := by decide +kernel
  rw [pieces_run l Dc.new rfl rfl rfl (by show 0 + _ ≤ _; omega) (by decide)]
  have e0 : ({ Dc.new with sum := Dc.new.sum + l.flatten.length } : Dc) = ⟨0, [], 0, l.flatten.length, 0, []⟩ := by
    unfold Dc.new; simp
  rw [e0, hll]
  have h1 := plain_run (L := 65536) (d := ⟨0, [], 0, l.flatten.length, 0, []⟩) (.inl rfl) [48] [] (trL trs ++ 13 :: 10 :: r) rfl (fun b hb => by have h48 : b = 48 := (by simpa using hb); subst h48; decide) (by simp) (by simp)
  rw [Dc.put_nil] at h1
  have he : endD ((⟨0, [], 0, l.flatten.length, 0, []⟩ : Dc).next (([] ++ [(48 : UInt8)]).length + 2)) (toB ([] ++ [48])) = (⟨3, [], 0, l.flatten.length, 0, []⟩, false, 0) := by
    have e7 : sizeD ((⟨0, [], 0, l.flatten.length, 0, []⟩ : Dc).next (([] ++ [(48 : UInt8)]).length + 2)) (toB ([] ++ [48])) = (⟨3, [], 0, l.flatten.length, 0, []⟩, 0) := by
      unfold sizeD
      rw [List.nil_append, hp]
      have e8 : ¬ ((mostB : Int) - (((⟨0, [], 0, l.flatten.length, 0, []⟩ : Dc).next ([(48 : UInt8)].length + 2)).sum : Int) < 0) := by
        show ¬ ((mostB : Int) - (l.flatten.length : Int) < 0)
        omega
      dsimp only
      rw [if_neg (fun h => h rfl), if_neg e8, if_pos rfl]
      rfl
    rw [endD_zero rfl, e7]
  rw [he] at h1
  dsimp only at h1
  rw [if_neg noFin] at h1
  have e1 : 48 :: 13 :: 10 :: (trL trs ++ [13, 10]) ++ r = [48] ++ 13 :: 10 :: (trL trs ++ 13 :: 10 :: r) := by simp
  rw [e1, h1]
  obtain ⟨X, i1, i2, i3⟩ := trailers_run (L := 65536) trs ⟨3, [], 0, l.flatten.length, 0, []⟩ rfl rfl (fun f hf => ⟨hall f hf, by have := lineF_size f; have := hz f hf; omega⟩) (by show 0 + _ ≤ _; omega) (by show 0 + _ ≤ _; have : (trs.length + 1) * 302 ≤ 101 * 302 := Nat.mul_le_mul_right _ (by omega); omega) r
  refine ⟨X, ?_, by rw [i2]; rfl, i3⟩
  rw [i1]
  unfold Rs.more
  have hs : (lastW trs).1.size = 3 + (trL trs).length + 2 := by
    rw [← blen, hll]
    simp
    omega
  rw [hs]
  simp only [List.nil_append, List.append_nil, Rs.mk.injEq, and_true]
  simp
  omega
end Go.Proofs.YtookaenbpfpegaaDoor
