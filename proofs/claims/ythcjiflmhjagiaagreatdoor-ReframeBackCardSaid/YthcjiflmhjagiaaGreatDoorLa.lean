/- The last chunk, and trailers: by the program and by the document. No statement of its own. -/
import Derived.Test.YthcjiflmhjagiaaGreatDoorCk
import Derived.Test.YthcjiflmhjagiaaGreatDoorFd
import Derived.Test.YthcjiflmhjagiaaGreatDoorWk
set_option linter.unusedSimpArgs false
set_option linter.unusedVariables false
set_option maxRecDepth 100000
namespace Go.Proofs.YthcjiflmhjagiaaGreatDoor
open Go.RowKit
theorem strL_snoc (l : List ByteArray) (x : ByteArray) : strL l ++ [[.s x]] = strL (l ++ [x]) := by simp [strL]
/-- a row that is being built, out of one with something in it -/
inductive AccT (n : Nat) (tk : List Nat) (sz : Nat) : AV → List (List AV) → Prop
  | tight (e : List AV) (es : List (List AV)) : AccT n tk sz (.sl .tight sz (e :: es)) (e :: es)
  | own (t e : Nat) (es : List (List AV)) (hn : n ≤ t) (ht : tk[t]? = some e) : AccT n tk sz (.sl (.own t e) sz es) es
theorem AccT.form {n : Nat} {tk : List Nat} {sz : Nat} {a : AV} {es : List (List AV)} (h : AccT n tk sz a es) : a = .sl .tight sz es ∨ ∃ t e, a = .sl (.own t e) sz es := by
  cases h with
  | tight e es => exact .inl rfl
  | own t e es hn ht => exact .inr ⟨t, e, rfl⟩
theorem AccT.app {n : Nat} {st : St} {i : TI} {a : AV} {es ys : List (List AV)} {tg : Tk} {K : AV → St → Prop} (h : AccT n st.tk i.size a es) (hn : n ≤ st.tk.length) (hy : ys ≠ []) (hb : (es.length + ys.length) * i.bytes ≤ 140737488355328) (hm : es.length + ys.length ≤ maxLen)
    (hK : ∀ t e tk', n ≤ t → tk'[t]? = some e → n ≤ tk'.length → (∀ t, t < n → tk'[t]? = st.tk[t]?) → K (.sl (.own t e) i.size (es ++ ys)) ⟨st.heap, tk'⟩) : vcApp i a (.sl tg i.size ys) st K := by
  unfold vcApp srcA
  simp only [decide_true]
  cases h with
  | tight e es =>
    simp only [decide_true]
    refine ⟨fun e => absurd e hy, fun _ => ⟨hb, hm, ?_⟩⟩
    refine hK _ _ _ hn (by simp) (by simp; omega) (fun t ht => ?_)
    rw [List.getElem?_append_left (by omega)]
  | own t e es h1 h2 =>
    simp only [decide_true]
    have hlt := (List.getElem?_eq_some_iff.1 h2).1
    refine ⟨h2, hb, hm, hK _ _ _ h1 (by rw [List.getElem?_set_self hlt]) (by simpa using hn) (fun t' ht' => ?_)⟩
    rw [List.getElem?_set_ne (by omega)]
theorem add_empB (s : ByteArray) : s ++ (⟨#[]⟩ : ByteArray) = s := ByteArray.append_empty
def lastE : List Fld → Int
  | [] => 0
  | f :: r => if checkF f ≠ 0 then checkF f else lastE r
theorem lastE_at {l : List Fld} {k : Nat} (h : k < l.length) : lastE (l.drop k) = if checkF l[k] ≠ 0 then checkF l[k] else lastE (l.drop (k + 1)) := by
  rw [List.drop_eq_getElem_cons h, lastE]
def lastB (l : List Fld) : ByteArray := l.foldl (fun s f => s ++ lineF f ++ crlf) ⟨#[48, 13, 10]⟩
theorem lastB_at {l : List Fld} {k : Nat} (h : k < l.length) : lastB (l.take (k + 1)) = lastB (l.take k) ++ lineF l[k] ++ crlf := by
  rw [List.take_succ_eq_append_getElem h]
  unfold lastB
  rw [List.foldl_append]
  rfl
def lastW (l : List Fld) : ByteArray × Int := if lastE l ≠ 0 then (⟨#[]⟩, lastE l) else if 100 < l.length then (⟨#[]⟩, 3) else (lastB l ++ crlf, 0)
theorem lastB_size {l : List Fld} (h : ∀ f ∈ l, f.1.size ≤ 1100000 ∧ f.2.size ≤ 1100000) : ∀ k, k ≤ l.length → (lastB (l.take k)).size ≤ 3 + k * 2200004
  | 0, _ => Nat.le_refl _
  | k + 1, hk => by
    have := lastB_size h k (by omega)
    have := lineF_size l[k]
    have := h _ (List.getElem_mem (show k < l.length by omega))
    rw [lastB_at (by omega), app_size, app_size, crlf_size]
    omega
def lineL (l : List Fld) : List ByteArray := ⟨#[48]⟩ :: l.map lineF
theorem lineL_len (l : List Fld) : (lineL l).length = l.length + 1 := by simp [lineL]
theorem lineL_at {l : List Fld} {k : Nat} (h : k < l.length) : lineL (l.take (k + 1)) = lineL (l.take k) ++ [lineF l[k]] := by
  rw [List.take_succ_eq_append_getElem h]
  unfold lineL
  rw [List.map_append]
  rfl
theorem joinC_last (l : List Fld) : ∀ k, k ≤ l.length → joinC crlf (lineL (l.take k)) ++ crlf = lastB (l.take k)
  | 0, _ => by
    show joinC crlf [⟨#[48]⟩] ++ crlf = _
    rw [joinC_one]
    rfl
  | k + 1, hk => by
    rw [lineL_at (by omega), joinC_snoc _ (lineL (l.take k)) _ (List.cons_ne_nil _ _), lastB_at (by omega), ← joinC_last l k (by omega)]
theorem joinC_end (l : List Fld) : joinC crlf (lineL l ++ [⟨#[]⟩, ⟨#[]⟩]) = lastB l ++ crlf := by
  have h := joinC_last l l.length (Nat.le_refl _)
  rw [List.take_of_length_le (Nat.le_refl _)] at h
  rw [show lineL l ++ [⟨#[]⟩, ⟨#[]⟩] = (lineL l ++ [⟨#[]⟩]) ++ [⟨#[]⟩] by simp, joinC_snoc _ _ _ (by simp), joinC_snoc _ (lineL l) _ (List.cons_ne_nil _ _), add_empB, add_empB, h]
section
attribute [local irreducible] vcApp
theorem clast_p (l : List Fld) (hl : l.length ≤ 1000) (hz : ∀ f ∈ l, f.1.size ≤ 1100000 ∧ f.2.size ≤ 1100000) : APure Tryz.prog 37 [.sl .no 2 (fldL l)] (.tup [.s (lastW l).1, .i (lastW l).2]) [] := by
  have hmx : maxLen = 9223372036854775807 := rfl
  have el := fldL_len l
  have hbs := lastB_size hz l.length (Nat.le_refl _)
  rw [List.take_of_length_le (Nat.le_refl _)] at hbs
  refine APure.of rfl (ACalls.of_vc T_ok mixed Tryz.func37 rfl Tryz.call37 ?_)
  refine vc_loop [12, 4] (fun g vals st' => ∃ (k : Nat) (a' : AV), k + g = l.length ∧ vals = [.i k, a'] ∧ AccT 0 st'.tk 1 a' (strL (lineL (l.take k))) ∧ lastE l = lastE (l.drop k)) l.length rfl ⟨0, _, by omega, rfl, .tight _ _, rfl⟩ ?_
  rintro g vals st' ⟨k, a', hk, rfl, hA, hE⟩
  rcases hA.form with rfl | ⟨t, e, rfl⟩
  · skip
    refine cnd_split (fun hd => ?_) (fun hd => ?_)
    · have hd := of_decide_eq_true hd
      have k1 : k < l.length := by omega
      obtain ⟨z1, z2⟩ := hz _ (List.getElem_mem k1)
      rw [lastE_at k1] at hE
      have q1 := ftext_p l[k].1 l[k].2 (by omega) (by omega)
      rw [textF_line] at q1
      refine ⟨k, _, rfl, fldL_at k1, ?_⟩
      refine ⟨_, last_at _ _, ?_⟩
      refine ⟨_, last_upd _ _ _, ?_⟩
      refine .p rfl q1 ?_
      by_cases hc : checkF l[k] ≠ 0
      · rw [if_pos hc]
        rw [if_pos hc] at hE
        refine cnd_split (fun h2 => ?_) (fun h2 => absurd (bne_eq_false_iff_eq.1 h2) hc)
        unfold lastW
        rw [if_pos (by rw [hE]; exact hc), hE]
        rfl
      · rw [if_neg hc]
        rw [if_neg hc] at hE
        have hLl : (lineL (l.take k)).length ≤ 1001 := by rw [lineL_len, List.length_take]; omega
        have esl := strL_len (lineL (l.take k))
        refine AccT.app (n := 0) (i := ti9) hA (Nat.zero_le _) (List.cons_ne_nil _ _) ?_ ?_ (fun t1 e1 tk1 q0 q1 q2 q3 => ?_)
        · show ((strL _).length + 1) * 16 ≤ _; omega
        · show (strL _).length + 1 ≤ _; omega
        intro c hc
        rw [IntWalk.i64_in _ (by omega)] at hc
        obtain rfl : c = ((k + 1 : Nat) : Int) := by omega
        refine ⟨g - 1, by omega, k + 1, _, by omega, rfl, ?_, hE⟩
        rw [lineL_at k1, ← strL_snoc]
        exact .own _ _ _ q0 q1
    · have hd := of_decide_eq_false hd
      have hkl : k = l.length := by omega
      have hlk : lineL (l.take k) = lineL l := by rw [hkl, List.take_of_length_le (Nat.le_refl _)]
      rw [hkl, List.drop_length] at hE
      have hE : lastE l = 0 := hE
      unfold lastW
      rw [if_neg (fun h => h hE)]
      refine cnd_split (fun h2 => ?_) (fun h2 => ?_)
      · have h2 := of_decide_eq_true h2
        rw [if_pos (by omega)]
        rfl
      · have h2 := of_decide_eq_false h2
        rw [if_neg (by omega)]
        have hLl : (lineL (l.take k)).length ≤ 1001 := by rw [hlk, lineL_len]; omega
        have esl := strL_len (lineL (l.take k))
        have hq := qjoin_p crlf (lineL l ++ [⟨#[]⟩, ⟨#[]⟩]) (by rw [List.length_append, ← hlk]; show _ + 2 ≤ _; omega) (by
          rw [joinC_end, app_size, crlf_size]; omega)
        rw [joinC_end] at hq
        refine AccT.app (n := 0) (i := ti9) hA (Nat.zero_le _) (List.cons_ne_nil _ _) ?_ ?_ (fun t1 e1 tk1 q0 q1 q2 q3 => ?_)
        · show ((strL _).length + 2) * 16 ≤ _; omega
        · show (strL _).length + 2 ≤ _; omega
        rw [show strL (lineL (l.take k)) ++ [[.s ⟨#[]⟩], [.s ⟨#[]⟩]] = strL (lineL l ++ [⟨#[]⟩, ⟨#[]⟩]) by rw [hlk]; simp [strL]]
        refine .p rfl hq ?_
        rfl
  · skip
    refine cnd_split (fun hd => ?_) (fun hd => ?_)
    · have hd := of_decide_eq_true hd
      have k1 : k < l.length := by omega
      obtain ⟨z1, z2⟩ := hz _ (List.getElem_mem k1)
      rw [lastE_at k1] at hE
      have q1 := ftext_p l[k].1 l[k].2 (by omega) (by omega)
      rw [textF_line] at q1
      refine ⟨k, _, rfl, fldL_at k1, ?_⟩
      refine ⟨_, last_at _ _, ?_⟩
      refine ⟨_, last_upd _ _ _, ?_⟩
      refine .p rfl q1 ?_
      by_cases hc : checkF l[k] ≠ 0
      · rw [if_pos hc]
        rw [if_pos hc] at hE
        refine cnd_split (fun h2 => ?_) (fun h2 => absurd (bne_eq_false_iff_eq.1 h2) hc)
        unfold lastW
        rw [if_pos (by rw [hE]; exact hc), hE]
        rfl
      · rw [if_neg hc]
        rw [if_neg hc] at hE
        have hLl : (lineL (l.take k)).length ≤ 1001 := by rw [lineL_len, List.length_take]; omega
        have esl := strL_len (lineL (l.take k))
        refine AccT.app (n := 0) (i := ti9) hA (Nat.zero_le _) (List.cons_ne_nil _ _) ?_ ?_ (fun t1 e1 tk1 q0 q1 q2 q3 => ?_)
        · show ((strL _).length + 1) * 16 ≤ _; omega
        · show (strL _).length + 1 ≤ _; omega
        intro c hc
        rw [IntWalk.i64_in _ (by omega)] at hc
        obtain rfl : c = ((k + 1 : Nat) : Int) := by omega
        refine ⟨g - 1, by omega, k + 1, _, by omega, rfl, ?_, hE⟩
        rw [lineL_at k1, ← strL_snoc]
        exact .own _ _ _ q0 q1
    · have hd := of_decide_eq_false hd
      have hkl : k = l.length := by omega
      have hlk : lineL (l.take k) = lineL l := by rw [hkl, List.take_of_length_le (Nat.le_refl _)]
      rw [hkl, List.drop_length] at hE
      have hE : lastE l = 0 := hE
      unfold lastW
      rw [if_neg (fun h => h hE)]
      refine cnd_split (fun h2 => ?_) (fun h2 => ?_)
      · have h2 := of_decide_eq_true h2
        rw [if_pos (by omega)]
        rfl
      · have h2 := of_decide_eq_false h2
        rw [if_neg (by omega)]
        have hLl : (lineL (l.take k)).length ≤ 1001 := by rw [hlk, lineL_len]; omega
        have esl := strL_len (lineL (l.take k))
        have hq := qjoin_p crlf (lineL l ++ [⟨#[]⟩, ⟨#[]⟩]) (by rw [List.length_append, ← hlk]; show _ + 2 ≤ _; omega) (by
          rw [joinC_end, app_size, crlf_size]; omega)
        rw [joinC_end] at hq
        refine AccT.app (n := 0) (i := ti9) hA (Nat.zero_le _) (List.cons_ne_nil _ _) ?_ ?_ (fun t1 e1 tk1 q0 q1 q2 q3 => ?_)
        · show ((strL _).length + 2) * 16 ≤ _; omega
        · show (strL _).length + 2 ≤ _; omega
        rw [show strL (lineL (l.take k)) ++ [[.s ⟨#[]⟩], [.s ⟨#[]⟩]] = strL (lineL l ++ [⟨#[]⟩, ⟨#[]⟩]) by rw [hlk]; simp [strL]]
        refine .p rfl hq ?_
        rfl
end
theorem rlast_p (l : List Fld) (hl : l.length ≤ 1000) (hz : ∀ f ∈ l, f.1.size ≤ 1100000 ∧ f.2.size ≤ 1100000) : APure Tryz.prog 18 [.sl .no 2 (fldL l)] (.tup [.s (lastW l).1, .i (lastW l).2]) [] := by
  have hmx : maxLen = 9223372036854775807 := rfl
  have el := fldL_len l
  refine APure.of rfl (ACalls.of_vc T_ok mixed Tryz.func18 rfl Tryz.call18 ?_)
  refine vc_loop [4, 5] (fun g vals st' => ∃ (k : Nat) (S : ByteArray), k + g = l.length ∧ vals = [.s S, .i k] ∧ S = lastB (l.take k) ∧ lastE l = lastE (l.drop k)) l.length rfl ⟨0, _, by omega, rfl, rfl, rfl⟩ ?_
  rintro g vals st' ⟨k, S, hk, rfl, hS, hE⟩
  have hSz := lastB_size hz k (by omega)
  rw [← hS] at hSz
  refine cnd_split (fun hd => ?_) (fun hd => ?_)
  · have hd := of_decide_eq_true hd
    have k1 : k < l.length := by omega
    obtain ⟨z1, z2⟩ := hz _ (List.getElem_mem k1)
    rw [lastE_at k1] at hE
    have hls := lineF_size l[k]
    have hn := lastB_at k1
    rw [← hS] at hn
    refine ⟨k, _, rfl, fldL_at k1, ?_⟩
    refine .p rfl (rcheck_p l[k].1 l[k].2 (by omega) (by omega)) ?_
    refine cnd_split (fun h2 => ?_) (fun h2 => ?_)
    · have h2 : checkF l[k] ≠ 0 := bne_iff_ne.1 h2
      rw [if_pos h2] at hE
      unfold lastW
      rw [if_pos (by rw [hE]; exact h2), hE]
      rfl
    · have h2 : checkF l[k] = 0 := bne_eq_false_iff_eq.1 h2
      rw [if_neg (fun h => h h2)] at hE
      refine ⟨k, _, rfl, fldL_at k1, ?_⟩
      refine .p rfl (rline_p l[k].1 l[k].2 (by omega) (by omega)) ?_
      refine ⟨by show S.size + (lineF l[k]).size ≤ _; omega, ?_⟩
      refine ⟨by rw [app_size]; show S.size + (lineF l[k]).size + 2 ≤ _; omega, ?_⟩
      intro c hc
      rw [IntWalk.i64_in _ (by omega)] at hc
      obtain rfl : c = ((k + 1 : Nat) : Int) := by omega
      exact ⟨g - 1, by omega, k + 1, _, by omega, rfl, hn.symm, hE⟩
  · have hd := of_decide_eq_false hd
    have hkl : k = l.length := by omega
    rw [hkl, List.take_of_length_le (Nat.le_refl _)] at hS
    rw [hkl, List.drop_length] at hE
    have hE : lastE l = 0 := hE
    unfold lastW
    rw [if_neg (fun h => h hE)]
    refine cnd_split (fun h2 => ?_) (fun h2 => ?_)
    · have h2 := of_decide_eq_true h2
      rw [if_pos (by omega)]
      rfl
    · have h2 := of_decide_eq_false h2
      rw [if_neg (by omega), ← hS]
      refine ⟨by show S.size + 2 ≤ _; omega, ?_⟩
      rfl
theorem lastW_nil : lastW [] = (⟨#[48, 13, 10, 13, 10]⟩, 0) := by
  unfold lastW
  rw [if_neg (fun h => h rfl), if_neg (by simp)]
  rfl
theorem fldL_cut (l : List Fld) (m : Nat) : ((fldL l).drop 0).take (m - 0) = fldL (l.take m) := by simp [fldL]
end Go.Proofs.YthcjiflmhjagiaaGreatDoor
