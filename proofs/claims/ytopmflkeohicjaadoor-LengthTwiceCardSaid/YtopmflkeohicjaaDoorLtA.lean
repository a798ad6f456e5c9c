/- How bodies end: requests and responses; the law. No statement of its own. -/
import Derived.Test.YtopmflkeohicjaaDoorLn3
import Derived.Lib.ItoaNum
set_option maxRecDepth 100000
namespace Go.Proofs.YtopmflkeohicjaaDoor
open Go.RowKit
def headS : ByteArray := ⟨#[72, 69, 65, 68]⟩
def connS : ByteArray := ⟨#[67, 79, 78, 78, 69, 67, 84]⟩
def bodB (m : ByteArray) (c : Int) : Bool := decide (m = headS) || decide (c < 200) || c == 204 || c == 304 || (decide (m = connS) && decide (c < 300))
def respW (l : List Fld) (m : ByteArray) (c mi : Int) : Fr3 := if bodB m c = true then (1, 0, 0) else ofW l mi 4
theorem bodiless_p (m : ByteArray) (c : Int) : APure Tryd.prog 89 [.s m, .i c] (.b (bodB m c)) [] := by
  refine APure.of rfl (ACalls.of_vc T_ok mixed Tryd.func89 rfl Tryd.call89 ?_)
  unfold bodB
  intro a ha
  cases a with
  | true =>
    rw [decide_eq_true (show m = headS from ha.1 rfl)]
    exact retb rfl
  | false =>
    rw [decide_eq_false (show ¬ m = headS from fun e => by have := ha.2 e; cases this)]
    refine cnd_split (fun h1 => ?_) (fun h1 => ?_)
    · rw [h1]; exact retb rfl
    rw [h1]
    refine cnd_split (fun h2 => ?_) (fun h2 => ?_)
    · rw [h2]; exact retb rfl
    rw [h2]
    refine cnd_split (fun h3 => ?_) (fun h3 => ?_)
    · rw [h3]; exact retb rfl
    rw [h3]
    intro b hb
    cases b with
    | true =>
      rw [decide_eq_true (show m = connS from hb.1 rfl)]
      exact retb rfl
    | false =>
      rw [decide_eq_false (show ¬ m = connS from fun e => by have := hb.2 e; cases this)]
      exact retb rfl
theorem request_p (k c mi : Int) (m t r : ByteArray) (l : List Fld) (hl : FldOk l) : APure Tryd.prog 27 [hdA k c mi m t r (.sl .no 2 (fldL l))] (frA (ofW l mi 1)) [] := by
  refine APure.of rfl (ACalls.of_vc T_ok mixed Tryd.func27 rfl Tryd.call27 ?_)
  refine ⟨_, rfl, ?_⟩
  refine .p rfl (of_p k c mi 1 m t r l hl) ?_
  refine ⟨_, rfl, ?_⟩
  refine ⟨_, rfl, ?_⟩
  rfl
theorem response_p (k c mi : Int) (mth m t r : ByteArray) (l : List Fld) (hl : FldOk l) : APure Tryd.prog 29 [.s mth, hdA k c mi m t r (.sl .no 2 (fldL l))] (frA (respW l mth c mi)) [] := by
  have hR : respW l mth c mi = if bodB mth c = true then (1, 0, 0) else ofW l mi 4 := rfl
  generalize respW l mth c mi = Z at hR
  refine APure.of rfl (ACalls.of_vc T_ok mixed Tryd.func29 rfl Tryd.call29 ?_)
  refine ⟨_, rfl, ?_⟩
  refine .p rfl (bodiless_p mth c) ?_
  refine cnd_split (fun h => ?_) (fun h => ?_)
  · rw [if_pos h] at hR
    refine ⟨_, rfl, ?_⟩
    refine ⟨_, rfl, ?_⟩
    exact (by rw [hR]; rfl)
  · rw [if_neg (by rw [h]; decide)] at hR
    refine ⟨_, rfl, ?_⟩
    refine .p rfl (of_p k c mi 4 m t r l hl) ?_
    refine ⟨_, rfl, ?_⟩
    refine ⟨_, rfl, ?_⟩
    exact (by rw [hR]; rfl)
theorem resp17_p (k c mi : Int) (mth m t r : ByteArray) (l : List Fld) (hl : FldOk l) : APure Tryd.prog 30 [.s mth, hdA k c mi m t r (.sl .no 2 (fldL l))] (frA (respW l mth c mi)) [] := by
  have hR : respW l mth c mi = if bodB mth c = true then (1, 0, 0) else ofW l mi 4 := rfl
  generalize respW l mth c mi = Z at hR
  have yes : bodB mth c = true → Z = (1, 0, 0) := fun h => by rw [hR, if_pos h]
  have no : bodB mth c = false → Z = ofW l mi 4 := fun h => by rw [hR, if_neg (by rw [h]; decide)]
  clear hR
  have hB : ∀ x1 x2 x3 x4 x5 : Bool, (x1 = true ↔ mth = headS) → x2 = decide (c < 200) → x3 = (c == 204) → x4 = (c == 304) → (x5 = true ↔ mth = connS ∧ c ≤ 299) → (x1 || x2 || x3 || x4 || x5) = bodB mth c := fun x1 x2 x3 x4 x5 h1 h2 h3 h4 h5 => by
    unfold bodB
    have e1 : x1 = decide (mth = headS) := by rw [Bool.eq_iff_iff, h1, decide_eq_true_eq]
    have e5 : x5 = (decide (mth = connS) && decide (c < 300)) := by
      rw [Bool.eq_iff_iff, h5, Bool.and_eq_true, decide_eq_true_eq, decide_eq_true_eq]
      exact and_congr_right fun _ => by omega
    rw [e1, h2, h3, h4, e5]
  generalize bodB mth c = B at yes no hB
  refine APure.of rfl (ACalls.of_vc T_ok mixed Tryd.func30 rfl Tryd.call30 ?_)
  intro a ha
  cases a with
  | true =>
    have hb := hB true _ _ _ _ ha rfl rfl rfl (by rw [decide_eq_true_eq (p := mth = connS ∧ c ≤ 299)])
    have hb : B = true := by rw [← hb]; simp
    refine ⟨_, rfl, ?_⟩
    refine ⟨_, rfl, ?_⟩
    exact (by rw [yes hb]; rfl)
  | false =>
    refine ⟨_, rfl, ?_⟩
    refine cnd_split (fun h1 => ?_) (fun h1 => ?_)
    · have hb := hB false _ _ _ _ ha h1.symm rfl rfl (by rw [decide_eq_true_eq (p := mth = connS ∧ c ≤ 299)])
      have hb : B = true := by rw [← hb]; simp
      refine ⟨_, rfl, ?_⟩
      refine ⟨_, rfl, ?_⟩
      exact (by rw [yes hb]; rfl)
    refine ⟨_, rfl, ?_⟩
    refine cnd_split (fun h2 => ?_) (fun h2 => ?_)
    · have hb := hB false _ _ _ _ ha h1.symm h2.symm rfl (by rw [decide_eq_true_eq (p := mth = connS ∧ c ≤ 299)])
      have hb : B = true := by rw [← hb]; simp
      refine ⟨_, rfl, ?_⟩
      refine ⟨_, rfl, ?_⟩
      exact (by rw [yes hb]; rfl)
    refine ⟨_, rfl, ?_⟩
    refine cnd_split (fun h3 => ?_) (fun h3 => ?_)
    · have hb := hB false _ _ _ _ ha h1.symm h2.symm h3.symm (by rw [decide_eq_true_eq (p := mth = connS ∧ c ≤ 299)])
      have hb : B = true := by rw [← hb]; simp
      refine ⟨_, rfl, ?_⟩
      refine ⟨_, rfl, ?_⟩
      exact (by rw [yes hb]; rfl)
    intro b hb
    cases b with
    | true =>
      have hm : mth = connS := hb.1 rfl
      refine ⟨_, rfl, ?_⟩
      refine cnd_split (fun h4 => ?_) (fun h4 => ?_)
      · have h4 := of_decide_eq_true h4
        have hb := hB false _ _ _ true ha h1.symm h2.symm h3.symm ⟨fun _ => ⟨hm, h4⟩, fun _ => rfl⟩
        have hb : B = true := by rw [← hb]; rfl
        refine ⟨_, rfl, ?_⟩
        refine ⟨_, rfl, ?_⟩
        exact (by rw [yes hb]; rfl)
      · have h4 := of_decide_eq_false h4
        have hb := hB false _ _ _ false ha h1.symm h2.symm h3.symm ⟨fun h => by (cases h), fun h => absurd h.2 h4⟩
        have hb : B = false := by rw [← hb]; rfl
        refine ⟨_, rfl, ?_⟩
        refine .p rfl (of17_p k c mi 4 m t r l hl) ?_
        refine ⟨_, rfl, ?_⟩
        refine ⟨_, rfl, ?_⟩
        exact (by rw [no hb]; rfl)
    | false =>
      have hm : ¬ mth = connS := fun e => by have := hb.2 e; cases this
      have hb := hB false _ _ _ false ha h1.symm h2.symm h3.symm ⟨fun h => by (cases h), fun h => absurd h.1 hm⟩
      have hb : B = false := by rw [← hb]; rfl
      refine ⟨_, rfl, ?_⟩
      refine .p rfl (of17_p k c mi 4 m t r l hl) ?_
      refine ⟨_, rfl, ?_⟩
      refine ⟨_, rfl, ?_⟩
      exact (by rw [no hb]; rfl)
def exL1 : List Fld := [(⟨#[67, 111, 110, 116, 101, 110, 116, 45, 76, 101, 110, 103, 116, 104]⟩, ⟨#[53, 44, 32, 48, 53]⟩)]
def exL2 : List Fld := exL1 ++ [(teS, chkS)]
theorem ex1 : ofW exL1 1 1 = (2, 5, 0) := by decide +kernel
theorem ex2 : ofW exL2 1 1 = (0, 0, 29) := by decide +kernel
theorem exOk1 : FldOk exL1 := ⟨by decide, by decide⟩
theorem exOk2 : FldOk exL2 := ⟨by decide, by decide⟩
theorem awake17_p : APure Tryd.prog 25 [] (.b true) [] := by
  have r1 := request_p 1 0 1 .empty .empty .empty exL1 exOk1
  have r2 := request_p 1 0 1 .empty .empty .empty exL2 exOk2
  rw [ex1] at r1
  rw [ex2] at r2
  refine APure.of rfl (ACalls.of_vc T_ok mixed Tryd.func25 rfl Tryd.call25 ?_)
  refine ⟨_, rfl, ?_⟩
  refine ⟨_, rfl, ?_⟩
  refine .w rfl (hdW1 exL1 (.inl ⟨rfl, rfl⟩)) r1 ?_
  refine ⟨_, rfl, ?_⟩
  refine ⟨_, rfl, ?_⟩
  refine ⟨fun e => by simp at e, fun _ => ⟨by decide, by decide, ?_⟩⟩
  refine ⟨_, rfl, ?_⟩
  refine ⟨_, rfl, ?_⟩
  refine .w rfl (hdW1 exL2 (.inl ⟨rfl, rfl⟩)) r2 ?_
  refine ⟨_, rfl, ?_⟩
  refine ⟨_, rfl, ?_⟩
  refine ⟨by kernel_rfl, fun q hq => ?_⟩
  have : q = true := hq.2 ⟨rfl, rfl, trivial⟩
  subst this
  rfl
theorem lengthFrames_p (k c mi : Int) (mth m t r : ByteArray) (l : List Fld) : APure Tryd.prog 6 [hdA k c mi m t r (.sl .no 2 (fldL l)), .s mth] (.b true) [] := by
  have hok := FldOk.few l
  have a1 := request_p k c mi (cut400 m) (cut400 t) (cut400 r) (fewF l) hok
  have a2 := of17_p k c mi 1 (cut400 m) (cut400 t) (cut400 r) (fewF l) hok
  have a3 := response_p k c mi mth (cut400 m) (cut400 t) (cut400 r) (fewF l) hok
  have a4 := resp17_p k c mi mth (cut400 m) (cut400 t) (cut400 r) (fewF l) hok
  generalize ofW (fewF l) mi 1 = X at a1 a2
  generalize respW (fewF l) mth c mi = Y at a3 a4
  have fw := few_h k c mi m t r l
  generalize fewF l = fl at *
  generalize cut400 m = m' at *
  generalize cut400 t = t' at *
  generalize cut400 r = r' at *
  refine APure.of rfl (ACalls.of_vc T_ok mixed Tryd.func6 rfl Tryd.call6 ?_)
  refine .p rfl awake17_p ?_
  refine ⟨_, rfl, ?_⟩
  refine .p rfl fw ?_
  refine ⟨_, rfl, ?_⟩
  refine ⟨_, rfl, ?_⟩
  refine .p rfl a1 ?_
  refine ⟨_, rfl, ?_⟩
  refine ⟨_, rfl, ?_⟩
  refine .p rfl a2 ?_
  refine ⟨_, rfl, ?_⟩
  refine ⟨_, rfl, ?_⟩
  refine .p rfl a3 ?_
  refine ⟨_, rfl, ?_⟩
  refine ⟨_, rfl, ?_⟩
  refine .p rfl a4 ?_
  refine ⟨_, rfl, ?_⟩
  refine ⟨_, rfl, ?_⟩
  refine ⟨_, rfl, ?_⟩
  refine ⟨by kernel_rfl, fun q hq => ?_⟩
  have : q = true := hq.2 ⟨rfl, rfl, trivial⟩
  subst this
  refine cnd_split (fun h => ?_) (fun h => ?_)
  case refine_2 => exact absurd (beq_eq_false_iff_ne.1 h) (fun h => h rfl)
  refine ⟨_, rfl, ?_⟩
  refine ⟨_, rfl, ?_⟩
  refine ⟨by kernel_rfl, fun q hq => ?_⟩
  have : q = true := hq.2 ⟨rfl, rfl, trivial⟩
  subst this
  exact retb (by simp)
theorem dec_digs : ∀ (n : Nat), Lib.decDigits n = (digs 10 n).map dgt := by
  intro n
  induction n using Nat.strongRecOn with
  | _ n ih =>
    have d10 : ∀ k : Nat, k < 10 → UInt8.ofNat (48 + k) = dgt k := by decide
    by_cases h : n < 10
    · rw [digs_low h, Lib.decDigits, dif_pos h, d10 n h]; rfl
    · rw [digs_high h (by omega), Lib.decDigits, dif_neg h, ih (n / 10) (by omega), d10 (n % 10) (by omega), List.map_append]; rfl
def textW (n : Nat) : ByteArray := digB 10 n
theorem itoa_text (n : Nat) : (⟨(Lib.itoa (n : Int)).toArray⟩ : ByteArray) = textW n := by
  unfold Lib.itoa textW digB
  rw [if_neg (by omega), Int.toNat_natCast, dec_digs]
theorem text_size {n : Nat} (h : n < 2 ^ 63) : (textW n).size ≤ 64 := digB_size (by omega) h
theorem digV_digB (n : Nat) : digV (digB 10 n) = digs 10 n := by
  obtain ⟨_, h2, _⟩ := digs_facts (B := 10) (by omega) n
  unfold digV digB
  show ((digs 10 n).map dgt).toArray.toList.map _ = _
  rw [List.toList_toArray, List.map_map]
  conv => rhs; rw [← List.map_id (digs 10 n)]
  refine List.map_congr_left fun d hd => ?_
  have := (dgt_worth d (by have := h2 d hd; omega)).2
  simp [this]
theorem text_dig (n : Nat) : ∀ b ∈ (textW n).data.toList, ∃ d, d < 10 ∧ b = dgt d := fun b hb => by
  obtain ⟨_, h2, _⟩ := digs_facts (B := 10) (by omega) n
  have hb : b ∈ (digs 10 n).map dgt := by
    have : (textW n).data.toList = (digs 10 n).map dgt := by unfold textW digB; show ((digs 10 n).map dgt).toArray.toList = _; rw [List.toList_toArray]
    rwa [this] at hb
  obtain ⟨d, hd, rfl⟩ := List.mem_map.1 hb
  exact ⟨d, h2 d hd, rfl⟩
theorem text_pos (n : Nat) : 0 < (textW n).size := by
  obtain ⟨_, _, h3, _⟩ := digs_facts (B := 10) (by omega) n
  have : (textW n).size = (digs 10 n).length := by unfold textW digB; show ((digs 10 n).map dgt).toArray.size = _; rw [List.size_toArray, List.length_map]
  rw [this]
  exact List.length_pos_iff.2 h3.1
theorem readG_text (n : Nat) : readG 10 (textW n) mostB = if mostB < n then (0, 7) else ((n : Int), 0) := by
  have ha : allI (isD 10) (textW n) = true := by
    unfold allI
    refine List.all_eq_true.2 fun b hb => ?_
    obtain ⟨d, hd, rfl⟩ := text_dig n b hb
    obtain ⟨x1, x2⟩ := dgt_worth d (by omega)
    unfold isD
    rw [x1, x2]
    simp; omega
  have hp := text_pos n
  have hv : valN 10 (digV (textW n)) = n := by
    unfold textW
    rw [digV_digB]
    exact (digs_facts (B := 10) (by omega) n).1
  unfold readG
  rw [if_neg (fun h => h.elim (fun h => by omega) (fun h => by rw [ha] at h; cases h)), hv]
theorem num1_text (n : Nat) : num1 (textW n) = if mostB < n then none else some n := by
  unfold num1
  rw [readG_text]
  by_cases h : mostB < n
  · rw [if_pos h, if_pos h]; rfl
  · rw [if_neg h, if_neg h]; simp
theorem text_tok (n : Nat) : tokB (textW n) = true := by
  unfold tokB
  rw [Bool.and_eq_true, decide_eq_true_eq]
  refine ⟨text_pos n, ?_⟩
  unfold allI
  refine List.all_eq_true.2 fun b hb => ?_
  obtain ⟨d, hd, rfl⟩ := text_dig n b hb
  exact (by decide : ∀ d : Nat, d < 10 → tokI ((dgt d).toNat : Int) = true) d hd
theorem tok_byte' : ∀ m : Nat, m < 256 → tokI (m : Int) = true → blkI (m : Int) = false ∧ ((m : Int) == 44) = false ∧ ((m : Int) == 40) = false ∧ ((m : Int) == 34) = false := by decide +kernel
theorem tok_piece' {x : ByteArray} (h : tokB x = true) : Piece x := by
  unfold tokB at h
  rw [Bool.and_eq_true, decide_eq_true_eq] at h
  obtain ⟨h0, ha⟩ := h
  have hb : ∀ k (hk : k < x.size), blkI (x[k].toNat : Int) = false ∧ ((x[k].toNat : Int) == 44) = false ∧ ((x[k].toNat : Int) == 40) = false ∧ ((x[k].toNat : Int) == 34) = false := fun k hk =>
    tok_byte' x[k].toNat x[k].toNat_lt (allI_at ha k hk)
  refine ⟨h0, by rw [bkAt_lt h0]; exact (hb 0 h0).1, by rw [bkAt_lt (by omega)]; exact (hb _ (by omega)).1, ?_⟩
  have run : ∀ (m k : Nat), k + m = x.size → Run x k x.size := by
    intro m
    induction m with
    | zero => intro k hk; rw [show k = x.size by omega]; exact .nil _
    | succ m ih =>
      intro k hk
      obtain ⟨_, b, c, d⟩ := hb k (by omega)
      refine .step (i := k + 1) (by omega) (by rw [atB_lt (by omega)]; exact b) ?_ (ih (k + 1) (by omega))
      unfold stepW
      rw [atB_lt (by omega), atB_lt (by omega), atB_lt (by omega), b, c, d]
      rfl
  exact run x.size 0 (by omega)
theorem split_text (n : Nat) : splitW (textW n) = some [textW n] := by
  have := join_back [textW n] (fun y hy => by rw [List.mem_singleton.1 hy]; exact tok_piece' (text_tok n))
  rwa [joinC_one] at this
theorem restN_app (p : List ByteArray) (o : Option (List Nat)) (q : Option (List Nat)) : restN p (match o with | none => none | some a => q.map (a ++ ·)) = match restN p o with | none => none | some a => q.map (a ++ ·) := by
  induction p with
  | nil => rfl
  | cons t r ih =>
    unfold restN
    cases num1 t with
    | none => rfl
    | some n =>
      simp only
      rw [ih]
      cases restN r o with
      | none => rfl
      | some a => cases q <;> simp
theorem numsW_snoc (l : List ByteArray) (n : Nat) : numsW (l ++ [textW n]) = match numsW l with | none => none | some a => (if mostB < n then none else some [n]).map (a ++ ·) := by
  induction l with
  | nil =>
    show numsW [textW n] = _
    unfold numsW
    rw [split_text]
    simp only [restN, numsW]
    rw [num1_text]
    by_cases h : mostB < n
    · simp [h]
    · simp [h]
  | cons x r ih =>
    show numsW (x :: (r ++ [textW n])) = _
    unfold numsW
    cases splitW x with
    | none => rfl
    | some p =>
      simp only
      rw [ih]
      exact restN_app p (numsW r) _
theorem valsW_app (name : ByteArray) (l : List Fld) (f : Fld) : valsW name (l ++ [f]) = valsW name l ++ (if decide (foldB f.1 = foldB name) = true then [f.2] else []) := by
  unfold valsW
  rw [List.filter_append, List.map_append]
  congr 1
  by_cases hd : decide (foldB f.1 = foldB name) = true
  · rw [if_pos hd]; simp only [List.filter, hd]; rfl
  · rw [if_neg hd]; rw [Bool.not_eq_true] at hd; simp only [List.filter, hd]; rfl
def CLn : ByteArray := ⟨#[67, 111, 110, 116, 101, 110, 116, 45, 76, 101, 110, 103, 116, 104]⟩
def TEn : ByteArray := ⟨#[84, 114, 97, 110, 115, 102, 101, 114, 45, 69, 110, 99, 111, 100, 105, 110, 103]⟩
theorem vals_CL (l : List Fld) (t : ByteArray) : valsW teS (l ++ [(CLn, t)]) = valsW teS l ∧ valsW clS (l ++ [(CLn, t)]) = valsW clS l ++ [t] := by
  rw [valsW_app, valsW_app]
  have h1 : decide (foldB CLn = foldB teS) = false := by decide +kernel
  have h2 : decide (foldB CLn = foldB clS) = true := by decide +kernel
  exact ⟨by simp only [h1]; simp, by simp only [h2]; simp⟩
theorem vals_TE (l : List Fld) (t : ByteArray) : valsW teS (l ++ [(TEn, t)]) = valsW teS l ++ [t] ∧ valsW clS (l ++ [(TEn, t)]) = valsW clS l := by
  rw [valsW_app, valsW_app]
  have h1 : decide (foldB TEn = foldB teS) = true := by decide +kernel
  have h2 : decide (foldB TEn = foldB clS) = false := by decide +kernel
  exact ⟨by simp only [h1]; simp, by simp only [h2]; simp⟩
/-- a head whose body ends by a number -/
structure ByLen (l : List Fld) (N : Nat) : Prop where
  te : valsW teS l = []
  cl : valsW clS l ≠ []
  all : ∃ r, numsW (valsW clS l) = some (N :: r) ∧ ∀ x ∈ r, x = N
  le : N ≤ mostB
theorem restN_le : ∀ (p : List ByteArray) (o : Option (List Nat)) (a : List Nat), restN p o = some a → (∀ b, o = some b → ∀ x ∈ b, x ≤ mostB) → ∀ x ∈ a, x ≤ mostB
  | [], o, a, h, ho => ho a h
  | t :: r, o, a, h, ho => by
    unfold restN at h
    cases hn : num1 t with
    | none => rw [hn] at h; cases h
    | some n =>
      rw [hn] at h
      simp only at h
      cases hr : restN r o with
      | none => rw [hr] at h; cases h
      | some b =>
        rw [hr] at h
        cases h
        intro x hx
        rcases List.mem_cons.1 hx with rfl | hx
        · exact (num1_some hn).2.2
        · exact restN_le r o b hr ho x hx
theorem numsW_le : ∀ (l : List ByteArray) (a : List Nat), numsW l = some a → ∀ x ∈ a, x ≤ mostB
  | [], a, h => by cases h; simp
  | y :: r, a, h => by
    unfold numsW at h
    cases hs : splitW y with
    | none => rw [hs] at h; cases h
    | some p =>
      rw [hs] at h
      exact restN_le p _ a h fun b hb => numsW_le r b hb
theorem ofW_len {l : List Fld} {mi k n : Int} (h : ofW l mi 1 = (k, n, 0)) : (k ≠ 2 → n = 0) ∧ (k = 2 → ∃ N : Nat, n = N ∧ ByLen l N) := by
  unfold ofW at h
  split at h
  · rename_i ht
    split at h
    · cases h; exact ⟨fun _ => rfl, fun e => by cases e⟩
    · rename_i hc
      unfold lenOf at h
      split at h
      · cases h
      · cases h
      · rename_i N r hn
        split at h
        · rename_i hr
          cases h
          exact ⟨fun e => absurd rfl e, fun _ => ⟨N, rfl, ht, hc, ⟨r, hn, hr⟩, numsW_le _ _ hn N (.head _)⟩⟩
        · cases h
  · split at h
    · unfold codW at h
      split at h
      · split at h
        · cases h; exact ⟨fun _ => rfl, fun e => by cases e⟩
        · cases h
      · cases h
    · cases h
theorem ByLen.of {l : List Fld} {N : Nat} (h : ByLen l N) (mi : Int) : ofW l mi 1 = (2, (N : Int), 0) := by
  obtain ⟨r, h1, h2⟩ := h.all
  unfold ofW
  rw [if_pos h.te, if_neg h.cl, h1]
  show (if _ then _ else _) = _
  rw [if_pos h2]
theorem ByLen.more {l : List Fld} {N : Nat} (h : ByLen l N) : ByLen (l ++ [(CLn, textW N)]) N := by
  obtain ⟨v1, v2⟩ := vals_CL l (textW N)
  obtain ⟨r, h1, h2⟩ := h.all
  refine ⟨by rw [v1]; exact h.te, by rw [v2]; simp, ⟨r ++ [N], ?_, fun x hx => ?_⟩, h.le⟩
  · rw [v2, numsW_snoc, h1]
    have : ¬ mostB < N := by have := h.le; omega
    simp [this]
  · rcases List.mem_append.1 hx with hx | hx
    · exact h2 x hx
    · exact List.mem_singleton.1 hx
theorem ByLen.other {l : List Fld} {N n : Nat} (h : ByLen l N) (mi : Int) : ofW (l ++ [(CLn, textW n)]) mi 1 = if n = N then (2, (N : Int), 0) else errF 28 := by
  obtain ⟨v1, v2⟩ := vals_CL l (textW n)
  obtain ⟨r, h1, h2⟩ := h.all
  by_cases e : n = N
  · subst e
    rw [if_pos rfl]
    exact h.more.of mi
  · rw [if_neg e]
    unfold ofW
    rw [v1, v2, if_pos h.te, if_neg (by simp), numsW_snoc, h1]
    by_cases hm : mostB < n
    · simp [hm, lenOf]
    · have := lenOf_bad (n := N) (m := n) (r := r) (some []) e
      simpa [hm] using this
theorem ByLen.both {l : List Fld} {N : Nat} (h : ByLen l N) (t : ByteArray) (mi : Int) : ofW (l ++ [(TEn, t)]) mi 1 = errF 29 := by
  obtain ⟨v1, v2⟩ := vals_TE l t
  unfold ofW
  rw [v1, v2, if_neg (by simp), if_neg h.cl]
theorem u1 (h : List (List AV)) (x y z : List AV) : (((h ++ [x]) ++ [y]).set h.length z)[h.length]? = some z := by simp
theorem u2 (h : List (List AV)) (x y z w : List AV) : ((((h ++ [x]) ++ [y]).set h.length z).set h.length w)[h.length]? = some w := by simp
theorem u3 (h : List (List AV)) (x y z w v : List AV) : (((((h ++ [x]) ++ [y]).set h.length z).set h.length w).set h.length v) = (h ++ [v]) ++ [y] := by simp
theorem u1y (h : List (List AV)) (x x0 y z : List AV) : (((h ++ [x]) ++ [y]).set h.length z)[(h ++ [x0]).length]? = some y := by simp
theorem u1z (h : List (List AV)) (x x0 y z w : List AV) : ((((h ++ [x]) ++ [y]).set h.length z).set (h ++ [x0]).length w)[(h ++ [x0]).length]? = some w := by simp
theorem u1p (h : List (List AV)) (x x0 y z w : List AV) : (((h ++ [x]) ++ [y]).set h.length z).set (h ++ [x0]).length w = h ++ [z, w] := by simp
section
variable {st : St} {R : AV → St → Prop}
attribute [local irreducible] vcApp
set_option maxHeartbeats 2000000 in
theorem fewS_a (k c mi : Int) (m t r : ByteArray) (l : List Fld) (h : ∀ a st', Gr st st' → Acc st.tk.length st'.tk 2 a (fldL (fewF l)) → R (.agg [.i k, .s (cut400 m), .s (cut400 t), .i c, .s (cut400 r), .i mi, a]) st') :
    ACalls Tryd.prog 26 [hdA k c mi m t r (.sl .no 2 (fldL l))] st R := by
  have hmx : maxLen = 9223372036854775807 := rfl
  have el := fldL_len l
  refine ACalls.of_vc T_ok mixed Tryd.func26 rfl Tryd.call26 ?_
  refine ⟨_, at_fst _ _ _, ?_⟩
  refine .p rfl (few15_p m) ?_
  refine ⟨_, at_fst _ _ _, ?_⟩
  refine ⟨_, u1 _ _ _ _, ?_⟩
  refine .p rfl (few15_p t) ?_
  refine ⟨_, u1 _ _ _ _, ?_⟩
  refine ⟨_, u2 _ _ _ _ _, ?_⟩
  refine .p rfl (few15_p r) ?_
  refine ⟨_, u2 _ _ _ _ _, ?_⟩
  refine vc_loop [3, 4] (fun g vals st' => ∃ (j : Nat) (a : AV) (tk' : List Nat), j + g = 120 ∧ vals = [a, .i j] ∧ j ≤ l.length ∧ st' = ⟨(st.heap ++ [[.i k, .s (cut400 m), .s (cut400 t), .i c, .s (cut400 r), .i mi, .sl .no 2 (fldL l)]]) ++ [[.i 0, .s .empty, .s .empty, .i 0, .s .empty, .i 0, .nilS]], tk'⟩ ∧ st.tk.length ≤ tk'.length ∧ (∀ t, t < st.tk.length → tk'[t]? = st.tk[t]?) ∧ Acc st.tk.length tk' 2 a (fldL (fewF (l.take j)))) 120 rfl ⟨0, _, st.tk, by omega, rfl, Nat.zero_le _, congrArg (fun x => St.mk x st.tk) (u3 _ _ _ _ _ _), Nat.le_refl _, fun _ _ => rfl, .nil⟩ ?_
  rintro g vals st' ⟨j, a, tk', hj, rfl, hjl, rfl, htl, htk, hA⟩
  have fin : j = l.length ∨ 120 ≤ j → fewF (l.take j) = fewF l := fun h => by
    unfold fewF
    rw [List.take_take]
    rcases h with h | h
    · subst h
      rw [List.take_of_length_le (l := l) (i := l.length) (Nat.le_refl _)] at *
      by_cases h2 : l.length ≤ 120
      · rw [Nat.min_eq_right h2, List.take_of_length_le (Nat.le_refl _), List.take_of_length_le h2]
      · rw [Nat.min_eq_left (by omega)]
    · rw [Nat.min_eq_left h]
  have al := fldL_len (fewF (l.take j))
  have al2 : (fewF (l.take j)).length ≤ 120 := fewF_len _
  generalize hes : fldL (fewF (l.take j)) = es at hA al
  cases hA with
  | nil =>
    refine ⟨_, at_fst _ _ _, ?_⟩
    refine cnd_split (fun hd => ?_) (fun hd => ?_)
    · have hd := of_decide_eq_true hd
      have j1 : j < l.length := by omega
      refine cnd_split (fun hd2 => ?_) (fun hd2 => ?_)
      · have hd2 := of_decide_eq_true hd2
        refine .x (by kernel_rfl) ?_
        refine ⟨_, at_fst _ _ _, ?_⟩
        refine ⟨j, _, rfl, fldL_at j1, ?_⟩
        refine .p rfl (few15_p _) ?_
        refine ⟨_, at_fst _ _ _, ?_⟩
        refine ⟨j, _, rfl, fldL_at j1, ?_⟩
        refine .p rfl (few15_p _) ?_
        refine Acc.app (n := st.tk.length) (i := ti75) (es := []) .nil htl (List.cons_ne_nil _ _) ?_ ?_ (fun t9 e9 tk9 z0 z1 z2 z3 => ?_)
        · show (([] : List (List AV)).length + 1) * 32 ≤ _; omega
        · show ([] : List (List AV)).length + 1 ≤ _; omega
        intro c hc
        rw [IntWalk.i64_in _ (by omega)] at hc
        obtain rfl : c = ((j + 1 : Nat) : Int) := by omega
        refine ⟨g - 1, by omega, j + 1, _, _, by omega, rfl, j1, rfl, z2, fun t ht => (z3 t ht).trans (htk t ht), ?_⟩
        have e : fldL (fewF (l.take (j + 1))) = fldL (fewF (l.take j)) ++ [[.s (cut400 l[j].1), .s (cut400 l[j].2)]] := by
          rw [fldL_app]
          congr 1
          unfold fewF
          rw [List.take_take, List.take_take, Nat.min_eq_right (by omega), Nat.min_eq_right (by omega), List.take_succ_eq_append_getElem j1, List.map_append]
          rfl
        rw [e, hes]
        exact .own _ _ _ z0 z1
      · have hd2 := of_decide_eq_false hd2
        rw [fin (.inr (by omega))] at hes
        refine ⟨_, at_fst _ _ _, ?_⟩
        refine ⟨_, u1 _ _ _ _, ?_⟩
        refine ⟨_, u1y _ _ _ _ _, ?_⟩
        refine ⟨_, u1z _ _ _ _ _ _, ?_⟩
        exact h _ _ ⟨⟨_, u1p _ _ _ _ _ _⟩, htl, htk⟩ (by rw [hes]; exact .nil)
    · have hd := of_decide_eq_false hd
      rw [fin (.inl (by omega))] at hes
      refine ⟨_, at_fst _ _ _, ?_⟩
      refine ⟨_, u1 _ _ _ _, ?_⟩
      refine ⟨_, u1y _ _ _ _ _, ?_⟩
      refine ⟨_, u1z _ _ _ _ _ _, ?_⟩
      exact h _ _ ⟨⟨_, u1p _ _ _ _ _ _⟩, htl, htk⟩ (by rw [hes]; exact .nil)
  | own t0 e0 es q0 q1 =>
    refine ⟨_, at_fst _ _ _, ?_⟩
    refine cnd_split (fun hd => ?_) (fun hd => ?_)
    · have hd := of_decide_eq_true hd
      have j1 : j < l.length := by omega
      refine cnd_split (fun hd2 => ?_) (fun hd2 => ?_)
      · have hd2 := of_decide_eq_true hd2
        refine .x (by kernel_rfl) ?_
        refine ⟨_, at_fst _ _ _, ?_⟩
        refine ⟨j, _, rfl, fldL_at j1, ?_⟩
        refine .p rfl (few15_p _) ?_
        refine ⟨_, at_fst _ _ _, ?_⟩
        refine ⟨j, _, rfl, fldL_at j1, ?_⟩
        refine .p rfl (few15_p _) ?_
        refine Acc.app (n := st.tk.length) (i := ti75) (es := es) (.own _ _ _ q0 q1) htl (List.cons_ne_nil _ _) ?_ ?_ (fun t9 e9 tk9 z0 z1 z2 z3 => ?_)
        · show ((es : List (List AV)).length + 1) * 32 ≤ _; omega
        · show (es : List (List AV)).length + 1 ≤ _; omega
        intro c hc
        rw [IntWalk.i64_in _ (by omega)] at hc
        obtain rfl : c = ((j + 1 : Nat) : Int) := by omega
        refine ⟨g - 1, by omega, j + 1, _, _, by omega, rfl, j1, rfl, z2, fun t ht => (z3 t ht).trans (htk t ht), ?_⟩
        have e : fldL (fewF (l.take (j + 1))) = fldL (fewF (l.take j)) ++ [[.s (cut400 l[j].1), .s (cut400 l[j].2)]] := by
          rw [fldL_app]
          congr 1
          unfold fewF
          rw [List.take_take, List.take_take, Nat.min_eq_right (by omega), Nat.min_eq_right (by omega), List.take_succ_eq_append_getElem j1, List.map_append]
          rfl
        rw [e, hes]
        exact .own _ _ _ z0 z1
      · have hd2 := of_decide_eq_false hd2
        rw [fin (.inr (by omega))] at hes
        refine ⟨_, at_fst _ _ _, ?_⟩
        refine ⟨_, u1 _ _ _ _, ?_⟩
        refine ⟨_, u1y _ _ _ _ _, ?_⟩
        refine ⟨_, u1z _ _ _ _ _ _, ?_⟩
        exact h _ _ ⟨⟨_, u1p _ _ _ _ _ _⟩, htl, htk⟩ (by rw [hes]; exact (.own _ _ _ q0 q1))
    · have hd := of_decide_eq_false hd
      rw [fin (.inl (by omega))] at hes
      refine ⟨_, at_fst _ _ _, ?_⟩
      refine ⟨_, u1 _ _ _ _, ?_⟩
      refine ⟨_, u1y _ _ _ _ _, ?_⟩
      refine ⟨_, u1z _ _ _ _ _ _, ?_⟩
      exact h _ _ ⟨⟨_, u1p _ _ _ _ _ _⟩, htl, htk⟩ (by rw [hes]; exact (.own _ _ _ q0 q1))
end
theorem ap {h : List (List AV)} {n : Nat} {v x : List AV} (hv : h[n]? = some v) : (h ++ [x])[n]? = some v := (List.getElem?_append_left (List.getElem?_eq_some_iff.1 hv).1).trans hv
theorem st_ne {h : List (List AV)} {n m : Nat} {v x : List AV} (hne : m ≠ n) (hv : h[n]? = some v) : (h.set m x)[n]? = some v := (List.getElem?_set_ne hne).trans hv
theorem st_eq {h : List (List AV)} {n : Nat} {v x : List AV} (hv : h[n]? = some v) : (h.set n x)[n]? = some x := List.getElem?_set_self (List.getElem?_eq_some_iff.1 hv).1
theorem below_grow (w : World) (k : Nat) (os : Array Obj) : Below w.heap.size w (Go.Sort.grow (w.drewN k) os) :=
  ⟨rfl, rfl, rfl, by rw [Go.Sort.size_grow]; exact Nat.le_add_right _ _, fun b hb => Array.getElem?_append_left (xs := w.heap) hb⟩
theorem fmt_p (n : Nat) (hn : n < 2 ^ 63) : APure Tryd.prog 155 [.i n, .i 10] (.s (textW n)) [] :=
  APure.of_lits #[.int .i64 n, .int .i64 10] (.inl rfl) rfl Tryd.call155 fun w hw => (Tryd.strconv_FormatInt_10 n (by omega) (by omega) w hw).mono (by
    rintro e w' ⟨rfl, k, os, rfl⟩
    exact ⟨by rw [itoa_text], below_grow w k os⟩)
theorem ntext_p (n : Nat) (hn : n < 2 ^ 63) : APure Tryd.prog 90 [.i n] (.s (textW n)) [] := by
  have h : APure Tryd.prog 128 [.i n, .i 10] (.s (textW n)) [] := by
    have hf := fmt_p n hn
    refine APure.of rfl (ACalls.of_vc T_ok mixed Tryd.func128 rfl Tryd.call128 ?_)
    refine .p rfl hf ?_
    rfl
  refine APure.of rfl (ACalls.of_vc T_ok mixed Tryd.func90 rfl Tryd.call90 ?_)
  refine .p rfl h ?_
  rfl
theorem fields2_p (n : Nat) (hn : n < 2 ^ 63) : APure Tryd.prog 31 [.agg [.i 2, .i n]] (.sl .no 2 (fldL [(CLn, textW n)])) [] := by
  have h := ntext_p n hn
  generalize textW n = t at *
  refine APure.of rfl (ACalls.of_vc T_ok mixed Tryd.func31 rfl Tryd.call31 ?_)
  refine ⟨_, rfl, ?_⟩
  refine ⟨_, rfl, ?_⟩
  refine .p rfl h ?_
  rfl
theorem fields3_p (n : Int) : APure Tryd.prog 31 [.agg [.i 3, .i n]] (.sl .no 2 (fldL [(TEn, chkS)])) [] := by
  refine APure.of rfl (ACalls.of_vc T_ok mixed Tryd.func31 rfl Tryd.call31 ?_)
  refine ⟨_, rfl, ?_⟩
  rfl
theorem VCall.wc {P : Program} {f : FuncId} {args args' : List AV} {r : AV} {st : St} {K : AV → St → Prop} (hd : args.all AV.datG = true) (hw : ArgsW args args') (h : APure P f args' r [])
    (hk : ∀ st' : St, (∀ (p : Nat) (v : List AV), st.heap[p]? = some v → st'.heap[p]? = some v) → st'.tk = st.tk → K r st') : VCall P f args st K :=
  .w hd hw h (hk st (fun _ _ h => h) rfl)
theorem lt_of {h : List (List AV)} {n : Nat} {v : List AV} (hv : h[n]? = some v) : n < h.length := (List.getElem?_eq_some_iff.1 hv).1
set_option maxHeartbeats 2000000 in
theorem lengthTwice_p (k c mi n : Int) (m t r : ByteArray) (l : List Fld) (hn : n < 9223372036854775808) : APure Tryd.prog 7 [hdA k c mi m t r (.sl .no 2 (fldL l)), .i n] (.b true) [] := by
  have hmx : maxLen = 9223372036854775807 := rfl
  have hmb : mostB = 1099511627776 := rfl
  have hok := FldOk.few l
  have hlen := fewF_len l
  refine APure.of rfl (ACalls.of_vc T_ok mixed Tryd.func7 rfl Tryd.call7 ?_)
  refine .p rfl awake17_p ?_
  refine ⟨_, rfl, ?_⟩
  refine .s (fewS_a k c mi m t r l fun a st1 g1 hA => ?_)
  obtain ⟨T, hT⟩ := g1.pre
  obtain ⟨hp, tk1⟩ := st1
  have hT : hp = [hdC k c mi m t r (.sl .no 2 (fldL l))] ++ T := hT
  subst hT
  have a1 := request_p k c mi (cut400 m) (cut400 t) (cut400 r) (fewF l) hok
  generalize fewF l = F at *
  generalize cut400 m = m' at *
  generalize cut400 t = t' at *
  generalize cut400 r = r' at *
  have early : ∀ (kk nn ee : Int), ofW F mi 1 = (kk, nn, ee) → ee = 0 → kk ≠ 2 → nn = 0 := fun kk nn ee h he hk => by subst he; exact (ofW_len h).1 hk
  have late : ∀ (nn : Int), ofW F mi 1 = (2, nn, 0) → ∃ N : Nat, nn = N ∧ ByLen F N := fun nn h => (ofW_len h).2 rfl
  have elF := fldL_len F
  generalize hX : ofW F mi 1 = X at a1
  obtain ⟨kk, nn, ee⟩ := X
  generalize hes : fldL F = es at hA
  cases hA with
  | nil =>
    have hF : F = [] := List.eq_nil_of_length_eq_zero (by rw [← elF, hes]; rfl)
    subst hF
    refine ⟨_, rfl, ?_⟩
    refine ⟨_, rfl, ?_⟩
    refine .w rfl (hdW1 [] (.inr ⟨rfl, 2, rfl⟩)) a1 ?_
    have hX' : (1, 0, 0) = (kk, nn, ee) := hX
    cases hX'
    refine ⟨_, last_at _ _, ?_⟩
    refine ⟨_, last_upd _ _ _, ?_⟩
    refine ⟨_, last_upd _ _ _, ?_⟩
    rfl
  | own t0 e0 es q0 q1 =>
    subst hes
    refine ⟨_, rfl, ?_⟩
    refine ⟨_, rfl, ?_⟩
    refine VCall.wc rfl (hdW1 F (.inl ⟨rfl, rfl⟩)) a1 (fun st2 k2 t2 => ?_)
    have c2 := k2 0 _ rfl
    have n2 : st2.heap.length ≠ 0 := by have := lt_of c2; omega
    refine ⟨_, last_at _ _, ?_⟩
    refine cnd_split (fun h1 => ?_) (fun h1 => ?_)
    · refine cnd_split (fun h2 => ?_) (fun h2 => ?_)
      · rfl
      · rw [h1] at h2; cases h2
    · have h1 : ee = 0 := by simpa using h1
      subst h1
      refine ⟨_, last_upd _ _ _, ?_⟩
      refine cnd_split (fun h2 => ?_) (fun h2 => ?_)
      · have h2 : ¬ kk = 2 := by simpa using h2
        have hn0 := early kk nn 0 hX rfl h2
        subst hn0
        refine ⟨_, last_upd _ _ _, ?_⟩
        rfl
      · have h2 : kk = 2 := by simpa using h2
        subst h2
        obtain ⟨N, rfl, hB⟩ := late nn hX
        refine cnd_split (fun h3 => ?_) (fun h3 => ?_)
        · refine ⟨_, last_upd _ _ _, ?_⟩
          refine cnd_split (fun h4 => ?_) (fun h4 => ?_)
          · rfl
          · exact congrArg AV.b h3
        · have h3 := of_decide_eq_false h3
          obtain ⟨n', rfl⟩ := Int.eq_ofNat_of_zero_le (show 0 ≤ n by omega)
          have hNle := hB.le
          have bN := text_size (n := N) (by omega)
          have bn := text_size (n := n') (by omega)
          have ok1 : FldOk (F ++ [(CLn, textW N)]) := ⟨by simp; omega, fun f hf => by
            rcases List.mem_append.1 hf with hf | hf
            · exact hok.size f hf
            · rw [List.mem_singleton.1 hf]
              exact ⟨by show CLn.size ≤ 4000; decide, by show (textW N).size ≤ 4000; omega⟩⟩
          have ok2 : FldOk ((F ++ [(CLn, textW N)]) ++ [(CLn, textW n')]) := ⟨by simp; omega, fun f hf => by
            rcases List.mem_append.1 hf with hf | hf
            · exact ok1.size f hf
            · rw [List.mem_singleton.1 hf]
              exact ⟨by show CLn.size ≤ 4000; decide, by show (textW n').size ≤ 4000; omega⟩⟩
          have ok3 : FldOk ((F ++ [(CLn, textW N)]) ++ [(TEn, chkS)]) := ⟨by simp; omega, fun f hf => by
            rcases List.mem_append.1 hf with hf | hf
            · exact ok1.size f hf
            · rw [List.mem_singleton.1 hf]
              exact ⟨by decide, by decide⟩⟩
          have r1 := request_p k c mi m' t' r' _ ok1
          have r2 := request_p k c mi m' t' r' _ ok2
          have r3 := request_p k c mi m' t' r' _ ok3
          rw [hB.more.of mi] at r1
          rw [hB.more.other (n := n') mi] at r2
          rw [hB.more.both chkS mi] at r3
          have f1 := fields2_p N (by omega)
          have f2 := fields2_p n' (by omega)
          have f3 := fields3_p 0
          have hlt0 := (List.getElem?_eq_some_iff.1 q1).1
          refine ⟨_, last_upd _ _ _, ?_⟩
          refine .p rfl f1 ?_
          refine ⟨_, st_ne n2 (ap c2), ?_⟩
          refine ⟨t2 ▸ q1, ?_, ?_, ?_⟩
          · show ((fldL F).length + 1) * 32 ≤ _; omega
          · show (fldL F).length + 1 ≤ _; omega
          refine ⟨_, st_ne n2 (ap c2), ?_⟩
          refine ⟨_, st_eq (st_ne n2 (ap c2)), ?_⟩
          refine VCall.wc rfl (hdW1 (F ++ [(CLn, textW N)]) (.inl ⟨by rw [← fldL_appL]; rfl, rfl⟩)) r1 (fun st3 k3 t3 => ?_)
          have c3 := k3 0 _ (st_eq (st_ne n2 (ap c2)))
          have d3 := k3 st2.heap.length _ (st_ne n2.symm (last_upd _ _ _))
          have n3 : st3.heap.length ≠ 0 := by have := lt_of c3; omega
          have m3 : st3.heap.length ≠ st2.heap.length := by have := lt_of d3; omega
          clear k3
          by_cases hnN : n' = N
          · rw [if_pos hnN] at r2
            refine ⟨_, last_at _ _, ?_⟩
            refine ⟨_, last_upd _ _ _, ?_⟩
            refine ⟨[.i 2, .i N], st_ne m3 (ap d3), ?_⟩
            refine ⟨by kernel_rfl, fun q hq => ?_⟩
            have hq : q = true := hq.2 ⟨rfl, rfl, trivial⟩
            subst hq
            refine ⟨_, st_ne n3 (ap c3), ?_⟩
            refine ⟨_, last_at _ _, ?_⟩
            refine ⟨_, st_ne (by simp) (ap (st_ne n3 (ap c3))), ?_⟩
            refine ⟨fun e => by simp [fldL] at e, fun _ => ⟨?_, ?_, .inl ?_⟩⟩
            · show (fldL F ++ fldL [(CLn, textW N)]).length * 32 ≤ _
              rw [List.length_append, fldL_len, fldL_len]; simp; omega
            · show (fldL F ++ fldL [(CLn, textW N)]).length ≤ _
              rw [List.length_append, fldL_len, fldL_len]; simp; omega
            refine .p rfl f2 ?_
            refine ⟨by simp, ?_, ?_, ?_⟩
            · show ((fldL F ++ fldL [(CLn, textW N)]).length + 1) * 32 ≤ _
              rw [List.length_append, fldL_len, fldL_len]; simp; omega
            · show (fldL F ++ fldL [(CLn, textW N)]).length + 1 ≤ _
              rw [List.length_append, fldL_len, fldL_len]; simp; omega
            refine ⟨_, last_upd _ _ _, ?_⟩
            refine ⟨_, st_eq (last_upd _ _ _), ?_⟩
            refine VCall.wc rfl (hdW1 ((F ++ [(CLn, textW N)]) ++ [(CLn, textW n')]) (.inl ⟨by rw [← fldL_appL, ← fldL_appL]; rfl, rfl⟩)) r2 (fun st4 k4 t4 => ?_)
            have c4 := k4 0 _ (st_ne (by simp) (st_ne (by simp) (ap (st_ne n3 (ap c3)))))
            have d4 := k4 st2.heap.length _ (st_ne (by have := lt_of d3; simp; omega) (st_ne (by have := lt_of d3; simp; omega) (ap (st_ne m3 (ap d3)))))
            have n4 : st4.heap.length ≠ 0 := by have := lt_of c4; omega
            have m4 : st4.heap.length ≠ st2.heap.length := by have := lt_of d4; omega
            clear k4
            refine ⟨_, last_at _ _, ?_⟩
            refine ⟨_, st_ne n4 (ap c4), ?_⟩
            refine ⟨_, last_at _ _, ?_⟩
            refine ⟨_, st_ne (by simp) (ap (st_ne n4 (ap c4))), ?_⟩
            refine ⟨fun e => by simp [fldL] at e, fun _ => ⟨?_, ?_, .inl ?_⟩⟩
            · show (fldL F ++ fldL [(CLn, textW N)]).length * 32 ≤ _
              rw [List.length_append, fldL_len, fldL_len]; simp; omega
            · show (fldL F ++ fldL [(CLn, textW N)]).length ≤ _
              rw [List.length_append, fldL_len, fldL_len]; simp; omega
            refine .p rfl f3 ?_
            refine ⟨by simp, ?_, ?_, ?_⟩
            · show ((fldL F ++ fldL [(CLn, textW N)]).length + 1) * 32 ≤ _
              rw [List.length_append, fldL_len, fldL_len]; simp; omega
            · show (fldL F ++ fldL [(CLn, textW N)]).length + 1 ≤ _
              rw [List.length_append, fldL_len, fldL_len]; simp; omega
            refine ⟨_, last_upd _ _ _, ?_⟩
            refine ⟨_, st_eq (last_upd _ _ _), ?_⟩
            refine VCall.wc rfl (hdW1 ((F ++ [(CLn, textW N)]) ++ [(TEn, chkS)]) (.inl ⟨by rw [← fldL_appL, ← fldL_appL]; rfl, rfl⟩)) r3 (fun st5 k5 t5 => ?_)
            have d5 := k5 st2.heap.length _ (st_ne (by have := lt_of d4; simp; omega) (st_ne (by have := lt_of d4; simp; omega) (ap (st_ne m4 (ap d4)))))
            have m5 : st5.heap.length ≠ st2.heap.length := by have := lt_of d5; omega
            clear k5
            refine ⟨_, last_at _ _, ?_⟩
            refine ⟨_, st_ne m5 (ap d5), ?_⟩
            refine cnd_split (fun h6 => ?_) (fun h6 => ?_)
            · rfl
            · exact absurd h6 (by rw [hnN]; simp)
          · rw [if_neg hnN] at r2
            refine ⟨_, last_at _ _, ?_⟩
            refine ⟨_, last_upd _ _ _, ?_⟩
            refine ⟨[.i 2, .i N], st_ne m3 (ap d3), ?_⟩
            refine ⟨by kernel_rfl, fun q hq => ?_⟩
            have hq : q = true := hq.2 ⟨rfl, rfl, trivial⟩
            subst hq
            refine ⟨_, st_ne n3 (ap c3), ?_⟩
            refine ⟨_, last_at _ _, ?_⟩
            refine ⟨_, st_ne (by simp) (ap (st_ne n3 (ap c3))), ?_⟩
            refine ⟨fun e => by simp [fldL] at e, fun _ => ⟨?_, ?_, .inl ?_⟩⟩
            · show (fldL F ++ fldL [(CLn, textW N)]).length * 32 ≤ _
              rw [List.length_append, fldL_len, fldL_len]; simp; omega
            · show (fldL F ++ fldL [(CLn, textW N)]).length ≤ _
              rw [List.length_append, fldL_len, fldL_len]; simp; omega
            refine .p rfl f2 ?_
            refine ⟨by simp, ?_, ?_, ?_⟩
            · show ((fldL F ++ fldL [(CLn, textW N)]).length + 1) * 32 ≤ _
              rw [List.length_append, fldL_len, fldL_len]; simp; omega
            · show (fldL F ++ fldL [(CLn, textW N)]).length + 1 ≤ _
              rw [List.length_append, fldL_len, fldL_len]; simp; omega
            refine ⟨_, last_upd _ _ _, ?_⟩
            refine ⟨_, st_eq (last_upd _ _ _), ?_⟩
            refine VCall.wc rfl (hdW1 ((F ++ [(CLn, textW N)]) ++ [(CLn, textW n')]) (.inl ⟨by rw [← fldL_appL, ← fldL_appL]; rfl, rfl⟩)) r2 (fun st4 k4 t4 => ?_)
            have c4 := k4 0 _ (st_ne (by simp) (st_ne (by simp) (ap (st_ne n3 (ap c3)))))
            have d4 := k4 st2.heap.length _ (st_ne (by have := lt_of d3; simp; omega) (st_ne (by have := lt_of d3; simp; omega) (ap (st_ne m3 (ap d3)))))
            have n4 : st4.heap.length ≠ 0 := by have := lt_of c4; omega
            have m4 : st4.heap.length ≠ st2.heap.length := by have := lt_of d4; omega
            clear k4
            refine ⟨_, last_at _ _, ?_⟩
            refine ⟨_, st_ne n4 (ap c4), ?_⟩
            refine ⟨_, last_at _ _, ?_⟩
            refine ⟨_, st_ne (by simp) (ap (st_ne n4 (ap c4))), ?_⟩
            refine ⟨fun e => by simp [fldL] at e, fun _ => ⟨?_, ?_, .inl ?_⟩⟩
            · show (fldL F ++ fldL [(CLn, textW N)]).length * 32 ≤ _
              rw [List.length_append, fldL_len, fldL_len]; simp; omega
            · show (fldL F ++ fldL [(CLn, textW N)]).length ≤ _
              rw [List.length_append, fldL_len, fldL_len]; simp; omega
            refine .p rfl f3 ?_
            refine ⟨by simp, ?_, ?_, ?_⟩
            · show ((fldL F ++ fldL [(CLn, textW N)]).length + 1) * 32 ≤ _
              rw [List.length_append, fldL_len, fldL_len]; simp; omega
            · show (fldL F ++ fldL [(CLn, textW N)]).length + 1 ≤ _
              rw [List.length_append, fldL_len, fldL_len]; simp; omega
            refine ⟨_, last_upd _ _ _, ?_⟩
            refine ⟨_, st_eq (last_upd _ _ _), ?_⟩
            refine VCall.wc rfl (hdW1 ((F ++ [(CLn, textW N)]) ++ [(TEn, chkS)]) (.inl ⟨by rw [← fldL_appL, ← fldL_appL]; rfl, rfl⟩)) r3 (fun st5 k5 t5 => ?_)
            have d5 := k5 st2.heap.length _ (st_ne (by have := lt_of d4; simp; omega) (st_ne (by have := lt_of d4; simp; omega) (ap (st_ne m4 (ap d4)))))
            have m5 : st5.heap.length ≠ st2.heap.length := by have := lt_of d5; omega
            clear k5
            refine ⟨_, last_at _ _, ?_⟩
            refine ⟨_, st_ne m5 (ap d5), ?_⟩
            refine cnd_split (fun h6 => ?_) (fun h6 => ?_)
            · rfl
            · exact absurd h6 (by rw [show ((n' : Int) == (N : Int)) = false by rw [beq_eq_false_iff_ne]; omega]; decide)
end Go.Proofs.YtopmflkeohicjaaDoor
