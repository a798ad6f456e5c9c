/- CommasSplits: the document's reading of quoted texts and comments, its trim. No statement of its own. -/
import Derived.Test.YtgkhnllgmfjhpaaGreatDoorSb
import Derived.Test.YtgkhnllgmfjhpaaGreatDoorFoP
set_option linter.unusedSimpArgs false
set_option linter.unusedVariables false
set_option maxRecDepth 100000
namespace Go.Proofs.YtgkhnllgmfjhpaaGreatDoor
open Go.RowKit
theorem cut_at (s : ByteArray) (m : Nat) (hm : m ≤ s.size) : Smw (s.extract m s.size) s 0 m 0 (s.size - m) := ⟨Nat.le_refl _, fun i _ h2 => by
  rw [ext_get s m s.size i (by omega) (Nat.le_refl _)]; congr 1; omega⟩
theorem cut_cmt {s : ByteArray} {m : Nat} (hm : m < s.size) : (cmtW (s.extract m s.size) 1 1).map (· + m) = cmtW s (m + 1) 1 := by
  have hsz := ext_sz s m s.size (Nat.le_refl _)
  cases h : cmtW (s.extract m s.size) 1 1 with
  | some j =>
    have hl := cmtW_le _ _ _ _ _ (Nat.le_refl _) (by omega) h
    have := cmtW_move (s := s.extract m s.size) (t := s) (c := 0) (d := m) _ 1 1 (Nat.le_refl _) (by omega) h (((cut_at s m (by omega)).from (by omega)).upto (by omega))
    rw [show 1 + m - 0 = m + 1 by omega] at this
    rw [this]; rfl
  | none =>
    cases h2 : cmtW s (m + 1) 1 with
    | none => rfl
    | some j =>
      have hl := cmtW_le _ _ _ _ _ (Nat.le_refl _) (by omega) h2
      have := cmtW_move (s := s) (t := s.extract m s.size) (c := m) (d := 0) _ (m + 1) 1 (Nat.le_refl _) (by omega) h2 ⟨by omega, fun i h1 h2 => by
        rw [ext_get s m s.size _ (by omega) (Nat.le_refl _)]; congr 1; omega⟩
      rw [show m + 1 + 0 - m = 1 by omega, h] at this
      cases this
def innW (s : ByteArray) : Option Nat := if atB s 0 34 = true then (frontS s 0).map (·.2) else cmtW s 1 1
def innI (s : ByteArray) : Int := match innW s with | some j => (j : Int) | none => 0
theorem innW_step {s : ByteArray} {m : Nat} (hm : m < s.size) (h : atB s m 34 = true ∨ atB s m 40 = true) : (innW (s.extract m s.size)).map (· + m) = stepW s m := by
  have h0 := cut_atB s m 0 34
  rw [Nat.add_zero] at h0
  have x34 : ∀ b : Int, atB s m b = true → ∀ d : Int, d ≠ b → atB s m d = false := fun b hb d hd => by
    rw [atB_lt hm] at hb ⊢
    have := beq_iff_eq.1 hb
    rw [beq_eq_false_iff_ne]; omega
  unfold innW stepW
  rw [h0]
  rcases h with h | h
  · rw [if_pos h, x34 34 h 44 (by decide), x34 34 h 40 (by decide), h]
    simp only [Bool.false_eq_true, if_false, if_true]
    have hf := cut_front s m (by omega) _ 1 [] rfl
    unfold frontS
    rw [h0, h, if_pos rfl, if_pos rfl, hf]
    cases hq : frontW s (m + 1) [] with
    | none => rfl
    | some x =>
      obtain ⟨v, j⟩ := x
      have := frontW_le _ _ _ _ _ rfl hq
      simp only [Option.map_some, Option.some.injEq]
      omega
  · rw [x34 40 h 34 (by decide), x34 40 h 44 (by decide), h]
    simp only [Bool.false_eq_true, if_false, if_true]
    exact cut_cmt hm
def ne8 (x : ByteArray) : Bool := decide (¬ x.size = 0)
theorem endW_filter (s : ByteArray) (b e : Nat) (o : List ByteArray) : endW s b e (o.filter ne8) = (o ++ [trimC (s.extract b e) spcS]).filter ne8 := by
  rw [List.filter_append]
  unfold endW
  by_cases h : (trimC (s.extract b e) spcS).size = 0
  · rw [if_pos h, show [trimC (s.extract b e) spcS].filter ne8 = [] by simp [ne8, h], List.append_nil]
  · rw [if_neg h, show [trimC (s.extract b e) spcS].filter ne8 = [trimC (s.extract b e) spcS] by simp [ne8, h]]
section
attribute [local irreducible] vcApp
end
theorem one_p (n : Int) (l : ByteArray) : APure Tryz.prog 112 [.int .u8 n, .s l] (.b (decide (0 ≤ Lib.indexByte l.data.toList n.toNat.toUInt8))) [] := by
  refine APure.of rfl (ACalls.of_vc T_ok mixed Tryz.func112 rfl Tryz.call112 ?_)
  refine .p rfl (indexByte_p l n) ?_
  exact retb rfl
def tokSB : ByteArray := ⟨#[33, 35, 36, 37, 38, 39, 42, 43, 45, 46, 94, 95, 96, 124, 126]⟩
theorem isToken_p (n : Int) (h0 : 0 ≤ n) (h1 : n ≤ 255) : APure Tryz.prog 91 [.int .u8 n] (.b (tokI n)) [] := by
  refine APure.of rfl (ACalls.of_vc T_ok mixed Tryz.func91 rfl Tryz.call91 ?_)
  unfold tokI
  refine .p rfl (isAlpha_p n h0 h1) ?_
  cases alpI n with
  | true =>
    exact retb rfl
  | false =>
    refine .p rfl (isDigit_p n) ?_
    cases digI n with
    | true => exact retb rfl
    | false =>
      refine .p rfl (one_p n tokSB) ?_
      exact retb rfl
theorem isToken_f : ByteF 91 tokI := fun n h0 h1 => isToken_p n h0 h1
theorem allF_p {f : FuncId} {q : Int → Bool} (hq : ByteF f q) (s : ByteArray) (hs : s.size ≤ maxLen) : APure Tryz.prog 90 [.lit (.func (.func f) #[] #[]), .sl .no 1 [[.s s]]] (.b (allI q s)) [] := by
  unfold maxLen at hs
  refine APure.of rfl (ACalls.of_vc T_ok mixed Tryz.func90 rfl Tryz.call90 ?_)
  refine vc_loop [10] (fun g vals st' => (g = 1 ∧ vals = [.i 0]) ∨ (g = 0 ∧ vals = [.i 1] ∧ allI q s = true)) 1 rfl (.inl ⟨rfl, rfl⟩) ?_
  rintro g vals st' (⟨rfl, rfl⟩ | ⟨rfl, rfl, ha⟩)
  · refine ⟨0, _, rfl, rfl, ?_⟩
    refine vc_loop [16] (fun g2 vals st2 => ∃ k : Nat, k + g2 = s.size ∧ vals = [.i k] ∧ ARel q s k) s.size rfl ⟨0, by omega, rfl, fun j _ h => absurd h (by omega)⟩ ?_
    rintro g2 vals st2 ⟨k, hk, rfl, hr⟩
    refine cnd_split (fun hd => ?_) (fun hd => ?_)
    · have hd := of_decide_eq_true hd
      have k1 : k < s.size := by omega
      refine ⟨k, k1, rfl, ?_⟩
      refine .p rfl (hq _ (by omega) (by have := s[k].toNat_lt; omega)) ?_
      refine cnd_split (fun h2 => ?_) (fun h2 => ?_)
      · rw [Bool.not_eq_true'] at h2
        exact retb (allI_false k1 h2).symm
      · rw [Bool.not_eq_false'] at h2
        intro c hc
        rw [IntWalk.i64_in _ (by omega)] at hc
        obtain rfl : c = ((k + 1 : Nat) : Int) := by omega
        refine ⟨g2 - 1, by omega, k + 1, by omega, rfl, fun j hj hjk => ?_⟩
        by_cases e : j = k
        · subst e; exact h2
        · exact hr j hj (by omega)
    · have hd := of_decide_eq_false hd
      intro c hc
      obtain rfl : c = 1 := by rw [IntWalk.i64_in _ (by omega)] at hc; omega
      exact ⟨0, by omega, .inr ⟨rfl, rfl, allI_true fun j hj => hr j hj (by omega)⟩⟩
  · exact retb ha.symm
theorem token_p (s : ByteArray) (hs : s.size ≤ maxLen) : APure Tryz.prog 68 [.s s] (.b (tokB s)) [] := by
  refine APure.of rfl (ACalls.of_vc T_ok mixed Tryz.func68 rfl Tryz.call68 ?_)
  unfold tokB
  intro t ht
  have h0 := ht.trans (emp_iff s)
  cases t with
  | true =>
    have : 0 < s.size := by
      apply Decidable.byContradiction
      intro hc
      have := h0.2 (by omega)
      cases this
    rw [decide_eq_true this]
    refine .p rfl (allF_p isToken_f s hs) ?_
    exact retb rfl
  | false =>
    have : s.size = 0 := h0.1 rfl
    rw [show decide (0 < s.size) = false by rw [decide_eq_false_iff_not]; omega]
    exact retb rfl
def upS : ByteArray := ⟨#[65, 66, 67, 68, 69, 70, 71, 72, 73, 74, 75, 76, 77, 78, 79, 80, 81, 82, 83, 84, 85, 86, 87, 88, 89, 90]⟩
def loS : ByteArray := ⟨#[97, 98, 99, 100, 101, 102, 103, 104, 105, 106, 107, 108, 109, 110, 111, 112, 113, 114, 115, 116, 117, 118, 119, 120, 121, 122]⟩
theorem upS_at : ∀ j : Nat, (h : j < 26) → (upS[j]'h).toNat = 65 + j := by decide +kernel
theorem loS_at : ∀ j : Nat, j < 26 → loS.extract j (j + 1) = ⟨#[UInt8.ofNat (97 + j)]⟩ := by decide +kernel
def lwJ (b : UInt8) (j : Nat) : UInt8 := if 65 ≤ b.toNat ∧ b.toNat < 65 + j then lowU b else b
theorem lwJ_low : ∀ m : Nat, m < 256 → lwJ (UInt8.ofNat m) 26 = lowU (UInt8.ofNat m) := by decide +kernel
theorem lowU_up : ∀ j : Nat, j < 26 → lowU (UInt8.ofNat (65 + j)) = UInt8.ofNat (97 + j) := by decide +kernel
theorem lwJ_26 (b : UInt8) : lwJ b 26 = lowU b := by
  have := lwJ_low b.toNat b.toNat_lt
  rwa [UInt8.ofNat_toNat] at this
theorem sameO_p (a b : ByteArray) (ha : a.size ≤ maxLen) (hb : b.size ≤ maxLen) : APure Tryz.prog 66 [.s a, .s b] (.b (decide (foldB a = foldB b))) [] := by
  refine APure.of rfl (ACalls.of_vc T_ok mixed Tryz.func66 rfl Tryz.call66 ?_)
  refine .p rfl (foldO_p a ha) ?_
  refine .p rfl (foldO_p b hb) ?_
  intro t ht
  exact retb (by rw [Bool.eq_iff_iff, ht, decide_eq_true_eq])
/-- the tokens of lists -/
def tokW : List ByteArray → Option (List ByteArray)
  | [] => some []
  | x :: r => match splitW x with
    | none => none
    | some p => if p.all tokB = true then (tokW r).map (p ++ ·) else none
def tokR (l : List ByteArray) : AV := match tokW l with
  | some o => .tup [.sl .no 1 (strL o), .i 0]
  | none => .tup [.nilS, .i 2]
theorem tokW_at {l : List ByteArray} {k : Nat} (h : k < l.length) : tokW (l.drop k) = match splitW l[k] with
    | none => none
    | some p => if p.all tokB = true then (tokW (l.drop (k + 1))).map (p ++ ·) else none := by
  rw [List.drop_eq_getElem_cons h]; rfl
theorem Acc.appL {n : Nat} {st : St} {i : TI} {a : AV} {es ys : List (List AV)} {tg : Tk} {K : AV → St → Prop} (h : Acc n st.tk i.size a es) (hn : n ≤ st.tk.length) (hb : (es.length + ys.length) * i.bytes ≤ 140737488355328) (hm : es.length + ys.length ≤ maxLen)
    (hK : ∀ a' tk', Acc n tk' i.size a' (es ++ ys) → K a' ⟨st.heap, tk'⟩) : vcApp i a (.sl tg i.size ys) st K := by
  unfold vcApp srcA
  simp only [decide_true]
  cases h with
  | nil =>
    refine ⟨fun e => ?_, fun _ => ⟨by simpa using hb, by simpa using hm, .inl ?_⟩⟩
    · subst e; exact hK _ st.tk .nil
    · exact hK _ _ (.own _ _ _ hn (by simp))
  | own t e es h1 h2 =>
    simp only [decide_true]
    have hlt := (List.getElem?_eq_some_iff.1 h2).1
    exact ⟨h2, hb, hm, hK _ _ (.own _ _ _ h1 (by rw [List.getElem?_set_self hlt]))⟩
section
attribute [local irreducible] vcApp
set_option maxHeartbeats 2000000 in
theorem tokens_p (l : List ByteArray) (hn : l.length ≤ 1000) (hl : ∀ x ∈ l, x.size ≤ 4000) : APure Tryz.prog 41 [.sl .no 1 (strL l)] (tokR l) [] := by
  have hmx : maxLen = 9223372036854775807 := rfl
  have ell := strL_len l
  refine APure.ofW (by unfold tokR; split <;> rfl) ?_
  refine ACalls.of_vc T_ok mixed Tryz.func41 rfl Tryz.call41 ?_
  refine vc_loop [4, 13] (fun g vals st' => ∃ (k : Nat) (o : List ByteArray) (a : AV), vals = [a, .i k] ∧ k + g = l.length ∧ o.length ≤ k * 4001 ∧ Acc 0 st'.tk 1 a (strL o) ∧ (tokW (l.drop k)).map (o ++ ·) = tokW l) l.length rfl ⟨0, [], .nilS, rfl, by omega, by simp, .nil, by simp⟩ ?_
  rintro g vals st' ⟨k, o, a, rfl, hg, ho, hA, hW⟩
  have el := strL_len o
  generalize hes : strL o = es at hA el
  cases hA with
  | nil =>
    refine cnd_split (fun hd => ?_) (fun hd => ?_)
    · have hd := of_decide_eq_true hd
      have k1 : k < l.length := by omega
      have sz := hl l[k] (List.getElem_mem k1)
      have ps := split_p l[k] (by omega)
      have hT := tokW_at k1
      unfold splR at ps
      refine ⟨k, _, rfl, strL_at k1, ?_⟩
      cases hsp : splitW l[k] with
      | none =>
        rw [hsp] at ps hT
        refine .p rfl ps ?_
        unfold tokR
        rw [← hW, hT]
        exact .inl rfl
      | some p =>
        rw [hsp] at ps hT
        have pl := strL_len p
        have pb := splW_bound _ 0 [] p rfl (Nat.zero_le _) hsp
        have pn : p.length ≤ 4001 := by have := pb.1; simp at this; omega
        refine .p rfl ps ?_
        refine vc_loop [27] (fun g2 vals st2 => ∃ j : Nat, j + g2 = p.length ∧ vals = [.i j] ∧ st2 = st' ∧ ∀ i (hi : i < p.length), i < j → tokB p[i] = true) p.length rfl ⟨0, by omega, rfl, rfl, fun i _ h => absurd h (by omega)⟩ ?_
        rintro g2 vals st2 ⟨j, hj, rfl, rfl, hall⟩
        refine cnd_split (fun hd2 => ?_) (fun hd2 => ?_)
        · have hd2 := of_decide_eq_true hd2
          have j1 : j < p.length := by omega
          have szj : p[j].size ≤ 4000 := by
            rcases pb.2 p[j] (List.getElem_mem j1) with h | h
            · simp at h
            · omega
          refine ⟨j, _, rfl, strL_at j1, ?_⟩
          refine .p rfl (token_p p[j] (by omega)) ?_
          refine cnd_split (fun h3 => ?_) (fun h3 => ?_)
          · rw [Bool.not_eq_true'] at h3
            have : p.all tokB = false := List.all_eq_false.2 ⟨p[j], List.getElem_mem j1, by rw [h3]; decide⟩
            simp only [this] at hT
            unfold tokR
            rw [← hW, hT]
            exact .inl rfl
          · rw [Bool.not_eq_false'] at h3
            intro c hc
            rw [IntWalk.i64_in _ (by omega)] at hc
            obtain rfl : c = ((j + 1 : Nat) : Int) := by omega
            refine ⟨g2 - 1, by omega, j + 1, by omega, rfl, rfl, fun i hi hij => ?_⟩
            by_cases e : i = j
            · subst e; exact h3
            · exact hall i hi (by omega)
        · have hd2 := of_decide_eq_false hd2
          have hp : p.all tokB = true := List.all_eq_true.2 fun x hx => by
            obtain ⟨i, hi, rfl⟩ := List.getElem_of_mem hx
            exact hall i hi (by omega)
          simp only [hp, if_true] at hT
          rw [hT] at hW
          have hW2 : (tokW (l.drop (k + 1))).map ((o ++ p) ++ ·) = tokW l := by
            rw [← hW]
            cases tokW (l.drop (k + 1)) <;> simp
          refine Acc.appL (n := 0) (i := ti9) (es := []) .nil (Nat.zero_le _) ?_ ?_ (fun a2 tk' w1 => ?_)
          · show (([] : List (List AV)).length + (strL p).length) * 16 ≤ _; omega
          · show ([] : List (List AV)).length + (strL p).length ≤ _; omega
          rw [show ([] : List (List AV)) ++ strL p = strL (o ++ p) by rw [← hes]; simp [strL]] at w1
          generalize hzs : strL (o ++ p) = zs at w1
          cases w1 with
          | nil =>
            intro c hc
            rw [IntWalk.i64_in _ (by omega)] at hc
            obtain rfl : c = ((k + 1 : Nat) : Int) := by omega
            exact ⟨g - 1, by omega, k + 1, o ++ p, _, rfl, by omega, by rw [List.length_append, Nat.add_mul]; omega, by rw [hzs]; exact .nil, hW2⟩
          | own t9 e9 zs z1 z2 =>
            intro c hc
            rw [IntWalk.i64_in _ (by omega)] at hc
            obtain rfl : c = ((k + 1 : Nat) : Int) := by omega
            exact ⟨g - 1, by omega, k + 1, o ++ p, _, rfl, by omega, by rw [List.length_append, Nat.add_mul]; omega, by rw [hzs]; exact .own _ _ _ z1 z2, hW2⟩
    · have hd := of_decide_eq_false hd
      have : l.drop k = [] := List.drop_of_length_le (by omega)
      rw [this] at hW
      unfold tokR
      rw [← hW]
      simp only [tokW, Option.map_some, List.append_nil]
      rw [hes]
      exact (.inr (.inr ⟨[.i 0], 1, rfl, rfl⟩))
  | own t0 e0 es q0 q1 =>
    refine cnd_split (fun hd => ?_) (fun hd => ?_)
    · have hd := of_decide_eq_true hd
      have k1 : k < l.length := by omega
      have sz := hl l[k] (List.getElem_mem k1)
      have ps := split_p l[k] (by omega)
      have hT := tokW_at k1
      unfold splR at ps
      refine ⟨k, _, rfl, strL_at k1, ?_⟩
      cases hsp : splitW l[k] with
      | none =>
        rw [hsp] at ps hT
        refine .p rfl ps ?_
        unfold tokR
        rw [← hW, hT]
        exact .inl rfl
      | some p =>
        rw [hsp] at ps hT
        have pl := strL_len p
        have pb := splW_bound _ 0 [] p rfl (Nat.zero_le _) hsp
        have pn : p.length ≤ 4001 := by have := pb.1; simp at this; omega
        refine .p rfl ps ?_
        refine vc_loop [27] (fun g2 vals st2 => ∃ j : Nat, j + g2 = p.length ∧ vals = [.i j] ∧ st2 = st' ∧ ∀ i (hi : i < p.length), i < j → tokB p[i] = true) p.length rfl ⟨0, by omega, rfl, rfl, fun i _ h => absurd h (by omega)⟩ ?_
        rintro g2 vals st2 ⟨j, hj, rfl, rfl, hall⟩
        refine cnd_split (fun hd2 => ?_) (fun hd2 => ?_)
        · have hd2 := of_decide_eq_true hd2
          have j1 : j < p.length := by omega
          have szj : p[j].size ≤ 4000 := by
            rcases pb.2 p[j] (List.getElem_mem j1) with h | h
            · simp at h
            · omega
          refine ⟨j, _, rfl, strL_at j1, ?_⟩
          refine .p rfl (token_p p[j] (by omega)) ?_
          refine cnd_split (fun h3 => ?_) (fun h3 => ?_)
          · rw [Bool.not_eq_true'] at h3
            have : p.all tokB = false := List.all_eq_false.2 ⟨p[j], List.getElem_mem j1, by rw [h3]; decide⟩
            simp only [this] at hT
            unfold tokR
            rw [← hW, hT]
            exact .inl rfl
          · rw [Bool.not_eq_false'] at h3
            intro c hc
            rw [IntWalk.i64_in _ (by omega)] at hc
            obtain rfl : c = ((j + 1 : Nat) : Int) := by omega
            refine ⟨g2 - 1, by omega, j + 1, by omega, rfl, rfl, fun i hi hij => ?_⟩
            by_cases e : i = j
            · subst e; exact h3
            · exact hall i hi (by omega)
        · have hd2 := of_decide_eq_false hd2
          have hp : p.all tokB = true := List.all_eq_true.2 fun x hx => by
            obtain ⟨i, hi, rfl⟩ := List.getElem_of_mem hx
            exact hall i hi (by omega)
          simp only [hp, if_true] at hT
          rw [hT] at hW
          have hW2 : (tokW (l.drop (k + 1))).map ((o ++ p) ++ ·) = tokW l := by
            rw [← hW]
            cases tokW (l.drop (k + 1)) <;> simp
          refine Acc.appL (n := 0) (i := ti9) (es := es) (.own _ _ _ q0 q1) (Nat.zero_le _) ?_ ?_ (fun a2 tk' w1 => ?_)
          · show ((es : List (List AV)).length + (strL p).length) * 16 ≤ _; omega
          · show (es : List (List AV)).length + (strL p).length ≤ _; omega
          rw [show (es : List (List AV)) ++ strL p = strL (o ++ p) by rw [← hes]; simp [strL]] at w1
          generalize hzs : strL (o ++ p) = zs at w1
          cases w1 with
          | nil =>
            intro c hc
            rw [IntWalk.i64_in _ (by omega)] at hc
            obtain rfl : c = ((k + 1 : Nat) : Int) := by omega
            exact ⟨g - 1, by omega, k + 1, o ++ p, _, rfl, by omega, by rw [List.length_append, Nat.add_mul]; omega, by rw [hzs]; exact .nil, hW2⟩
          | own t9 e9 zs z1 z2 =>
            intro c hc
            rw [IntWalk.i64_in _ (by omega)] at hc
            obtain rfl : c = ((k + 1 : Nat) : Int) := by omega
            exact ⟨g - 1, by omega, k + 1, o ++ p, _, rfl, by omega, by rw [List.length_append, Nat.add_mul]; omega, by rw [hzs]; exact .own _ _ _ z1 z2, hW2⟩
    · have hd := of_decide_eq_false hd
      have : l.drop k = [] := List.drop_of_length_le (by omega)
      rw [this] at hW
      unfold tokR
      rw [← hW]
      simp only [tokW, Option.map_some, List.append_nil]
      rw [hes]
      exact (.inl rfl)
end
section
attribute [local irreducible] vcApp
end
def hasX (t x : ByteArray) : Bool := ((tokW [x]).getD []).any fun y => decide (foldB y = foldB t)
def hasW (t : ByteArray) (l : List ByteArray) : Bool := l.any fun x => hasX t x
theorem tokW_one {x : ByteArray} {p : List ByteArray} (h : tokW [x] = some p) : splitW x = some p := by
  unfold tokW at h
  cases hs : splitW x with
  | none => rw [hs] at h; cases h
  | some q =>
    rw [hs] at h
    simp only at h
    split at h
    · simp [tokW] at h; rw [h]
    · cases h
theorem hasW_true {t : ByteArray} {l : List ByteArray} {k : Nat} (hk : k < l.length) (h : hasX t l[k] = true) : hasW t l = true := List.any_eq_true.2 ⟨l[k], List.getElem_mem hk, h⟩
theorem hasW_false {t : ByteArray} {l : List ByteArray} (h : ∀ i (hi : i < l.length), hasX t l[i] = false) : hasW t l = false := List.any_eq_false.2 fun x hx => by
  obtain ⟨i, hi, rfl⟩ := List.getElem_of_mem hx
  rw [h i hi]; decide
theorem hasX_true {t x : ByteArray} {p : List ByteArray} {j : Nat} (hp : tokW [x] = some p) (hj : j < p.length) (h : decide (foldB p[j] = foldB t) = true) : hasX t x = true := by
  unfold hasX; rw [hp]; exact List.any_eq_true.2 ⟨p[j], List.getElem_mem hj, h⟩
theorem hasX_false {t x : ByteArray} {p : List ByteArray} (hp : tokW [x] = some p) (h : ∀ i (hi : i < p.length), decide (foldB p[i] = foldB t) = false) : hasX t x = false := by
  unfold hasX; rw [hp]
  exact List.any_eq_false.2 fun y hy => by
    obtain ⟨i, hi, rfl⟩ := List.getElem_of_mem hy
    intro e
    have h2 := h i hi
    rw [show decide (foldB p[i] = foldB t) = true from e] at h2
    cases h2
end Go.Proofs.YtgkhnllgmfjhpaaGreatDoor
