/- CommasSplits: Has, by the program and by the document; the law. No statement of its own. -/
import Derived.Test.YtopmflkeohicjaaDoorSp7
set_option maxRecDepth 100000
namespace Go.Proofs.YtopmflkeohicjaaDoor
open Go.RowKit
def hasX (t x : ByteArray) : Bool := ((tokW [x]).getD []).any fun y => decide (foldB y = foldB t)
def hasW (t : ByteArray) (l : List ByteArray) : Bool := l.any fun x => hasX t x
theorem tokW_one {x : ByteArray} {p : List ByteArray} (h : tokW [x] = some p) : splitW x = some p := by
  unfold tokW at h
  cases hs : splitW x with
  | none => rw [hs] at h; cases h
  | some q =>
    rw [hs] at h
    simp only at h
    split at h
    · simp [tokW] at h; rw [h]
    · cases h
theorem hasW_true {t : ByteArray} {l : List ByteArray} {k : Nat} (hk : k < l.length) (h : hasX t l[k] = true) : hasW t l = true := List.any_eq_true.2 ⟨l[k], List.getElem_mem hk, h⟩
theorem hasW_false {t : ByteArray} {l : List ByteArray} (h : ∀ i (hi : i < l.length), hasX t l[i] = false) : hasW t l = false := List.any_eq_false.2 fun x hx => by
  obtain ⟨i, hi, rfl⟩ := List.getElem_of_mem hx
  rw [h i hi]; decide
theorem hasX_true {t x : ByteArray} {p : List ByteArray} {j : Nat} (hp : tokW [x] = some p) (hj : j < p.length) (h : decide (foldB p[j] = foldB t) = true) : hasX t x = true := by
  unfold hasX; rw [hp]; exact List.any_eq_true.2 ⟨p[j], List.getElem_mem hj, h⟩
theorem hasX_false {t x : ByteArray} {p : List ByteArray} (hp : tokW [x] = some p) (h : ∀ i (hi : i < p.length), decide (foldB p[i] = foldB t) = false) : hasX t x = false := by
  unfold hasX; rw [hp]
  exact List.any_eq_false.2 fun y hy => by
    obtain ⟨i, hi, rfl⟩ := List.getElem_of_mem hy
    intro e
    have h2 := h i hi
    rw [show decide (foldB p[i] = foldB t) = true from e] at h2
    cases h2
theorem has_p (t : ByteArray) (l : List ByteArray) (ht : t.size ≤ 4000) (hn : l.length ≤ 1099511627776) (hl : ∀ x ∈ l, x.size ≤ 4000) : APure Tryd.prog 97 [.s t, .sl .no 1 (strL l)] (.b (hasW t l)) [] := by
  have hmx : maxLen = 9223372036854775807 := rfl
  have ell := strL_len l
  refine APure.of rfl (ACalls.of_vc T_ok mixed Tryd.func97 rfl Tryd.call97 ?_)
  refine vc_loop [13] (fun g vals st' => ∃ k : Nat, k + g = l.length ∧ vals = [.i k] ∧ ∀ i (hi : i < l.length), i < k → hasX t l[i] = false) l.length rfl ⟨0, by omega, rfl, fun i _ h => absurd h (by omega)⟩ ?_
  rintro g vals st' ⟨k, hk, rfl, hr⟩
  refine cnd_split (fun hd => ?_) (fun hd => ?_)
  · have hd := of_decide_eq_true hd
    have k1 : k < l.length := by omega
    have sz := hl l[k] (List.getElem_mem k1)
    have pt := tokens_p [l[k]] (by simp) (by simp; exact sz)
    unfold tokR at pt
    refine ⟨k, _, rfl, strL_at k1, ?_⟩
    cases hp : tokW [l[k]] with
    | none =>
      rw [hp] at pt
      refine .p rfl pt ?_
      refine vc_loop [25] (fun g2 vals st2 => g2 = 0 ∧ vals = [.i 0]) 0 rfl ⟨rfl, rfl⟩ ?_
      rintro g2 vals st2 ⟨rfl, rfl⟩
      intro c hc
      rw [IntWalk.i64_in _ (by omega)] at hc
      obtain rfl : c = ((k + 1 : Nat) : Int) := by omega
      refine ⟨g - 1, by omega, k + 1, by omega, rfl, fun i hi hik => ?_⟩
      by_cases e : i = k
      · subst e; exact (by unfold hasX; rw [hp]; rfl)
      · exact hr i hi (by omega)
    | some p =>
      rw [hp] at pt
      have pl := strL_len p
      have pb := splW_bound _ 0 [] p rfl (Nat.zero_le _) (tokW_one hp)
      have pn : p.length ≤ 4001 := by have := pb.1; simp at this; omega
      refine .p rfl pt ?_
      refine vc_loop [25] (fun g2 vals st2 => ∃ j : Nat, j + g2 = p.length ∧ vals = [.i j] ∧ ∀ i (hi : i < p.length), i < j → decide (foldB p[i] = foldB t) = false) p.length rfl ⟨0, by omega, rfl, fun i _ h => absurd h (by omega)⟩ ?_
      rintro g2 vals st2 ⟨j, hj, rfl, hall⟩
      refine cnd_split (fun hd2 => ?_) (fun hd2 => ?_)
      · have hd2 := of_decide_eq_true hd2
        have j1 : j < p.length := by omega
        have szj : p[j].size ≤ 4000 := by
          rcases pb.2 p[j] (List.getElem_mem j1) with h | h
          · simp at h
          · omega
        refine ⟨j, _, rfl, strL_at j1, ?_⟩
        refine .p rfl (sameO_p p[j] t (by omega) (by omega)) ?_
        refine cnd_split (fun h3 => ?_) (fun h3 => ?_)
        · exact retb (hasW_true k1 (hasX_true hp j1 h3)).symm
        · skip
          intro c hc
          rw [IntWalk.i64_in _ (by omega)] at hc
          obtain rfl : c = ((j + 1 : Nat) : Int) := by omega
          refine ⟨g2 - 1, by omega, j + 1, by omega, rfl, fun i hi hij => ?_⟩
          by_cases e : i = j
          · subst e; exact h3
          · exact hall i hi (by omega)
      · have hd2 := of_decide_eq_false hd2
        intro c hc
        rw [IntWalk.i64_in _ (by omega)] at hc
        obtain rfl : c = ((k + 1 : Nat) : Int) := by omega
        refine ⟨g - 1, by omega, k + 1, by omega, rfl, fun i hi hik => ?_⟩
        by_cases e : i = k
        · subst e; exact (hasX_false hp fun i hi => hall i hi (by omega))
        · exact hr i hi (by omega)
  · have hd := of_decide_eq_false hd
    exact retb (hasW_false fun i hi => hr i hi (by omega)).symm
theorem hasR_p (t : ByteArray) (l : List ByteArray) (ht : t.size ≤ 4000) (hn : l.length ≤ 1099511627776) (hl : ∀ x ∈ l, x.size ≤ 4000) : APure Tryd.prog 51 [.s t, .sl .no 1 (strL l)] (.b (hasW t l)) [] := by
  have hmx : maxLen = 9223372036854775807 := rfl
  have ell := strL_len l
  refine APure.of rfl (ACalls.of_vc T_ok mixed Tryd.func51 rfl Tryd.call51 ?_)
  refine vc_loop [5] (fun g vals st' => ∃ k : Nat, k + g = l.length ∧ vals = [.i k] ∧ ∀ i (hi : i < l.length), i < k → hasX t l[i] = false) l.length rfl ⟨0, by omega, rfl, fun i _ h => absurd h (by omega)⟩ ?_
  rintro g vals st' ⟨k, hk, rfl, hr⟩
  refine cnd_split (fun hd => ?_) (fun hd => ?_)
  · have hd := of_decide_eq_true hd
    have k1 : k < l.length := by omega
    have sz := hl l[k] (List.getElem_mem k1)
    have pt := tokensR_p [l[k]] (by simp) (by simp; exact sz)
    rw [show strL [l[k]] = ((strL l).drop k).take (k + 1 - k) by
      rw [List.drop_eq_getElem_cons (by omega), show k + 1 - k = 1 by omega]
      simp [strL]] at pt
    unfold tokR at pt
    intro c hc
    rw [IntWalk.i64_in _ (by omega)] at hc
    obtain rfl : c = ((k + 1 : Nat) : Int) := by omega
    refine ⟨k + 1, rfl, k, rfl, by omega, by omega, ?_⟩
    cases hp : tokW [l[k]] with
    | none =>
      rw [hp] at pt
      refine .p rfl pt ?_
      refine vc_loop [8] (fun g2 vals st2 => g2 = 0 ∧ vals = [.i 0]) 0 rfl ⟨rfl, rfl⟩ ?_
      rintro g2 vals st2 ⟨rfl, rfl⟩
      intro c hc
      rw [IntWalk.i64_in _ (by omega)] at hc
      obtain rfl : c = ((k + 1 : Nat) : Int) := by omega
      refine ⟨g - 1, by omega, k + 1, by omega, rfl, fun i hi hik => ?_⟩
      by_cases e : i = k
      · subst e; exact (by unfold hasX; rw [hp]; rfl)
      · exact hr i hi (by omega)
    | some p =>
      rw [hp] at pt
      have pl := strL_len p
      have pb := splW_bound _ 0 [] p rfl (Nat.zero_le _) (tokW_one hp)
      have pn : p.length ≤ 4001 := by have := pb.1; simp at this; omega
      refine .p rfl pt ?_
      refine vc_loop [8] (fun g2 vals st2 => ∃ j : Nat, j + g2 = p.length ∧ vals = [.i j] ∧ ∀ i (hi : i < p.length), i < j → decide (foldB p[i] = foldB t) = false) p.length rfl ⟨0, by omega, rfl, fun i _ h => absurd h (by omega)⟩ ?_
      rintro g2 vals st2 ⟨j, hj, rfl, hall⟩
      refine cnd_split (fun hd2 => ?_) (fun hd2 => ?_)
      · have hd2 := of_decide_eq_true hd2
        have j1 : j < p.length := by omega
        have szj : p[j].size ≤ 4000 := by
          rcases pb.2 p[j] (List.getElem_mem j1) with h | h
          · simp at h
          · omega
        refine ⟨j, _, rfl, strL_at j1, ?_⟩
        refine .p rfl (foldR_p p[j] (by omega)) ?_
        refine .p rfl (foldR_p t (by omega)) ?_
        intro b hb
        have hb : b = decide (foldB p[j] = foldB t) := by rw [Bool.eq_iff_iff, hb, decide_eq_true_eq]
        refine cnd_split (fun h3 => ?_) (fun h3 => ?_)
        · exact retb (hasW_true k1 (hasX_true hp j1 (hb.symm.trans h3))).symm
        · skip
          intro c hc
          rw [IntWalk.i64_in _ (by omega)] at hc
          obtain rfl : c = ((j + 1 : Nat) : Int) := by omega
          refine ⟨g2 - 1, by omega, j + 1, by omega, rfl, fun i hi hij => ?_⟩
          by_cases e : i = j
          · subst e; exact (hb.symm.trans h3)
          · exact hall i hi (by omega)
      · have hd2 := of_decide_eq_false hd2
        intro c hc
        rw [IntWalk.i64_in _ (by omega)] at hc
        obtain rfl : c = ((k + 1 : Nat) : Int) := by omega
        refine ⟨g - 1, by omega, k + 1, by omega, rfl, fun i hi hik => ?_⟩
        by_cases e : i = k
        · subst e; exact (hasX_false hp fun i hi => hall i hi (by omega))
        · exact hr i hi (by omega)
  · have hd := of_decide_eq_false hd
    exact retb (hasW_false fun i hi => hr i hi (by omega)).symm
end Go.Proofs.YtopmflkeohicjaaDoor
