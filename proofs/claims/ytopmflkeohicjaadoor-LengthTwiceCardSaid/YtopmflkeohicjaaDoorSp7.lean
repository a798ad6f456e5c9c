/- CommasSplits: the document's Tokens. No statement of its own. -/
import Derived.Test.YtopmflkeohicjaaDoorSp6
set_option maxRecDepth 100000
namespace Go.Proofs.YtopmflkeohicjaaDoor
open Go.RowKit
section
attribute [local irreducible] vcApp
set_option maxHeartbeats 2000000 in
theorem tokensR_p (l : List ByteArray) (hn : l.length ≤ 1000) (hl : ∀ x ∈ l, x.size ≤ 4000) : APure Tryd.prog 86 [.sl .no 1 (strL l)] (tokR l) [] := by
  have hmx : maxLen = 9223372036854775807 := rfl
  have ell := strL_len l
  refine APure.ofW (by unfold tokR; split <;> rfl) ?_
  refine ACalls.of_vc T_ok mixed Tryd.func86 rfl Tryd.call86 ?_
  refine vc_loop [4, 5] (fun g vals st' => ∃ (k : Nat) (o : List ByteArray) (a : AV), vals = [a, .i k] ∧ k + g = l.length ∧ o.length ≤ k * 4001 ∧ Acc 0 st'.tk 1 a (strL o) ∧ (tokW (l.drop k)).map (o ++ ·) = tokW l) l.length rfl ⟨0, [], .nilS, rfl, by omega, by simp, .nil, by simp⟩ ?_
  rintro g vals st' ⟨k, o, a, rfl, hg, ho, hA, hW⟩
  generalize hes : strL o = es at hA
  cases hA with
  | nil =>
    refine cnd_split (fun hd => ?_) (fun hd => ?_)
    · have hd := of_decide_eq_true hd
      have k1 : k < l.length := by omega
      have sz := hl l[k] (List.getElem_mem k1)
      have ps := split6_p l[k] (by omega)
      have hT := tokW_at k1
      unfold splR at ps
      refine ⟨k, _, rfl, strL_at k1, ?_⟩
      cases hsp : splitW l[k] with
      | none =>
        rw [hsp] at ps hT
        refine .p rfl ps ?_
        unfold tokR
        rw [← hW, hT]
        exact .inl rfl
      | some p =>
        rw [hsp] at ps hT
        have pl := strL_len p
        have pb := splW_bound _ 0 [] p rfl (Nat.zero_le _) hsp
        have pn : p.length ≤ 4001 := by have := pb.1; simp at this; omega
        refine .p rfl ps ?_
        refine vc_loop [4, 8] (fun g2 vals st2 => ∃ (j : Nat) (a2 : AV), j + g2 = p.length ∧ vals = [a2, .i j] ∧ Acc 0 st2.tk 1 a2 (strL (o ++ p.take j)) ∧ ∀ i (hi : i < p.length), i < j → tokB p[i] = true) p.length rfl ⟨0, _, by omega, rfl, by rw [List.take_zero, List.append_nil, hes]; exact .nil, fun i _ h => absurd h (by omega)⟩ ?_
        rintro g2 vals st2 ⟨j, a2, hj, rfl, hA2, hall⟩
        have el2 := strL_len (o ++ p.take j)
        rw [List.length_append, List.length_take] at el2
        generalize hes2 : strL (o ++ p.take j) = es2 at hA2 el2
        cases hA2 with
        | nil =>
          refine cnd_split (fun hd2 => ?_) (fun hd2 => ?_)
          · have hd2 := of_decide_eq_true hd2
            have j1 : j < p.length := by omega
            have szj : p[j].size ≤ 4000 := by
              rcases pb.2 p[j] (List.getElem_mem j1) with h | h
              · simp at h
              · omega
            refine ⟨j, _, rfl, strL_at j1, ?_⟩
            refine .p rfl (token1_p p[j] (by omega)) ?_
            refine cnd_split (fun h3 => ?_) (fun h3 => ?_)
            · rw [Bool.not_eq_true'] at h3
              have : p.all tokB = false := List.all_eq_false.2 ⟨p[j], List.getElem_mem j1, by rw [h3]; decide⟩
              simp only [this] at hT
              unfold tokR
              rw [← hW, hT]
              exact .inl rfl
            · rw [Bool.not_eq_false'] at h3
              refine ⟨j, _, rfl, strL_at j1, ?_⟩
              refine Acc.app (n := 0) (i := ti9) (es := []) .nil (Nat.zero_le _) (List.cons_ne_nil _ _) ?_ ?_ (fun t e tk' w0 w1 w2 w3 => ?_)
              · show (([] : List (List AV)).length + 1) * 16 ≤ _; omega
              · show ([] : List (List AV)).length + 1 ≤ _; omega
              intro c hc
              rw [IntWalk.i64_in _ (by omega)] at hc
              obtain rfl : c = ((j + 1 : Nat) : Int) := by omega
              refine ⟨g2 - 1, by omega, j + 1, _, by omega, rfl, ?_, fun i hi hij => ?_⟩
              · rw [List.take_add_one, List.getElem?_eq_getElem j1, show (some p[j]).toList = [p[j]] from rfl, ← List.append_assoc, ← strL_app, hes2]
                exact .own _ _ _ (Nat.zero_le _) w1
              · by_cases e : i = j
                · subst e; exact h3
                · exact hall i hi (by omega)
          · have hd2 := of_decide_eq_false hd2
            have hp : p.all tokB = true := List.all_eq_true.2 fun x hx => by
              obtain ⟨i, hi, rfl⟩ := List.getElem_of_mem hx
              exact hall i hi (by omega)
            simp only [hp, if_true] at hT
            rw [hT] at hW
            have hW2 : (tokW (l.drop (k + 1))).map ((o ++ p) ++ ·) = tokW l := by
              rw [← hW]
              cases tokW (l.drop (k + 1)) <;> simp
            rw [List.take_of_length_le (by omega)] at hes2
            intro c hc
            rw [IntWalk.i64_in _ (by omega)] at hc
            obtain rfl : c = ((k + 1 : Nat) : Int) := by omega
            exact ⟨g - 1, by omega, k + 1, o ++ p, _, rfl, by omega, by rw [List.length_append, Nat.add_mul]; omega, by rw [hes2]; exact .nil, hW2⟩
        | own t5 e5 es2 v0 v1 =>
          refine cnd_split (fun hd2 => ?_) (fun hd2 => ?_)
          · have hd2 := of_decide_eq_true hd2
            have j1 : j < p.length := by omega
            have szj : p[j].size ≤ 4000 := by
              rcases pb.2 p[j] (List.getElem_mem j1) with h | h
              · simp at h
              · omega
            refine ⟨j, _, rfl, strL_at j1, ?_⟩
            refine .p rfl (token1_p p[j] (by omega)) ?_
            refine cnd_split (fun h3 => ?_) (fun h3 => ?_)
            · rw [Bool.not_eq_true'] at h3
              have : p.all tokB = false := List.all_eq_false.2 ⟨p[j], List.getElem_mem j1, by rw [h3]; decide⟩
              simp only [this] at hT
              unfold tokR
              rw [← hW, hT]
              exact .inl rfl
            · rw [Bool.not_eq_false'] at h3
              refine ⟨j, _, rfl, strL_at j1, ?_⟩
              refine Acc.app (n := 0) (i := ti9) (es := es2) (.own _ _ _ v0 v1) (Nat.zero_le _) (List.cons_ne_nil _ _) ?_ ?_ (fun t e tk' w0 w1 w2 w3 => ?_)
              · show ((es2 : List (List AV)).length + 1) * 16 ≤ _; omega
              · show (es2 : List (List AV)).length + 1 ≤ _; omega
              intro c hc
              rw [IntWalk.i64_in _ (by omega)] at hc
              obtain rfl : c = ((j + 1 : Nat) : Int) := by omega
              refine ⟨g2 - 1, by omega, j + 1, _, by omega, rfl, ?_, fun i hi hij => ?_⟩
              · rw [List.take_add_one, List.getElem?_eq_getElem j1, show (some p[j]).toList = [p[j]] from rfl, ← List.append_assoc, ← strL_app, hes2]
                exact .own _ _ _ (Nat.zero_le _) w1
              · by_cases e : i = j
                · subst e; exact h3
                · exact hall i hi (by omega)
          · have hd2 := of_decide_eq_false hd2
            have hp : p.all tokB = true := List.all_eq_true.2 fun x hx => by
              obtain ⟨i, hi, rfl⟩ := List.getElem_of_mem hx
              exact hall i hi (by omega)
            simp only [hp, if_true] at hT
            rw [hT] at hW
            have hW2 : (tokW (l.drop (k + 1))).map ((o ++ p) ++ ·) = tokW l := by
              rw [← hW]
              cases tokW (l.drop (k + 1)) <;> simp
            rw [List.take_of_length_le (by omega)] at hes2
            intro c hc
            rw [IntWalk.i64_in _ (by omega)] at hc
            obtain rfl : c = ((k + 1 : Nat) : Int) := by omega
            exact ⟨g - 1, by omega, k + 1, o ++ p, _, rfl, by omega, by rw [List.length_append, Nat.add_mul]; omega, by rw [hes2]; exact (.own _ _ _ v0 v1), hW2⟩
    · have hd := of_decide_eq_false hd
      have : l.drop k = [] := List.drop_of_length_le (by omega)
      rw [this] at hW
      unfold tokR
      rw [← hW]
      simp only [tokW, Option.map_some, List.append_nil]
      rw [hes]
      exact (.inr (.inr ⟨[.i 0], 1, rfl, rfl⟩))
  | own t0 e0 es q0 q1 =>
    refine cnd_split (fun hd => ?_) (fun hd => ?_)
    · have hd := of_decide_eq_true hd
      have k1 : k < l.length := by omega
      have sz := hl l[k] (List.getElem_mem k1)
      have ps := split6_p l[k] (by omega)
      have hT := tokW_at k1
      unfold splR at ps
      refine ⟨k, _, rfl, strL_at k1, ?_⟩
      cases hsp : splitW l[k] with
      | none =>
        rw [hsp] at ps hT
        refine .p rfl ps ?_
        unfold tokR
        rw [← hW, hT]
        exact .inl rfl
      | some p =>
        rw [hsp] at ps hT
        have pl := strL_len p
        have pb := splW_bound _ 0 [] p rfl (Nat.zero_le _) hsp
        have pn : p.length ≤ 4001 := by have := pb.1; simp at this; omega
        refine .p rfl ps ?_
        refine vc_loop [4, 8] (fun g2 vals st2 => ∃ (j : Nat) (a2 : AV), j + g2 = p.length ∧ vals = [a2, .i j] ∧ Acc 0 st2.tk 1 a2 (strL (o ++ p.take j)) ∧ ∀ i (hi : i < p.length), i < j → tokB p[i] = true) p.length rfl ⟨0, _, by omega, rfl, by rw [List.take_zero, List.append_nil, hes]; exact (.own _ _ _ q0 q1), fun i _ h => absurd h (by omega)⟩ ?_
        rintro g2 vals st2 ⟨j, a2, hj, rfl, hA2, hall⟩
        have el2 := strL_len (o ++ p.take j)
        rw [List.length_append, List.length_take] at el2
        generalize hes2 : strL (o ++ p.take j) = es2 at hA2 el2
        cases hA2 with
        | nil =>
          refine cnd_split (fun hd2 => ?_) (fun hd2 => ?_)
          · have hd2 := of_decide_eq_true hd2
            have j1 : j < p.length := by omega
            have szj : p[j].size ≤ 4000 := by
              rcases pb.2 p[j] (List.getElem_mem j1) with h | h
              · simp at h
              · omega
            refine ⟨j, _, rfl, strL_at j1, ?_⟩
            refine .p rfl (token1_p p[j] (by omega)) ?_
            refine cnd_split (fun h3 => ?_) (fun h3 => ?_)
            · rw [Bool.not_eq_true'] at h3
              have : p.all tokB = false := List.all_eq_false.2 ⟨p[j], List.getElem_mem j1, by rw [h3]; decide⟩
              simp only [this] at hT
              unfold tokR
              rw [← hW, hT]
              exact .inl rfl
            · rw [Bool.not_eq_false'] at h3
              refine ⟨j, _, rfl, strL_at j1, ?_⟩
              refine Acc.app (n := 0) (i := ti9) (es := []) .nil (Nat.zero_le _) (List.cons_ne_nil _ _) ?_ ?_ (fun t e tk' w0 w1 w2 w3 => ?_)
              · show (([] : List (List AV)).length + 1) * 16 ≤ _; omega
              · show ([] : List (List AV)).length + 1 ≤ _; omega
              intro c hc
              rw [IntWalk.i64_in _ (by omega)] at hc
              obtain rfl : c = ((j + 1 : Nat) : Int) := by omega
              refine ⟨g2 - 1, by omega, j + 1, _, by omega, rfl, ?_, fun i hi hij => ?_⟩
              · rw [List.take_add_one, List.getElem?_eq_getElem j1, show (some p[j]).toList = [p[j]] from rfl, ← List.append_assoc, ← strL_app, hes2]
                exact .own _ _ _ (Nat.zero_le _) w1
              · by_cases e : i = j
                · subst e; exact h3
                · exact hall i hi (by omega)
          · have hd2 := of_decide_eq_false hd2
            have hp : p.all tokB = true := List.all_eq_true.2 fun x hx => by
              obtain ⟨i, hi, rfl⟩ := List.getElem_of_mem hx
              exact hall i hi (by omega)
            simp only [hp, if_true] at hT
            rw [hT] at hW
            have hW2 : (tokW (l.drop (k + 1))).map ((o ++ p) ++ ·) = tokW l := by
              rw [← hW]
              cases tokW (l.drop (k + 1)) <;> simp
            rw [List.take_of_length_le (by omega)] at hes2
            intro c hc
            rw [IntWalk.i64_in _ (by omega)] at hc
            obtain rfl : c = ((k + 1 : Nat) : Int) := by omega
            exact ⟨g - 1, by omega, k + 1, o ++ p, _, rfl, by omega, by rw [List.length_append, Nat.add_mul]; omega, by rw [hes2]; exact .nil, hW2⟩
        | own t5 e5 es2 v0 v1 =>
          refine cnd_split (fun hd2 => ?_) (fun hd2 => ?_)
          · have hd2 := of_decide_eq_true hd2
            have j1 : j < p.length := by omega
            have szj : p[j].size ≤ 4000 := by
              rcases pb.2 p[j] (List.getElem_mem j1) with h | h
              · simp at h
              · omega
            refine ⟨j, _, rfl, strL_at j1, ?_⟩
            refine .p rfl (token1_p p[j] (by omega)) ?_
            refine cnd_split (fun h3 => ?_) (fun h3 => ?_)
            · rw [Bool.not_eq_true'] at h3
              have : p.all tokB = false := List.all_eq_false.2 ⟨p[j], List.getElem_mem j1, by rw [h3]; decide⟩
              simp only [this] at hT
              unfold tokR
              rw [← hW, hT]
              exact .inl rfl
            · rw [Bool.not_eq_false'] at h3
              refine ⟨j, _, rfl, strL_at j1, ?_⟩
              refine Acc.app (n := 0) (i := ti9) (es := es2) (.own _ _ _ v0 v1) (Nat.zero_le _) (List.cons_ne_nil _ _) ?_ ?_ (fun t e tk' w0 w1 w2 w3 => ?_)
              · show ((es2 : List (List AV)).length + 1) * 16 ≤ _; omega
              · show (es2 : List (List AV)).length + 1 ≤ _; omega
              intro c hc
              rw [IntWalk.i64_in _ (by omega)] at hc
              obtain rfl : c = ((j + 1 : Nat) : Int) := by omega
              refine ⟨g2 - 1, by omega, j + 1, _, by omega, rfl, ?_, fun i hi hij => ?_⟩
              · rw [List.take_add_one, List.getElem?_eq_getElem j1, show (some p[j]).toList = [p[j]] from rfl, ← List.append_assoc, ← strL_app, hes2]
                exact .own _ _ _ (Nat.zero_le _) w1
              · by_cases e : i = j
                · subst e; exact h3
                · exact hall i hi (by omega)
          · have hd2 := of_decide_eq_false hd2
            have hp : p.all tokB = true := List.all_eq_true.2 fun x hx => by
              obtain ⟨i, hi, rfl⟩ := List.getElem_of_mem hx
              exact hall i hi (by omega)
            simp only [hp, if_true] at hT
            rw [hT] at hW
            have hW2 : (tokW (l.drop (k + 1))).map ((o ++ p) ++ ·) = tokW l := by
              rw [← hW]
              cases tokW (l.drop (k + 1)) <;> simp
            rw [List.take_of_length_le (by omega)] at hes2
            intro c hc
            rw [IntWalk.i64_in _ (by omega)] at hc
            obtain rfl : c = ((k + 1 : Nat) : Int) := by omega
            exact ⟨g - 1, by omega, k + 1, o ++ p, _, rfl, by omega, by rw [List.length_append, Nat.add_mul]; omega, by rw [hes2]; exact (.own _ _ _ v0 v1), hW2⟩
    · have hd := of_decide_eq_false hd
      have : l.drop k = [] := List.drop_of_length_le (by omega)
      rw [this] at hW
      unfold tokR
      rw [← hW]
      simp only [tokW, Option.map_some, List.append_nil]
      rw [hes]
      exact (.inl rfl)
end
end Go.Proofs.YtopmflkeohicjaaDoor
