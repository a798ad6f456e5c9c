/- CommasSplits: Tokens, by the program and by the document. No statement of its own. -/
import Derived.Test.YtopmflkeohicjaaDoorSp5
set_option maxRecDepth 100000
namespace Go.Proofs.YtopmflkeohicjaaDoor
open Go.RowKit
/-- the tokens of lists -/
def tokW : List ByteArray → Option (List ByteArray)
  | [] => some []
  | x :: r => match splitW x with
    | none => none
    | some p => if p.all tokB = true then (tokW r).map (p ++ ·) else none
def tokR (l : List ByteArray) : AV := match tokW l with
  | some o => .tup [.sl .no 1 (strL o), .i 0]
  | none => .tup [.nilS, .i 2]
theorem tokW_at {l : List ByteArray} {k : Nat} (h : k < l.length) : tokW (l.drop k) = match splitW l[k] with
    | none => none
    | some p => if p.all tokB = true then (tokW (l.drop (k + 1))).map (p ++ ·) else none := by
  rw [List.drop_eq_getElem_cons h]; rfl
theorem Acc.appL {n : Nat} {st : St} {i : TI} {a : AV} {es ys : List (List AV)} {tg : Tk} {K : AV → St → Prop} (h : Acc n st.tk i.size a es) (hn : n ≤ st.tk.length) (hb : (es.length + ys.length) * i.bytes ≤ 140737488355328) (hm : es.length + ys.length ≤ maxLen)
    (hK : ∀ a' tk', Acc n tk' i.size a' (es ++ ys) → K a' ⟨st.heap, tk'⟩) : vcApp i a (.sl tg i.size ys) st K := by
  unfold vcApp srcA
  simp only [decide_true]
  cases h with
  | nil =>
    refine ⟨fun e => ?_, fun _ => ⟨by simpa using hb, by simpa using hm, ?_⟩⟩
    · subst e; exact hK _ st.tk .nil
    · exact hK _ _ (.own _ _ _ hn (by simp))
  | own t e es h1 h2 =>
    simp only [decide_true]
    have hlt := (List.getElem?_eq_some_iff.1 h2).1
    exact ⟨h2, hb, hm, hK _ _ (.own _ _ _ h1 (by rw [List.getElem?_set_self hlt]))⟩
section
attribute [local irreducible] vcApp
set_option maxHeartbeats 2000000 in
theorem tokens_p (l : List ByteArray) (hn : l.length ≤ 1000) (hl : ∀ x ∈ l, x.size ≤ 4000) : APure Tryd.prog 101 [.sl .no 1 (strL l)] (tokR l) [] := by
  have hmx : maxLen = 9223372036854775807 := rfl
  have ell := strL_len l
  refine APure.ofW (by unfold tokR; split <;> rfl) ?_
  refine ACalls.of_vc T_ok mixed Tryd.func101 rfl Tryd.call101 ?_
  refine vc_loop [4, 13] (fun g vals st' => ∃ (k : Nat) (o : List ByteArray) (a : AV), vals = [a, .i k] ∧ k + g = l.length ∧ o.length ≤ k * 4001 ∧ Acc 0 st'.tk 1 a (strL o) ∧ (tokW (l.drop k)).map (o ++ ·) = tokW l) l.length rfl ⟨0, [], .nilS, rfl, by omega, by simp, .nil, by simp⟩ ?_
  rintro g vals st' ⟨k, o, a, rfl, hg, ho, hA, hW⟩
  have el := strL_len o
  generalize hes : strL o = es at hA el
  cases hA with
  | nil =>
    refine cnd_split (fun hd => ?_) (fun hd => ?_)
    · have hd := of_decide_eq_true hd
      have k1 : k < l.length := by omega
      have sz := hl l[k] (List.getElem_mem k1)
      have ps := split_p l[k] (by omega)
      have hT := tokW_at k1
      unfold splR at ps
      refine ⟨k, _, rfl, strL_at k1, ?_⟩
      cases hsp : splitW l[k] with
      | none =>
        rw [hsp] at ps hT
        refine .p rfl ps ?_
        unfold tokR
        rw [← hW, hT]
        exact .inl rfl
      | some p =>
        rw [hsp] at ps hT
        have pl := strL_len p
        have pb := splW_bound _ 0 [] p rfl (Nat.zero_le _) hsp
        have pn : p.length ≤ 4001 := by have := pb.1; simp at this; omega
        refine .p rfl ps ?_
        refine vc_loop [27] (fun g2 vals st2 => ∃ j : Nat, j + g2 = p.length ∧ vals = [.i j] ∧ st2 = st' ∧ ∀ i (hi : i < p.length), i < j → tokB p[i] = true) p.length rfl ⟨0, by omega, rfl, rfl, fun i _ h => absurd h (by omega)⟩ ?_
        rintro g2 vals st2 ⟨j, hj, rfl, rfl, hall⟩
        refine cnd_split (fun hd2 => ?_) (fun hd2 => ?_)
        · have hd2 := of_decide_eq_true hd2
          have j1 : j < p.length := by omega
          have szj : p[j].size ≤ 4000 := by
            rcases pb.2 p[j] (List.getElem_mem j1) with h | h
            · simp at h
            · omega
          refine ⟨j, _, rfl, strL_at j1, ?_⟩
          refine .p rfl (token_p p[j] (by omega)) ?_
          refine cnd_split (fun h3 => ?_) (fun h3 => ?_)
          · rw [Bool.not_eq_true'] at h3
            have : p.all tokB = false := List.all_eq_false.2 ⟨p[j], List.getElem_mem j1, by rw [h3]; decide⟩
            simp only [this] at hT
            unfold tokR
            rw [← hW, hT]
            exact .inl rfl
          · rw [Bool.not_eq_false'] at h3
            intro c hc
            rw [IntWalk.i64_in _ (by omega)] at hc
            obtain rfl : c = ((j + 1 : Nat) : Int) := by omega
            refine ⟨g2 - 1, by omega, j + 1, by omega, rfl, rfl, fun i hi hij => ?_⟩
            by_cases e : i = j
            · subst e; exact h3
            · exact hall i hi (by omega)
        · have hd2 := of_decide_eq_false hd2
          have hp : p.all tokB = true := List.all_eq_true.2 fun x hx => by
            obtain ⟨i, hi, rfl⟩ := List.getElem_of_mem hx
            exact hall i hi (by omega)
          simp only [hp, if_true] at hT
          rw [hT] at hW
          have hW2 : (tokW (l.drop (k + 1))).map ((o ++ p) ++ ·) = tokW l := by
            rw [← hW]
            cases tokW (l.drop (k + 1)) <;> simp
          refine Acc.appL (n := 0) (i := ti9) (es := []) .nil (Nat.zero_le _) ?_ ?_ (fun a2 tk' w1 => ?_)
          · show (([] : List (List AV)).length + (strL p).length) * 16 ≤ _; omega
          · show ([] : List (List AV)).length + (strL p).length ≤ _; omega
          rw [show ([] : List (List AV)) ++ strL p = strL (o ++ p) by rw [← hes]; simp [strL]] at w1
          generalize hzs : strL (o ++ p) = zs at w1
          cases w1 with
          | nil =>
            intro c hc
            rw [IntWalk.i64_in _ (by omega)] at hc
            obtain rfl : c = ((k + 1 : Nat) : Int) := by omega
            exact ⟨g - 1, by omega, k + 1, o ++ p, _, rfl, by omega, by rw [List.length_append, Nat.add_mul]; omega, by rw [hzs]; exact .nil, hW2⟩
          | own t9 e9 zs z1 z2 =>
            intro c hc
            rw [IntWalk.i64_in _ (by omega)] at hc
            obtain rfl : c = ((k + 1 : Nat) : Int) := by omega
            exact ⟨g - 1, by omega, k + 1, o ++ p, _, rfl, by omega, by rw [List.length_append, Nat.add_mul]; omega, by rw [hzs]; exact .own _ _ _ z1 z2, hW2⟩
    · have hd := of_decide_eq_false hd
      have : l.drop k = [] := List.drop_of_length_le (by omega)
      rw [this] at hW
      unfold tokR
      rw [← hW]
      simp only [tokW, Option.map_some, List.append_nil]
      rw [hes]
      exact (.inr (.inr ⟨[.i 0], 1, rfl, rfl⟩))
  | own t0 e0 es q0 q1 =>
    refine cnd_split (fun hd => ?_) (fun hd => ?_)
    · have hd := of_decide_eq_true hd
      have k1 : k < l.length := by omega
      have sz := hl l[k] (List.getElem_mem k1)
      have ps := split_p l[k] (by omega)
      have hT := tokW_at k1
      unfold splR at ps
      refine ⟨k, _, rfl, strL_at k1, ?_⟩
      cases hsp : splitW l[k] with
      | none =>
        rw [hsp] at ps hT
        refine .p rfl ps ?_
        unfold tokR
        rw [← hW, hT]
        exact .inl rfl
      | some p =>
        rw [hsp] at ps hT
        have pl := strL_len p
        have pb := splW_bound _ 0 [] p rfl (Nat.zero_le _) hsp
        have pn : p.length ≤ 4001 := by have := pb.1; simp at this; omega
        refine .p rfl ps ?_
        refine vc_loop [27] (fun g2 vals st2 => ∃ j : Nat, j + g2 = p.length ∧ vals = [.i j] ∧ st2 = st' ∧ ∀ i (hi : i < p.length), i < j → tokB p[i] = true) p.length rfl ⟨0, by omega, rfl, rfl, fun i _ h => absurd h (by omega)⟩ ?_
        rintro g2 vals st2 ⟨j, hj, rfl, rfl, hall⟩
        refine cnd_split (fun hd2 => ?_) (fun hd2 => ?_)
        · have hd2 := of_decide_eq_true hd2
          have j1 : j < p.length := by omega
          have szj : p[j].size ≤ 4000 := by
            rcases pb.2 p[j] (List.getElem_mem j1) with h | h
            · simp at h
            · omega
          refine ⟨j, _, rfl, strL_at j1, ?_⟩
          refine .p rfl (token_p p[j] (by omega)) ?_
          refine cnd_split (fun h3 => ?_) (fun h3 => ?_)
          · rw [Bool.not_eq_true'] at h3
            have : p.all tokB = false := List.all_eq_false.2 ⟨p[j], List.getElem_mem j1, by rw [h3]; decide⟩
            simp only [this] at hT
            unfold tokR
            rw [← hW, hT]
            exact .inl rfl
          · rw [Bool.not_eq_false'] at h3
            intro c hc
            rw [IntWalk.i64_in _ (by omega)] at hc
            obtain rfl : c = ((j + 1 : Nat) : Int) := by omega
            refine ⟨g2 - 1, by omega, j + 1, by omega, rfl, rfl, fun i hi hij => ?_⟩
            by_cases e : i = j
            · subst e; exact h3
            · exact hall i hi (by omega)
        · have hd2 := of_decide_eq_false hd2
          have hp : p.all tokB = true := List.all_eq_true.2 fun x hx => by
            obtain ⟨i, hi, rfl⟩ := List.getElem_of_mem hx
            exact hall i hi (by omega)
          simp only [hp, if_true] at hT
          rw [hT] at hW
          have hW2 : (tokW (l.drop (k + 1))).map ((o ++ p) ++ ·) = tokW l := by
            rw [← hW]
            cases tokW (l.drop (k + 1)) <;> simp
          refine Acc.appL (n := 0) (i := ti9) (es := es) (.own _ _ _ q0 q1) (Nat.zero_le _) ?_ ?_ (fun a2 tk' w1 => ?_)
          · show ((es : List (List AV)).length + (strL p).length) * 16 ≤ _; omega
          · show (es : List (List AV)).length + (strL p).length ≤ _; omega
          rw [show (es : List (List AV)) ++ strL p = strL (o ++ p) by rw [← hes]; simp [strL]] at w1
          generalize hzs : strL (o ++ p) = zs at w1
          cases w1 with
          | nil =>
            intro c hc
            rw [IntWalk.i64_in _ (by omega)] at hc
            obtain rfl : c = ((k + 1 : Nat) : Int) := by omega
            exact ⟨g - 1, by omega, k + 1, o ++ p, _, rfl, by omega, by rw [List.length_append, Nat.add_mul]; omega, by rw [hzs]; exact .nil, hW2⟩
          | own t9 e9 zs z1 z2 =>
            intro c hc
            rw [IntWalk.i64_in _ (by omega)] at hc
            obtain rfl : c = ((k + 1 : Nat) : Int) := by omega
            exact ⟨g - 1, by omega, k + 1, o ++ p, _, rfl, by omega, by rw [List.length_append, Nat.add_mul]; omega, by rw [hzs]; exact .own _ _ _ z1 z2, hW2⟩
    · have hd := of_decide_eq_false hd
      have : l.drop k = [] := List.drop_of_length_le (by omega)
      rw [this] at hW
      unfold tokR
      rw [← hW]
      simp only [tokW, Option.map_some, List.append_nil]
      rw [hes]
      exact (.inl rfl)
end
end Go.Proofs.YtopmflkeohicjaaDoor
