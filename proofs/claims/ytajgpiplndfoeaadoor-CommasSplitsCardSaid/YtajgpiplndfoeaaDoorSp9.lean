/- CommasSplits: the law. No statement of its own. -/
import Derived.Test.YtajgpiplndfoeaaDoorSp8
set_option maxRecDepth 100000
namespace Go.Proofs.YtajgpiplndfoeaaDoor
open Go.RowKit
theorem argsW_nn : ArgsW [.nilS, .nilS] [.sl .no 1 (strL []), .sl .no 1 (strL [])] := ⟨.inr ⟨rfl, 1, rfl⟩, .inr ⟨rfl, 1, rfl⟩, trivial⟩
theorem fewL_80 (l : List ByteArray) : ∀ x ∈ fewL l, x.size ≤ 80 := fun x hx => by
  unfold fewL at hx
  obtain ⟨y, _, rfl⟩ := List.mem_map.1 hx
  exact cut80_size y
theorem tokW_len : ∀ (l o : List ByteArray), (∀ x ∈ l, x.size ≤ 80) → tokW l = some o → o.length ≤ l.length * 81
  | [], o, _, h => by cases h; simp
  | x :: r, o, hl, h => by
    unfold tokW at h
    cases hs : splitW x with
    | none => rw [hs] at h; cases h
    | some p =>
      rw [hs] at h
      simp only at h
      split at h
      · cases hr : tokW r with
        | none => rw [hr] at h; cases h
        | some q =>
          rw [hr] at h
          cases h
          have h1 := tokW_len r q (fun y hy => hl y (.tail _ hy)) hr
          have h2 := (splW_bound _ 0 [] p rfl (Nat.zero_le _) hs).1
          have h3 := hl x (.head _)
          simp only [List.length_nil] at h2
          rw [List.length_append, List.length_cons, Nat.add_mul]
          omega
      · cases h
theorem commasSplits_p (l0 : List ByteArray) (t0 : ByteArray) : APure Tryd.prog 9 [.sl .no 1 (strL l0), .s t0] (.b true) [] := by
  have hmx : maxLen = 9223372036854775807 := rfl
  have b1 := fewL_len l0
  have b8 := fewL_80 l0
  have bt : (t0.extract 0 (if 40 < t0.size then 40 else t0.size)).size ≤ 80 := by rw [ByteArray.size_extract]; split <;> omega
  refine APure.of rfl (ACalls.of_vc T_ok mixed Tryd.func9 rfl Tryd.call9 ?_)
  refine .p rfl awake6_p ?_
  refine .x (by kernel_rfl) ?_
  refine .p rfl (few_p l0) ?_
  refine ⟨_, minI_at t0.size 40, Nat.zero_le _, by split <;> omega, ?_⟩
  generalize hl : fewL l0 = l at b1 b8
  have ell := strL_len l
  refine vc_loop [5] (fun g vals st' => ∃ k : Nat, k + g = l.length ∧ vals = [.i k] ∧ st' = ⟨[], []⟩) l.length rfl ⟨0, by omega, rfl, rfl⟩ ?_
  rintro g vals st' ⟨k, hk, rfl, rfl⟩
  refine cnd_split (fun hd => ?_) (fun hd => ?_)
  · have hd := of_decide_eq_true hd
    have k1 : k < l.length := by omega
    have sz := b8 l[k] (List.getElem_mem k1)
    have p1 := split_p l[k] (by omega)
    have p2 := split6_p l[k] (by omega)
    unfold splR at p1 p2
    refine ⟨k, _, rfl, strL_at k1, ?_⟩
    cases hs : splitW l[k] with
    | none =>
      rw [hs] at p1 p2
      refine .p rfl p1 ?_
      refine ⟨k, _, rfl, strL_at k1, ?_⟩
      refine .p rfl p2 ?_
      have s1 := same6_p [] [] (by simp) (by simp)
      rw [decide_eq_true rfl] at s1
      refine .w rfl argsW_nn s1 ?_
      intro c hc
      rw [IntWalk.i64_in _ (by omega)] at hc
      obtain rfl : c = ((k + 1 : Nat) : Int) := by omega
      exact ⟨g - 1, by omega, k + 1, by omega, rfl, rfl⟩
    | some p =>
      rw [hs] at p1 p2
      have pn : p.length ≤ 81 := by have := (splW_bound _ 0 [] p rfl (Nat.zero_le _) hs).1; simp at this; omega
      refine .p rfl p1 ?_
      refine ⟨k, _, rfl, strL_at k1, ?_⟩
      refine .p rfl p2 ?_
      have s1 := same6_p p p (by omega) (by omega)
      rw [decide_eq_true rfl] at s1
      refine .p rfl s1 ?_
      intro c hc
      rw [IntWalk.i64_in _ (by omega)] at hc
      obtain rfl : c = ((k + 1 : Nat) : Int) := by omega
      exact ⟨g - 1, by omega, k + 1, by omega, rfl, rfl⟩
  · have q1 := tokens_p l (by omega) b8
    have q2 := tokensR_p l (by omega) b8
    have h1 := has_p _ l bt (by omega) b8
    have h2 := hasR_p _ l bt (by omega) b8
    generalize hasW (t0.extract 0 (if 40 < t0.size then 40 else t0.size)) l = hb at h1 h2
    unfold tokR at q1 q2
    cases ht : tokW l with
    | none =>
      rw [ht] at q1 q2
      refine .p rfl q1 ?_
      refine .p rfl q2 ?_
      have s1 := same6_p [] [] (by simp) (by simp)
      rw [decide_eq_true rfl] at s1
      refine .w rfl argsW_nn s1 ?_
      refine .p rfl h1 ?_
      refine .p rfl h2 ?_
      cases hb <;> exact retb rfl
    | some o =>
      rw [ht] at q1 q2
      have on := tokW_len l o b8 ht
      refine .p rfl q1 ?_
      refine .p rfl q2 ?_
      have s1 := same6_p o o (by omega) (by omega)
      rw [decide_eq_true rfl] at s1
      refine .p rfl s1 ?_
      refine .p rfl h1 ?_
      refine .p rfl h2 ?_
      cases hb <;> exact retb rfl
end Go.Proofs.YtajgpiplndfoeaaDoor
