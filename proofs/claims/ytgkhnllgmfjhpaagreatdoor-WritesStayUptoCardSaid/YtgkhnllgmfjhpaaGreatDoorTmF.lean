/- Templates: the document's names; the law's rows; the laws. No statement of its own. -/
import Derived.Test.YtgkhnllgmfjhpaaGreatDoorTmE
set_option linter.unusedSimpArgs false
set_option linter.unusedVariables false
set_option maxRecDepth 100000
namespace Go.Proofs.YtgkhnllgmfjhpaaGreatDoor
open Go.RowKit
section
attribute [local irreducible] vcApp
def cut60 (s : ByteArray) : ByteArray := s.extract 0 (if 60 < s.size then 60 else s.size)
theorem cut60_size (s : ByteArray) : (cut60 s).size ≤ 60 := by
  unfold cut60
  rw [ByteArray.size_extract]
  split <;> omega
def fewT (l : List Prt) : List Prt := (l.take 40).map fun p => (p.1, cut60 p.2)
theorem fewT_take {l : List Prt} {k : Nat} (h : k < l.length) (h2 : k < 40) : fewT (l.take (k + 1)) = fewT (l.take k) ++ [(l[k].1, cut60 l[k].2)] := by
  unfold fewT
  rw [List.take_take, List.take_take, Nat.min_eq_right (by omega), Nat.min_eq_right (by omega), List.take_succ_eq_append_getElem h, List.map_append]
  rfl
theorem fewT_len (l : List Prt) : (fewT l).length ≤ 40 := by unfold fewT; simp; omega
theorem fewT_sum (l : List Prt) : sumT (fewT l) ≤ 2400 := by
  have h := sumT_bound (l := fewT l) (b := 60) (fun p hp => by
    unfold fewT at hp
    obtain ⟨q, _, rfl⟩ := List.mem_map.1 hp
    exact cut60_size _)
  have := fewT_len l
  omega
theorem few31_p (l : List Prt) : APure Tryz.prog 19 [.sl .no 2 (prtL l)] (.sl .no 2 (prtL (fewT l))) [] := by
  have hmx : maxLen = 9223372036854775807 := rfl
  have el := prtL_len l
  refine APure.ofX rfl ?_
  refine ACalls.of_vc T_ok mixed Tryz.func19 rfl Tryz.call19 ?_
  refine vc_loop [3, 4] (fun g vals st' => ∃ (k : Nat) (a : AV), k + g = l.length ∧ k ≤ 40 ∧ vals = [a, .i k] ∧ Acc 0 st'.tk 2 a (prtL (fewT (l.take k)))) l.length rfl ⟨0, _, by omega, by omega, rfl, .nil⟩ ?_
  rintro g vals st1 ⟨k, a, hk, hk4, rfl, hA⟩
  have hfl := prtL_len (fewT (l.take k))
  have hf2 := fewT_len (l.take k)
  generalize hes : prtL (fewT (l.take k)) = es at hA hfl
  cases hA with
  | nil =>
    refine cnd_split (fun hd => ?_) (fun hd => ?_)
    · have hd := of_decide_eq_true hd
      have k1 : k < l.length := by omega
      refine cnd_split (fun hd2 => ?_) (fun hd2 => ?_)
      · have hd2 : (k : Int) < 40 := of_decide_eq_true hd2
        refine .x (by kernel_rfl) ?_
        refine ⟨k, _, rfl, prtL_at k1, ?_⟩
        refine ⟨k, _, rfl, prtL_at k1, ?_⟩
        refine ⟨k, _, rfl, prtL_at k1, ?_⟩
        refine ⟨_, minI_at l[k].2.size 60, Nat.zero_le _, by split <;> omega, ?_⟩
        refine Acc.app (n := 0) (i := ti82) (es := []) .nil (Nat.zero_le _) (List.cons_ne_nil _ _) ?_ ?_ (fun t9 e9 tk9 z0 z1 z2 z3 => ?_)
        · show (([] : List (List AV)).length + 1) * 24 ≤ _; omega
        · show ([] : List (List AV)).length + 1 ≤ _; omega
        intro c hc
        rw [IntWalk.i64_in _ (by omega)] at hc
        obtain rfl : c = ((k + 1 : Nat) : Int) := by omega
        refine ⟨g - 1, by omega, k + 1, _, by omega, by omega, rfl, ?_⟩
        rw [fewT_take k1 (by omega), ← prtL_app, hes]
        exact .own _ _ _ (Nat.zero_le _) z1
      · have hd2 : ¬ (k : Int) < 40 := of_decide_eq_false hd2
        have e : fewT l = fewT (l.take k) := by unfold fewT; rw [List.take_take, show min 40 k = 40 by omega]
        show resX _ _ (.sl .no 2 (prtL (fewT l)))
        rw [e, hes]
        exact .inl (.inr (.inl ⟨rfl, 2, rfl⟩))
    · have hd := of_decide_eq_false hd
      rw [List.take_of_length_le (by omega)] at hes
      show resX _ _ (.sl .no 2 (prtL (fewT l)))
      rw [hes]
      exact .inl (.inr (.inl ⟨rfl, 2, rfl⟩))
  | own t e es q0 q1 =>
    refine cnd_split (fun hd => ?_) (fun hd => ?_)
    · have hd := of_decide_eq_true hd
      have k1 : k < l.length := by omega
      refine cnd_split (fun hd2 => ?_) (fun hd2 => ?_)
      · have hd2 : (k : Int) < 40 := of_decide_eq_true hd2
        refine .x (by kernel_rfl) ?_
        refine ⟨k, _, rfl, prtL_at k1, ?_⟩
        refine ⟨k, _, rfl, prtL_at k1, ?_⟩
        refine ⟨k, _, rfl, prtL_at k1, ?_⟩
        refine ⟨_, minI_at l[k].2.size 60, Nat.zero_le _, by split <;> omega, ?_⟩
        refine Acc.app (n := 0) (i := ti82) (es := es) (.own _ _ _ q0 q1) (Nat.zero_le _) (List.cons_ne_nil _ _) ?_ ?_ (fun t9 e9 tk9 z0 z1 z2 z3 => ?_)
        · show ((es : List (List AV)).length + 1) * 24 ≤ _; omega
        · show (es : List (List AV)).length + 1 ≤ _; omega
        intro c hc
        rw [IntWalk.i64_in _ (by omega)] at hc
        obtain rfl : c = ((k + 1 : Nat) : Int) := by omega
        refine ⟨g - 1, by omega, k + 1, _, by omega, by omega, rfl, ?_⟩
        rw [fewT_take k1 (by omega), ← prtL_app, hes]
        exact .own _ _ _ (Nat.zero_le _) z1
      · have hd2 : ¬ (k : Int) < 40 := of_decide_eq_false hd2
        have e : fewT l = fewT (l.take k) := by unfold fewT; rw [List.take_take, show min 40 k = 40 by omega]
        show resX _ _ (.sl .no 2 (prtL (fewT l)))
        rw [e, hes]
        exact .inl (.inl ⟨rfl, rfl⟩)
    · have hd := of_decide_eq_false hd
      rw [List.take_of_length_le (by omega)] at hes
      show resX _ _ (.sl .no 2 (prtL (fewT l)))
      rw [hes]
      exact .inl (.inl ⟨rfl, rfl⟩)
end
def awT : ByteArray := ⟨#[97, 36, 36, 36, 123, 104, 111, 115, 116, 125, 45, 36, 123, 64, 88, 45, 65, 125]⟩
def awP : List Prt := [(1, ⟨#[97, 36]⟩), (2, ⟨#[104, 111, 115, 116]⟩), (1, ⟨#[45]⟩), (3, ⟨#[88, 45, 65]⟩)]
theorem aw31 : parseT awT = (awP, 0) := by decide +kernel
end Go.Proofs.YtgkhnllgmfjhpaaGreatDoor
