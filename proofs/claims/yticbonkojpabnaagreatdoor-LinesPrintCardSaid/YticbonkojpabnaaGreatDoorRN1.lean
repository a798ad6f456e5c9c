/- Numbers, read by the program and by the document. No statement of its own. -/
import Derived.Test.YticbonkojpabnaaGreatDoorRSp
set_option linter.unusedSimpArgs false
set_option linter.unusedVariables false
set_option maxRecDepth 100000
namespace Go.Proofs.YticbonkojpabnaaGreatDoor
open Go.RowKit
theorem r3Digits_p (B : Nat) (h2 : 2 <= B) (hB : B <= 16) (n : Nat) (hn : n < 2 ^ 63) : APure Tryz.prog 107 [.i n, .i B] (.s (digB B n)) [] := by
 have hmx : maxLen = 9223372036854775807 := rfl
 induction n using Nat.strongRecOn with
 | _ n ih =>
  refine APure.of rfl (ACalls.of_vc T_ok mixed Tryz.func107 rfl Tryz.call107 ?_)
  refine cnd_split (fun hd => ?_) (fun hd => ?_)
  ·have hd := of_decide_eq_true hd
   have hl : n < B := by omega
   intro c hc
   rw [IntWalk.i64_in _ (by omega)] at hc
   obtain rfl : c = ((n + 1 : Nat) : Int) := by omega
   refine ⟨n + 1, rfl, n, rfl, by omega, by show n + 1 <= 16; omega, ?_⟩
   exact rets ((hexD_at n (by omega)).trans (digB_low hl).symm)
  ·have hd := of_decide_eq_false hd
   have hl : ¬ n < B := by omega
   have hq : n / B < n := Nat.div_lt_self (by omega) (by omega)
   have hm : n % B < B := Nat.mod_lt _ (by omega)
   have q1 : (n : Int).tdiv (B : Int) = ((n / B : Nat) : Int) := by rw [Int.tdiv_eq_ediv_of_nonneg (by omega)]; exact (Int.natCast_ediv n B).symm
   have q2 : (n : Int).tmod (B : Int) = ((n % B : Nat) : Int) := by rw [Int.tmod_eq_emod_of_nonneg (by omega)]; exact (Int.natCast_emod n B).symm
   have hs := digB_size (B := B) (n := n / B) h2 (by omega)
   have hI := ih (n / B) hq (by omega)
   have hH := digB_high hl h2
   clear ih
   generalize n / B = a at *
   generalize n % B = b at *
   refine .x (by kernel_rfl) ?_
   refine ⟨by omega, ?_⟩
   intro c hc
   rw [q1, IntWalk.i64_in _ (by omega)] at hc
   subst hc
   refine .p rfl hI ?_
   refine ⟨by omega, ?_⟩
   refine ⟨by omega, ?_⟩
   intro c hc
   rw [q2, IntWalk.i64_in _ (by omega)] at hc
   obtain rfl : c = ((b + 1 : Nat) : Int) := by omega
   refine ⟨b + 1, rfl, b, q2, by omega, by show b + 1 <= 16; omega, ?_⟩
   have hx : (⟨#[48, 49, 50, 51, 52, 53, 54, 55, 56, 57, 97, 98, 99, 100, 101, 102]⟩ : ByteArray).extract b (b + 1) = ⟨#[dgt b]⟩ := hexD_at b (by omega)
   refine ⟨?_, ?_⟩
   ·rw [hx]; show _ + 1 <= _; omega
   ·exact rets (by rw [hx, hH])
/-- numeral: a digit's worth, numbers of a base -/
theorem nworth_p (n : Int) (h0 : 0 <= n) (h1 : n <= 255) (hx : hexI n = true) : APure Tryz.prog 235 [.int .u8 n] (.i (worthI n)) [] := by
 refine APure.of rfl (ACalls.of_vc T_ok mixed Tryz.func235 rfl Tryz.call235 ?_)
 refine .p rfl (isDigit_p n) ?_
 unfold worthI
 unfold hexI at hx
 cases hd : digI n with
 | true =>
  have hd' := hd
  unfold digI at hd'
  simp only [Bool.and_eq_true, decide_eq_true_eq] at hd'
  intro c hc
  rw [IntWalk.u8_in _ (by omega)] at hc
  intro c2 hc2
  rw [IntWalk.i64_in _ (by omega)] at hc2
  exact reti (by rw [if_pos rfl]; omega)
 | false =>
  rw [hd, Bool.false_or] at hx
  simp only [Bool.and_eq_true, decide_eq_true_eq] at hx
  refine .p rfl (lower_p n h0 h1) ?_
  intro c hc
  rw [IntWalk.u8_in _ (by omega)] at hc
  intro c2 hc2
  rw [IntWalk.i64_in _ (by omega)] at hc2
  intro c3 hc3
  rw [IntWalk.i64_in _ (by omega)] at hc3
  exact reti (by rw [if_neg (by decide)]; omega)
def readQ (q : Int -> Bool) (B : Nat) (s : ByteArray) (most : Nat) : Int × Int := if s.size = 0 \/ allI q s = false then (0, 2) else rdL B most s.data.toList 0
theorem rdL_at {B most : Int} {s : ByteArray} {k : Nat} (hk : k < s.size) (n : Int) : rdL B most (s.data.toList.drop k) n = if most < worthI (s[k].toNat : Int) \/ (most - worthI (s[k].toNat : Int)) / B < n then (0, 7) else rdL B most (s.data.toList.drop (k + 1)) (n * B + worthI (s[k].toNat : Int)) := by
 rw [List.drop_eq_getElem_cons (by rw [blen]; exact hk)]
 rfl
theorem nread_p {f : FuncId} {q : Int -> Bool} (hq : ByteF f q) (hqx : ∀ n : Int, q n = true -> hexI n = true) (B : Nat) (h2 : 2 <= B) (hB : B <= 16) (s : ByteArray) (hs : s.size < maxLen) (most : Nat) (hm : most < 2 ^ 62) : APure Tryz.prog 195 [.s s, .i B, .i most, .lit (.func (.func f) #[] #[])] (.tup [.i (readQ q B s most).1, .i (readQ q B s most).2]) [] := by
 have hmx : maxLen = 9223372036854775807 := rfl
 refine APure.of rfl (ACalls.of_vc T_ok mixed Tryz.func195 rfl Tryz.call195 ?_)
 intro t ht
 cases t with
 | true =>
  have : s.size = 0 := (emp_iff s).1 (ht.1 rfl)
  exact (by unfold readQ; rw [if_pos (.inl this)]; rfl)
 | false =>
  have hs0 : s.size ≠ 0 := fun e => by have := ht.2 ((emp_iff s).2 e); cases this
  refine .p rfl (allF_p hq s (by omega)) ?_
  cases ha : allI q s with
  | false => exact (by unfold readQ; rw [if_pos (.inr ha)]; rfl)
  | true =>
   have hR : readQ q B s most = rdL B most s.data.toList 0 := by unfold readQ; rw [if_neg (fun h => h.elim hs0 (fun h => by rw [ha] at h; cases h))]
   rw [hR]
   clear hR
   refine vc_loop [10, 24] (fun g vals st' => ∃ (k n : Nat), k + g = s.size /\ vals = [.i n, .i k] /\ n <= most /\ rdL B most (s.data.toList.drop k) n = rdL B most s.data.toList 0) s.size rfl ⟨0, 0, by omega, rfl, by omega, rfl⟩ ?_
   rintro g vals st' ⟨k, n, hk, rfl, hn, hr⟩
   refine cnd_split (fun hd => ?_) (fun hd => ?_)
   ·have hd := of_decide_eq_true hd
    have k1 : k < s.size := by omega
    have hb := s[k].toNat_lt
    have hx := hqx _ (allI_at ha k k1)
    have hw : 0 <= worthI (s[k].toNat : Int) /\ worthI (s[k].toNat : Int) <= 15 := by
     have hx := hx
     unfold hexI at hx
     unfold worthI
     unfold digI at *
     simp only [Bool.or_eq_true, Bool.and_eq_true, decide_eq_true_eq] at hx ⊢
     split <;> omega
    obtain ⟨d, hd'⟩ := Int.eq_ofNat_of_zero_le hw.1
    have hW := nworth_p (s[k].toNat : Int) (by omega) (by omega) hx
    rw [rdL_at k1, hd'] at hr
    rw [hd'] at hW
    refine ⟨k, k1, rfl, ?_⟩
    refine .p rfl hW ?_
    refine cnd_split (fun h3 => ?_) (fun h3 => ?_)
    ·have h3 := of_decide_eq_true h3
     rw [if_pos (.inl h3)] at hr
     exact (by rw [<- hr]; rfl)
    ·have h3 := of_decide_eq_false h3
     intro c hc
     rw [IntWalk.i64_in _ (by omega)] at hc
     subst hc
     refine ⟨by omega, ?_⟩
     have e1 : ((most : Int) - (d : Int)).tdiv (B : Int) = ((most : Int) - (d : Int)) / (B : Int) := Int.tdiv_eq_ediv_of_nonneg (by omega)
     have e2 : ((most : Int) - (d : Int)) / (B : Int) = (((most - d) / B : Nat) : Int) := by rw [Int.natCast_ediv]; congr 1; omega
     have e3 : (most - d) / B <= most - d := Nat.div_le_self _ _
     have e4 : (most - d) / B * B <= most - d := Nat.div_mul_le_self _ _
     rw [e1, e2]
     rw [e2] at hr
     clear e1 e2
     generalize (most - d) / B = x at *
     intro c hc
     rw [IntWalk.i64_in _ (by omega)] at hc
     subst hc
     refine cnd_split (fun h4 => ?_) (fun h4 => ?_)
     ·have h4 := of_decide_eq_true h4
      rw [if_pos (.inr h4)] at hr
      exact (by rw [<- hr]; rfl)
     ·have h4 := of_decide_eq_false h4
      rw [if_neg (fun h => h.elim h3 h4)] at hr
      have h5 : n * B <= most - d := by
       have : n <= x := by omega
       exact Nat.le_trans (Nat.mul_le_mul_right B this) e4
      have hmul : (n : Int) * (B : Int) = ((n * B : Nat) : Int) := (Int.natCast_mul n B).symm
      rw [hmul] at hr
      intro c hc
      rw [hmul, IntWalk.i64_in _ (by omega)] at hc
      subst hc
      intro c hc
      rw [IntWalk.i64_in _ (by omega)] at hc
      obtain rfl : c = ((n * B + d : Nat) : Int) := by omega
      intro c hc
      rw [IntWalk.i64_in _ (by omega)] at hc
      obtain rfl : c = ((k + 1 : Nat) : Int) := by omega
      exact ⟨g - 1, by omega, k + 1, _, by omega, rfl, by omega, by rw [<- hr]; congr 1⟩
   ·have hd := of_decide_eq_false hd
    have : s.data.toList.drop k = [] := List.drop_of_length_le (by rw [blen]; omega)
    rw [this] at hr
    exact (by rw [<- hr]; rfl)
theorem isDigit_f : ByteF 196 digI := fun n _ _ => isDigit_p n
theorem digI_hex (n : Int) (h : digI n = true) : hexI n = true := by unfold hexI; rw [h]; rfl
/-- program and document read alike -/
theorem readQ_G (s : ByteArray) (most : Nat) : readQ digI 10 s most = readG 10 s most := by
 have hD : ∀ n : Nat, n < 256 -> isD 10 (n : Int) = digI (n : Int) /\ (digI (n : Int) = true -> 0 <= worthI (n : Int)) := by decide +kernel
 have e : allI (isD 10) s = allI digI s := by
  unfold allI
  congr 1
  funext b
  exact (hD b.toNat b.toNat_lt).1
 unfold readG readQ
 rw [e]
 by_cases h : s.size = 0 \/ allI digI s = false
 ·rw [if_pos h, if_pos h]
 ·rw [if_neg h, if_neg h]
  have ha : allI digI s = true := by
   cases hx : allI digI s
   ·exact absurd (.inr hx) h
   ·rfl
  exact rdL_val 10 most (by decide) s.data.toList 0 (fun b hb => (hD b.toNat b.toNat_lt).2 (List.all_eq_true.1 ha b hb)) (by omega)
end Go.Proofs.YticbonkojpabnaaGreatDoor
