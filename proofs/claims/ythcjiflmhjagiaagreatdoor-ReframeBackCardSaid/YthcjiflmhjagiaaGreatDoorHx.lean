/- numeral.HexText: the library's digits of base sixteen. No statement of its own. -/
import Derived.Lib.LaidTab
import Derived.Lib.ItoaNum
import Derived.Test.YthcjiflmhjagiaaGreatDoorN1
import Derived.Laws.Bits64b
import Derived.Shelf.Spec.TrailingZeros
set_option linter.unusedSimpArgs false
set_option linter.unusedVariables false
set_option maxRecDepth 100000
namespace Go.Proofs.YthcjiflmhjagiaaGreatDoor
open Go.RowKit
theorem tab_cell {w : World} {name : String} {g : Nat} {zs : List Int} {k : IntKind} (hg : Tryz.prog.globalNamed name = some g) (h : Lib.TabIs Tryz.prog w name k zs) {i : Nat} {z : Int} (hz : zs[i]? = some z) : w.cell? ⟨g, i, none⟩ = some (.int k z) := by
  unfold Lib.TabIs World.var? at h
  rw [hg] at h
  simp only [Option.bind_some] at h
  unfold World.cell?
  split at h
  · rename_i cs t f hc
    cases h
    rw [hc]
    simp [hz]
  · cases h
theorem tz16_c (w : World) (h : LaidW w) : Calls Tryz.prog 130 #[.int .u64 16] w fun e w' => e = .returned (.int .i64 4) ∧ w' = w := by
  have hcell : w.cell? ⟨5, 15, none⟩ = some (.int .u8 4) := tab_cell (by kernel_rfl) h.1 rfl
  have key : IntKind.u64.wrap (bits BinOp.and IntKind.u64 16 (IntKind.u64.wrap (-16)) * 285870213051353865) / 288230376151711744 = 15 := tz64_key 16 16 (by omega) (by omega) (by decide)
  go_enter Tryz.func130, Tryz.ntmps130
  go_wp2_with (simp only [key])
  go_ret
  exact ⟨rfl, rfl⟩
theorem tz_p : APure Tryz.prog 127 [.int .u64 16] (.i 4) [] := by
  have h : APure Tryz.prog 130 [.int .u64 16] (.i 4) [] :=
    APure.of_lits #[.int .u64 16] (.inl rfl) rfl Tryz.call130 fun w hw => (tz16_c w hw).mono (by
      rintro e w' ⟨rfl, rfl⟩
      exact ⟨rfl, .refl _ _⟩)
  refine APure.of rfl (ACalls.of_vc T_ok mixed Tryz.func127 rfl Tryz.call127 ?_)
  refine .p rfl h ?_
  rfl
theorem pow2_p : APure Tryz.prog 126 [.i 16] (.b true) [] := by
  refine APure.of rfl (ACalls.of_vc T_ok mixed Tryz.func126 rfl Tryz.call126 ?_)
  intro c hc
  obtain rfl : c = 15 := hc.trans (by decide)
  intro c hc
  obtain rfl : c = 0 := hc.trans (by decide)
  rfl
theorem and15 (a : Nat) (h : a < 18446744073709551616) : bits .and .u64 (a : Int) 15 = ((a % 16 : Nat) : Int) :=
  (bits_and_u64_nat a 15 h (by omega)).trans (congrArg Int.ofNat (Nat.and_two_pow_sub_one_eq_mod a 4))
theorem fdiv16 (a : Nat) : (a : Int).fdiv 16 = ((a / 16 : Nat) : Int) := by
  rw [Int.fdiv_eq_ediv_of_nonneg _ (by omega)]; omega
theorem st_u8 {cs : List AV} {o : Nat} {v : AV} {L : List AV → Prop} (h : o + 1 ≤ cs.length) (hL : L (cs.set o v)) :
    (match decide (o + TI.size ti5 ≤ cs.length) with | true => listK (setAll cs o [v]) L | false => False) := by
  have h1 : decide (o + TI.size ti5 ≤ cs.length) = true := decide_eq_true h
  rw [h1]
  exact listK_iff.2 hL
def digC : ByteArray := ⟨#[48, 49, 50, 51, 52, 53, 54, 55, 56, 57, 97, 98, 99, 100, 101, 102, 103, 104, 105, 106, 107, 108, 109, 110, 111, 112, 113, 114, 115, 116, 117, 118, 119, 120, 121, 122]⟩
theorem digC_at : ∀ d : Nat, d < 16 → ∀ h : d < digC.size, digC[d] = dgt d := by decide +kernel
theorem set_at {cs : List AV} {i j : Nat} {v : AV} (h : i + j * 1 < cs.length) : (cs.set (i + j * TI.size ti5) v)[i + j]? = some v := by
  show (cs.set (i + j * 1) v)[i + j]? = _
  rw [Nat.mul_one] at *
  exact List.getElem?_set_self h
theorem dig_st {cs : List AV} {j d : Nat} (hd : d < 16) (h : j < cs.length) : (cs.set (0 + j * TI.size ti5) (.u8 (digC[d]'(by show d < 36; omega))))[j + 0]? = some (.u8 (dgt d)) := by
  rw [digC_at d hd, show j + 0 = 0 + j by omega]
  exact set_at (by omega)
theorem set_off {cs : List AV} {i j k : Nat} {v : AV} (h : i + j ≠ k) : (cs.set (i + j * TI.size ti5) v)[k]? = cs[k]? := by
  show (cs.set (i + j * 1) v)[k]? = _
  rw [Nat.mul_one]
  exact List.getElem?_set_ne h
set_option maxHeartbeats 2000000 in
theorem fb16_p (n : Nat) (hn : n < 2 ^ 63) : APure Tryz.prog 114 [.nilS, .int .u64 n, .i 16, .b false, .b false] (.tup [.nilS, .s (digB 16 n)]) [] := by
  refine APure.of rfl (ACalls.of_vc T_ok mixed Tryz.func114 rfl Tryz.call114 ?_)
  refine .p rfl pow2_p ?_
  intro c hc
  obtain rfl : c = 16 := hc.trans (by decide)
  refine .p rfl tz_p ?_
  intro c hc
  obtain rfl : c = 4 := hc.trans (by decide)
  intro c hc
  obtain rfl : c = 16 := hc.trans (by decide)
  intro c hc
  obtain rfl : c = 16 := hc.trans (by decide)
  intro c hc
  obtain rfl : c = 15 := hc.trans (by decide)
  have h16 : (16 : Nat) ^ 16 = 18446744073709551616 := by decide
  refine vc_loop [1, 13] (fun g vals st' => ∃ (a i : Nat) (D : List UInt8) (cs : List AV), vals = [.int .u64 a, .i i] ∧ st' = ⟨[cs], []⟩ ∧ cs.length = 65 ∧ i + D.length = 65 ∧ (∀ j (hj : j < D.length), cs[i + j]? = some (.u8 D[j])) ∧
    (digs 16 n).map dgt = (digs 16 a).map dgt ++ D ∧ D.length + g = 15 ∧ a < 16 ^ (g + 1)) 15 rfl ⟨n, 65, [], _, rfl, rfl, rfl, rfl, fun j hj => absurd hj (by simp), by simp, rfl, by omega⟩ ?_
  rintro g vals st' ⟨a, i, D, cs, rfl, rfl, hcl, hi, hat, hd, hg, ha⟩
  have hp : 16 ^ (g + 1) ≤ 16 ^ 16 := Nat.pow_le_pow_right (by omega) (by omega)
  refine cnd_split (fun hd1 => ?_) (fun hd1 => ?_)
  · have hd1 := of_decide_eq_true hd1
    have ha16 : 16 ≤ a := by omega
    have hg1 : 1 ≤ g := by
      rcases Nat.eq_zero_or_pos g with e | e
      · subst e; simp at ha; omega
      · exact e
    intro c hc
    rw [IntWalk.i64_in _ (by omega)] at hc
    obtain rfl : c = ((i - 1 : Nat) : Int) := by omega
    intro c hc
    obtain rfl : c = ((a % 16 : Nat) : Int) := hc.trans (and15 a (by omega))
    have hm : a % 16 < 16 := Nat.mod_lt _ (by omega)
    refine ⟨a % 16, by show a % 16 < 36; omega, rfl, ?_⟩
    refine ⟨i - 1, rfl, by omega, ?_⟩
    refine ⟨_, rfl, st_u8 (show 0 + (i - 1) * 1 + 1 ≤ cs.length by omega) ?_⟩
    refine ⟨by omega, fun c hc => ?_⟩
    obtain rfl : c = ((a / 16 : Nat) : Int) := hc.trans (fdiv16 a)
    refine ⟨g - 1, by omega, a / 16, i - 1, dgt (a % 16) :: D, _, rfl, rfl, ?_, ?_, fun j hj => ?_, ?_, ?_, ?_⟩
    · rw [List.length_set]; exact hcl
    · simp; omega
    · cases j with
      | zero =>
        exact dig_st hm (by omega)
      | succ j =>
        exact (set_off (by omega)).trans (by
          rw [show i - 1 + (j + 1) = i + j by omega]
          exact hat j (by simpa using hj))
    · rw [hd, digs_high (B := 16) (n := a) (by omega) (by omega), List.map_append, List.append_assoc]; rfl
    · simp; omega
    · rw [show g - 1 + 1 = g by omega]
      rw [Nat.pow_succ] at ha
      omega
  · have hd1 := of_decide_eq_false hd1
    have ha16 : a < 16 := by omega
    intro c hc
    rw [IntWalk.i64_in _ (by omega)] at hc
    obtain rfl : c = ((i - 1 : Nat) : Int) := by omega
    refine ⟨a, by show a < 36; omega, rfl, ?_⟩
    refine ⟨i - 1, rfl, by omega, ?_⟩
    refine ⟨_, rfl, st_u8 (show 0 + (i - 1) * 1 + 1 ≤ cs.length by omega) ?_⟩
    have hF : digB 16 n = ⟨(dgt a :: D).toArray⟩ := by
      unfold digB
      rw [hd, digs_low ha16]
      rfl
    refine ⟨i - 1, rfl, by omega, by omega, fun lo hlo => ?_⟩
    have hlo : lo = i - 1 := by
      have hne : ¬ 65 = i - 1 := by omega
      rw [hlo, if_neg hne]
      show 0 + (i - 1) * 1 = _
      omega
    subst hlo
    refine ⟨_, digB 16 n, rfl, ?_, fun j hj => ?_, ?_⟩
    · rw [hF]
      show (Array.size _) = _
      simp; omega
    · have hj2 : j < (dgt a :: D).length := by
        rw [hF] at hj
        have : j < (dgt a :: D).toArray.size := hj
        simpa using this
      have e1 : (digB 16 n)[j] = (dgt a :: D)[j] := by
        simp only [hF]
        rfl
      rw [e1]
      cases j with
      | zero =>
        exact dig_st ha16 (by omega)
      | succ j =>
        exact (set_off (by omega)).trans (by
          rw [show i - 1 + (j + 1) = i + j by omega]
          exact hat j (by simpa using hj2))
    · rfl
theorem fmt16_p (n : Nat) (hn : n < 2 ^ 63) : APure Tryz.prog 100 [.i n, .i 16] (.s (digB 16 n)) [] := by
  have h := fb16_p n hn
  refine APure.of rfl (ACalls.of_vc T_ok mixed Tryz.func100 rfl Tryz.call100 ?_)
  intro c hc
  obtain rfl : c = (n : Int) := hc.trans (by rw [IntKind.wrap_u64]; omega)
  have e : decide ((n : Int) < 0) = false := decide_eq_false (by omega)
  rw [← e] at h
  refine .p rfl h ?_
  rfl
def textH (n : Int) : ByteArray := if n < 0 then ⟨#[]⟩ else digB 16 n.toNat
theorem text16_p (n : Int) (hn : n < 2 ^ 63) : APure Tryz.prog 54 [.i n] (.s (textH n)) [] := by
  have h : APure Tryz.prog 62 [.i n, .i 16] (.s (textH n)) [] := by
    have hT : textH n = if n < 0 then ⟨#[]⟩ else digB 16 n.toNat := rfl
    generalize textH n = t at *
    refine APure.of rfl (ACalls.of_vc T_ok mixed Tryz.func62 rfl Tryz.call62 ?_)
    refine cnd_split (fun h0 => ?_) (fun h0 => ?_)
    · rw [hT, if_pos (of_decide_eq_true h0)]; rfl
    · have h0 := of_decide_eq_false h0
      rw [if_neg h0] at hT
      obtain ⟨m, rfl⟩ := Int.eq_ofNat_of_zero_le (show 0 ≤ n by omega)
      have h1 : APure Tryz.prog 80 [.i m, .i 16] (.s (digB 16 m)) [] := by
        have h2 := fmt16_p m (by omega)
        generalize digB 16 m = d at *
        refine APure.of rfl (ACalls.of_vc T_ok mixed Tryz.func80 rfl Tryz.call80 ?_)
        refine .p rfl h2 ?_
        rfl
      refine .p rfl h1 ?_
      rw [hT]; rfl
  generalize textH n = t at *
  refine APure.of rfl (ACalls.of_vc T_ok mixed Tryz.func54 rfl Tryz.call54 ?_)
  refine .p rfl h ?_
  rfl
end Go.Proofs.YthcjiflmhjagiaaGreatDoor
