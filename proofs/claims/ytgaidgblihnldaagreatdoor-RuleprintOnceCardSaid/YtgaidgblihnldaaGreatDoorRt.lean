/- Lines of rules, written and read: the three laws. No statement of its own. -/
import Derived.Test.YtgaidgblihnldaaGreatDoorRs
set_option linter.unusedSimpArgs false
set_option linter.unusedVariables false
set_option maxRecDepth 100000
namespace Go.Proofs.YtgaidgblihnldaaGreatDoor
open Go.RowKit
def rl34 : Rl := ⟨1, 0, ⟨#[]⟩, ⟨#[]⟩, 3, ⟨#[88, 45, 65]⟩, ⟨#[]⟩, []⟩
theorem text_rl34 : textR rl34 = (⟨#[114, 101, 113, 117, 101, 115, 116, 32, 114, 101, 109, 111, 118, 101, 32, 88, 45, 65]⟩, 0) := by kernel_rfl
theorem awake34_p : APure Tryz.prog 12 [] (.b true) [] := by
  have h := rtext_p rl34 ⟨by decide, by decide, by decide, by decide, by decide, by decide⟩
  rw [text_rl34] at h
  refine APure.of rfl (ACalls.of_vc T_ok mixed Tryz.func12 rfl Tryz.call12 ?_)
  refine .w (args' := [rl34.av]) rfl ⟨.inl (.inr ⟨_, _, rfl, rfl, ⟨.inl ⟨rfl, rfl⟩, .inl ⟨rfl, rfl⟩, .inl ⟨rfl, rfl⟩, .inl ⟨rfl, rfl⟩, .inl ⟨rfl, rfl⟩, .inl ⟨rfl, rfl⟩, .inl ⟨rfl, rfl⟩, .inr ⟨rfl, 2, rfl⟩, trivial⟩⟩), trivial⟩ h ?_
  intro q hq
  obtain rfl : q = true := hq.2 rfl
  rfl
theorem ruleprintWrites_p (r : Rl) (s : ByteArray) : APure Tryz.prog 3 [r.av, .s s] (.b true) [] := by
  have h0 := few32_p r
  have ho := fewR_ok r
  generalize fewR r = x at *
  have h1 := rtext_p x ho
  have h2 := text34_p x ho
  generalize textR x = X at *
  obtain ⟨t, e⟩ := X
  have hz : (s.extract 0 (if 100 < s.size then 100 else s.size)).size ≤ 100 := by
    rw [ByteArray.size_extract]
    split <;> omega
  have h3 := value34_p (s.extract 0 (if 100 < s.size then 100 else s.size)) (by omega)
  have h4 := quote5_p (s.extract 0 (if 100 < s.size then 100 else s.size)) (by omega)
  generalize quoteR (s.extract 0 (if 100 < s.size then 100 else s.size)) = Y at *
  obtain ⟨q, f⟩ := Y
  clear ho
  obtain ⟨sd, gk, ga, gb, ac, nm, un, ps⟩ := r
  obtain ⟨a1, a2, a3, a4, a5, a6, a7, a8⟩ := x
  show APure _ _ [.agg [.i sd, .i gk, .s ga, .s gb, .i ac, .s nm, .s un, .sl .no 2 (prtL ps)], .s s] _ _
  refine APure.of rfl (ACalls.of_vc T_ok mixed Tryz.func3 rfl Tryz.call3 ?_)
  refine .p rfl awake34_p ?_
  refine .e (by kernel_rfl) ?_
  refine ⟨_, rfl, ?_⟩
  refine .p rfl h0 ?_
  refine ⟨_, minI_at s.size 100, Nat.zero_le _, by split <;> omega, ?_⟩
  refine ⟨_, rfl, ?_⟩
  refine ⟨_, rfl, ?_⟩
  refine .p rfl h1 ?_
  refine ⟨_, rfl, ?_⟩
  refine .p rfl h2 ?_
  refine .p rfl h3 ?_
  refine .p rfl h4 ?_
  intro q1 hq1
  obtain rfl : q1 = true := hq1.2 rfl
  refine cnd_split (fun h => ?_) (fun h => ?_)
  case refine_2 => exact absurd rfl (beq_eq_false_iff_ne.1 h)
  intro q2 hq2
  obtain rfl : q2 = true := hq2.2 rfl
  exact retb (beq_iff_eq.2 rfl)
theorem few_text (r : Rl) : (textB (fewR r)).size ≤ 100000 := by
  have h := textB_size (fewR r)
  have h1 : (fewR r).ga.size ≤ 60 := cut60_size _
  have h2 : (fewR r).gb.size ≤ 60 := cut60_size _
  have h3 : (fewR r).nm.size ≤ 60 := cut60_size _
  have h4 : (fewR r).un.size ≤ 60 := cut60_size _
  have h5 : (fewR r).ps.length ≤ 40 := fewT_len _
  have h6 : sumT (fewR r).ps ≤ 2400 := fewT_sum _
  omega
theorem ruleprintBack_p (r : Rl) : APure Tryz.prog 7 [r.av] (.b true) [] := by
  have h0 := few32_p r
  have ho := fewR_ok r
  have hz := few_text r
  generalize fewR r = x at *
  have h1 := rtext_p x ho
  have h2 := rcheck32_p x ho
  have h3 := rsame32_p x x ho ho
  rw [decide_eq_true rfl] at h3
  have h4 := parseP_p (textB x) hz
  have hT : checkR x = 0 → textR x = (textB x, 0) ∧ readRl (textB x) = (x, 0) := fun h => ⟨textR_ok h, read_text h⟩
  have hN : checkR x ≠ 0 → textR x = (⟨#[]⟩, checkR x) := textR_no
  clear ho hz
  by_cases hc : checkR x = 0
  · obtain ⟨e1, e2⟩ := hT hc
    rw [e1] at h1
    rw [e2] at h4
    clear hT hN hc h2 e1 e2
    generalize textB x = t at *
    obtain ⟨sd, gk, ga, gb, ac, nm, un, ps⟩ := r
    obtain ⟨a1, a2, a3, a4, a5, a6, a7, a8⟩ := x
    show APure _ _ [.agg [.i sd, .i gk, .s ga, .s gb, .i ac, .s nm, .s un, .sl .no 2 (prtL ps)]] _ _
    refine APure.of rfl (ACalls.of_vc T_ok mixed Tryz.func7 rfl Tryz.call7 ?_)
    refine .p rfl awake34_p ?_
    refine ⟨_, rfl, ?_⟩
    refine .p rfl h0 ?_
    refine ⟨_, rfl, ?_⟩
    refine ⟨_, rfl, ?_⟩
    refine .p rfl h1 ?_
    refine .p rfl h4 ?_
    refine ⟨_, rfl, ?_⟩
    refine ⟨_, rfl, ?_⟩
    refine ⟨_, rfl, ?_⟩
    refine .p rfl h3 ?_
    rfl
  · rw [hN hc] at h1
    have h9 := (checkR_or x).resolve_left hc
    rw [h9] at h1 h2
    clear hT hN hc h9 h3 h4
    obtain ⟨sd, gk, ga, gb, ac, nm, un, ps⟩ := r
    obtain ⟨a1, a2, a3, a4, a5, a6, a7, a8⟩ := x
    show APure _ _ [.agg [.i sd, .i gk, .s ga, .s gb, .i ac, .s nm, .s un, .sl .no 2 (prtL ps)]] _ _
    refine APure.of rfl (ACalls.of_vc T_ok mixed Tryz.func7 rfl Tryz.call7 ?_)
    refine .p rfl awake34_p ?_
    refine ⟨_, rfl, ?_⟩
    refine .p rfl h0 ?_
    refine ⟨_, rfl, ?_⟩
    refine ⟨_, rfl, ?_⟩
    refine .p rfl h1 ?_
    intro q hq
    obtain rfl : q = true := hq.2 rfl
    refine ⟨_, rfl, ?_⟩
    refine .p rfl h2 ?_
    rfl
structure Rl.In (r : Rl) (n : Nat) : Prop where
  ga : r.ga.size ≤ n
  gb : r.gb.size ≤ n
  nm : r.nm.size ≤ n
  un : r.un.size ≤ n
  pl : r.ps.length ≤ 32
  pz : sumT r.ps ≤ n
theorem zeroR_in (n : Nat) : zeroR.In n := ⟨Nat.zero_le _, Nat.zero_le _, Nat.zero_le _, Nat.zero_le _, Nat.zero_le _, Nat.zero_le _⟩
theorem tailS_in {s : ByteArray} {sd : Int} {g : Gd} {w : ByteArray} {k : Nat} {x : Rl} {b : Bool} (hk : k ≤ s.size) (h1 : g.2.1.size ≤ s.size) (h2 : g.2.2.size ≤ s.size) (h : tailS s sd g w k = some (x, b)) : x.In s.size := by
  unfold tailS at h
  split at h
  · cases h
  · rename_i nm i h3
    have l3 := nameS_le hk h3
    split at h
    · cases h
    · rename_i z to ps b' j h4
      have l4 := actS_le l3.2.1 h4
      split at h
      · cases h
      · cases h
        exact ⟨h1, h2, l3.2.2, l4.2.2.1, l4.2.2.2.1, l4.2.2.2.2⟩
theorem ruleS_in {s : ByteArray} {x : Rl} {b : Bool} (h : ruleS s = some (x, b)) : x.In s.size := by
  have h0 := tw_le blkI s 0 (Nat.zero_le _)
  unfold ruleS at h
  split at h
  · cases h
  · rename_i sd i h1
    have l1 := sideS_le (by omega) h1
    split at h
    · cases h
    · rename_i w j h2
      have l2 := nameS_le l1.2 h2
      split at h
      · split at h
        · cases h
        · rename_i g k h3
          have l3 := guardS_le l2.2.1 h3
          split at h
          · cases h
          · rename_i w' k' h4
            have l4 := nameS_le l3.2.1 h4
            exact tailS_in l4.2.1 l3.2.2.1 l3.2.2.2 h
      · exact tailS_in l2.2.1 (Nat.zero_le _) (Nat.zero_le _) h
theorem readRl_in (s : ByteArray) : (readRl s).1.In s.size ∧ ((readRl s).2 ≠ 0 → (readRl s).1 = zeroR) := by
  unfold readRl
  cases h : ruleS s with
  | none => exact ⟨zeroR_in _, fun _ => rfl⟩
  | some y =>
    obtain ⟨x, b⟩ := y
    have := ruleS_in h
    simp only
    split
    · exact ⟨zeroR_in _, fun _ => rfl⟩
    · split
      · exact ⟨this, fun h => absurd rfl h⟩
      · exact ⟨zeroR_in _, fun _ => rfl⟩
theorem Rl.In.text {r : Rl} {n : Nat} (h : r.In n) : (textB r).size ≤ 400 + 9 * n := by
  have := textB_size r
  have := h.ga
  have := h.gb
  have := h.nm
  have := h.un
  have := h.pl
  have := h.pz
  omega
theorem ruleprintOnce_p (s : ByteArray) : APure Tryz.prog 8 [.s s] (.b true) [] := by
  have hz := cut400_size s
  have hp := parseP_p (cut400 s) (by omega)
  have hok := readRl_ok (s := cut400 s) (by omega)
  have hck := @readRl_check (cut400 s)
  obtain ⟨hin, hz0⟩ := readRl_in (cut400 s)
  generalize readRl (cut400 s) = X at *
  obtain ⟨x, e⟩ := X
  have hck : e = 0 → checkR x = 0 := hck
  have hz0 : e ≠ 0 → x = zeroR := hz0
  have hok : x.Ok := hok
  have hts := hin.text
  have hs := rsame32_p x x hok hok
  rw [decide_eq_true rfl] at hs
  have ht := rtext_p x hok
  have hb := parseP_p (textB x) (by have : (textB x).size ≤ 400 + 9 * (cut400 s).size := hts; omega)
  by_cases he : e = 0
  · subst he
    have hc := hck rfl
    rw [textR_ok hc] at ht
    rw [read_text hc] at hb
    clear hck hz0 hok hts hin hc
    generalize textB x = t at *
    obtain ⟨sd, gk, ga, gb, ac, nm, un, ps⟩ := x
    refine APure.of rfl (ACalls.of_vc T_ok mixed Tryz.func8 rfl Tryz.call8 ?_)
    refine .p rfl awake34_p ?_
    refine ⟨_, minI_at s.size 400, Nat.zero_le _, by split <;> omega, ?_⟩
    refine .p rfl hp ?_
    refine ⟨_, rfl, ?_⟩
    refine ⟨_, rfl, ?_⟩
    refine .p rfl ht ?_
    refine .p rfl hb ?_
    refine ⟨_, rfl, ?_⟩
    refine ⟨_, rfl, ?_⟩
    refine .p rfl ht ?_
    intro q hq
    obtain rfl : q = true := hq.2 rfl
    refine ⟨_, rfl, ?_⟩
    refine ⟨_, rfl, ?_⟩
    refine .p rfl hs ?_
    rfl
  · obtain rfl := hz0 he
    clear hck hz0 hok hts hin ht hb
    refine APure.of rfl (ACalls.of_vc T_ok mixed Tryz.func8 rfl Tryz.call8 ?_)
    refine .p rfl awake34_p ?_
    refine ⟨_, minI_at s.size 400, Nat.zero_le _, by split <;> omega, ?_⟩
    refine .p rfl hp ?_
    refine ⟨_, rfl, ?_⟩
    refine cnd_split (fun h => ?_) (fun h => ?_)
    case refine_2 => exact absurd (bne_eq_false_iff_eq.1 h) he
    refine ⟨_, rfl, ?_⟩
    refine .w (args' := [zeroR.av, zeroR.av]) rfl ⟨.inl (.inl ⟨rfl, rfl⟩), .inl (.inr ⟨_, _, rfl, rfl, ⟨.inl ⟨rfl, rfl⟩, .inl ⟨rfl, rfl⟩, .inl ⟨rfl, rfl⟩, .inl ⟨rfl, rfl⟩, .inl ⟨rfl, rfl⟩, .inl ⟨rfl, rfl⟩, .inl ⟨rfl, rfl⟩, .inr ⟨rfl, 2, rfl⟩, trivial⟩⟩), trivial⟩ hs ?_
    rfl
end Go.Proofs.YtgaidgblihnldaaGreatDoor
