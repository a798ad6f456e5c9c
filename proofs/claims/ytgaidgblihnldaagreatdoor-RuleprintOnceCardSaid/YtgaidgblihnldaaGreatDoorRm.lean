/- Lines of rules: written, and read again. No program in sight. -/
import Derived.Test.YtgaidgblihnldaaGreatDoorRk
import Derived.Test.YtgaidgblihnldaaGreatDoorSb
set_option linter.unusedSimpArgs false
set_option linter.unusedVariables false
set_option maxRecDepth 100000
namespace Go.Proofs.YtgaidgblihnldaaGreatDoor
open Go.RowKit
def spB : ByteArray := ⟨#[32]⟩
def sideW (n : Int) : ByteArray := if n = 2 then kRes else kReq
def guardW (k : Int) (a b : ByteArray) : List Wd :=
  if k = 1 then [(kIf, false), (kHas, false), (a, false)] else if k = 2 then [(kIf, false), (kLacks, false), (a, false)] else if k = 3 then [(kIf, false), (kIs, false), (a, false), (b, true)] else []
def kwA (ac : Int) : ByteArray := if ac = 1 then kSet else if ac = 2 then kAdd else if ac = 3 then kRem else kRen
def restA (r : Rl) : List Wd := if r.ac = 1 ∨ r.ac = 2 then [(r.nm, false), (wrL r.ps, true)] else if r.ac = 3 then [(r.nm, false)] else [(r.nm, false), (r.un, false)]
def ruleT (r : Rl) : List Wd := guardW r.gk r.ga r.gb ++ (kwA r.ac, false) :: restA r
def ruleW (r : Rl) : List Wd := (sideW r.sd, false) :: ruleT r
def textB (r : Rl) : ByteArray := joinC spB ((ruleW r).map wdB)
def textR (r : Rl) : ByteArray × Int := if checkR r = 0 then (textB r, 0) else (⟨#[]⟩, checkR r)
theorem join_words (w : Wd) : ∀ l : List Wd, (joinC spB (wdB w :: l.map wdB)).data.toList = prtW w ++ lnL (l.map fun x => ([32], x)) := by
  intro l
  induction l generalizing w with
  | nil => rw [List.map_nil, joinC_one, wdB_l]; simp [lnL]
  | cons x l ih =>
    rw [List.map_cons, joinC_cons (by simp), app_l, app_l, ih x, wdB_l, List.map_cons]
    show _ = prtW w ++ ([32] ++ (prtW x ++ lnL (l.map fun x => ([32], x))))
    have e : spB.data.toList = [32] := rfl
    rw [e, List.append_assoc]
theorem checkR_facts {r : Rl} (h : checkR r = 0) : (r.sd = 1 ∨ r.sd = 2) ∧ guardB r.gk r.ga r.gb = true ∧ freeB r.nm = true ∧ actB r.sd r.ac r.un r.ps = true := by
  unfold checkR at h
  split at h
  · rename_i h1
    simp only [Bool.and_eq_true] at h1
    obtain ⟨⟨⟨h1, h2⟩, h3⟩, h4⟩ := h1
    unfold sideB at h1
    exact ⟨of_decide_eq_true h1, h2, h3, h4⟩
  · cases h
theorem textT_zero {l : List Prt} (h : (textT l).2 = 0) : parseT (wrL l) = (l, 0) ∧ textT l = (wrL l, 0) := by
  unfold textT at h ⊢
  split at h
  · cases h
  · rename_i hc
    have h1 : (parseT (wrL l)).2 = 0 := Decidable.byContradiction fun e => hc (.inl e)
    have h2 : (parseT (wrL l)).1 = l := Decidable.byContradiction fun e => hc (.inr e)
    refine ⟨Prod.ext h2 h1, ?_⟩
    rw [if_neg hc]
theorem act_parts {n ac : Int} {un : ByteArray} {ps : List Prt} (h : actB n ac un ps = true) (hac : ac = 1 ∨ ac = 2) : un = ⟨#[]⟩ ∧ (textT ps).2 = 0 := by
  unfold actB at h
  rw [if_pos hac, Bool.and_eq_true, decide_eq_true_eq] at h
  refine ⟨(emp_iff _).2 h.1, ?_⟩
  have := h.2
  unfold partsB at this
  rw [Bool.and_eq_true, decide_eq_true_eq] at this
  exact this.2
theorem tail_W {sd ac : Int} {gk : Int} {ga gb nm un : ByteArray} {ps : List Prt} (ha : actB sd ac un ps = true) (g : Gd) : tailL sd g (kwA ac) (restA ⟨sd, gk, ga, gb, ac, nm, un, ps⟩) = some (⟨sd, g.1, g.2.1, g.2.2, ac, nm, un, ps⟩, false) := by
  have n1 : kAdd ≠ kSet := by decide +kernel
  have n2 : kRem ≠ kSet := by decide +kernel
  have n3 : kRem ≠ kAdd := by decide +kernel
  have n4 : kRen ≠ kSet := by decide +kernel
  have n5 : kRen ≠ kAdd := by decide +kernel
  have n6 : kRen ≠ kRem := by decide +kernel
  by_cases h1 : ac = 1
  · subst h1
    obtain ⟨rfl, h3⟩ := act_parts ha (.inl rfl)
    have hp := (textT_zero h3).1
    simp [tailL, kwA, restA, nameL, actL, setL, partsL, valueL, hp]
  by_cases h2 : ac = 2
  · subst h2
    obtain ⟨rfl, h3⟩ := act_parts ha (.inr rfl)
    have hp := (textT_zero h3).1
    simp [tailL, kwA, restA, nameL, actL, setL, partsL, valueL, hp, n1]
  unfold actB at ha
  rw [if_neg (fun h => h.elim h1 h2)] at ha
  by_cases h3 : ac = 3
  · subst h3
    rw [if_pos rfl, Bool.and_eq_true, decide_eq_true_eq, decide_eq_true_eq] at ha
    have e1 : un = ⟨#[]⟩ := (emp_iff _).2 ha.1
    have e2 : ps = [] := List.eq_nil_of_length_eq_zero ha.2
    subst e1; subst e2
    simp [tailL, kwA, restA, nameL, actL, n2, n3]
  · rw [if_neg h3] at ha
    split at ha
    · rename_i h4
      subst h4
      rw [Bool.and_eq_true, decide_eq_true_eq] at ha
      have e2 : ps = [] := List.eq_nil_of_length_eq_zero ha.2
      subst e2
      simp [tailL, kwA, restA, nameL, actL, renL, n4, n5, n6]
    · cases ha
theorem kw_if (ac : Int) : kwA ac ≠ kIf := by
  unfold kwA
  split
  · decide +kernel
  · split
    · decide +kernel
    · split
      · decide +kernel
      · decide +kernel
theorem guard_W {k : Int} {a b : ByteArray} (h : guardB k a b = true) (rest : List Wd) :
    (k = 0 ∧ a = ⟨#[]⟩ ∧ b = ⟨#[]⟩ ∧ guardW k a b = []) ∨ ∃ t, guardW k a b = (kIf, false) :: t ∧ guardL (t ++ rest) = some ((k, a, b), rest) := by
  have n1 : kLacks ≠ kHas := by decide +kernel
  have n2 : kIs ≠ kHas := by decide +kernel
  have n3 : kIs ≠ kLacks := by decide +kernel
  unfold guardB at h
  split at h
  · rename_i h0
    rw [Bool.and_eq_true, decide_eq_true_eq, decide_eq_true_eq] at h
    refine .inl ⟨h0, (emp_iff _).2 h.1, (emp_iff _).2 h.2, ?_⟩
    subst h0
    rfl
  · split at h
    · rename_i h0
      rw [Bool.and_eq_true, decide_eq_true_eq] at h
      have e1 : b = ⟨#[]⟩ := (emp_iff _).2 h.2
      subst e1
      rcases h0 with rfl | rfl
      · exact .inr ⟨_, rfl, by simp [guardL, nameL]⟩
      · exact .inr ⟨_, rfl, by simp [guardL, nameL, n1]⟩
    · split at h
      · rename_i h0
        subst h0
        exact .inr ⟨_, rfl, by simp [guardL, nameL, valueL, n2, n3]⟩
      · cases h
theorem rule_W {r : Rl} (h : checkR r = 0) : ruleL (ruleW r) = some (r, false) := by
  obtain ⟨h1, h2, h3, h4⟩ := checkR_facts h
  have hs : sideL (ruleW r) = some (r.sd, ruleT r) := by
    have n1 : kRes ≠ kReq := by decide +kernel
    unfold ruleW
    rcases h1 with h1 | h1 <;> rw [h1]
    · simp [sideL, sideW, nameL]
    · simp [sideL, sideW, nameL, n1]
  unfold ruleL
  rw [hs]
  obtain ⟨sd, gk, ga, gb, ac, nm, un, ps⟩ := r
  rcases guard_W h2 ((kwA ac, false) :: restA ⟨sd, gk, ga, gb, ac, nm, un, ps⟩) with ⟨e1, e2, e3, e4⟩ | ⟨t, e1, e2⟩
  · have e1 : gk = 0 := e1
    have e2 : ga = ⟨#[]⟩ := e2
    have e3 : gb = ⟨#[]⟩ := e3
    subst e1; subst e2; subst e3
    have : ruleT ⟨sd, 0, ⟨#[]⟩, ⟨#[]⟩, ac, nm, un, ps⟩ = (kwA ac, false) :: restA ⟨sd, 0, ⟨#[]⟩, ⟨#[]⟩, ac, nm, un, ps⟩ := rfl
    rw [this]
    simp only [nameL]
    rw [if_neg (kw_if ac)]
    exact tail_W h4 _
  · have : ruleT ⟨sd, gk, ga, gb, ac, nm, un, ps⟩ = (kIf, false) :: (t ++ (kwA ac, false) :: restA ⟨sd, gk, ga, gb, ac, nm, un, ps⟩) := by
      show guardW gk ga gb ++ _ = _
      have e1 : guardW gk ga gb = _ := e1
      rw [e1]
      rfl
    rw [this]
    have e2 : guardL _ = some ((gk, ga, gb), _) := e2
    simp only [nameL, if_true, e2]
    exact tail_W h4 _
theorem free_tok {s : ByteArray} (h : freeB s = true) : tokB s = true := by
  unfold freeB at h
  rw [Bool.and_eq_true] at h
  exact h.1
theorem ruleW_ok {r : Rl} (h : checkR r = 0) : ∀ w ∈ ruleW r, WdOk w := by
  obtain ⟨h1, h2, h3, h4⟩ := checkR_facts h
  have kw : ∀ t : ByteArray, tokB t = true → WdOk (t, false) := fun t ht => ht
  have t1 : tokB kReq = true := by decide +kernel
  have t2 : tokB kRes = true := by decide +kernel
  have t3 : tokB kIf = true := by decide +kernel
  have t4 : tokB kHas = true := by decide +kernel
  have t5 : tokB kLacks = true := by decide +kernel
  have t6 : tokB kIs = true := by decide +kernel
  have t7 : tokB (kwA r.ac) = true := by
    unfold kwA
    split
    · decide +kernel
    · split
      · decide +kernel
      · split
        · decide +kernel
        · decide +kernel
  have hnm := free_tok h3
  intro w hw
  unfold ruleW ruleT at hw
  rcases List.mem_cons.1 hw with rfl | hw
  · refine kw _ ?_
    unfold sideW
    split
    · exact t2
    · exact t1
  rcases List.mem_append.1 hw with hw | hw
  · unfold guardW at hw
    unfold guardB at h2
    split at hw
    · rename_i hk
      rw [if_neg (by omega), if_pos (.inl hk), Bool.and_eq_true] at h2
      simp only [List.mem_cons, List.mem_nil_iff, or_false] at hw
      rcases hw with rfl | rfl | rfl
      · exact t3
      · exact t4
      · exact h2.1
    · split at hw
      · rename_i hk
        rw [if_neg (by omega), if_pos (.inr hk), Bool.and_eq_true] at h2
        simp only [List.mem_cons, List.mem_nil_iff, or_false] at hw
        rcases hw with rfl | rfl | rfl
        · exact t3
        · exact t5
        · exact h2.1
      · split at hw
        · rename_i hk
          rw [if_neg (by omega), if_neg (by omega), if_pos hk, decide_eq_true_eq] at h2
          have hc := check_ok h2
          simp only [List.mem_cons, List.mem_nil_iff, or_false] at hw
          rcases hw with rfl | rfl | rfl | rfl
          · exact t3
          · exact t6
          · exact hc.1
          · exact hc.2.1
        · cases hw
  rcases List.mem_cons.1 hw with rfl | hw
  · exact t7
  unfold restA at hw
  split at hw
  · rename_i hac
    have hp := (textT_zero (act_parts h4 hac).2).1
    simp only [List.mem_cons, List.mem_nil_iff, or_false] at hw
    rcases hw with rfl | rfl
    · exact hnm
    · exact parseT_val (by rw [hp]; simp)
  · split at hw
    · simp only [List.mem_cons, List.mem_nil_iff, or_false] at hw
      subst hw
      exact hnm
    · rename_i h12 h3'
      simp only [List.mem_cons, List.mem_nil_iff, or_false] at hw
      unfold actB at h4
      rw [if_neg h12, if_neg h3'] at h4
      split at h4
      · rw [Bool.and_eq_true] at h4
        rcases hw with rfl | rfl
        · exact hnm
        · exact free_tok h4.1
      · cases h4
theorem words_text {r : Rl} (h : checkR r = 0) : wordsR (textB r) = (ruleW r, true) := by
  have hok := ruleW_ok h
  have hb : (textB r).data.toList = [] ++ (prtW (sideW r.sd, false) ++ (lnL ((ruleT r).map fun x => ([32], x)) ++ [])) := by
    unfold textB ruleW
    rw [List.map_cons, join_words, List.nil_append, List.append_nil]
  have := words_of (z := []) (y := []) (fun b hb => by cases hb) (fun b hb => by cases hb) _ _ (hok _ (.head _)) (fun x hx => by
    obtain ⟨w, hw, rfl⟩ := List.mem_map.1 hx
    refine ⟨by simp, fun b hb => ?_, hok _ (.tail _ hw)⟩
    simp at hb
    subst hb
    rfl) hb
  rw [this, List.map_map]
  show ((sideW r.sd, false) :: (ruleT r).map (fun x => x), true) = _
  rw [List.map_id']
  rfl
/-- a rule is read from its line as it is -/
theorem read_text {r : Rl} (h : checkR r = 0) : readRl (textB r) = (r, 0) := by
  rw [readRl_L, words_text h, if_pos rfl, rule_W h]
  unfold outR
  simp [h]
/-- how long a line is -/
theorem textB_size (r : Rl) : (textB r).size ≤ 60 + r.ga.size + 2 * r.gb.size + r.nm.size + r.un.size + 4 * sumT r.ps + 8 * r.ps.length := by
  have hw := wrL_size r.ps
  have q1 := quoteL_len r.gb.data.toList
  have q2 := quoteL_len (wrL r.ps).data.toList
  rw [blen] at q1 q2
  have z1 := blen r.ga
  have z2 := blen r.nm
  have z3 := blen r.un
  have tl : (lnL ((ruleT r).map fun x => ([32], x))).length ≤ 50 + r.ga.size + 2 * r.gb.size + r.nm.size + r.un.size + 2 * (wrL r.ps).size := by
    unfold ruleT guardW kwA restA
    have e1 : kIf.data.toList.length = 2 := rfl
    have e2 : kHas.data.toList.length = 3 := rfl
    have e3 : kLacks.data.toList.length = 5 := rfl
    have e4 : kIs.data.toList.length = 2 := rfl
    have e5 : kSet.data.toList.length = 3 := rfl
    have e6 : kAdd.data.toList.length = 3 := rfl
    have e7 : kRem.data.toList.length = 6 := rfl
    have e8 : kRen.data.toList.length = 6 := rfl
    repeat' split
    all_goals simp only [List.cons_append, List.nil_append, List.map_cons, List.map_nil, lnL, prtW, List.length_append, List.length_cons, List.length_nil, if_true, Bool.false_eq_true, if_false]
    all_goals omega
  have hs : (prtW (sideW r.sd, false)).length ≤ 8 := by
    show (sideW r.sd).data.toList.length ≤ 8
    unfold sideW
    split
    · exact Nat.le_refl _
    · show 7 ≤ 8; omega
  rw [← blen]
  unfold textB ruleW
  rw [List.map_cons, join_words, List.length_append]
  omega
end Go.Proofs.YtgaidgblihnldaaGreatDoor
