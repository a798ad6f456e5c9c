/- Rules made instructions: the laws CompileSides, CompileChecks, CompileMakes. No statement of its own. -/
import Derived.Test.YthneihlplijklaaDoorCs
set_option linter.unusedSimpArgs false
set_option linter.unusedVariables false
set_option maxRecDepth 100000
namespace Go.Proofs.YthneihlplijklaaDoor
open Go.RowKit
/-- rows, cell by cell said less of -/
def deepV (a a' : AV) : Prop := a' = a ∨ ∃ sz es es', a = .sl .no sz es ∧ a' = .sl .no sz es' ∧ es.length = es'.length ∧ ∀ (k : Nat) e e', es[k]? = some e → es'[k]? = some e' → CellsW e e'
def DeepV : List AV → List AV → Prop
  | [], [] => True
  | a :: r, a' :: r' => deepV a a' ∧ DeepV r r'
  | _, _ => False
theorem DeepV.at' : ∀ {l l' : List AV}, DeepV l l' → l.length = l'.length ∧ ∀ (j : Nat) a', l'[j]? = some a' → ∃ a, l[j]? = some a ∧ deepV a a'
  | [], [], _ => ⟨rfl, fun j a h => by simp at h⟩
  | a :: r, b :: r', h => by
    obtain ⟨h1, h2⟩ := h
    obtain ⟨i1, i2⟩ := DeepV.at' h2
    refine ⟨by simp [i1], fun j a' hj => ?_⟩
    cases j with
    | zero => simp at hj; subst hj; exact ⟨a, rfl, h1⟩
    | succ j => simpa using i2 j a' (by simpa using hj)
  | [], _ :: _, h => h.elim
  | _ :: _, [], h => h.elim
theorem Rp.deep {w : World} {I : Nat → Nat → Prop} {hl : Nat} {μ : Nat → Nat} {tk : List Nat} {σ : Nat → Tkt} {sz : Nat} {es es' : List (List AV)} {v : Value} (h : Rp w I hl μ tk σ (.sl .no sz es) v) (hlen : es.length = es'.length) (hw : ∀ (k : Nat) e e', es[k]? = some e → es'[k]? = some e' → CellsW e e') : Rp w I hl μ tk σ (.sl .no sz es') v := by
  have pick : ∀ (k : Nat) e', es'[k]? = some e' → ∃ e, es[k]? = some e ∧ CellsW e e' := fun k e' he' => by
    have hk := (List.getElem?_eq_some_iff.1 he').1
    have he := List.getElem?_eq_getElem (l := es) (i := k) (by omega)
    exact ⟨_, he, hw k _ _ he he'⟩
  cases h with
  | sl0 _ a cap hm =>
    have : es' = [] := List.eq_nil_of_length_eq_zero (by rw [← hlen]; rfl)
    subst this
    exact .sl0 sz a cap hm
  | sl _ _ _ g o cap us hs hn hm hc hr ht1 ht2 =>
    rw [hlen]
    refine .sl .no sz es' g o cap us (fun k e' he' => ?_) (by omega) hm (fun k e' j a he' ha => ?_) (fun k e' j a he' ha => ?_) (fun h => by cases h) (fun i e h => by cases h)
    · obtain ⟨e, he, hw⟩ := pick k e' he'
      refine ⟨hw.length.symm.trans (hs k e he).1, List.all_eq_true.2 fun x hx => ?_⟩
      obtain ⟨j, hj⟩ := List.mem_iff_getElem?.1 hx
      obtain ⟨b, _, hb⟩ := hw.get j x hj
      exact hb.flat
    · obtain ⟨e, he, hw⟩ := pick k e' he'
      obtain ⟨b, hb, hbw⟩ := hw.get j a ha
      exact hc k e j b he hb
    · obtain ⟨e, he, hw⟩ := pick k e' he'
      obtain ⟨b, hb, hbw⟩ := hw.get j a ha
      have h2 := hr k e j b he hb
      rcases hbw with ⟨rfl, hf⟩ | ⟨rfl, sz, rfl⟩
      · exact h2.strip
      · rw [h2.of_lit]
        exact .sl0 sz none 0 (Nat.zero_le _)
theorem APure.deep {P : Program} {f : FuncId} {args args' : List AV} {r : AV} {ns : List Nat} (hw : DeepV args args') (h : APure P f args' r ns) : APure P f args r ns := by
  obtain ⟨h1, h2⟩ := hw.at'
  refine ⟨h.1, h.2.1, fun J w vs hl hlen ha => h.2.2 J w vs hl (by omega) fun j a' v hj hv => ?_⟩
  obtain ⟨a, e, hv'⟩ := h2 j a' hj
  have := ha j a v e hv
  rcases hv' with rfl | ⟨sz, es, es', rfl, rfl, hl, hc⟩
  · exact this
  · exact this.deep hl hc
theorem deepO (l : List Opn) : deepV (.sl .no 5 (l.map fun o => [.i o.k, .s o.nm, .s o.tx, .nilS, .i o.n])) (.sl .no 5 (opL (l.map fun o => ⟨o.k, o.nm, o.tx, [], o.n⟩))) := by
  refine .inr ⟨5, _, _, rfl, rfl, by simp [opL], fun k e e' he he' => ?_⟩
  have hk := (List.getElem?_eq_some_iff.1 he).1
  rw [List.length_map] at hk
  rw [List.getElem?_map, List.getElem?_eq_getElem hk] at he
  unfold opL at he'
  rw [List.getElem?_map, List.getElem?_map, List.getElem?_eq_getElem hk] at he'
  cases he
  cases he'
  exact ⟨.inl ⟨rfl, rfl⟩, .inl ⟨rfl, rfl⟩, .inl ⟨rfl, rfl⟩, .inr ⟨rfl, 2, rfl⟩, .inl ⟨rfl, rfl⟩, trivial⟩
theorem deepR (l : List Rl) : deepV (.sl .no 8 (l.map fun r => [.i r.sd, .i r.gk, .s r.ga, .s r.gb, .i r.ac, .s r.nm, .s r.un, .nilS])) (.sl .no 8 (rlL (l.map fun r => ⟨r.sd, r.gk, r.ga, r.gb, r.ac, r.nm, r.un, []⟩))) := by
  refine .inr ⟨8, _, _, rfl, rfl, by simp [rlL], fun k e e' he he' => ?_⟩
  have hk := (List.getElem?_eq_some_iff.1 he).1
  rw [List.length_map] at hk
  rw [List.getElem?_map, List.getElem?_eq_getElem hk] at he
  unfold rlL at he'
  rw [List.getElem?_map, List.getElem?_map, List.getElem?_eq_getElem hk] at he'
  cases he
  cases he'
  exact ⟨.inl ⟨rfl, rfl⟩, .inl ⟨rfl, rfl⟩, .inl ⟨rfl, rfl⟩, .inl ⟨rfl, rfl⟩, .inl ⟨rfl, rfl⟩, .inl ⟨rfl, rfl⟩, .inl ⟨rfl, rfl⟩, .inr ⟨rfl, 2, rfl⟩, trivial⟩
theorem Acc.nilE {n : Nat} {tk : List Nat} {sz : Nat} {es : List (List AV)} (h : Acc n tk sz .nilS es) : es = [] := by
  generalize ha : AV.nilS = a at h
  cases h with
  | nil => rfl
  | own t e es hn ht => cases ha
def ex36 : List Rl := [⟨1, 1, ⟨#[65]⟩, emB, 3, ⟨#[66]⟩, emB, []⟩, ⟨1, 1, ⟨#[65]⟩, emB, 3, ⟨#[67]⟩, emB, []⟩]
def exO36 : List Opn := [⟨1, ⟨#[65]⟩, emB, [], 2⟩, ⟨4, ⟨#[66]⟩, emB, [], 0⟩, ⟨4, ⟨#[67]⟩, emB, [], 0⟩]
theorem ex36_v : compW 1 ex36 = (exO36, 0) := by
  have h1 : (checkL ex36).2 = 0 := by decide +kernel
  have h2 : sideL 1 ex36 = ex36 := rfl
  have h3 : contW (Rl.g ⟨1, 1, ⟨#[65]⟩, emB, 3, ⟨#[66]⟩, emB, []⟩) ⟨1, 1, ⟨#[65]⟩, emB, 3, ⟨#[66]⟩, emB, []⟩ [⟨1, 1, ⟨#[65]⟩, emB, 3, ⟨#[67]⟩, emB, []⟩] = 1 := by decide +kernel
  have h4 : allW ex36 = exO36 := by
    show allW [_, _] = _
    rw [allW_run (by decide), h3]
    show _ :: _ :: (_ :: [] ++ allW []) = _
    rw [allW_nil]
    rfl
  unfold compW
  rw [if_neg (by decide), if_neg (fun h => h h1), h2, h4]
theorem ex36_ok : ∀ r ∈ ex36, r.Ok := by
  intro r hr
  simp only [ex36, List.mem_cons, List.not_mem_nil, or_false] at hr
  rcases hr with rfl | rfl <;> exact ⟨by decide, by decide, by decide, by decide, by decide, by decide⟩
theorem awake36_p : APure Tryd.prog 9 [] (.b true) [] := by
  have q1 := APure.deep (args := [.i 1, .sl .no 8 (ex36.map fun r : Rl => [.i r.sd, .i r.gk, .s r.ga, .s r.gb, .i r.ac, .s r.nm, .s r.un, .nilS])]) (args' := [.i 1, .sl .no 8 (rlL ex36)]) ⟨.inl rfl, deepR ex36, trivial⟩ (compile_p 1 ex36 (by decide) ex36_ok)
  rw [ex36_v] at q1
  have q2 := APure.deep (args := [.sl .no 5 (opL exO36), .sl .no 5 (exO36.map fun o : Opn => [.i o.k, .s o.nm, .s o.tx, .nilS, .i o.n])]) (args' := [.sl .no 5 (opL exO36), .sl .no 5 (opL exO36)]) ⟨.inl rfl, deepO exO36, trivial⟩ (same36_p exO36 exO36 (by decide) (by decide) (by decide) (by decide))
  rw [decide_eq_true rfl] at q2
  refine APure.of rfl (ACalls.of_vc T_ok mixed Tryd.func9 rfl Tryd.call9 ?_)
  refine ⟨_, rfl, ?_⟩
  refine ⟨_, rfl, ?_⟩
  refine ⟨_, rfl, ?_⟩
  refine .p rfl q1 ?_
  refine .p rfl q2 ?_
  rfl
theorem take_op (l : List Opn) (m : Nat) : ((opL l).drop 0).take (m - 0) = opL (l.take m) := by simp [opL]
theorem compileChecks_p (l0 : List Opn) : APure Tryd.prog 4 [.sl .no 5 (opL l0)] (.b true) [] := by
  have el := opL_len l0
  obtain ⟨m, hm⟩ : ∃ m, m = (if 200 < (opL l0).length then 200 else (opL l0).length) := ⟨_, rfl⟩
  have hm2 : m ≤ 200 := by rw [hm]; split <;> omega
  have hm3 : m ≤ (opL l0).length := by rw [hm]; split <;> omega
  have hlt : (l0.take m).length ≤ 1000000 := by rw [List.length_take]; omega
  have q1 := checkO_p (l0.take m) hlt
  have q2 := checkR36_p (l0.take m) hlt
  rw [← take_op] at q1 q2
  generalize (checkO (l0.take m) 0).1 = c at q1 q2
  generalize (checkO (l0.take m) 0).2 = d at q1 q2
  refine APure.of rfl (ACalls.of_vc T_ok mixed Tryd.func4 rfl Tryd.call4 ?_)
  refine .p rfl awake36_p ?_
  refine ⟨m, (minI_at (opL l0).length 200).trans (by rw [hm]), Nat.zero_le _, hm3, ?_⟩
  refine .p rfl q1 ?_
  refine .p rfl q2 ?_
  refine cnd_split (fun h => ?_) (fun h => absurd rfl (beq_eq_false_iff_ne.1 h))
  exact retb (beq_self_eq_true d)
theorem fewR_all (l : List Rl) : ∀ r ∈ (l.take 70).map fewR, r.Ok := fun r hr => by
  obtain ⟨q, _, rfl⟩ := List.mem_map.1 hr
  exact fewR_ok q
theorem ownO_ps (r : Rl) (h : r.Ok) : (ownO r).ps.length ≤ 1000000 := by
  have := h.pl
  unfold ownO
  repeat' split
  all_goals first | (show r.ps.length ≤ _; omega) | (show 0 ≤ _; omega)
theorem allW_ps : ∀ (n : Nat) (l : List Rl), l.length ≤ n → (∀ r ∈ l, r.Ok) → ∀ o ∈ allW l, o.ps.length ≤ 1000000
  | 0, l, hl, _, o, ho => by
    have : l = [] := List.eq_nil_of_length_eq_zero (by omega)
    subst this
    rw [allW_nil] at ho; cases ho
  | n + 1, [], _, _, o, ho => by rw [allW_nil] at ho; cases ho
  | n + 1, r :: rs, hl, hr, o, ho => by
    have hl' : rs.length ≤ n := by simp at hl; omega
    have hrs : ∀ r ∈ rs, r.Ok := fun r h => hr r (List.mem_cons_of_mem _ h)
    have h0 := hr r List.mem_cons_self
    by_cases hg : r.gk = 0
    · rw [allW_plain hg] at ho
      rcases List.mem_cons.1 ho with rfl | ho
      · exact ownO_ps r h0
      · exact allW_ps n rs hl' hrs o ho
    · rw [allW_run hg] at ho
      rcases List.mem_cons.1 ho with rfl | ho
      · exact Nat.zero_le _
      rcases List.mem_cons.1 ho with rfl | ho
      · exact ownO_ps r h0
      rcases List.mem_append.1 ho with ho | ho
      · obtain ⟨q, hq, rfl⟩ := List.mem_map.1 ho
        exact ownO_ps q (hrs q (List.mem_of_mem_take hq))
      · exact allW_ps n _ (by rw [List.length_drop]; omega) (fun r h => hrs r (List.mem_of_mem_drop h)) o ho
section
attribute [local irreducible] vcApp
set_option maxHeartbeats 1000000 in
theorem compileSides_p (sd : Int) (l0 : List Rl) : APure Tryd.prog 3 [.i sd, .sl .no 8 (rlL l0)] (.b true) [] := by
  have hmx : maxLen = 9223372036854775807 := rfl
  have q0 := few35_p l0
  have hok := fewR_all l0
  have hl : ((l0.take 70).map fewR).length ≤ 70 := by rw [List.length_map, List.length_take]; omega
  generalize (l0.take 70).map fewR = l at q0 hok hl
  have el := rlL_len l
  have q1 := compile_p sd l (by omega) hok
  refine APure.of rfl (ACalls.of_vc T_ok mixed Tryd.func3 rfl Tryd.call3 ?_)
  refine .p rfl awake36_p ?_
  refine .p rfl q0 ?_
  by_cases he : (compW sd l).2 = 0
  case neg =>
    have h1 : (compW sd l).1 = [] := by
      unfold compW at he ⊢
      split
      · rfl
      · rename_i h
        rw [if_neg h] at he
        split
        · rfl
        · rename_i h2
          rw [if_neg h2] at he
          exact absurd rfl he
    rw [h1] at q1
    generalize (compW sd l).2 = ce at q1 he
    refine .p rfl q1 ?_
    refine cnd_split (fun _ => ?_) (fun h => absurd (bne_eq_false_iff_eq.1 h) he)
    rfl
  have hsd : ¬ (sd ≠ 1 ∧ sd ≠ 2) := fun h => by unfold compW at he; rw [if_pos h] at he; cases he
  have hce : (checkL l).2 = 0 := by
    unfold compW at he
    rw [if_neg hsd] at he
    apply Decidable.byContradiction
    intro h
    rw [if_pos h] at he
    exact h he
  have hcw : compW sd l = (allW (sideL sd l), 0) := by
    unfold compW
    rw [if_neg hsd, if_neg (fun h => h hce)]
  rw [hcw] at q1
  dsimp only at q1
  obtain ⟨hz, h64⟩ := checkL_ok hce
  have hsl := sideL_len sd l
  have hzs : ∀ r ∈ sideL sd l, checkR r = 0 := fun r h => hz r (sideL_mem h)
  have hos : ∀ r ∈ sideL sd l, r.Ok := fun r h => hok r (sideL_mem h)
  have q2 := compile_p sd (sideL sd l) (by omega) hos
  have hcw2 : compW sd (sideL sd l) = (allW (sideL sd l), 0) := by
    unfold compW
    rw [if_neg hsd, if_neg (fun h => h (by rw [checkL_of hzs (by omega)])), sideL_idem]
  rw [hcw2] at q2
  dsimp only at q2
  have haw := allW_len _ _ (Nat.le_refl (sideL sd l).length)
  have hps := allW_ps _ _ (Nat.le_refl (sideL sd l).length) hos
  have q3 := same36_p (allW (sideL sd l)) (allW (sideL sd l)) (by omega) (by omega) hps hps
  rw [decide_eq_true rfl] at q3
  have han := actsN_all _ _ (Nat.le_refl (sideL sd l).length) hzs
  have eal := opL_len (allW (sideL sd l))
  refine .p rfl q1 ?_
  refine vc_loop [8, 7] (fun g vals st' => ∃ (k : Nat) (a' : AV), k + g = l.length ∧ vals = [.i k, a'] ∧ Acc 0 st'.tk 8 a' (rlL (sideL sd (l.take k)))) l.length rfl ⟨0, .nilS, by omega, rfl, .nil⟩ ?_
  rintro g vals st' ⟨k, a', hk, rfl, hA⟩
  have hsk : (sideL sd (l.take k)).length ≤ 1000 := Nat.le_trans (sideL_len _ _) (by rw [List.length_take]; omega)
  have fin : k = l.length → sideL sd (l.take k) = sideL sd l := fun e => by rw [e, List.take_of_length_le (Nat.le_refl _)]
  have es0 : ∀ k1 : k < l.length, sideL sd (l.take (k + 1)) = sideL sd (l.take k) ++ (if l[k].sd = sd then [l[k]] else []) := fun k1 => sideL_take k1
  rcases hA.form with rfl | ⟨t, e, rfl⟩
  · refine cnd_split (fun hd => ?_) (fun hd => ?_)
    · have hd := of_decide_eq_true hd
      have k1 : k < l.length := by omega
      have es := es0 k1
      refine ⟨k, _, rfl, rlL_at k1, ?_⟩
      refine cnd_split (fun h2 => ?_) (fun h2 => ?_)
      · rw [if_pos (show l[k].sd = sd from beq_iff_eq.1 h2)] at es
        refine ⟨k, _, rfl, rlL_at k1, ?_⟩
        refine Acc.app (i := ti36) hA (Nat.zero_le _) (List.cons_ne_nil _ _) ?_ ?_ (fun t1 e1 tk1 q0 q1 q2 q3 => ?_)
        · show ((rlL _).length + 1) * 112 ≤ _; rw [rlL_len]; omega
        · show (rlL _).length + 1 ≤ _; rw [rlL_len]; omega
        intro c hc
        rw [IntWalk.i64_in _ (by omega)] at hc
        obtain rfl : c = ((k + 1 : Nat) : Int) := by omega
        refine ⟨g - 1, by omega, k + 1, _, by omega, rfl, ?_⟩
        rw [es, ← rlL_snoc]
        exact .own _ _ _ q0 q1
      · rw [if_neg (show ¬ l[k].sd = sd from beq_eq_false_iff_ne.1 h2), List.append_nil] at es
        intro c hc
        rw [IntWalk.i64_in _ (by omega)] at hc
        obtain rfl : c = ((k + 1 : Nat) : Int) := by omega
        exact ⟨g - 1, by omega, k + 1, _, by omega, rfl, by rw [es]; exact hA⟩
    · have hd := of_decide_eq_false hd
      rw [fin (by omega)] at hA
      have hnil : rlL (sideL sd l) = [] := hA.nilE
      have hn0 : (sideL sd l).length = 0 := by rw [← rlL_len, hnil]; rfl
      refine .w (args' := [.i sd, .sl .no 8 (rlL (sideL sd l))]) rfl ⟨.inl (.inl ⟨rfl, rfl⟩), (.inr ⟨rfl, 8, by rw [hnil]⟩), trivial⟩ q2 ?_
      refine vc_loop [11, 12] (fun g vals st' => ∃ j : Nat, j + g = (allW (sideL sd l)).length ∧ vals = [.i (actsN ((allW (sideL sd l)).take j)), .i j]) (allW (sideL sd l)).length rfl ⟨0, by omega, rfl⟩ ?_
      rintro g2 vals2 st2 ⟨j, hj, rfl⟩
      refine cnd_split (fun hd2 => ?_) (fun hd2 => ?_)
      · have hd2 := of_decide_eq_true hd2
        have j1 : j < (allW (sideL sd l)).length := by omega
        have ea := actsN_take j1
        have hal : actsN ((allW (sideL sd l)).take j) ≤ 100000 := Nat.le_trans (List.length_filter_le _ _) (by rw [List.length_take]; omega)
        refine ⟨j, _, rfl, opL_at j1, ?_⟩
        refine cnd_split (fun h3 => ?_) (fun h3 => ?_)
        · rw [if_pos (of_decide_eq_true h3)] at ea
          intro c hc
          rw [IntWalk.i64_in _ (by omega)] at hc
          obtain rfl : c = ((actsN ((allW (sideL sd l)).take j) + 1 : Nat) : Int) := by omega
          intro c hc
          rw [IntWalk.i64_in _ (by omega)] at hc
          obtain rfl : c = ((j + 1 : Nat) : Int) := by omega
          exact ⟨g2 - 1, by omega, j + 1, by omega, by rw [ea]; rfl⟩
        · rw [if_neg (of_decide_eq_false h3)] at ea
          intro c hc
          rw [IntWalk.i64_in _ (by omega)] at hc
          obtain rfl : c = ((j + 1 : Nat) : Int) := by omega
          exact ⟨g2 - 1, by omega, j + 1, by omega, by rw [ea]; rfl⟩
      · have hd2 := of_decide_eq_false hd2
        refine .w (args' := [.sl .no 5 (opL (allW (sideL sd l))), .sl .no 5 (opL (allW (sideL sd l)))]) rfl ⟨.inl (.inl ⟨rfl, rfl⟩), .inl (.inl ⟨rfl, rfl⟩), trivial⟩ q3 ?_
        refine retb (beq_iff_eq.2 ?_)
        rw [List.take_of_length_le (by omega), han]
        rw [hn0]
  · refine cnd_split (fun hd => ?_) (fun hd => ?_)
    · have hd := of_decide_eq_true hd
      have k1 : k < l.length := by omega
      have es := es0 k1
      refine ⟨k, _, rfl, rlL_at k1, ?_⟩
      refine cnd_split (fun h2 => ?_) (fun h2 => ?_)
      · rw [if_pos (show l[k].sd = sd from beq_iff_eq.1 h2)] at es
        refine ⟨k, _, rfl, rlL_at k1, ?_⟩
        refine Acc.app (i := ti36) hA (Nat.zero_le _) (List.cons_ne_nil _ _) ?_ ?_ (fun t1 e1 tk1 q0 q1 q2 q3 => ?_)
        · show ((rlL _).length + 1) * 112 ≤ _; rw [rlL_len]; omega
        · show (rlL _).length + 1 ≤ _; rw [rlL_len]; omega
        intro c hc
        rw [IntWalk.i64_in _ (by omega)] at hc
        obtain rfl : c = ((k + 1 : Nat) : Int) := by omega
        refine ⟨g - 1, by omega, k + 1, _, by omega, rfl, ?_⟩
        rw [es, ← rlL_snoc]
        exact .own _ _ _ q0 q1
      · rw [if_neg (show ¬ l[k].sd = sd from beq_eq_false_iff_ne.1 h2), List.append_nil] at es
        intro c hc
        rw [IntWalk.i64_in _ (by omega)] at hc
        obtain rfl : c = ((k + 1 : Nat) : Int) := by omega
        exact ⟨g - 1, by omega, k + 1, _, by omega, rfl, by rw [es]; exact hA⟩
    · have hd := of_decide_eq_false hd
      have fe := congrArg rlL (fin (by omega))
      have hll := rlL_len (sideL sd l)
      refine .w (args' := [.i sd, .sl .no 8 (rlL (sideL sd l))]) rfl ⟨.inl (.inl ⟨rfl, rfl⟩), (.inl (.inl ⟨congrArg (AV.sl .no 8) fe.symm, rfl⟩)), trivial⟩ q2 ?_
      refine vc_loop [11, 12] (fun g vals st' => ∃ j : Nat, j + g = (allW (sideL sd l)).length ∧ vals = [.i (actsN ((allW (sideL sd l)).take j)), .i j]) (allW (sideL sd l)).length rfl ⟨0, by omega, rfl⟩ ?_
      rintro g2 vals2 st2 ⟨j, hj, rfl⟩
      refine cnd_split (fun hd2 => ?_) (fun hd2 => ?_)
      · have hd2 := of_decide_eq_true hd2
        have j1 : j < (allW (sideL sd l)).length := by omega
        have ea := actsN_take j1
        have hal : actsN ((allW (sideL sd l)).take j) ≤ 100000 := Nat.le_trans (List.length_filter_le _ _) (by rw [List.length_take]; omega)
        refine ⟨j, _, rfl, opL_at j1, ?_⟩
        refine cnd_split (fun h3 => ?_) (fun h3 => ?_)
        · rw [if_pos (of_decide_eq_true h3)] at ea
          intro c hc
          rw [IntWalk.i64_in _ (by omega)] at hc
          obtain rfl : c = ((actsN ((allW (sideL sd l)).take j) + 1 : Nat) : Int) := by omega
          intro c hc
          rw [IntWalk.i64_in _ (by omega)] at hc
          obtain rfl : c = ((j + 1 : Nat) : Int) := by omega
          exact ⟨g2 - 1, by omega, j + 1, by omega, by rw [ea]; rfl⟩
        · rw [if_neg (of_decide_eq_false h3)] at ea
          intro c hc
          rw [IntWalk.i64_in _ (by omega)] at hc
          obtain rfl : c = ((j + 1 : Nat) : Int) := by omega
          exact ⟨g2 - 1, by omega, j + 1, by omega, by rw [ea]; rfl⟩
      · have hd2 := of_decide_eq_false hd2
        refine .w (args' := [.sl .no 5 (opL (allW (sideL sd l))), .sl .no 5 (opL (allW (sideL sd l)))]) rfl ⟨.inl (.inl ⟨rfl, rfl⟩), .inl (.inl ⟨rfl, rfl⟩), trivial⟩ q3 ?_
        refine retb (beq_iff_eq.2 ?_)
        rw [List.take_of_length_le (by omega), han]
        show ((sideL sd l).length : Int) = ((rlL (sideL sd (l.take k))).length : Int); rw [fe, hll]
end
end Go.Proofs.YthneihlplijklaaDoor
