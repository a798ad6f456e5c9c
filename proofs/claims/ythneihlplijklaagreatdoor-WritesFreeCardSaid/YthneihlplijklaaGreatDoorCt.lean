/- Rules made instructions: the laws CompileSides, CompileChecks, CompileMakes. No statement of its own. -/
import Derived.Test.YthneihlplijklaaGreatDoorCs
set_option linter.unusedSimpArgs false
set_option linter.unusedVariables false
set_option maxRecDepth 100000
namespace Go.Proofs.YthneihlplijklaaGreatDoor
open Go.RowKit
/-- rows, cell by cell said less of -/
def deepV (a a' : AV) : Prop := a' = a ∨ ∃ sz es es', a = .sl .no sz es ∧ a' = .sl .no sz es' ∧ es.length = es'.length ∧ ∀ (k : Nat) e e', es[k]? = some e → es'[k]? = some e' → CellsW e e'
def DeepV : List AV → List AV → Prop
  | [], [] => True
  | a :: r, a' :: r' => deepV a a' ∧ DeepV r r'
  | _, _ => False
theorem DeepV.at' : ∀ {l l' : List AV}, DeepV l l' → l.length = l'.length ∧ ∀ (j : Nat) a', l'[j]? = some a' → ∃ a, l[j]? = some a ∧ deepV a a'
  | [], [], _ => ⟨rfl, fun j a h => by simp at h⟩
  | a :: r, b :: r', h => by
    obtain ⟨h1, h2⟩ := h
    obtain ⟨i1, i2⟩ := DeepV.at' h2
    refine ⟨by simp [i1], fun j a' hj => ?_⟩
    cases j with
    | zero => simp at hj; subst hj; exact ⟨a, rfl, h1⟩
    | succ j => simpa using i2 j a' (by simpa using hj)
  | [], _ :: _, h => h.elim
  | _ :: _, [], h => h.elim
theorem Rp.deep {w : World} {I : Nat → Nat → Prop} {hl : Nat} {μ : Nat → Nat} {tk : List Nat} {σ : Nat → Tkt} {sz : Nat} {es es' : List (List AV)} {v : Value} (h : Rp w I hl μ tk σ (.sl .no sz es) v) (hlen : es.length = es'.length) (hw : ∀ (k : Nat) e e', es[k]? = some e → es'[k]? = some e' → CellsW e e') : Rp w I hl μ tk σ (.sl .no sz es') v := by
  have pick : ∀ (k : Nat) e', es'[k]? = some e' → ∃ e, es[k]? = some e ∧ CellsW e e' := fun k e' he' => by
    have hk := (List.getElem?_eq_some_iff.1 he').1
    have he := List.getElem?_eq_getElem (l := es) (i := k) (by omega)
    exact ⟨_, he, hw k _ _ he he'⟩
  cases h with
  | sl0 _ a cap hm =>
    have : es' = [] := List.eq_nil_of_length_eq_zero (by rw [← hlen]; rfl)
    subst this
    exact .sl0 sz a cap hm
  | sl _ _ _ g o cap us hs hn hm hc hr ht1 ht2 =>
    rw [hlen]
    refine .sl .no sz es' g o cap us (fun k e' he' => ?_) (by omega) hm (fun k e' j a he' ha => ?_) (fun k e' j a he' ha => ?_) (fun h => by cases h) (fun i e h => by cases h)
    · obtain ⟨e, he, hw⟩ := pick k e' he'
      refine ⟨hw.length.symm.trans (hs k e he).1, List.all_eq_true.2 fun x hx => ?_⟩
      obtain ⟨j, hj⟩ := List.mem_iff_getElem?.1 hx
      obtain ⟨b, _, hb⟩ := hw.get j x hj
      exact hb.flat
    · obtain ⟨e, he, hw⟩ := pick k e' he'
      obtain ⟨b, hb, hbw⟩ := hw.get j a ha
      exact hc k e j b he hb
    · obtain ⟨e, he, hw⟩ := pick k e' he'
      obtain ⟨b, hb, hbw⟩ := hw.get j a ha
      have h2 := hr k e j b he hb
      rcases hbw with ⟨rfl, hf⟩ | ⟨rfl, sz, rfl⟩
      · exact h2.strip
      · rw [h2.of_lit]
        exact .sl0 sz none 0 (Nat.zero_le _)
theorem APure.deep {P : Program} {f : FuncId} {args args' : List AV} {r : AV} {ns : List Nat} (hw : DeepV args args') (h : APure P f args' r ns) : APure P f args r ns := by
  obtain ⟨h1, h2⟩ := hw.at'
  refine ⟨h.1, h.2.1, fun J w vs hl hlen ha => h.2.2 J w vs hl (by omega) fun j a' v hj hv => ?_⟩
  obtain ⟨a, e, hv'⟩ := h2 j a' hj
  have := ha j a v e hv
  rcases hv' with rfl | ⟨sz, es, es', rfl, rfl, hl, hc⟩
  · exact this
  · exact this.deep hl hc
theorem deepO (l : List Opn) : deepV (.sl .no 5 (l.map fun o => [.i o.k, .s o.nm, .s o.tx, .nilS, .i o.n])) (.sl .no 5 (opL (l.map fun o => ⟨o.k, o.nm, o.tx, [], o.n⟩))) := by
  refine .inr ⟨5, _, _, rfl, rfl, by simp [opL], fun k e e' he he' => ?_⟩
  have hk := (List.getElem?_eq_some_iff.1 he).1
  rw [List.length_map] at hk
  rw [List.getElem?_map, List.getElem?_eq_getElem hk] at he
  unfold opL at he'
  rw [List.getElem?_map, List.getElem?_map, List.getElem?_eq_getElem hk] at he'
  cases he
  cases he'
  exact ⟨.inl ⟨rfl, rfl⟩, .inl ⟨rfl, rfl⟩, .inl ⟨rfl, rfl⟩, .inr ⟨rfl, 2, rfl⟩, .inl ⟨rfl, rfl⟩, trivial⟩
theorem deepR (l : List Rl) : deepV (.sl .no 8 (l.map fun r => [.i r.sd, .i r.gk, .s r.ga, .s r.gb, .i r.ac, .s r.nm, .s r.un, .nilS])) (.sl .no 8 (rlL (l.map fun r => ⟨r.sd, r.gk, r.ga, r.gb, r.ac, r.nm, r.un, []⟩))) := by
  refine .inr ⟨8, _, _, rfl, rfl, by simp [rlL], fun k e e' he he' => ?_⟩
  have hk := (List.getElem?_eq_some_iff.1 he).1
  rw [List.length_map] at hk
  rw [List.getElem?_map, List.getElem?_eq_getElem hk] at he
  unfold rlL at he'
  rw [List.getElem?_map, List.getElem?_map, List.getElem?_eq_getElem hk] at he'
  cases he
  cases he'
  exact ⟨.inl ⟨rfl, rfl⟩, .inl ⟨rfl, rfl⟩, .inl ⟨rfl, rfl⟩, .inl ⟨rfl, rfl⟩, .inl ⟨rfl, rfl⟩, .inl ⟨rfl, rfl⟩, .inl ⟨rfl, rfl⟩, .inr ⟨rfl, 2, rfl⟩, trivial⟩
theorem Acc.nilE {n : Nat} {tk : List Nat} {sz : Nat} {es : List (List AV)} (h : Acc n tk sz .nilS es) : es = [] := by
  generalize ha : AV.nilS = a at h
  cases h with
  | nil => rfl
  | own t e es hn ht => cases ha
def ex36 : List Rl := [⟨1, 1, ⟨#[65]⟩, emB, 3, ⟨#[66]⟩, emB, []⟩, ⟨1, 1, ⟨#[65]⟩, emB, 3, ⟨#[67]⟩, emB, []⟩]
def exO36 : List Opn := [⟨1, ⟨#[65]⟩, emB, [], 2⟩, ⟨4, ⟨#[66]⟩, emB, [], 0⟩, ⟨4, ⟨#[67]⟩, emB, [], 0⟩]
theorem ex36_v : compW 1 ex36 = (exO36, 0) := by
  have h1 : (checkL ex36).2 = 0 := by decide +kernel
  have h2 : sideL 1 ex36 = ex36 := rfl
  have h3 : contW (Rl.g ⟨1, 1, ⟨#[65]⟩, emB, 3, ⟨#[66]⟩, emB, []⟩) ⟨1, 1, ⟨#[65]⟩, emB, 3, ⟨#[66]⟩, emB, []⟩ [⟨1, 1, ⟨#[65]⟩, emB, 3, ⟨#[67]⟩, emB, []⟩] = 1 := by decide +kernel
  have h4 : allW ex36 = exO36 := by
    show allW [_, _] = _
    rw [allW_run (by decide), h3]
    show _ :: _ :: (_ :: [] ++ allW []) = _
    rw [allW_nil]
    rfl
  unfold compW
  rw [if_neg (by decide), if_neg (fun h => h h1), h2, h4]
theorem ex36_ok : ∀ r ∈ ex36, r.Ok := by
  intro r hr
  simp only [ex36, List.mem_cons, List.not_mem_nil, or_false] at hr
  rcases hr with rfl | rfl <;> exact ⟨by decide, by decide, by decide, by decide, by decide, by decide⟩
theorem awake36_p : APure Tryz.prog 9 [] (.b true) [] := by
  have q1 := APure.deep (args := [.i 1, .sl .no 8 (ex36.map fun r : Rl => [.i r.sd, .i r.gk, .s r.ga, .s r.gb, .i r.ac, .s r.nm, .s r.un, .nilS])]) (args' := [.i 1, .sl .no 8 (rlL ex36)]) ⟨.inl rfl, deepR ex36, trivial⟩ (compile_p 1 ex36 (by decide) ex36_ok)
  rw [ex36_v] at q1
  have q2 := APure.deep (args := [.sl .no 5 (opL exO36), .sl .no 5 (exO36.map fun o : Opn => [.i o.k, .s o.nm, .s o.tx, .nilS, .i o.n])]) (args' := [.sl .no 5 (opL exO36), .sl .no 5 (opL exO36)]) ⟨.inl rfl, deepO exO36, trivial⟩ (same36_p exO36 exO36 (by decide) (by decide) (by decide) (by decide))
  rw [decide_eq_true rfl] at q2
  refine APure.of rfl (ACalls.of_vc T_ok mixed Tryz.func9 rfl Tryz.call9 ?_)
  refine ⟨_, rfl, ?_⟩
  refine ⟨_, rfl, ?_⟩
  refine ⟨_, rfl, ?_⟩
  refine .p rfl q1 ?_
  refine .p rfl q2 ?_
  rfl
theorem take_op (l : List Opn) (m : Nat) : ((opL l).drop 0).take (m - 0) = opL (l.take m) := by simp [opL]
theorem fewR_all (l : List Rl) : ∀ r ∈ (l.take 70).map fewR, r.Ok := fun r hr => by
  obtain ⟨q, _, rfl⟩ := List.mem_map.1 hr
  exact fewR_ok q
theorem ownO_ps (r : Rl) (h : r.Ok) : (ownO r).ps.length ≤ 1000000 := by
  have := h.pl
  unfold ownO
  repeat' split
  all_goals first | (show r.ps.length ≤ _; omega) | (show 0 ≤ _; omega)
theorem allW_ps : ∀ (n : Nat) (l : List Rl), l.length ≤ n → (∀ r ∈ l, r.Ok) → ∀ o ∈ allW l, o.ps.length ≤ 1000000
  | 0, l, hl, _, o, ho => by
    have : l = [] := List.eq_nil_of_length_eq_zero (by omega)
    subst this
    rw [allW_nil] at ho; cases ho
  | n + 1, [], _, _, o, ho => by rw [allW_nil] at ho; cases ho
  | n + 1, r :: rs, hl, hr, o, ho => by
    have hl' : rs.length ≤ n := by simp at hl; omega
    have hrs : ∀ r ∈ rs, r.Ok := fun r h => hr r (List.mem_cons_of_mem _ h)
    have h0 := hr r List.mem_cons_self
    by_cases hg : r.gk = 0
    · rw [allW_plain hg] at ho
      rcases List.mem_cons.1 ho with rfl | ho
      · exact ownO_ps r h0
      · exact allW_ps n rs hl' hrs o ho
    · rw [allW_run hg] at ho
      rcases List.mem_cons.1 ho with rfl | ho
      · exact Nat.zero_le _
      rcases List.mem_cons.1 ho with rfl | ho
      · exact ownO_ps r h0
      rcases List.mem_append.1 ho with ho | ho
      · obtain ⟨q, hq, rfl⟩ := List.mem_map.1 ho
        exact ownO_ps q (hrs q (List.mem_of_mem_take hq))
      · exact allW_ps n _ (by rw [List.length_drop]; omega) (fun r h => hrs r (List.mem_of_mem_drop h)) o ho
section
attribute [local irreducible] vcApp
end
end Go.Proofs.YthneihlplijklaaGreatDoor
