/- Rules leave the fields alone whose names they do not write: the plain law. No statement of its own. -/
import Derived.Test.YtgkhnllgmfjhpaaGreatDoorMall
import Derived.Test.YtgkhnllgmfjhpaaGreatDoorWh
set_option linter.unusedSimpArgs false
set_option linter.unusedVariables false
set_option maxRecDepth 100000
namespace Go.Proofs.YtgkhnllgmfjhpaaGreatDoor
open Go.RowKit
section
variable {kn : List Fld} {P : Fld → Bool}
theorem flt_without {nm : ByteArray} (h : ∀ f, P f = true → foldB f.1 ≠ foldB nm) : ∀ l : List Fld, (withoutW nm l).filter P = l.filter P := fun l => by
  unfold withoutW
  rw [List.filter_filter]
  refine List.filter_congr fun f _ => ?_
  cases hp : P f with
  | false => rw [Bool.false_and]
  | true =>
    have : ofB nm f = false := decide_eq_false (h f hp)
    rw [this]; rfl
theorem flt_put {nm v : ByteArray} (h : ∀ f, P f = true → foldB f.1 ≠ foldB nm) : ∀ l : List Fld, (putW nm v l).filter P = l.filter P
  | [] => by
    have : P (nm, v) = false := by
      cases hp : P (nm, v) with
      | false => rfl
      | true => exact absurd rfl (h _ hp)
    rw [putW, List.filter_cons, this]; rfl
  | f :: r => by
    have h0 : P (nm, v) = false := by
      cases hp : P (nm, v) with
      | false => rfl
      | true => exact absurd rfl (h _ hp)
    rw [putW]
    split
    · rename_i hf
      have h2 : foldB f.1 = foldB nm := of_decide_eq_true hf
      have h3 : P f = false := by
        cases hp : P f with
        | false => rfl
        | true => exact absurd h2 (h _ hp)
      rw [List.filter_cons, h0, List.filter_cons, h3]
      exact flt_without h r
    · rw [List.filter_cons, List.filter_cons, flt_put h r]
theorem flt_ren {nm un : ByteArray} (h : ∀ f, P f = true → foldB f.1 ≠ foldB nm) (h2 : ∀ f, P f = true → foldB f.1 ≠ foldB un) (l : List Fld) : (renW nm un l).filter P = l.filter P := by
  unfold renW
  induction l with
  | nil => rfl
  | cons f r ih =>
    rw [List.map_cons, List.filter_cons, List.filter_cons, ih]
    cases hf : ofB nm f with
    | true =>
      have e : renF nm un f = (un, f.2) := if_pos hf
      have h3 : P f = false := by
        cases hp : P f with
        | false => rfl
        | true => exact absurd (of_decide_eq_true hf) (h _ hp)
      have h4 : P (un, f.2) = false := by
        cases hp : P (un, f.2) with
        | false => rfl
        | true => exact absurd rfl (h2 _ hp)
      rw [e, h3, h4]; rfl
    | false =>
      have e : renF nm un f = f := if_neg (by rw [hf]; decide)
      rw [e]
theorem flt_act {r : Rl} {fs : List Fld} (ht : ∀ f, P f = true → touchW r f.1 = false) (h : 1 ≤ r.ac ∧ r.ac ≤ 4) : (actR kn r fs).filter P = fs.filter P := by
  cases hh : holdsG r.gk r.ga r.gb fs with
  | false => rw [actR_no hh]
  | true =>
    rw [actR_yes hh]
    unfold actX
    unfold touchW wrR memB at ht
    by_cases h4 : r.ac = 4
    · rw [if_pos h4] at ht
      rw [if_neg (by omega), if_neg (by omega), if_neg (by omega)]
      have ht' : ∀ f, P f = true → foldB f.1 ≠ foldB r.nm ∧ foldB f.1 ≠ foldB r.un := fun f hf => by
        have := ht f hf
        simp only [List.any_cons, List.any_nil, Bool.or_false, Bool.or_eq_false_iff, decide_eq_false_iff_not] at this
        exact ⟨fun e => this.1 e.symm, fun e => this.2 e.symm⟩
      exact flt_ren (fun f hf => (ht' f hf).1) (fun f hf => (ht' f hf).2) fs
    · rw [if_neg h4] at ht
      have ht' : ∀ f, P f = true → foldB f.1 ≠ foldB r.nm := fun f hf => by
        have := ht f hf
        simp only [List.any_cons, List.any_nil, Bool.or_false, decide_eq_false_iff_not] at this
        exact fun e => this e.symm
      split
      · exact flt_put ht' fs
      split
      · have h0 : P (r.nm, clnB (evT kn fs r.ps)) = false := by
          cases hp : P (r.nm, clnB (evT kn fs r.ps)) with
          | false => rfl
          | true => exact absurd rfl (ht' _ hp)
        rw [List.filter_append, List.filter_cons, h0]
        simp
      split
      · exact flt_without ht' fs
      · omega
theorem flt_fold : ∀ (l : List Rl) (fs : List Fld), (∀ r ∈ l, ∀ f, P f = true → touchW r f.1 = false) → (∀ r ∈ l, 1 ≤ r.ac ∧ r.ac ≤ 4) → (l.foldl (fun fs r => actR kn r fs) fs).filter P = fs.filter P
  | [], _, _, _ => rfl
  | r :: rs, fs, h1, h2 => by
    rw [List.foldl_cons, flt_fold rs _ (fun q hq => h1 q (List.mem_cons_of_mem _ hq)) (fun q hq => h2 q (List.mem_cons_of_mem _ hq))]
    exact flt_act (h1 r List.mem_cons_self) (h2 r List.mem_cons_self)
theorem fold_szN (kn : List Fld) : ∀ (l : List Rl) (fs : List Fld), (∀ r ∈ l, r.Ok ∧ ∀ p ∈ r.ps, p.2.size ≤ 1000000) → (∀ r ∈ l, checkR r = 0) → Sz 65536 fs → Sz 65536 (l.foldl (fun fs r => actR kn r fs) fs)
  | [], fs, _, _, hz => hz
  | r :: rs, fs, h1, h2, hz => by
    obtain ⟨o1, o2⟩ := h1 r List.mem_cons_self
    obtain ⟨z1, z2⟩ := actR_sz (kn := kn) o1 o2 (h2 r List.mem_cons_self) hz
    exact fold_szN kn rs (actR kn r fs) (fun q hq => h1 q (List.mem_cons_of_mem _ hq)) (fun q hq => h2 q (List.mem_cons_of_mem _ hq)) z1
/-- NO OTHERS -/
theorem doc_stay (kn fs : List Fld) (k : Int) (gs : List Fld) (l : List Rl) (h1 : ∀ r ∈ l, r.Ok ∧ ∀ p ∈ r.ps, p.2.size ≤ 1000000) (hz : Sz 65536 fs) :
    ((docW kn fs k l).2 ≠ 0 ∧ (docW kn fs k l).1 = []) ∨ ((docW kn fs k l).2 = 0 ∧ Sz 65536 (docW kn fs k l).1 ∧ (docW kn fs k l).1.filter (fun f => freeW f.1 k gs l) = fs.filter (fun f => freeW f.1 k gs l)) := by
  unfold docW
  split
  · exact .inl ⟨(by decide : (1 : Int) ≠ 0), rfl⟩
  split
  · rename_i _ h2; exact .inl ⟨h2, rfl⟩
  · rename_i _ h2
    refine .inr ⟨rfl, ?_⟩
    have hall := chkL_all l 0
    have h3 : (chkL l 0).2 = 0 := by
      unfold checkL at h2
      by_cases h4 : (chkL l 0).2 ≠ 0
      · rw [if_pos h4] at h2; exact absurd h4 h2
      · exact Decidable.not_not.1 h4
    have hall := hall.1 h3
    refine ⟨fold_szN kn (sideL k l) fs (fun r hr => h1 r (List.mem_filter.1 hr).1) (fun r hr => hall r (List.mem_filter.1 hr).1) hz, ?_⟩
    refine flt_fold (sideL k l) fs (fun r hr f hf => ?_) (fun r hr => checkR_ac (hall r (List.mem_filter.1 hr).1))
    have hs := of_decide_eq_true (List.mem_filter.1 hr).2
    have hf : freeW f.1 k gs l = true := hf
    unfold freeW at hf
    rw [memB_app, memB_app, tch_of] at hf
    cases ht : touchW r f.1 with
    | false => rfl
    | true =>
      have : tchW k f.1 l = true := by
        unfold tchW
        exact List.any_eq_true.2 ⟨r, (List.mem_filter.1 hr).1, by rw [ht, Bool.and_true]; exact decide_eq_true hs⟩
      rw [this] at hf
      simp at hf
end
end Go.Proofs.YtgkhnllgmfjhpaaGreatDoor
