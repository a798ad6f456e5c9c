/- A call of a pure function, of rows that were written in place. No statement of its own. -/
import Derived.Test.YtgaidgblihnldaaGreatDoorVn
set_option linter.unusedSimpArgs false
set_option linter.unusedVariables false
set_option maxRecDepth 100000
namespace Go.Proofs.YtgaidgblihnldaaGreatDoor
open Go.RowKit
section
variable {P : Program}
def AV.isLit : AV → Bool
  | .lit _ => true
  | _ => false
def AV.lits : AV → Bool
  | .lit _ => true
  | .tup cs => cs.all AV.isLit
  | _ => false
def frzA (st : St) : List AV → List AV → Prop
  | [], [] => True
  | a :: r, b :: s => frz st a b ∧ frzA st r s
  | _, _ => False
theorem frzA.length {st : St} : ∀ {xs ys : List AV}, frzA st xs ys → xs.length = ys.length
  | [], [], _ => rfl
  | _ :: _, _ :: _, h => by simp [frzA.length h.2]
  | [], _ :: _, h => h.elim
  | _ :: _, [], h => h.elim
theorem frzA.get {st : St} : ∀ {xs ys : List AV}, frzA st xs ys → ∀ (j : Nat) b, ys[j]? = some b → ∃ a, xs[j]? = some a ∧ frz st a b
  | [], [], _, j, b, h => by simp at h
  | a :: _, b0 :: _, h, j, b, hb => by
    cases j with
    | zero => simp at hb; subst hb; exact ⟨a, rfl, h.1⟩
    | succ j => obtain ⟨c, h1, h2⟩ := frzA.get h.2 j b (by simpa using hb); exact ⟨c, by simpa using h1, h2⟩
  | [], _ :: _, h, _, _, _ => h.elim
  | _ :: _, [], h, _, _, _ => h.elim
theorem ACalls.frz {f : FuncId} {args args' : List AV} {st : St} {R : AV → St → Prop} {r : AV} (hw : frzA st args args') (hr : r.lits = true) (h : APure P f args' r []) (hR : R r st) : ACalls P f args st R := by
  obtain ⟨_, hcall, hp⟩ := h
  refine ⟨hcall, fun base J w0 μ σ w vs h hl ha => ?_⟩
  refine (hp (fun _ _ => True) w vs h.laid' (hw.length.symm.trans hl) (fun j b v hb hv => ?_)).mono ?_
  · obtain ⟨a, h1, h2⟩ := hw.get j b hb
    exact h2.at h (ha j a v h1 hv)
  rintro e w' ⟨v, σ', rfl, hok, hat⟩
  obtain ⟨ok', ext'⟩ := h.step hok.below
  refine ⟨v, r, st, μ, σ, rfl, hR, ok', ext', ?_⟩
  cases r with
  | lit v0 => rw [hat.of_lit]; exact .lit _
  | tup cs =>
    cases hat with
    | tup cs us e1 hq =>
      refine .tup cs us e1 fun j a u h1 h2 => ?_
      have hl := List.all_eq_true.1 hr a (List.mem_of_getElem? h1)
      cases a with
      | lit v0 => rw [(hq j _ u h1 h2).of_lit]; exact .lit _
      | _ => cases hl
  | _ => cases hr
/-- a row that was written in place, seen as what it holds -/
theorem HR.frz {st : St} {sz : Nat} {a : AV} {r : Option Nat} {es : List (List AV)} (h : HR st sz a r es) (hne : es ≠ []) : Go.Proofs.YtgaidgblihnldaaGreatDoor.frz st a (.sl .no sz es) := by
  cases h with
  | nil => exact absurd rfl hne
  | tight => exact absurd rfl hne
  | hs p cap es h =>
    obtain ⟨⟨zs, h1, h2⟩, h3, h4⟩ := h
    exact .inr (.inr (.inr ⟨p, 0, es.length, cap, sz, _, es, rfl, h1, rows_seen h3, rfl⟩))
end
end Go.Proofs.YtgaidgblihnldaaGreatDoor
