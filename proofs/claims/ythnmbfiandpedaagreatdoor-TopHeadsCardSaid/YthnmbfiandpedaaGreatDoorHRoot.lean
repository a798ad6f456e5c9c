/- From a law over abstract values to the statement's call. No statement of its own. -/
import Derived.Test.YthnmbfiandpedaaGreatDoorHCard
import Derived.Test.YthnmbfiandpedaaGreatDoorHSa
set_option linter.unusedSimpArgs false
set_option linter.unusedVariables false
namespace Go.Proofs.YthnmbfiandpedaaGreatDoor
open Go.RowKit

def AtR (W : World) (a : AV) (v : Value) : Prop := At W.heap.size (fun _ _ => True) ⟨[], []⟩ (fun _ => 0) (fun _ => ⟨0, 0, 0⟩) W a v
def AtRs (W : World) : List AV → List Value → Prop
  | [], [] => True
  | a :: r, v :: s => AtR W a v ∧ AtRs W r s
  | _, _ => False
theorem AtRs.len {W : World} : ∀ {l : List AV} {vs : List Value}, AtRs W l vs → l.length = vs.length
  | [], [], _ => rfl
  | _ :: _, _ :: _, h => congrArg (· + 1) (AtRs.len h.2)
theorem AtRs.at {W : World} : ∀ {l : List AV} {vs : List Value}, AtRs W l vs → ∀ (j : Nat) a v, l[j]? = some a → vs[j]? = some v → AtR W a v
  | _ :: _, _ :: _, h, 0, _, _, h1, h2 => by cases h1; cases h2; exact h.1
  | _ :: _, _ :: _, h, j + 1, _, _, h1, h2 => AtRs.at h.2 j _ _ h1 h2
theorem APure.root {P : Program} {f : FuncId} {args : List AV} (h : APure P f args (.b true) []) (W : World) (vs : List Value) (hl : ∀ w', Below W.heap.size W w' → LaidW w') (ha : AtRs W args vs) :
    Calls P f vs.toArray W fun e W' => e = .returned (.bool true) ∧ Below W.heap.size W W' := by
  refine (h.2.2 (fun _ _ => True) W vs.toArray hl (by simpa using ha.len) (fun j a v h1 h2 => ha.at j a v h1 (by simpa using h2))).mono ?_
  rintro e w' ⟨v, σ', rfl, hok, hat⟩
  rw [hat.of_lit]
  exact ⟨rfl, hok.below⟩
theorem AtR.lit (W : World) (v : Value) : AtR W (.lit v) v := Rp.lit v
end Go.Proofs.YthnmbfiandpedaaGreatDoor
