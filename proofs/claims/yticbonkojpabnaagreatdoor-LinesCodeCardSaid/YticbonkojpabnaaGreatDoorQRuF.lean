/- Rules: cut short; RuleSame, RuleChecks. No statement of its own. -/
import Derived.Test.YticbonkojpabnaaGreatDoorQRuL
import Derived.Test.YticbonkojpabnaaGreatDoorQRuR
set_option linter.unusedSimpArgs false
set_option linter.unusedVariables false
set_option maxRecDepth 100000
namespace Go.Proofs.YticbonkojpabnaaGreatDoor
open Go.RowKit
instance : DecidableEq Rl := fun a b => by
  obtain ⟨a1, a2, a3, a4, a5, a6, a7, a8⟩ := a
  obtain ⟨b1, b2, b3, b4, b5, b6, b7, b8⟩ := b
  rw [Rl.mk.injEq]
  exact inferInstance
section
attribute [local irreducible] vcApp
end
end Go.Proofs.YticbonkojpabnaaGreatDoor
