/- What the card asks of the program, by reckoning. No statement of its own. -/
import Derived.Test.YthnmbfiandpedaaGreatDoorHCardT
import Derived.Test.YthnmbfiandpedaaGreatDoorCards
set_option linter.unusedSimpArgs false
set_option linter.unusedVariables false
set_option maxRecDepth 100000
namespace Go.Proofs.YthnmbfiandpedaaGreatDoor.topHeads
open Go.ChangeShapes Go.WideShapes Go.ChangeAt Go.RowKit Go.Deep
theorem goes_not {P : Program} {c : OpenClaim} {f : FuncId} (hs : c.start = .entering) (h1 : P.funcNamed c.func = some f) (h0 : P.funcs.any Func.goes = false) : false = c.goesBy P := by
  have h : ∀ fn ∈ P.funcs, Func.goes fn = false := fun fn hfn => by
    rw [Array.any_eq_false] at h0
    obtain ⟨i, hi, rfl⟩ := Array.mem_iff_getElem.1 hfn
    simpa using h0 i hi
  have h2 : P.goes f = false := by
    unfold Program.goes
    rw [h0, Bool.and_false, Bool.or_false, List.any_eq_false]
    intro g _ hg
    cases hq : P.funcs[g]? with
    | none => rw [hq] at hg; cases hg
    | some fn =>
      rw [hq] at hg
      have := h fn (Array.mem_of_getElem? hq)
      rw [Option.any_some, this] at hg
      cases hg
  unfold OpenClaim.goesBy Program.goesAt Program.goesFrom
  rw [h1, hs, Option.any_some, h2]
  rfl
theorem g0 : (Rows.topHeadsRow.wf (OpenSpec.ofChange (OpenSpec.ofChange Rows.topHeadsSpec).bare) && laidOutB Tryz.pinned.checked.prog && mapsRowed Tryz.pinned.checked.prog && Tryz.f3.params.all (Tryz.pinned.checked.prog.readableRec ·) && namedTie Tryz.pinned.checked.prog Rows.topHeadsRow.named (OpenSpec.ofChange Rows.topHeadsSpec).bare.vars && (Rows.topHeadsRow.stops == []) && (Tryz.pinned.checked.prog.stops == []) && (Rows.topHeadsRow.knobs == []) && (Tryz.pinned.checked.prog.stopKnobs == [])) = true := by kernel_rfl
theorem g1 : ((Rows.topHeadsRow.inPlace == Tryz.pinned.checked.prog.inPlace 3)) = true := by kernel_rfl
theorem g2 : ((Rows.topHeadsRow.unfollowed == Tryz.pinned.checked.prog.unfollowed 3)) = true := by kernel_rfl
theorem g3 : ((Rows.topHeadsRow.recurses == Tryz.pinned.checked.prog.recurses 3)) = true := by kernel_rfl
theorem g4 : ((Rows.topHeadsRow.named == Tryz.pinned.checked.prog.varsNamed 3)) = true := by kernel_rfl
theorem g5 : ((Rows.topHeadsRow.maps == (Tryz.f3.params.toList ++ (OpenSpec.ofChange Rows.topHeadsSpec).bare.plain.varTypes Tryz.pinned.checked.prog).any (Tryz.pinned.checked.prog.mapsRec ·)) && (Rows.topHeadsRow.ifaces == (Tryz.f3.params.toList ++ (OpenSpec.ofChange Rows.topHeadsSpec).bare.plain.varTypes Tryz.pinned.checked.prog).any (Tryz.pinned.checked.prog.ifacesRec ·)) && (Rows.topHeadsRow.mapsOut == Tryz.pinned.checked.prog.mapsAmong Tryz.f3.resultTypes.toList) && (Rows.topHeadsRow.loops == (Tryz.f3.params.toList ++ (OpenSpec.ofChange Rows.topHeadsSpec).bare.plain.varTypes Tryz.pinned.checked.prog).any (Tryz.pinned.checked.prog.loopsFrom ·)) && (Rows.topHeadsRow.wideKeys == (Tryz.f3.params.toList ++ (OpenSpec.ofChange Rows.topHeadsSpec).bare.plain.varTypes Tryz.pinned.checked.prog ++ Tryz.f3.resultTypes.toList).any (Tryz.pinned.checked.prog.wideKeysFrom ·)) && (OpenSpec.ofChange Rows.topHeadsSpec).bare.vars.all (Tryz.pinned.checked.prog.varReadable ·) && Tryz.f3.resultTypes.all (fun t => Tryz.pinned.checked.prog.readableRec t && decide (t < Tryz.pinned.checked.prog.types.size)) && (Rows.topHeadsRow.ifacesOut == Tryz.f3.resultTypes.toList.any (Tryz.pinned.checked.prog.ifacesRec ·)) && (Rows.topHeadsRow.loopsOut == Tryz.f3.resultTypes.toList.any (Tryz.pinned.checked.prog.loopsFrom ·)) && (Rows.topHeadsRow.plainKeys == Tryz.pinned.checked.prog.plainKeys) && Rows.topHeadsRow.shortTexts.isNone && Tryz.pinned.checked.prog.stopsHeard && Tryz.pinned.checked.prog.mayEnter && (Rows.topHeadsRow.lifted == Tryz.pinned.checked.prog.liftsFinal) && (Tryz.pinned.checked.prog.make == some Rows.topHeadsRow.make) && (Rows.topHeadsRow.kinds == (if Rows.topHeadsRow.domain.isEmpty then [] else Tryz.f3.params.toList.map fun t => match Tryz.pinned.checked.prog.underlying t with | some (.int k) => some k | _ => none)) && (Rows.topHeadsRow.pinned == Rows.topHeadsRow.pinnedBy) && (Rows.topHeadsRow.veiled == (Tryz.f3.params.toList ++ (OpenSpec.ofChange Rows.topHeadsSpec).bare.plain.varTypes Tryz.pinned.checked.prog ++ Tryz.f3.resultTypes.toList).any (Tryz.pinned.checked.prog.veiledRec ·)) && Rows.topHeadsRow.veiledFits Tryz.pinned.checked.prog Tryz.f3.params.toList (Tryz.f3.params.toList ++ (OpenSpec.ofChange Rows.topHeadsSpec).bare.plain.varTypes Tryz.pinned.checked.prog ++ Tryz.f3.resultTypes.toList)) = true := by kernel_rfl
theorem closed : joinedFacts Tryz.pinned.checked.prog 3 Tryz.f3 (OpenSpec.ofChange Rows.topHeadsSpec).bare Rows.topHeadsRow = true := by
  unfold joinedFacts
  have k0 := g0
  have k5 := g5
  simp only [Bool.and_eq_true] at k0 k5 ⊢
  obtain ⟨⟨⟨⟨⟨⟨⟨⟨a0, a1⟩, a2⟩, a3⟩, a4⟩, a5⟩, a6⟩, a7⟩, a8⟩ := k0
  obtain ⟨⟨⟨⟨⟨⟨⟨⟨⟨⟨⟨⟨⟨⟨⟨⟨⟨⟨b0, b1⟩, b2⟩, b3⟩, b4⟩, b5⟩, b6⟩, b7⟩, b8⟩, b9⟩, b10⟩, b11⟩, b12⟩, b13⟩, b14⟩, b15⟩, b16⟩, b17⟩, b18⟩ := k5
  exact ⟨⟨⟨⟨⟨⟨⟨⟨⟨⟨⟨⟨⟨⟨⟨⟨⟨⟨⟨⟨⟨⟨⟨⟨⟨⟨⟨⟨⟨⟨⟨a0, a1⟩, a2⟩, a3⟩, a4⟩, a5⟩, a6⟩, a7⟩, a8⟩, g1⟩, g2⟩, g3⟩, g4⟩, b0⟩, b1⟩, b2⟩, b3⟩, b4⟩, b5⟩, b6⟩, b7⟩, b8⟩, b9⟩, b10⟩, b11⟩, b12⟩, b13⟩, b14⟩, b15⟩, b16⟩, b17⟩, b18⟩
theorem named : Tryz.pinned.checked.prog.funcNamed "doorstep/doorsteptop.TopHeads" = some 3 := by kernel_rfl
theorem noGo : Tryz.pinned.checked.prog.funcs.any Func.goes = false := by kernel_rfl
theorem goesNot : false = Rows.topHeadsRow.goesBy Tryz.pinned.checked.prog := goes_not rfl named noGo
theorem looksNot : false = Tryz.pinned.checked.prog.looks [] := by kernel_rfl
end Go.Proofs.YthnmbfiandpedaaGreatDoor.topHeads
