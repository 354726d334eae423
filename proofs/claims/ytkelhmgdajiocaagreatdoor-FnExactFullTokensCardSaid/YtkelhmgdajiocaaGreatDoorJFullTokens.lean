/- The closed facts of the row of FnExactFullTokens, one by one. -/
import Derived.Test.YtkelhmgdajiocaaGreatDoorCards
import Derived.Test.YtkelhmgdajiocaaGreatDoorTie
import Derived.SevenTiedAt
import Derived.JoinedOf
import Derived.WalkKit
namespace Go.Proofs.YtkelhmgdajiocaaGreatDoor.fnExactFullTokens
set_option linter.unusedVariables false
set_option linter.unusedSimpArgs false
open Go.ChangeShapes Go.WideShapes Go.RowKit

theorem jf0 : (Rows.fnExactFullTokensRow.wf (OpenSpec.ofChange Rows.fnExactFullTokensSpec)) = true := by kernel_rfl
theorem jf1 : (laidOutB Tryz.prog) = true := by kernel_rfl
theorem jf2 : (mapsRowed Tryz.prog) = true := by kernel_rfl
theorem jf3 : (Tryz.f6.params.all (Tryz.prog.readableRec ·)) = true := by kernel_rfl
theorem jf4 : (namedTie Tryz.prog Rows.fnExactFullTokensRow.named Rows.fnExactFullTokensSpec.vars) = true := by kernel_rfl
theorem jf5 : (Rows.fnExactFullTokensRow.stops == []) = true := by kernel_rfl
theorem jf6 : (Tryz.prog.stops == []) = true := by kernel_rfl
theorem jf7 : (Rows.fnExactFullTokensRow.knobs == []) = true := by kernel_rfl
theorem jf8 : (Tryz.prog.stopKnobs == []) = true := by kernel_rfl
theorem jf9 : (Rows.fnExactFullTokensRow.inPlace == Tryz.prog.inPlace 6) = true := by kernel_rfl
theorem jf10 : (Rows.fnExactFullTokensRow.unfollowed == Tryz.prog.unfollowed 6) = true := by kernel_rfl
theorem jf11 : (Rows.fnExactFullTokensRow.recurses == Tryz.prog.recurses 6) = true := by kernel_rfl
theorem jf12 : (Rows.fnExactFullTokensRow.named == Tryz.prog.varsNamed 6) = true := by kernel_rfl
theorem jf13 : (Rows.fnExactFullTokensRow.maps == (Tryz.f6.params.toList ++ Rows.fnExactFullTokensSpec.plain.varTypes Tryz.prog).any (Tryz.prog.mapsRec ·)) = true := by kernel_rfl
theorem jf14 : (Rows.fnExactFullTokensRow.ifaces == (Tryz.f6.params.toList ++ Rows.fnExactFullTokensSpec.plain.varTypes Tryz.prog).any (Tryz.prog.ifacesRec ·)) = true := by kernel_rfl
theorem jf15 : (Rows.fnExactFullTokensRow.mapsOut == Tryz.prog.mapsAmong Tryz.f6.resultTypes.toList) = true := by kernel_rfl
theorem jf16 : (Rows.fnExactFullTokensRow.loops == (Tryz.f6.params.toList ++ Rows.fnExactFullTokensSpec.plain.varTypes Tryz.prog).any (Tryz.prog.loopsFrom ·)) = true := by kernel_rfl
theorem jf17 : (Rows.fnExactFullTokensRow.wideKeys == (Tryz.f6.params.toList ++ Rows.fnExactFullTokensSpec.plain.varTypes Tryz.prog ++ Tryz.f6.resultTypes.toList).any (Tryz.prog.wideKeysFrom ·)) = true := by kernel_rfl
theorem jf18 : (Rows.fnExactFullTokensSpec.vars.all (Tryz.prog.varReadable ·)) = true := by kernel_rfl
theorem jf19 : (Tryz.f6.resultTypes.all (fun t => Tryz.prog.readableRec t && decide (t < Tryz.prog.types.size))) = true := by kernel_rfl
theorem jf20 : (Rows.fnExactFullTokensRow.ifacesOut == Tryz.f6.resultTypes.toList.any (Tryz.prog.ifacesRec ·)) = true := by kernel_rfl
theorem jf21 : (Rows.fnExactFullTokensRow.loopsOut == Tryz.f6.resultTypes.toList.any (Tryz.prog.loopsFrom ·)) = true := by kernel_rfl
theorem jf22 : (Rows.fnExactFullTokensRow.plainKeys == Tryz.prog.plainKeys) = true := by kernel_rfl
theorem jf23 : (Rows.fnExactFullTokensRow.shortTexts.isNone) = true := by kernel_rfl
theorem jf24 : (Tryz.prog.stopsHeard) = true := by kernel_rfl
theorem jf25 : (Tryz.prog.mayEnter) = true := by kernel_rfl
theorem jf26 : (Rows.fnExactFullTokensRow.lifted == Tryz.prog.liftsFinal) = true := by kernel_rfl
theorem jf27 : (Tryz.prog.make == some Rows.fnExactFullTokensRow.make) = true := by kernel_rfl
theorem jf28 : (Rows.fnExactFullTokensRow.kinds == (if Rows.fnExactFullTokensRow.domain.isEmpty then [] else Tryz.f6.params.toList.map fun t => match Tryz.prog.underlying t with | some (.int k) => some k | _ => none)) = true := by kernel_rfl
theorem jf29 : (Rows.fnExactFullTokensRow.pinned == Rows.fnExactFullTokensRow.pinnedBy) = true := by kernel_rfl
theorem jf30 : (Rows.fnExactFullTokensRow.veiled == (Tryz.f6.params.toList ++ Rows.fnExactFullTokensSpec.plain.varTypes Tryz.prog ++ Tryz.f6.resultTypes.toList).any (Tryz.prog.veiledRec ·)) = true := by kernel_rfl
theorem jf31 : (Rows.fnExactFullTokensRow.veiledFits Tryz.prog Tryz.f6.params.toList (Tryz.f6.params.toList ++ Rows.fnExactFullTokensSpec.plain.varTypes Tryz.prog ++ Tryz.f6.resultTypes.toList)) = true := by kernel_rfl
theorem and2 {a b : Bool} (h1 : a = true) (h2 : b = true) : (a && b) = true := by rw [h1, h2]; rfl
theorem pw : Rows.fnExactFullTokensRow.wfByText (OpenSpec.ofChange Rows.fnExactFullTokensSpec) = true := by kernel_rfl
theorem pm : Tryz.prog.mainIs = some (Rows.fnExactFullTokensCard.stood.harness.1, Rows.fnExactFullTokensCard.stood.harness.2.toList) := by kernel_rfl
theorem ph : (!Rows.fnExactFullTokensCard.stood.harness.1 && Rows.fnExactFullTokensCard.stood.harness.2.isEmpty && !Rows.fnExactFullTokensCard.stood.looks) = false := by kernel_rfl
theorem pl : Rows.fnExactFullTokensCard.stood.looks = Tryz.prog.looks [] := by kernel_rfl
theorem pg : false = Rows.fnExactFullTokensRow.goesBy Tryz.prog := by kernel_rfl
theorem pf : Tryz.prog.funcNamed Rows.fnExactFullTokensRow.func = some 6 := by kernel_rfl
theorem ps : (Tryz.f6.params.toList.all fun u => !Tryz.prog.wantsStandIn u) = true := by rw [Tryz.params6]; kernel_rfl
end Go.Proofs.YtkelhmgdajiocaaGreatDoor.fnExactFullTokens
