/- The closed facts of the row of FnExactExprTokens, one by one. -/
import Derived.Test.YtkelhmgdajiocaaGreatDoorCards
import Derived.Test.YtkelhmgdajiocaaGreatDoorTie
import Derived.SevenTiedAt
import Derived.JoinedOf
import Derived.WalkKit
namespace Go.Proofs.YtkelhmgdajiocaaGreatDoor.fnExactExprTokens
set_option linter.unusedVariables false
set_option linter.unusedSimpArgs false
open Go.ChangeShapes Go.WideShapes Go.RowKit

theorem jf0 : (Rows.fnExactExprTokensRow.wf (OpenSpec.ofChange Rows.fnExactExprTokensSpec)) = true := by kernel_rfl
theorem jf1 : (laidOutB Tryz.prog) = true := by kernel_rfl
theorem jf2 : (mapsRowed Tryz.prog) = true := by kernel_rfl
theorem jf3 : (Tryz.f7.params.all (Tryz.prog.readableRec ·)) = true := by kernel_rfl
theorem jf4 : (namedTie Tryz.prog Rows.fnExactExprTokensRow.named Rows.fnExactExprTokensSpec.vars) = true := by kernel_rfl
theorem jf5 : (Rows.fnExactExprTokensRow.stops == []) = true := by kernel_rfl
theorem jf6 : (Tryz.prog.stops == []) = true := by kernel_rfl
theorem jf7 : (Rows.fnExactExprTokensRow.knobs == []) = true := by kernel_rfl
theorem jf8 : (Tryz.prog.stopKnobs == []) = true := by kernel_rfl
theorem jf9 : (Rows.fnExactExprTokensRow.inPlace == Tryz.prog.inPlace 7) = true := by kernel_rfl
theorem jf10 : (Rows.fnExactExprTokensRow.unfollowed == Tryz.prog.unfollowed 7) = true := by kernel_rfl
theorem jf11 : (Rows.fnExactExprTokensRow.recurses == Tryz.prog.recurses 7) = true := by kernel_rfl
theorem jf12 : (Rows.fnExactExprTokensRow.named == Tryz.prog.varsNamed 7) = true := by kernel_rfl
theorem jf13 : (Rows.fnExactExprTokensRow.maps == (Tryz.f7.params.toList ++ Rows.fnExactExprTokensSpec.plain.varTypes Tryz.prog).any (Tryz.prog.mapsRec ·)) = true := by kernel_rfl
theorem jf14 : (Rows.fnExactExprTokensRow.ifaces == (Tryz.f7.params.toList ++ Rows.fnExactExprTokensSpec.plain.varTypes Tryz.prog).any (Tryz.prog.ifacesRec ·)) = true := by kernel_rfl
theorem jf15 : (Rows.fnExactExprTokensRow.mapsOut == Tryz.prog.mapsAmong Tryz.f7.resultTypes.toList) = true := by kernel_rfl
theorem jf16 : (Rows.fnExactExprTokensRow.loops == (Tryz.f7.params.toList ++ Rows.fnExactExprTokensSpec.plain.varTypes Tryz.prog).any (Tryz.prog.loopsFrom ·)) = true := by kernel_rfl
theorem jf17 : (Rows.fnExactExprTokensRow.wideKeys == (Tryz.f7.params.toList ++ Rows.fnExactExprTokensSpec.plain.varTypes Tryz.prog ++ Tryz.f7.resultTypes.toList).any (Tryz.prog.wideKeysFrom ·)) = true := by kernel_rfl
theorem jf18 : (Rows.fnExactExprTokensSpec.vars.all (Tryz.prog.varReadable ·)) = true := by kernel_rfl
theorem jf19 : (Tryz.f7.resultTypes.all (fun t => Tryz.prog.readableRec t && decide (t < Tryz.prog.types.size))) = true := by kernel_rfl
theorem jf20 : (Rows.fnExactExprTokensRow.ifacesOut == Tryz.f7.resultTypes.toList.any (Tryz.prog.ifacesRec ·)) = true := by kernel_rfl
theorem jf21 : (Rows.fnExactExprTokensRow.loopsOut == Tryz.f7.resultTypes.toList.any (Tryz.prog.loopsFrom ·)) = true := by kernel_rfl
theorem jf22 : (Rows.fnExactExprTokensRow.plainKeys == Tryz.prog.plainKeys) = true := by kernel_rfl
theorem jf23 : (Rows.fnExactExprTokensRow.shortTexts.isNone) = true := by kernel_rfl
theorem jf24 : (Tryz.prog.stopsHeard) = true := by kernel_rfl
theorem jf25 : (Tryz.prog.mayEnter) = true := by kernel_rfl
theorem jf26 : (Rows.fnExactExprTokensRow.lifted == Tryz.prog.liftsFinal) = true := by kernel_rfl
theorem jf27 : (Tryz.prog.make == some Rows.fnExactExprTokensRow.make) = true := by kernel_rfl
theorem jf28 : (Rows.fnExactExprTokensRow.kinds == (if Rows.fnExactExprTokensRow.domain.isEmpty then [] else Tryz.f7.params.toList.map fun t => match Tryz.prog.underlying t with | some (.int k) => some k | _ => none)) = true := by kernel_rfl
theorem jf29 : (Rows.fnExactExprTokensRow.pinned == Rows.fnExactExprTokensRow.pinnedBy) = true := by kernel_rfl
theorem jf30 : (Rows.fnExactExprTokensRow.veiled == (Tryz.f7.params.toList ++ Rows.fnExactExprTokensSpec.plain.varTypes Tryz.prog ++ Tryz.f7.resultTypes.toList).any (Tryz.prog.veiledRec ·)) = true := by kernel_rfl
theorem jf31 : (Rows.fnExactExprTokensRow.veiledFits Tryz.prog Tryz.f7.params.toList (Tryz.f7.params.toList ++ Rows.fnExactExprTokensSpec.plain.varTypes Tryz.prog ++ Tryz.f7.resultTypes.toList)) = true := by kernel_rfl
theorem and2 {a b : Bool} (h1 : a = true) (h2 : b = true) : (a && b) = true := by rw [h1, h2]; rfl
theorem pw : Rows.fnExactExprTokensRow.wfByText (OpenSpec.ofChange Rows.fnExactExprTokensSpec) = true := by kernel_rfl
theorem pm : Tryz.prog.mainIs = some (Rows.fnExactExprTokensCard.stood.harness.1, Rows.fnExactExprTokensCard.stood.harness.2.toList) := by kernel_rfl
theorem ph : (!Rows.fnExactExprTokensCard.stood.harness.1 && Rows.fnExactExprTokensCard.stood.harness.2.isEmpty && !Rows.fnExactExprTokensCard.stood.looks) = false := by kernel_rfl
theorem pl : Rows.fnExactExprTokensCard.stood.looks = Tryz.prog.looks [] := by kernel_rfl
theorem pg : false = Rows.fnExactExprTokensRow.goesBy Tryz.prog := by kernel_rfl
theorem pf : Tryz.prog.funcNamed Rows.fnExactExprTokensRow.func = some 7 := by kernel_rfl
theorem ps : (Tryz.f7.params.toList.all fun u => !Tryz.prog.wantsStandIn u) = true := by rw [Tryz.params7]; kernel_rfl
end Go.Proofs.YtkelhmgdajiocaaGreatDoor.fnExactExprTokens
