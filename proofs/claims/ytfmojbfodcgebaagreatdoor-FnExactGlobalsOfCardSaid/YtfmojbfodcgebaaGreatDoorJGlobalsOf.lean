/- The closed facts of the row of FnExactGlobalsOf, one by one. -/
import Derived.Test.YtfmojbfodcgebaaGreatDoorCards
import Derived.Test.YtfmojbfodcgebaaGreatDoorTie
import Derived.SevenTiedAt
import Derived.JoinedOf
import Derived.WalkKit
namespace Go.Proofs.YtfmojbfodcgebaaGreatDoor.fnExactGlobalsOf
set_option linter.unusedVariables false
set_option linter.unusedSimpArgs false
open Go.ChangeShapes Go.WideShapes Go.RowKit

theorem jf0 : (Rows.fnExactGlobalsOfRow.wf (OpenSpec.ofChange Rows.fnExactGlobalsOfSpec)) = true := by kernel_rfl
theorem jf1 : (laidOutB Tryz.prog) = true := by kernel_rfl
theorem jf2 : (mapsRowed Tryz.prog) = true := by kernel_rfl
theorem jf3 : (Tryz.f5.params.all (Tryz.prog.readableRec ·)) = true := by kernel_rfl
theorem jf4 : (namedTie Tryz.prog Rows.fnExactGlobalsOfRow.named Rows.fnExactGlobalsOfSpec.vars) = true := by kernel_rfl
theorem jf5 : (Rows.fnExactGlobalsOfRow.stops == []) = true := by kernel_rfl
theorem jf6 : (Tryz.prog.stops == []) = true := by kernel_rfl
theorem jf7 : (Rows.fnExactGlobalsOfRow.knobs == []) = true := by kernel_rfl
theorem jf8 : (Tryz.prog.stopKnobs == []) = true := by kernel_rfl
theorem jf9 : (Rows.fnExactGlobalsOfRow.inPlace == Tryz.prog.inPlace 5) = true := by kernel_rfl
theorem jf10 : (Rows.fnExactGlobalsOfRow.unfollowed == Tryz.prog.unfollowed 5) = true := by kernel_rfl
theorem jf11 : (Rows.fnExactGlobalsOfRow.recurses == Tryz.prog.recurses 5) = true := by kernel_rfl
theorem jf12 : (Rows.fnExactGlobalsOfRow.named == Tryz.prog.varsNamed 5) = true := by kernel_rfl
theorem jf13 : (Rows.fnExactGlobalsOfRow.maps == (Tryz.f5.params.toList ++ Rows.fnExactGlobalsOfSpec.plain.varTypes Tryz.prog).any (Tryz.prog.mapsRec ·)) = true := by kernel_rfl
theorem jf14 : (Rows.fnExactGlobalsOfRow.ifaces == (Tryz.f5.params.toList ++ Rows.fnExactGlobalsOfSpec.plain.varTypes Tryz.prog).any (Tryz.prog.ifacesRec ·)) = true := by kernel_rfl
theorem jf15 : (Rows.fnExactGlobalsOfRow.mapsOut == Tryz.prog.mapsAmong Tryz.f5.resultTypes.toList) = true := by kernel_rfl
theorem jf16 : (Rows.fnExactGlobalsOfRow.loops == (Tryz.f5.params.toList ++ Rows.fnExactGlobalsOfSpec.plain.varTypes Tryz.prog).any (Tryz.prog.loopsFrom ·)) = true := by kernel_rfl
theorem jf17 : (Rows.fnExactGlobalsOfRow.wideKeys == (Tryz.f5.params.toList ++ Rows.fnExactGlobalsOfSpec.plain.varTypes Tryz.prog ++ Tryz.f5.resultTypes.toList).any (Tryz.prog.wideKeysFrom ·)) = true := by kernel_rfl
theorem jf18 : (Rows.fnExactGlobalsOfSpec.vars.all (Tryz.prog.varReadable ·)) = true := by kernel_rfl
theorem jf19 : (Tryz.f5.resultTypes.all (fun t => Tryz.prog.readableRec t && decide (t < Tryz.prog.types.size))) = true := by kernel_rfl
theorem jf20 : (Rows.fnExactGlobalsOfRow.ifacesOut == Tryz.f5.resultTypes.toList.any (Tryz.prog.ifacesRec ·)) = true := by kernel_rfl
theorem jf21 : (Rows.fnExactGlobalsOfRow.loopsOut == Tryz.f5.resultTypes.toList.any (Tryz.prog.loopsFrom ·)) = true := by kernel_rfl
theorem jf22 : (Rows.fnExactGlobalsOfRow.plainKeys == Tryz.prog.plainKeys) = true := by kernel_rfl
theorem jf23 : (Rows.fnExactGlobalsOfRow.shortTexts.isNone) = true := by kernel_rfl
theorem jf24 : (Tryz.prog.stopsHeard) = true := by kernel_rfl
theorem jf25 : (Tryz.prog.mayEnter) = true := by kernel_rfl
theorem jf26 : (Rows.fnExactGlobalsOfRow.lifted == Tryz.prog.liftsFinal) = true := by kernel_rfl
theorem jf27 : (Tryz.prog.make == some Rows.fnExactGlobalsOfRow.make) = true := by kernel_rfl
theorem jf28 : (Rows.fnExactGlobalsOfRow.kinds == (if Rows.fnExactGlobalsOfRow.domain.isEmpty then [] else Tryz.f5.params.toList.map fun t => match Tryz.prog.underlying t with | some (.int k) => some k | _ => none)) = true := by kernel_rfl
theorem jf29 : (Rows.fnExactGlobalsOfRow.pinned == Rows.fnExactGlobalsOfRow.pinnedBy) = true := by kernel_rfl
theorem jf30 : (Rows.fnExactGlobalsOfRow.veiled == (Tryz.f5.params.toList ++ Rows.fnExactGlobalsOfSpec.plain.varTypes Tryz.prog ++ Tryz.f5.resultTypes.toList).any (Tryz.prog.veiledRec ·)) = true := by kernel_rfl
theorem jf31 : (Rows.fnExactGlobalsOfRow.veiledFits Tryz.prog Tryz.f5.params.toList (Tryz.f5.params.toList ++ Rows.fnExactGlobalsOfSpec.plain.varTypes Tryz.prog ++ Tryz.f5.resultTypes.toList)) = true := by kernel_rfl
theorem and2 {a b : Bool} (h1 : a = true) (h2 : b = true) : (a && b) = true := by rw [h1, h2]; rfl
theorem pw : Rows.fnExactGlobalsOfRow.wfByText (OpenSpec.ofChange Rows.fnExactGlobalsOfSpec) = true := by kernel_rfl
theorem pm : Tryz.prog.mainIs = some (Rows.fnExactGlobalsOfCard.stood.harness.1, Rows.fnExactGlobalsOfCard.stood.harness.2.toList) := by kernel_rfl
theorem ph : (!Rows.fnExactGlobalsOfCard.stood.harness.1 && Rows.fnExactGlobalsOfCard.stood.harness.2.isEmpty && !Rows.fnExactGlobalsOfCard.stood.looks) = false := by kernel_rfl
theorem pl : Rows.fnExactGlobalsOfCard.stood.looks = Tryz.prog.looks [] := by kernel_rfl
theorem pg : false = Rows.fnExactGlobalsOfRow.goesBy Tryz.prog := by kernel_rfl
theorem pf : Tryz.prog.funcNamed Rows.fnExactGlobalsOfRow.func = some 5 := by kernel_rfl
theorem ps : (Tryz.f5.params.toList.all fun u => !Tryz.prog.wantsStandIn u) = true := by rw [Tryz.params5]; kernel_rfl
end Go.Proofs.YtfmojbfodcgebaaGreatDoor.fnExactGlobalsOf
