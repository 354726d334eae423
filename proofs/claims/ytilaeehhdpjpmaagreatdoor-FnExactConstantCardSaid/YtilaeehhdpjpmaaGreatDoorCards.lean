/-
  DERIVED. GIVEN WITH THE SEED: THE CARDS: each row of YtilaeehhdpjpmaaGreatDoorRows.lean that lists a variable, with what it lists TIED to the program's text (the seventh form; the later family's looks); each row that meets fmt, with fmt's text TOLD by the authors' own Lean function (tested against real Go, not proved from fmt's source: count such statements apart). THE CARD IS WHAT COUNTS. Prove the row's statement (the work); the ties are given (YtilaeehhdpjpmaaGreatDoorTie.lean); close each card by the builder's one call (the guide's Derived/Test/ToyasCard.lean, 'card_holds'). Laid BY PROGRAM, IN A SANDBOX (cutbox-door.mjs). By AI agents, Wed Nov 11 2026. No macro, syntax, notation, axiom, sorry.
-/
import Derived.Test.YtilaeehhdpjpmaaGreatDoorRows
import GoSem.ClaimSeven
namespace Go.Proofs.YtilaeehhdpjpmaaGreatDoor
namespace Rows

/-- THE TIED CARD OF 'laws.FnExactAssignedIn'. -/
def fnExactAssignedInCard : Claim7 := { stood := { row := fnExactAssignedInRow, standIns := [], harness := (true, "86e99b7ade51bd952af1ab07fa78e1b6e78581db692b81bfd5a642c6726e8576"), looks := true }, kinds := [], alts := [], laidByText := true, laidKinds := [.widerDeep, .data, .widerDeep], laidTests := true, laidLooks := .later }
def FnExactAssignedInCardSaid : Prop := Claim7.holds Tryz.pinned (.plain (OpenSpec.ofChange fnExactAssignedInSpec)) fnExactAssignedInCard

/-- THE TIED CARD OF 'laws.FnExactParamsOf'. -/
def fnExactParamsOfCard : Claim7 := { stood := { row := fnExactParamsOfRow, standIns := [], harness := (true, "86e99b7ade51bd952af1ab07fa78e1b6e78581db692b81bfd5a642c6726e8576"), looks := true }, kinds := [], alts := [], laidByText := true, laidKinds := [.widerDeep, .data, .widerDeep], laidTests := true, laidLooks := .later }
def FnExactParamsOfCardSaid : Prop := Claim7.holds Tryz.pinned (.plain (OpenSpec.ofChange fnExactParamsOfSpec)) fnExactParamsOfCard

/-- THE TIED CARD OF 'laws.FnExactNoComments'. -/
def fnExactNoCommentsCard : Claim7 := { stood := { row := fnExactNoCommentsRow, standIns := [], harness := (true, "86e99b7ade51bd952af1ab07fa78e1b6e78581db692b81bfd5a642c6726e8576"), looks := true }, kinds := [], alts := [], laidByText := true, laidKinds := [.widerDeep, .data, .widerDeep], laidTests := true, laidLooks := .later }
def FnExactNoCommentsCardSaid : Prop := Claim7.holds Tryz.pinned (.plain (OpenSpec.ofChange fnExactNoCommentsSpec)) fnExactNoCommentsCard

/-- THE TIED CARD OF 'laws.FnExactMeasure'. -/
def fnExactMeasureCard : Claim7 := { stood := { row := fnExactMeasureRow, standIns := [], harness := (true, "86e99b7ade51bd952af1ab07fa78e1b6e78581db692b81bfd5a642c6726e8576"), looks := true }, kinds := [], alts := [], laidByText := true, laidKinds := [.data, .data, .data, .widerDeep, .data, .widerDeep], laidTests := true, laidLooks := .later }
def FnExactMeasureCardSaid : Prop := Claim7.holds Tryz.pinned (.plain (OpenSpec.ofChange fnExactMeasureSpec)) fnExactMeasureCard

/-- THE TIED CARD OF 'laws.FnExactOwnerOf'. -/
def fnExactOwnerOfCard : Claim7 := { stood := { row := fnExactOwnerOfRow, standIns := [], harness := (true, "86e99b7ade51bd952af1ab07fa78e1b6e78581db692b81bfd5a642c6726e8576"), looks := true }, kinds := [], alts := [], laidByText := true, laidKinds := [.widerDeep, .data, .widerDeep], laidTests := true, laidLooks := .later }
def FnExactOwnerOfCardSaid : Prop := Claim7.holds Tryz.pinned (.plain (OpenSpec.ofChange fnExactOwnerOfSpec)) fnExactOwnerOfCard

/-- THE TIED CARD OF 'laws.FnExactRepeated'. -/
def fnExactRepeatedCard : Claim7 := { stood := { row := fnExactRepeatedRow, standIns := [], harness := (true, "86e99b7ade51bd952af1ab07fa78e1b6e78581db692b81bfd5a642c6726e8576"), looks := true }, kinds := [], alts := [], laidByText := true, laidKinds := [.widerDeep, .data, .widerDeep], laidTests := true, laidLooks := .later }
def FnExactRepeatedCardSaid : Prop := Claim7.holds Tryz.pinned (.plain (OpenSpec.ofChange fnExactRepeatedSpec)) fnExactRepeatedCard

/-- THE TIED CARD OF 'laws.FnExactConstant'. -/
def fnExactConstantCard : Claim7 := { stood := { row := fnExactConstantRow, standIns := [], harness := (true, "86e99b7ade51bd952af1ab07fa78e1b6e78581db692b81bfd5a642c6726e8576"), looks := true }, kinds := [], alts := [], laidByText := true, laidKinds := [.data, .data, .data, .sentinel, .sentinel, .widerDeep, .data, .widerDeep], laidTests := true, laidLooks := .later }
def FnExactConstantCardSaid : Prop := Claim7.holds Tryz.pinned (.plain (OpenSpec.ofChange fnExactConstantSpec)) fnExactConstantCard

/-- THE TIED CARD OF 'laws.FnExactGlobalsOf'. -/
def fnExactGlobalsOfCard : Claim7 := { stood := { row := fnExactGlobalsOfRow, standIns := [], harness := (true, "86e99b7ade51bd952af1ab07fa78e1b6e78581db692b81bfd5a642c6726e8576"), looks := true }, kinds := [], alts := [], laidByText := true, laidKinds := [.widerDeep, .data, .widerDeep], laidTests := true, laidLooks := .later }
def FnExactGlobalsOfCardSaid : Prop := Claim7.holds Tryz.pinned (.plain (OpenSpec.ofChange fnExactGlobalsOfSpec)) fnExactGlobalsOfCard

/-- THE TIED CARD OF 'laws.FnExactUnused'. -/
def fnExactUnusedCard : Claim7 := { stood := { row := fnExactUnusedRow, standIns := [], harness := (true, "86e99b7ade51bd952af1ab07fa78e1b6e78581db692b81bfd5a642c6726e8576"), looks := true }, kinds := [], alts := [], laidByText := true, laidKinds := [.widerDeep, .data, .widerDeep], laidTests := true, laidLooks := .later }
def FnExactUnusedCardSaid : Prop := Claim7.holds Tryz.pinned (.plain (OpenSpec.ofChange fnExactUnusedSpec)) fnExactUnusedCard

/-- THE TIED CARD OF 'laws.FnExactRename'. -/
def fnExactRenameCard : Claim7 := { stood := { row := fnExactRenameRow, standIns := [], harness := (true, "86e99b7ade51bd952af1ab07fa78e1b6e78581db692b81bfd5a642c6726e8576"), looks := true }, kinds := [], alts := [], laidByText := true, laidKinds := [.widerDeep, .data, .widerDeep], laidTests := true, laidLooks := .later }
def FnExactRenameCardSaid : Prop := Claim7.holds Tryz.pinned (.plain (OpenSpec.ofChange fnExactRenameSpec)) fnExactRenameCard

/-- THE TIED CARD OF 'laws.FnExactYield'. -/
def fnExactYieldCard : Claim7 := { stood := { row := fnExactYieldRow, standIns := [], harness := (true, "86e99b7ade51bd952af1ab07fa78e1b6e78581db692b81bfd5a642c6726e8576"), looks := true }, kinds := [], alts := [], laidByText := true, laidKinds := [.widerDeep, .data, .widerDeep], laidTests := true, laidLooks := .later }
def FnExactYieldCardSaid : Prop := Claim7.holds Tryz.pinned (.plain (OpenSpec.ofChange fnExactYieldSpec)) fnExactYieldCard

/-- THE TIED CARD OF 'laws.FnExactExprTokens'. -/
def fnExactExprTokensCard : Claim7 := { stood := { row := fnExactExprTokensRow, standIns := [], harness := (true, "86e99b7ade51bd952af1ab07fa78e1b6e78581db692b81bfd5a642c6726e8576"), looks := true }, kinds := [], alts := [], laidByText := true, laidKinds := [.widerDeep, .data, .widerDeep], laidTests := true, laidLooks := .later }
def FnExactExprTokensCardSaid : Prop := Claim7.holds Tryz.pinned (.plain (OpenSpec.ofChange fnExactExprTokensSpec)) fnExactExprTokensCard

/-- THE SECOND FORM's CARD OF 'laws.FnExactAssignedIn'. -/
def fnExactAssignedInUptoCard : Claim7 := { stood := { row := fnExactAssignedInUptoRow, standIns := [], harness := (true, "86e99b7ade51bd952af1ab07fa78e1b6e78581db692b81bfd5a642c6726e8576"), looks := true }, kinds := [], alts := [], laidByText := true, laidKinds := [.widerDeep, .data, .widerDeep], laidTests := true, laidLooks := .later }
def FnExactAssignedInUptoCardSaid : Prop := Claim7.holds Tryz.pinned (.plain (OpenSpec.upto fnExactAssignedInSpec)) fnExactAssignedInUptoCard

/-- THE SECOND FORM's CARD OF 'laws.FnExactParamsOf'. -/
def fnExactParamsOfUptoCard : Claim7 := { stood := { row := fnExactParamsOfUptoRow, standIns := [], harness := (true, "86e99b7ade51bd952af1ab07fa78e1b6e78581db692b81bfd5a642c6726e8576"), looks := true }, kinds := [], alts := [], laidByText := true, laidKinds := [.widerDeep, .data, .widerDeep], laidTests := true, laidLooks := .later }
def FnExactParamsOfUptoCardSaid : Prop := Claim7.holds Tryz.pinned (.plain (OpenSpec.upto fnExactParamsOfSpec)) fnExactParamsOfUptoCard

/-- THE SECOND FORM's CARD OF 'laws.FnExactNoComments'. -/
def fnExactNoCommentsUptoCard : Claim7 := { stood := { row := fnExactNoCommentsUptoRow, standIns := [], harness := (true, "86e99b7ade51bd952af1ab07fa78e1b6e78581db692b81bfd5a642c6726e8576"), looks := true }, kinds := [], alts := [], laidByText := true, laidKinds := [.widerDeep, .data, .widerDeep], laidTests := true, laidLooks := .later }
def FnExactNoCommentsUptoCardSaid : Prop := Claim7.holds Tryz.pinned (.plain (OpenSpec.upto fnExactNoCommentsSpec)) fnExactNoCommentsUptoCard

/-- THE SECOND FORM's CARD OF 'laws.FnExactMeasure'. -/
def fnExactMeasureUptoCard : Claim7 := { stood := { row := fnExactMeasureUptoRow, standIns := [], harness := (true, "86e99b7ade51bd952af1ab07fa78e1b6e78581db692b81bfd5a642c6726e8576"), looks := true }, kinds := [], alts := [], laidByText := true, laidKinds := [.data, .data, .data, .widerDeep, .data, .widerDeep], laidTests := true, laidLooks := .later }
def FnExactMeasureUptoCardSaid : Prop := Claim7.holds Tryz.pinned (.plain (OpenSpec.upto fnExactMeasureSpec)) fnExactMeasureUptoCard

/-- THE SECOND FORM's CARD OF 'laws.FnExactOwnerOf'. -/
def fnExactOwnerOfUptoCard : Claim7 := { stood := { row := fnExactOwnerOfUptoRow, standIns := [], harness := (true, "86e99b7ade51bd952af1ab07fa78e1b6e78581db692b81bfd5a642c6726e8576"), looks := true }, kinds := [], alts := [], laidByText := true, laidKinds := [.widerDeep, .data, .widerDeep], laidTests := true, laidLooks := .later }
def FnExactOwnerOfUptoCardSaid : Prop := Claim7.holds Tryz.pinned (.plain (OpenSpec.upto fnExactOwnerOfSpec)) fnExactOwnerOfUptoCard

/-- THE SECOND FORM's CARD OF 'laws.FnExactRepeated'. -/
def fnExactRepeatedUptoCard : Claim7 := { stood := { row := fnExactRepeatedUptoRow, standIns := [], harness := (true, "86e99b7ade51bd952af1ab07fa78e1b6e78581db692b81bfd5a642c6726e8576"), looks := true }, kinds := [], alts := [], laidByText := true, laidKinds := [.widerDeep, .data, .widerDeep], laidTests := true, laidLooks := .later }
def FnExactRepeatedUptoCardSaid : Prop := Claim7.holds Tryz.pinned (.plain (OpenSpec.upto fnExactRepeatedSpec)) fnExactRepeatedUptoCard

/-- THE SECOND FORM's CARD OF 'laws.FnExactConstant'. -/
def fnExactConstantUptoCard : Claim7 := { stood := { row := fnExactConstantUptoRow, standIns := [], harness := (true, "86e99b7ade51bd952af1ab07fa78e1b6e78581db692b81bfd5a642c6726e8576"), looks := true }, kinds := [], alts := [], laidByText := true, laidKinds := [.data, .data, .data, .sentinel, .sentinel, .widerDeep, .data, .widerDeep], laidTests := true, laidLooks := .later }
def FnExactConstantUptoCardSaid : Prop := Claim7.holds Tryz.pinned (.plain (OpenSpec.upto fnExactConstantSpec)) fnExactConstantUptoCard

/-- THE SECOND FORM's CARD OF 'laws.FnExactGlobalsOf'. -/
def fnExactGlobalsOfUptoCard : Claim7 := { stood := { row := fnExactGlobalsOfUptoRow, standIns := [], harness := (true, "86e99b7ade51bd952af1ab07fa78e1b6e78581db692b81bfd5a642c6726e8576"), looks := true }, kinds := [], alts := [], laidByText := true, laidKinds := [.widerDeep, .data, .widerDeep], laidTests := true, laidLooks := .later }
def FnExactGlobalsOfUptoCardSaid : Prop := Claim7.holds Tryz.pinned (.plain (OpenSpec.upto fnExactGlobalsOfSpec)) fnExactGlobalsOfUptoCard

/-- THE SECOND FORM's CARD OF 'laws.FnExactUnused'. -/
def fnExactUnusedUptoCard : Claim7 := { stood := { row := fnExactUnusedUptoRow, standIns := [], harness := (true, "86e99b7ade51bd952af1ab07fa78e1b6e78581db692b81bfd5a642c6726e8576"), looks := true }, kinds := [], alts := [], laidByText := true, laidKinds := [.widerDeep, .data, .widerDeep], laidTests := true, laidLooks := .later }
def FnExactUnusedUptoCardSaid : Prop := Claim7.holds Tryz.pinned (.plain (OpenSpec.upto fnExactUnusedSpec)) fnExactUnusedUptoCard

/-- THE SECOND FORM's CARD OF 'laws.FnExactRename'. -/
def fnExactRenameUptoCard : Claim7 := { stood := { row := fnExactRenameUptoRow, standIns := [], harness := (true, "86e99b7ade51bd952af1ab07fa78e1b6e78581db692b81bfd5a642c6726e8576"), looks := true }, kinds := [], alts := [], laidByText := true, laidKinds := [.widerDeep, .data, .widerDeep], laidTests := true, laidLooks := .later }
def FnExactRenameUptoCardSaid : Prop := Claim7.holds Tryz.pinned (.plain (OpenSpec.upto fnExactRenameSpec)) fnExactRenameUptoCard

/-- THE SECOND FORM's CARD OF 'laws.FnExactYield'. -/
def fnExactYieldUptoCard : Claim7 := { stood := { row := fnExactYieldUptoRow, standIns := [], harness := (true, "86e99b7ade51bd952af1ab07fa78e1b6e78581db692b81bfd5a642c6726e8576"), looks := true }, kinds := [], alts := [], laidByText := true, laidKinds := [.widerDeep, .data, .widerDeep], laidTests := true, laidLooks := .later }
def FnExactYieldUptoCardSaid : Prop := Claim7.holds Tryz.pinned (.plain (OpenSpec.upto fnExactYieldSpec)) fnExactYieldUptoCard

/-- THE SECOND FORM's CARD OF 'laws.FnExactExprTokens'. -/
def fnExactExprTokensUptoCard : Claim7 := { stood := { row := fnExactExprTokensUptoRow, standIns := [], harness := (true, "86e99b7ade51bd952af1ab07fa78e1b6e78581db692b81bfd5a642c6726e8576"), looks := true }, kinds := [], alts := [], laidByText := true, laidKinds := [.widerDeep, .data, .widerDeep], laidTests := true, laidLooks := .later }
def FnExactExprTokensUptoCardSaid : Prop := Claim7.holds Tryz.pinned (.plain (OpenSpec.upto fnExactExprTokensSpec)) fnExactExprTokensUptoCard
end Rows
end Go.Proofs.YtilaeehhdpjpmaaGreatDoor
