/-
  DERIVED. GIVEN WITH THE SEED: THE CARDS: each row of YtkelhmgdajiocaaGreatDoorRows.lean that lists a variable, with what it lists TIED to the program's text (the seventh form; the later family's looks); each row that meets fmt, with fmt's text TOLD by the authors' own Lean function (tested against real Go, not proved from fmt's source: count such statements apart). THE CARD IS WHAT COUNTS. Prove the row's statement (the work); the ties are given (YtkelhmgdajiocaaGreatDoorTie.lean); close each card by the builder's one call (the guide's Derived/Test/ToyasCard.lean, 'card_holds'). Laid BY PROGRAM, IN A SANDBOX (cutbox-door.mjs). By AI agents, Wed Nov 11 2026. No macro, syntax, notation, axiom, sorry.
-/
import Derived.Test.YtkelhmgdajiocaaGreatDoorRows
import GoSem.ClaimSeven
namespace Go.Proofs.YtkelhmgdajiocaaGreatDoor
namespace Rows

/-- THE TIED CARD OF 'laws.FnExactYield'. -/
def fnExactYieldCard : Claim7 := { stood := { row := fnExactYieldRow, standIns := [], harness := (true, "c9ffac42bf92fc55048e5584e9a1762024db2f50b13801a44c9d0994a85469e5"), looks := false }, kinds := [], alts := [], laidByText := true, laidKinds := [.widerDeep, .data, .widerDeep], laidTests := true, laidLooks := .later }
def FnExactYieldCardSaid : Prop := Claim7.holds Tryz.pinned (.plain (OpenSpec.ofChange fnExactYieldSpec)) fnExactYieldCard

/-- THE TIED CARD OF 'laws.FnExactOwnerOf'. -/
def fnExactOwnerOfCard : Claim7 := { stood := { row := fnExactOwnerOfRow, standIns := [], harness := (true, "c9ffac42bf92fc55048e5584e9a1762024db2f50b13801a44c9d0994a85469e5"), looks := false }, kinds := [], alts := [], laidByText := true, laidKinds := [.widerDeep, .data, .widerDeep], laidTests := true, laidLooks := .later }
def FnExactOwnerOfCardSaid : Prop := Claim7.holds Tryz.pinned (.plain (OpenSpec.ofChange fnExactOwnerOfSpec)) fnExactOwnerOfCard

/-- THE TIED CARD OF 'laws.FnBare'. -/
def fnBareCard : Claim7 := { stood := { row := fnBareRow, standIns := [], harness := (true, "c9ffac42bf92fc55048e5584e9a1762024db2f50b13801a44c9d0994a85469e5"), looks := false }, kinds := [], alts := [], laidByText := true, laidKinds := [.widerDeep, .data, .widerDeep], laidTests := true, laidLooks := .later }
def FnBareCardSaid : Prop := Claim7.holds Tryz.pinned (.plain (OpenSpec.ofChange fnBareSpec)) fnBareCard

/-- THE TIED CARD OF 'laws.FnExactFullTokens'. -/
def fnExactFullTokensCard : Claim7 := { stood := { row := fnExactFullTokensRow, standIns := [], harness := (true, "c9ffac42bf92fc55048e5584e9a1762024db2f50b13801a44c9d0994a85469e5"), looks := false }, kinds := [], alts := [], laidByText := true, laidKinds := [.widerDeep, .data, .widerDeep], laidTests := true, laidLooks := .later }
def FnExactFullTokensCardSaid : Prop := Claim7.holds Tryz.pinned (.plain (OpenSpec.ofChange fnExactFullTokensSpec)) fnExactFullTokensCard

/-- THE TIED CARD OF 'laws.FnExactExprTokens'. -/
def fnExactExprTokensCard : Claim7 := { stood := { row := fnExactExprTokensRow, standIns := [], harness := (true, "c9ffac42bf92fc55048e5584e9a1762024db2f50b13801a44c9d0994a85469e5"), looks := false }, kinds := [], alts := [], laidByText := true, laidKinds := [.widerDeep, .data, .widerDeep], laidTests := true, laidLooks := .later }
def FnExactExprTokensCardSaid : Prop := Claim7.holds Tryz.pinned (.plain (OpenSpec.ofChange fnExactExprTokensSpec)) fnExactExprTokensCard

/-- THE SECOND FORM's CARD OF 'laws.FnExactYield'. -/
def fnExactYieldUptoCard : Claim7 := { stood := { row := fnExactYieldUptoRow, standIns := [], harness := (true, "c9ffac42bf92fc55048e5584e9a1762024db2f50b13801a44c9d0994a85469e5"), looks := false }, kinds := [], alts := [], laidByText := true, laidKinds := [.widerDeep, .data, .widerDeep], laidTests := true, laidLooks := .later }
def FnExactYieldUptoCardSaid : Prop := Claim7.holds Tryz.pinned (.plain (OpenSpec.upto fnExactYieldSpec)) fnExactYieldUptoCard

/-- THE SECOND FORM's CARD OF 'laws.FnExactOwnerOf'. -/
def fnExactOwnerOfUptoCard : Claim7 := { stood := { row := fnExactOwnerOfUptoRow, standIns := [], harness := (true, "c9ffac42bf92fc55048e5584e9a1762024db2f50b13801a44c9d0994a85469e5"), looks := false }, kinds := [], alts := [], laidByText := true, laidKinds := [.widerDeep, .data, .widerDeep], laidTests := true, laidLooks := .later }
def FnExactOwnerOfUptoCardSaid : Prop := Claim7.holds Tryz.pinned (.plain (OpenSpec.upto fnExactOwnerOfSpec)) fnExactOwnerOfUptoCard

/-- THE SECOND FORM's CARD OF 'laws.FnBare'. -/
def fnBareUptoCard : Claim7 := { stood := { row := fnBareUptoRow, standIns := [], harness := (true, "c9ffac42bf92fc55048e5584e9a1762024db2f50b13801a44c9d0994a85469e5"), looks := false }, kinds := [], alts := [], laidByText := true, laidKinds := [.widerDeep, .data, .widerDeep], laidTests := true, laidLooks := .later }
def FnBareUptoCardSaid : Prop := Claim7.holds Tryz.pinned (.plain (OpenSpec.upto fnBareSpec)) fnBareUptoCard

/-- THE SECOND FORM's CARD OF 'laws.FnExactFullTokens'. -/
def fnExactFullTokensUptoCard : Claim7 := { stood := { row := fnExactFullTokensUptoRow, standIns := [], harness := (true, "c9ffac42bf92fc55048e5584e9a1762024db2f50b13801a44c9d0994a85469e5"), looks := false }, kinds := [], alts := [], laidByText := true, laidKinds := [.widerDeep, .data, .widerDeep], laidTests := true, laidLooks := .later }
def FnExactFullTokensUptoCardSaid : Prop := Claim7.holds Tryz.pinned (.plain (OpenSpec.upto fnExactFullTokensSpec)) fnExactFullTokensUptoCard

/-- THE SECOND FORM's CARD OF 'laws.FnExactExprTokens'. -/
def fnExactExprTokensUptoCard : Claim7 := { stood := { row := fnExactExprTokensUptoRow, standIns := [], harness := (true, "c9ffac42bf92fc55048e5584e9a1762024db2f50b13801a44c9d0994a85469e5"), looks := false }, kinds := [], alts := [], laidByText := true, laidKinds := [.widerDeep, .data, .widerDeep], laidTests := true, laidLooks := .later }
def FnExactExprTokensUptoCardSaid : Prop := Claim7.holds Tryz.pinned (.plain (OpenSpec.upto fnExactExprTokensSpec)) fnExactExprTokensUptoCard
end Rows
end Go.Proofs.YtkelhmgdajiocaaGreatDoor
