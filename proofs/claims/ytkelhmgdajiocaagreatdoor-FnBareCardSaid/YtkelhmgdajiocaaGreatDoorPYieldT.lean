/- Walks and lemmas of this seat (PYieldT): what each theorem says of the functions that it names. Conditions: those that each theorem states. -/
import Derived.Test.YtkelhmgdajiocaaGreatDoorPSpecT
namespace Go.Proofs.YtkelhmgdajiocaaGreatDoor
set_option linter.unusedVariables false
set_option linter.unusedSimpArgs false
open Go.RowKit

/-! The yield of an expression. Plain. -/
def yieldToks (l : List Node) : List Token := if exprOkB l = true then (rootTree l).yield else []
end Go.Proofs.YtkelhmgdajiocaaGreatDoor
