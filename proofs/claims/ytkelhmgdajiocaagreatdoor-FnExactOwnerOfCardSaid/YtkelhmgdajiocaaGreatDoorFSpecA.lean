/- Walks and lemmas of this seat (FSpecA): what each theorem says of the functions that it names. Conditions: those that each theorem states. -/
import Derived.Test.YtkelhmgdajiocaaGreatDoorFTokApp
import Derived.Test.YtkelhmgdajiocaaGreatDoorGSP
import Derived.Deep.RegionHeld3
import Derived.Deep.RegionLaw
namespace Go.Proofs.YtkelhmgdajiocaaGreatDoor
set_option linter.unusedVariables false
set_option linter.unusedSimpArgs false
open Go.RowKit

/-! The reference's writer of tokens: its small parts. -/
end Go.Proofs.YtkelhmgdajiocaaGreatDoor
