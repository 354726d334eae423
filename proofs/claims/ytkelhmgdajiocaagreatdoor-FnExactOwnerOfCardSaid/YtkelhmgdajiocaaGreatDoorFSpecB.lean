/- Walks and lemmas of this seat (FSpecB): what each theorem says of the functions that it names. Conditions: those that each theorem states. -/
import Derived.Test.YtkelhmgdajiocaaGreatDoorFSpecA
import Derived.Test.YtkelhmgdajiocaaGreatDoorFKidPosS
import Derived.Test.YtkelhmgdajiocaaGreatDoorFKidPosI
import Derived.Deep.RegionHeldLaw
namespace Go.Proofs.YtkelhmgdajiocaaGreatDoor
set_option linter.unusedVariables false
set_option linter.unusedSimpArgs false
open Go.RowKit

end Go.Proofs.YtkelhmgdajiocaaGreatDoor
