/- Walks and lemmas of this seat (FSpecX): what each theorem says of the functions that it names. Conditions: those that each theorem states. -/
import Derived.Test.YtkelhmgdajiocaaGreatDoorFSpecN
import Derived.Test.YtkelhmgdajiocaaGreatDoorGSF
import Derived.Test.YtkelhmgdajiocaaGreatDoorGB
import Derived.BigQuiet
import Derived.Test.YtkelhmgdajiocaaGreatDoorPSpecT
import Derived.Test.YtkelhmgdajiocaaGreatDoorGSV
namespace Go.Proofs.YtkelhmgdajiocaaGreatDoor
set_option linter.unusedVariables false
set_option linter.unusedSimpArgs false
open Go.RowKit Go.Lib

end Go.Proofs.YtkelhmgdajiocaaGreatDoor
/- Walks and lemmas of this seat (FSpecZ): what each theorem says of the functions that it names. Conditions: those that each theorem states. -/
namespace Go.Proofs.YtkelhmgdajiocaaGreatDoor
set_option linter.unusedVariables false
set_option linter.unusedSimpArgs false
open Go.RowKit

/-! The reference's writer, every kind of node. -/
end Go.Proofs.YtkelhmgdajiocaaGreatDoor
/- Walks and lemmas of this seat (FSpecE): what each theorem says of the functions that it names. Conditions: those that each theorem states. -/
namespace Go.Proofs.YtkelhmgdajiocaaGreatDoor
set_option linter.unusedVariables false
set_option linter.unusedSimpArgs false
open Go.RowKit Go.Lib

/-! The reference's ExprTokens and FullTokens. -/
theorem tok_none {w wr : World} (hb : Below w.heap.size w wr) : TokAt w (wr.alloc (.cells #[] 50)) (.slice (some ⟨wr.heap.size, 0, none⟩) 0 0) [] := TokAt.lit hb [] (by simp) #[] rfl
end Go.Proofs.YtkelhmgdajiocaaGreatDoor
