/- Walks and lemmas of this seat (FShapeOk): what each theorem says of the functions that it names. Conditions: those that each theorem states. -/
import Derived.Test.YtfdmfkonneonaaaDoorFStartsOf
import Derived.Test.YtfdmfkonneonaaaDoorFNodeStarts
namespace Go.Proofs.YtfdmfkonneonaaaDoor
set_option linter.unusedVariables false
set_option linter.unusedSimpArgs false
open Go.RowKit

end Go.Proofs.YtfdmfkonneonaaaDoor
