/- Walks and lemmas of this seat (FStartsOf): what each theorem says of the functions that it names. Conditions: those that each theorem states. -/
import Derived.Test.YtfdmfkonneonaaaDoorFSR
import Derived.Test.YtfdmfkonneonaaaDoorDataNode
import Derived.Outline
import Derived.RegionIn
import Derived.BigRegionIn
import Derived.Deep.Slices
import Derived.Deep.OwnRows
namespace Go.Proofs.YtfdmfkonneonaaaDoor
set_option linter.unusedVariables false
set_option linter.unusedSimpArgs false
open Go.RowKit Go.Shelf

attribute [local go_sem] Oper.semAt_some


end Go.Proofs.YtfdmfkonneonaaaDoor
