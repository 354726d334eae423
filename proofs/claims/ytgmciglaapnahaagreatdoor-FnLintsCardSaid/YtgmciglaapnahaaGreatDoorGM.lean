/- Walks and lemmas of this seat (FDepth3): what each theorem says of the functions that it names. Conditions: those that each theorem states. -/
import Derived.Test.YtgmciglaapnahaaGreatDoorGD
import Derived.Test.YtgmciglaapnahaaGreatDoorGV
import Derived.Test.YtgmciglaapnahaaGreatDoorGE
import Derived.Test.YtgmciglaapnahaaGreatDoorGH
import Derived.Test.YtgmciglaapnahaaGreatDoorGN
namespace Go.Proofs.YtgmciglaapnahaaGreatDoor
set_option linter.unusedVariables false
set_option linter.unusedSimpArgs false
open Go.RowKit

end Go.Proofs.YtgmciglaapnahaaGreatDoor
/- Walks and lemmas of this seat (FBlockDepth2): what each theorem says of the functions that it names. Conditions: those that each theorem states. -/
namespace Go.Proofs.YtgmciglaapnahaaGreatDoor
set_option linter.unusedVariables false
set_option linter.unusedSimpArgs false
open Go.RowKit

end Go.Proofs.YtgmciglaapnahaaGreatDoor
/- Walks and lemmas of this seat (FMeasure): what each theorem says of the functions that it names. Conditions: those that each theorem states. -/
namespace Go.Proofs.YtgmciglaapnahaaGreatDoor
set_option linter.unusedVariables false
set_option linter.unusedSimpArgs false
open Go.RowKit Go.Lib

def decN (n : Nat) : ByteArray := ⟨(itoa (n : Int)).toArray⟩
theorem dec_size (n : Nat) (h : n ≤ 1048576) : (decN n).size ≤ 9 := by
  show (itoa (n : Int)).length ≤ 9
  rw [itoa_nonneg, decDigits_length]
  exact nD_of_lt (by omega) (by omega)

/-- What the program's side of Measure reads: its words and the table of powers. -/
def MeasEnv (w : World) : Prop := WordEnv w ∧ PowEnv w
theorem MeasEnv.below {w w' : World} (h : MeasEnv w) (hb : Below w.heap.size w w') : MeasEnv w' := ⟨h.1.below hb, h.2.below hb⟩

end Go.Proofs.YtgmciglaapnahaaGreatDoor
