/- Walks and lemmas of this seat (HInt): what each theorem says of the functions that it names. Conditions: those that each theorem states. -/
import Derived.Test.YtfabfkaolnidiaaDoorRows
import Derived.Test.YtfabfkaolnidiaaDoorLift

namespace Go.Proofs.YtfabfkaolnidiaaDoor
set_option linter.unusedVariables false
set_option linter.unusedSimpArgs false
open Go.RowKit


def eqInt (x y : Int) : Bool := x == y
theorem eqInt_iff (x y : Int) : eqInt x y = true ↔ x = y := by simp [eqInt]


section
open Go.ChangeShapes Go.WideShapes Go.ChangeAt
theorem decInt {H : Type} {enc : TypeId × Value → H} {w : World} {spare : Nat → Bool} (cs : List Value) (n : Nat) (y : DataW H × List MemPlace) (h : DataW.trod enc Tryd.prog w 0 spare true n 3 cs = some y) : ∃ x : Int, cs = int1 x ∧ I64 x := by
  obtain ⟨s, rfl, _, hs⟩ := DataW.trod_int Tryd.underlying3 h
  exact ⟨s, rfl, I64.of_wf hs⟩
end


theorem Tryd.info3 : (Tryd.prog.info? 3).map (fun i => (i.zero, i.size, i.bytes)) = some (some (.int .i64 0), 1, 8) := by kernel_rfl

end Go.Proofs.YtfabfkaolnidiaaDoor
