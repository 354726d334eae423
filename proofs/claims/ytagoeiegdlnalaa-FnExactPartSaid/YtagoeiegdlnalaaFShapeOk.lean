/- Walks and lemmas of this seat (FShapeOk): what each theorem says of the functions that it names. Conditions: those that each theorem states. -/
import Derived.Test.YtagoeiegdlnalaaFStartsOf
import Derived.Test.YtagoeiegdlnalaaFNodeStarts
namespace Go.Proofs.Ytagoeiegdlnalaa
set_option linter.unusedVariables false
set_option linter.unusedSimpArgs false
open Go.RowKit

set_option maxRecDepth 100000 in
set_option maxHeartbeats 1600000 in
theorem implShapeOk_any (l0 : List Node) (v0 : Value) (w : World) (hx0 : ∀ x ∈ l0, x.Ok) (hn0 : bulk Node.sizes l0 ≤ 1048576) (hv0 : NodeSlc w v0 l0) :
    Calls Try.prog 74 #[v0] w fun e w' => e = .returned (.bool (shapeOk (l0.map Node.kids))) ∧ Below w.heap.size w w' := by
  have hcall := implstartsOf_any l0 v0 w hx0 hn0 hv0
  obtain ⟨a, cap, rfl, hm, hc, hsl⟩ := hv0.shape
  go_enter Try.func74, Try.ntmps74
  go_wp2_with fail
  refine hcall.mono ?_; rintro e w2 ⟨hb2, v', rfl, _⟩
  clear hcall
  have hval : Hid (shapeOk (l0.map Node.kids) = (decide (1 ≤ (l0.map Node.kids).length ∧ (l0.map Node.kids).length ≤ 400) && startsLast (l0.map Node.kids))) := hid rfl
  generalize (decide (1 ≤ (l0.map Node.kids).length ∧ (l0.map Node.kids).length ≤ 400) && startsLast (l0.map Node.kids)) = val at hval ⊢
  go_wp2
  go_ret
  exact ⟨ret_bool hval.out.symm, hb2⟩

end Go.Proofs.Ytagoeiegdlnalaa
