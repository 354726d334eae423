/- Walks and lemmas of this seat (LLongest): what each theorem says of the functions that it names. Conditions: those that each theorem states. -/
import Derived.Test.YtdnjjgidlpmgjaaDoorFLongest
namespace Go.Proofs.YtdnjjgidlpmgjaaDoor
set_option linter.unusedVariables false
set_option linter.unusedSimpArgs false
open Go.RowKit

set_option maxRecDepth 100000 in
set_option maxHeartbeats 1600000 in
theorem lawLongest {w : World} (s0 : ByteArray) (hs0 : s0.size ≤ maxLen) (hHasMaxLen : HasMaxLen w) :
    Calls Tryd.prog 3 #[.string s0] w fun e w' => e = .returned (.bool true) ∧ Below w.heap.size w w' := by
  unfold maxLen at hs0
  go_enter Tryd.func3, Tryd.ntmps3
  go_wp2_with fail
  · go_ret
    exact ⟨rfl, by repeat (first | exact Below.refl _ _ | refine Below.alloc ?_ (by first | omega | (simp; done) | (simp; omega)) _ | refine Below.drew ?_)⟩
  refine (specLongest_any s0 _ (by omega)).mono ?_; rintro e w1 ⟨rfl, hb1⟩
  have hs1 := hb1.size
  have hB1 := hb1
  go_wp2_with fail
  refine (implLongest_any s0 _ (by omega) (hHasMaxLen.below hB1)).mono ?_; rintro e w2 ⟨rfl, hb2⟩
  have hs2 := hb2.size
  have hB2 := hB1.trans (hb2.mono hB1.size)
  go_wp2_with fail
  go_ret
  exact ⟨rfl, hB2⟩

end Go.Proofs.YtdnjjgidlpmgjaaDoor
