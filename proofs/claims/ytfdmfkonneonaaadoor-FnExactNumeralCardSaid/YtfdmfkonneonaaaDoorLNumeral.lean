/- Walks and lemmas of this seat (LNumeral): what each theorem says of the functions that it names. Conditions: those that each theorem states. -/
import Derived.Test.YtfdmfkonneonaaaDoorFNumeral
namespace Go.Proofs.YtfdmfkonneonaaaDoor
set_option linter.unusedVariables false
set_option linter.unusedSimpArgs false
open Go.RowKit

set_option maxRecDepth 100000 in
set_option maxHeartbeats 1600000 in
theorem lawNumeral {w : World} (s0 : ByteArray) (hs0 : s0.size ≤ maxLen) (hNumEnv : NumEnv w) :
    Calls Tryd.prog 4 #[.string s0] w fun e w' => e = .returned (.bool true) ∧ Below w.heap.size w w' := by
  unfold maxLen at hs0
  obtain ⟨n, b, hne⟩ : ∃ n b, numeralEnd s0 = .returned (.tuple #[.int .i64 n, .bool b]) := ⟨_, _, rfl⟩
  go_enter Tryd.func4, Tryd.ntmps4
  go_wp2_with fail
  · go_ret
    exact ⟨rfl, by repeat (first | exact Below.refl _ _ | refine Below.alloc ?_ (by first | omega | (simp; done) | (simp; omega)) _ | refine Below.drew ?_)⟩
  refine (specNumeral_any s0 _ (by omega)).mono ?_; rintro e w1 ⟨he, hb1⟩; rw [hne] at he; subst he
  have hs1 := hb1.size
  have hB1 := hb1
  go_wp2_with fail
  refine (implNumeral_any s0 _ (by omega) (hNumEnv.below hB1)).mono ?_; rintro e w2 ⟨he, hb2⟩; rw [hne] at he; subst he
  have hs2 := hb2.size
  have hB2 := hB1.trans (hb2.mono hB1.size)
  go_wp2_with fail
  all_goals go_ret
  all_goals exact ⟨rfl, hB2⟩

end Go.Proofs.YtfdmfkonneonaaaDoor
