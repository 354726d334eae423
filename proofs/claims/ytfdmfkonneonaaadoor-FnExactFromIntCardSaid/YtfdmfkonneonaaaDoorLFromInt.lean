/- Walks and lemmas of this seat (LFromInt): what each theorem says of the functions that it names. Conditions: those that each theorem states. -/
import Derived.Test.YtfdmfkonneonaaaDoorHNode
import Derived.Test.YtfdmfkonneonaaaDoorHNodeM
import Derived.Test.YtfdmfkonneonaaaDoorHNodeH
import Derived.Test.YtfdmfkonneonaaaDoorFFromInt
namespace Go.Proofs.YtfdmfkonneonaaaDoor
set_option linter.unusedVariables false
set_option linter.unusedSimpArgs false
open Go.RowKit

set_option maxRecDepth 100000 in
set_option maxHeartbeats 1600000 in
theorem lawFromInt {w : World} (a0 : Int) (ha0 : I64 a0) (hPowEnv : PowEnv w) :
    Calls Tryd.prog 3 #[.int .i64 a0] w fun e w' => e = .returned (.bool true) ∧ Below w.heap.size w w' := by
  have hselfR := eqList_self eqNode eqNode_iff (fromNodes a0)
  go_enter Tryd.func3, Tryd.ntmps3
  go_wp2_with fail
  refine (specFromInt_any a0 _ ha0).mono ?_; rintro e w1 ⟨w0, rfl, hb1, how0⟩
  have hs1 := hb1.size
  have hB1 := hb1
  go_wp2_with fail
  refine (implFromInt_any a0 _ ha0 (hPowEnv.below hB1)).mono ?_; rintro e w2 ⟨g0, rfl, hb2, hog0⟩
  have hs2 := hb2.size
  have hB2 := hB1.trans (hb2.mono hB1.size)
  have how0_2 := how0.below hb2 (Nat.le_refl _)
  go_wp2_with fail
  refine (eqNodeS_any (fromNodes a0) (fromNodes a0) g0 w0 _ hog0.slc how0_2.slc).mono ?_; rintro e w3 ⟨rfl, hb3⟩
  have hs3 := hb3.size
  have hB3 := hB2.trans (hb3.mono hB2.size)
  have how0_3 := how0_2.below hb3 (Nat.le_refl _)
  have hog0_3 := hog0.below hb3 (Nat.le_refl _)
  go_wp2_with fail
  have hnR : bulk Node.sizes (fromNodes a0) ≤ 1048576 := (fromNodes_bulk a0)
  have hlenR : (fromNodes a0).length ≤ 1048576 := Nat.le_trans (length_bulk Node.sizes _) hnR
  refine (markNodeS_any (fromNodes a0) g0 1 _ hnR (by omega) hog0_3).mono ?_; rintro e w4 ⟨rfl, hg4, hm4⟩
  have hs4 := hg4.size
  have hB4 := Fr.below hB3 hg4 hB1.size
  have how0_4 := how0_3.fr hg4 (by omega)
  go_wp2_with fail
  refine (heldNodeS_any (fromNodes a0) g0 1 _ hnR (by omega) hm4.slc).mono ?_; rintro e w5 ⟨rfl, hb5⟩
  have hs5 := hb5.size
  have hB5 := hB4.trans (hb5.mono hB4.size)
  have how0_5 := how0_4.below hb5 (Nat.le_refl _)
  have hog0_5 := hm4.below hb5 (Nat.le_refl _)
  go_wp2_with fail
  refine (implFromInt_any a0 _ ha0 (hPowEnv.below hB5)).mono ?_; rintro e w6 ⟨h0, rfl, hb6, hoh0⟩
  have hs6 := hb6.size
  have hB6 := hB5.trans (hb6.mono hB5.size)
  have how0_6 := how0_5.below hb6 (Nat.le_refl _)
  have hog0_6 := hog0_5.below hb6 (Nat.le_refl _)
  go_wp2_with fail
  refine (eqNodeS_any (fromNodes a0) (fromNodes a0) h0 w0 _ hoh0.slc how0_6.slc).mono ?_; rintro e w7 ⟨rfl, hb7⟩
  have hs7 := hb7.size
  have hB7 := hB6.trans (hb7.mono hB6.size)
  have how0_7 := how0_6.below hb7 (Nat.le_refl _)
  have hog0_7 := hog0_6.below hb7 (Nat.le_refl _)
  have hoh0_7 := hoh0.below hb7 (Nat.le_refl _)
  go_wp2_with fail
  refine (heldNodeS_any (fromNodes a0) g0 1 _ hnR (by omega) hog0_7.slc).mono ?_; rintro e w8 ⟨rfl, hb8⟩
  have hs8 := hb8.size
  have hB8 := hB7.trans (hb8.mono hB7.size)
  have how0_8 := how0_7.below hb8 (Nat.le_refl _)
  have hog0_8 := hog0_7.below hb8 (Nat.le_refl _)
  have hoh0_8 := hoh0_7.below hb8 (Nat.le_refl _)
  go_wp2_with fail
  go_ret
  exact ⟨rfl, hB8⟩

end Go.Proofs.YtfdmfkonneonaaaDoor
