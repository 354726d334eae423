/- Walks and lemmas of this seat (LLinesOf): what each theorem says of the functions that it names. Conditions: those that each theorem states. -/
import Derived.Test.YtdnjjgidlpmgjaaDoorHString
import Derived.Test.YtdnjjgidlpmgjaaDoorFLongest
namespace Go.Proofs.YtdnjjgidlpmgjaaDoor
set_option linter.unusedVariables false
set_option linter.unusedSimpArgs false
open Go.RowKit

set_option maxRecDepth 100000 in
set_option maxHeartbeats 1600000 in
theorem lawLinesOf {w : World} (s0 : ByteArray) (hs0 : s0.size ≤ maxLen) (hHasMaxLen : HasMaxLen w) :
    Calls Tryd.prog 4 #[.string s0] w fun e w' => e = .returned (.bool true) ∧ Below w.heap.size w w' := by
  unfold maxLen at hs0
  have hselfR := eqList_self eqString eqString_iff (linesOf s0)
  go_enter Tryd.func4, Tryd.ntmps4
  go_wp2_with fail
  · go_ret
    exact ⟨rfl, by repeat (first | exact Below.refl _ _ | refine Below.alloc ?_ (by first | omega | (simp; done) | (simp; omega)) _ | refine Below.drew ?_)⟩
  refine (specLinesOf_any s0 _ (by omega)).mono ?_; rintro e w1 ⟨w0, rfl, hb1, how0⟩
  have hs1 := hb1.size
  have hB1 := hb1
  go_wp2_with fail
  refine (implLinesOf_any s0 _ (by omega) (hHasMaxLen.below hB1)).mono ?_; rintro e w2 ⟨g0, rfl, hb2, hog0⟩
  have hs2 := hb2.size
  have hB2 := hB1.trans (hb2.mono hB1.size)
  have how0_2 := own_below how0 hb2 (Nat.le_refl _)
  go_wp2_with fail
  refine (eqStringS_any (linesOf s0) (linesOf s0) g0 w0 _ (Slc.of_own hog0) (Slc.of_own how0_2)).mono ?_; rintro e w3 ⟨rfl, hb3⟩
  have hs3 := hb3.size
  have hB3 := hB2.trans (hb3.mono hB2.size)
  have how0_3 := own_below how0_2 hb3 (Nat.le_refl _)
  have hog0_3 := own_below hog0 hb3 (Nat.le_refl _)
  go_wp2_with fail
  have hlenR : (linesOf s0).length ≤ 1048576 := by have := linesOf_len s0; omega
  refine (markStringS_any (linesOf s0) g0 1 _ (by omega) (by omega) hog0_3).mono ?_; rintro e w4 ⟨rfl, hg4, hm4⟩
  have hs4 := hg4.size
  have hB4 := below_mark hB3 hg4 hog0_3 hB1.size
  have how0_4 := own_grown how0_3 hg4 (own_apart2 how0 hog0 (by omega))
  go_wp2_with fail
  refine (heldStringS_any (linesOf s0).length g0 1 _ (by omega) (by omega) (Slc.of_own hm4)).mono ?_; rintro e w5 ⟨rfl, hb5⟩
  have hs5 := hb5.size
  have hB5 := hB4.trans (hb5.mono hB4.size)
  have how0_5 := own_below how0_4 hb5 (Nat.le_refl _)
  have hog0_5 := own_below hm4 hb5 (Nat.le_refl _)
  go_wp2_with fail
  refine (implLinesOf_any s0 _ (by omega) (hHasMaxLen.below hB5)).mono ?_; rintro e w6 ⟨h0, rfl, hb6, hoh0⟩
  have hs6 := hb6.size
  have hB6 := hB5.trans (hb6.mono hB5.size)
  have how0_6 := own_below how0_5 hb6 (Nat.le_refl _)
  have hog0_6 := own_below hog0_5 hb6 (Nat.le_refl _)
  go_wp2_with fail
  refine (eqStringS_any (linesOf s0) (linesOf s0) h0 w0 _ (Slc.of_own hoh0) (Slc.of_own how0_6)).mono ?_; rintro e w7 ⟨rfl, hb7⟩
  have hs7 := hb7.size
  have hB7 := hB6.trans (hb7.mono hB6.size)
  have how0_7 := own_below how0_6 hb7 (Nat.le_refl _)
  have hog0_7 := own_below hog0_6 hb7 (Nat.le_refl _)
  have hoh0_7 := own_below hoh0 hb7 (Nat.le_refl _)
  go_wp2_with fail
  refine (heldStringS_any (linesOf s0).length g0 1 _ (by omega) (by omega) (Slc.of_own hog0_7)).mono ?_; rintro e w8 ⟨rfl, hb8⟩
  have hs8 := hb8.size
  have hB8 := hB7.trans (hb8.mono hB7.size)
  have how0_8 := own_below how0_7 hb8 (Nat.le_refl _)
  have hog0_8 := own_below hog0_7 hb8 (Nat.le_refl _)
  have hoh0_8 := own_below hoh0_7 hb8 (Nat.le_refl _)
  go_wp2_with fail
  go_ret
  exact ⟨rfl, hB8⟩

end Go.Proofs.YtdnjjgidlpmgjaaDoor
