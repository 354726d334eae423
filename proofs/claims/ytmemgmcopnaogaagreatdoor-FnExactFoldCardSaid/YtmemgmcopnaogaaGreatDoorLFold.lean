/- Walks and lemmas of this seat (LFold): what each theorem says of the functions that it names. Conditions: those that each theorem states. -/
import Derived.Test.YtmemgmcopnaogaaGreatDoorGA
import Derived.Test.YtmemgmcopnaogaaGreatDoorHNodeH
import Derived.Test.YtmemgmcopnaogaaGreatDoorFFold
namespace Go.Proofs.YtmemgmcopnaogaaGreatDoor
set_option linter.unusedVariables false
set_option linter.unusedSimpArgs false
open Go.RowKit

set_option maxRecDepth 100000 in
set_option maxHeartbeats 1600000 in
theorem lawFold {w : World} (l0 : List Node) (v0 : Value) (hx0 : ∀ x ∈ l0, x.Ok) (hv0 : NodeSlc w v0 l0) (hEvalEnv : EvalEnv w) :
    Calls Tryz.prog 4 #[v0] w fun e w' => e = .returned (.bool true) ∧ Below w.heap.size w w' := by
  by_cases hbig0 : 1048576 < bulk Node.sizes l0
  · have hz0 := szList_eq Node.sizes l0 1048576 (by omega)
    rw [if_pos (by omega)] at hz0
    have hlo0 : szList Node.sizes l0 1048576 < 0 := by omega
    clear hz0
    clear hbig0
    go_enter Tryz.func4, Tryz.ntmps4
    go_wp2_with fail
    refine (szNodeS_any l0 v0 1048576 (by omega) (by omega) _ hx0 hv0).mono ?_; rintro e w1 ⟨rfl, hb1⟩
    have hB1 := hb1
    go_wp2_with fail
    go_ret
    exact ⟨rfl, hB1⟩
  have hz0 := szList_eq Node.sizes l0 1048576 (by omega)
  rw [if_neg (by omega)] at hz0
  have hlo0 : 0 ≤ szList Node.sizes l0 1048576 := by omega
  have hhi0 : szList Node.sizes l0 1048576 ≤ 1048576 := by omega
  have hn0 : bulk Node.sizes l0 ≤ 1048576 := by omega
  have hlen0 : l0.length ≤ 1048576 := by have := length_bulk Node.sizes l0; omega
  clear hz0
  clear hbig0
  have hself0 := eqList_self eqNode eqNode_iff l0
  have hselfR := eqList_self eqNode eqNode_iff (foldOf l0)
  go_enter Tryz.func4, Tryz.ntmps4
  go_wp2_with fail
  refine (szNodeS_any l0 v0 1048576 (by omega) (by omega) _ hx0 hv0).mono ?_; rintro e w1 ⟨rfl, hb1⟩
  have hs1 := hb1.size
  have hB1 := hb1
  go_wp2_with fail
  refine (toNodeS_any l0 v0 _ hn0 (hv0.mono hB1 (Nat.le_refl _))).mono ?_; rintro e w2 ⟨yp0, rfl, hb2, hop0⟩
  have hs2 := hb2.size
  have hB2 := hB1.trans (hb2.mono hB1.size)
  go_wp2_with fail
  refine (specFold_any l0 yp0 _ hx0 hn0 hop0.slc (hEvalEnv.below hB2)).mono ?_; rintro e w3 ⟨w0, rfl, hb3, how0⟩
  have hs3 := hb3.size
  have hB3 := hB2.trans (hb3.mono hB2.size)
  have hop0_3 := hop0.below hb3 (Nat.le_refl _)
  go_wp2_with fail
  refine (toNodeS_any l0 v0 _ hn0 (hv0.mono hB3 (Nat.le_refl _))).mono ?_; rintro e w4 ⟨yx0, rfl, hb4, hox0⟩
  have hs4 := hb4.size
  have hB4 := hB3.trans (hb4.mono hB3.size)
  have how0_4 := how0.below hb4 (Nat.le_refl _)
  go_wp2_with fail
  refine (implFold_any l0 yx0 _ hx0 hn0 hox0.slc (hEvalEnv.below hB4)).mono ?_; rintro e w5 ⟨g0, rfl, hb5, hog0⟩
  have hs5 := hb5.size
  have hB5 := hB4.trans (hb5.mono hB4.size)
  have how0_5 := how0_4.below hb5 (Nat.le_refl _)
  have hox0_5 := hox0.below hb5 (Nat.le_refl _)
  go_wp2_with fail
  refine (eqNodeS_any (foldOf l0) (foldOf l0) g0 w0 _ hog0.slc how0_5.slc).mono ?_; rintro e w6 ⟨rfl, hb6⟩
  have hs6 := hb6.size
  have hB6 := hB5.trans (hb6.mono hB5.size)
  have how0_6 := how0_5.below hb6 (Nat.le_refl _)
  have hox0_6 := hox0_5.below hb6 (Nat.le_refl _)
  have hog0_6 := hog0.below hb6 (Nat.le_refl _)
  go_wp2_with fail
  refine (toNodeS_any l0 v0 _ hn0 (hv0.mono hB6 (Nat.le_refl _))).mono ?_; rintro e w7 ⟨yz0, rfl, hb7, hoz0⟩
  have hs7 := hb7.size
  have hB7 := hB6.trans (hb7.mono hB6.size)
  have how0_7 := how0_6.below hb7 (Nat.le_refl _)
  have hox0_7 := hox0_6.below hb7 (Nat.le_refl _)
  have hog0_7 := hog0_6.below hb7 (Nat.le_refl _)
  go_wp2_with fail
  refine (eqNodeS_any l0 l0 yx0 yz0 _ hox0_7.slc hoz0.slc).mono ?_; rintro e w8 ⟨rfl, hb8⟩
  have hs8 := hb8.size
  have hB8 := hB7.trans (hb8.mono hB7.size)
  have how0_8 := how0_7.below hb8 (Nat.le_refl _)
  have hox0_8 := hox0_7.below hb8 (Nat.le_refl _)
  have hog0_8 := hog0_7.below hb8 (Nat.le_refl _)
  have hoz0_8 := hoz0.below hb8 (Nat.le_refl _)
  go_wp2_with fail
  have hnR : bulk Node.sizes (foldOf l0) ≤ 1048576 := foldOf_bulk l0 hn0
  have hlenR : (foldOf l0).length ≤ 1048576 := Nat.le_trans (length_bulk Node.sizes _) hnR
  refine (markNodeS_any l0 yx0 1 _ hn0 (by omega) hox0_8).mono ?_; rintro e w9 ⟨rfl, hg9, hm9⟩
  have hs9 := hg9.size
  have hB9 := Fr.below hB8 hg9 hB3.size
  have how0_9 := how0_8.fr hg9 (by omega)
  have hog0_9 := hog0_8.fr hg9 (by omega)
  go_wp2_with fail
  refine (eqNodeS_any (foldOf l0) (foldOf l0) g0 w0 _ hog0_9.slc how0_9.slc).mono ?_; rintro e w10 ⟨rfl, hb10⟩
  have hs10 := hb10.size
  have hB10 := hB9.trans (hb10.mono hB9.size)
  have how0_10 := how0_9.below hb10 (Nat.le_refl _)
  have hog0_10 := hog0_9.below hb10 (Nat.le_refl _)
  go_wp2_with fail
  refine (markNodeS_any (foldOf l0) g0 1 _ hnR (by omega) hog0_10).mono ?_; rintro e w11 ⟨rfl, hg11, hm11⟩
  have hs11 := hg11.size
  have hB11 := Fr.below hB10 hg11 hB4.size
  have how0_11 := how0_10.fr hg11 (by omega)
  go_wp2_with fail
  refine (heldNodeS_any (foldOf l0) g0 1 _ hnR (by omega) hm11.slc).mono ?_; rintro e w12 ⟨rfl, hb12⟩
  have hs12 := hb12.size
  have hB12 := hB11.trans (hb12.mono hB11.size)
  have how0_12 := how0_11.below hb12 (Nat.le_refl _)
  have hog0_12 := hm11.below hb12 (Nat.le_refl _)
  go_wp2_with fail
  refine (toNodeS_any l0 v0 _ hn0 (hv0.mono hB12 (Nat.le_refl _))).mono ?_; rintro e w13 ⟨yq0, rfl, hb13, hoq0⟩
  have hs13 := hb13.size
  have hB13 := hB12.trans (hb13.mono hB12.size)
  have how0_13 := how0_12.below hb13 (Nat.le_refl _)
  have hog0_13 := hog0_12.below hb13 (Nat.le_refl _)
  go_wp2_with fail
  refine (implFold_any l0 yq0 _ hx0 hn0 hoq0.slc (hEvalEnv.below hB13)).mono ?_; rintro e w14 ⟨h0, rfl, hb14, hoh0⟩
  have hs14 := hb14.size
  have hB14 := hB13.trans (hb14.mono hB13.size)
  have how0_14 := how0_13.below hb14 (Nat.le_refl _)
  have hog0_14 := hog0_13.below hb14 (Nat.le_refl _)
  have hoq0_14 := hoq0.below hb14 (Nat.le_refl _)
  go_wp2_with fail
  refine (eqNodeS_any (foldOf l0) (foldOf l0) h0 w0 _ hoh0.slc how0_14.slc).mono ?_; rintro e w15 ⟨rfl, hb15⟩
  have hs15 := hb15.size
  have hB15 := hB14.trans (hb15.mono hB14.size)
  have how0_15 := how0_14.below hb15 (Nat.le_refl _)
  have hog0_15 := hog0_14.below hb15 (Nat.le_refl _)
  have hoh0_15 := hoh0.below hb15 (Nat.le_refl _)
  go_wp2_with fail
  refine (heldNodeS_any (foldOf l0) g0 1 _ hnR (by omega) hog0_15.slc).mono ?_; rintro e w16 ⟨rfl, hb16⟩
  have hs16 := hb16.size
  have hB16 := hB15.trans (hb16.mono hB15.size)
  have how0_16 := how0_15.below hb16 (Nat.le_refl _)
  have hog0_16 := hog0_15.below hb16 (Nat.le_refl _)
  have hoh0_16 := hoh0_15.below hb16 (Nat.le_refl _)
  go_wp2_with fail
  go_ret
  exact ⟨rfl, hB16⟩

end Go.Proofs.YtmemgmcopnaogaaGreatDoor
