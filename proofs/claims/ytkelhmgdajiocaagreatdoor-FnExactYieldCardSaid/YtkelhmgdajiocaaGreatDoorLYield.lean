/- Walks and lemmas of this seat (LYield): what each theorem says of the functions that it names. Conditions: those that each theorem states. -/
import Derived.Test.YtkelhmgdajiocaaGreatDoorGA
import Derived.Test.YtkelhmgdajiocaaGreatDoorGHM
import Derived.Test.YtkelhmgdajiocaaGreatDoorGYD
namespace Go.Proofs.YtkelhmgdajiocaaGreatDoor
set_option linter.unusedVariables false
set_option linter.unusedSimpArgs false
open Go.RowKit

set_option maxRecDepth 100000 in
set_option maxHeartbeats 1600000 in
theorem lawYield {w : World} (l0 : List Node) (v0 : Value) (hx0 : ∀ x ∈ l0, x.Ok) (hv0 : NodeSlc w v0 l0) (hWordEnv : WordEnv w) :
    Calls Tryz.prog 3 #[v0] w fun e w' => e = .returned (.bool true) ∧ Below w.heap.size w w' := by
  by_cases hbig0 : 1048576 < bulk Node.sizes l0
  · have hz0 := szList_eq Node.sizes l0 1048576 (by omega)
    rw [if_pos (by omega)] at hz0
    have hlo0 : szList Node.sizes l0 1048576 < 0 := by omega
    clear hz0
    clear hbig0
    go_enter Tryz.func3, Tryz.ntmps3
    go_wp2_with fail
    refine (szNodeS_any l0 v0 1048576 (by omega) (by omega) _ hx0 hv0).mono ?_; rintro e w1 ⟨rfl, hb1⟩
    have hB1 := hb1
    go_wp2_with fail
    go_ret
    exact ⟨rfl, hB1⟩
  have hz0 := szList_eq Node.sizes l0 1048576 (by omega)
  rw [if_neg (by omega)] at hz0
  have hlo0 : 0 ≤ szList Node.sizes l0 1048576 := by omega
  have hhi0 : szList Node.sizes l0 1048576 ≤ 1048576 := by omega
  have hn0 : bulk Node.sizes l0 ≤ 1048576 := by omega
  have hlen0 : l0.length ≤ 1048576 := by have := length_bulk Node.sizes l0; omega
  clear hz0
  clear hbig0
  have hself0 := eqList_self eqNode eqNode_iff l0
  have hselfR := eqList_self eqToken eqToken_iff (yieldToks l0)
  go_enter Tryz.func3, Tryz.ntmps3
  go_wp2_with fail
  refine (szNodeS_any l0 v0 1048576 (by omega) (by omega) _ hx0 hv0).mono ?_; rintro e w1 ⟨rfl, hb1⟩
  have hs1 := hb1.size
  have hB1 := hb1
  go_wp2_with fail
  refine (toNodeS_any l0 v0 _ hn0 (hv0.mono hB1 (Nat.le_refl _))).mono ?_; rintro e w2 ⟨yp0, rfl, hb2, hop0⟩
  have hs2 := hb2.size
  have hB2 := hB1.trans (hb2.mono hB1.size)
  go_wp2_with fail
  refine (specYield_any l0 yp0 _ hx0 hn0 hop0.slc).mono ?_; rintro e w3 ⟨w0, rfl, hb3, how0⟩
  have hs3 := hb3.size
  have hB3 := hB2.trans (hb3.mono hB2.size)
  have hop0_3 := hop0.below hb3 (Nat.le_refl _)
  go_wp2_with fail
  refine (toNodeS_any l0 v0 _ hn0 (hv0.mono hB3 (Nat.le_refl _))).mono ?_; rintro e w4 ⟨yx0, rfl, hb4, hox0⟩
  have hs4 := hb4.size
  have hB4 := hB3.trans (hb4.mono hB3.size)
  have how0_4 := own_below how0 hb4 (Nat.le_refl _)
  go_wp2_with fail
  refine (implYield_any l0 yx0 _ hx0 hn0 hox0.slc (hWordEnv.below hB4)).mono ?_; rintro e w5 ⟨g0, rfl, hb5, hog0⟩
  have hs5 := hb5.size
  have hB5 := hB4.trans (hb5.mono hB4.size)
  have how0_5 := own_below how0_4 hb5 (Nat.le_refl _)
  have hox0_5 := hox0.below hb5 (Nat.le_refl _)
  go_wp2_with fail
  refine (eqTokenS_any (yieldToks l0) (yieldToks l0) g0 w0 _ (Slc.of_own hog0) (Slc.of_own how0_5)).mono ?_; rintro e w6 ⟨rfl, hb6⟩
  have hs6 := hb6.size
  have hB6 := hB5.trans (hb6.mono hB5.size)
  have how0_6 := own_below how0_5 hb6 (Nat.le_refl _)
  have hox0_6 := hox0_5.below hb6 (Nat.le_refl _)
  have hog0_6 := own_below hog0 hb6 (Nat.le_refl _)
  go_wp2_with fail
  refine (toNodeS_any l0 v0 _ hn0 (hv0.mono hB6 (Nat.le_refl _))).mono ?_; rintro e w7 ⟨yz0, rfl, hb7, hoz0⟩
  have hs7 := hb7.size
  have hB7 := hB6.trans (hb7.mono hB6.size)
  have how0_7 := own_below how0_6 hb7 (Nat.le_refl _)
  have hox0_7 := hox0_6.below hb7 (Nat.le_refl _)
  have hog0_7 := own_below hog0_6 hb7 (Nat.le_refl _)
  go_wp2_with fail
  refine (eqNodeS_any l0 l0 yx0 yz0 _ hox0_7.slc hoz0.slc).mono ?_; rintro e w8 ⟨rfl, hb8⟩
  have hs8 := hb8.size
  have hB8 := hB7.trans (hb8.mono hB7.size)
  have how0_8 := own_below how0_7 hb8 (Nat.le_refl _)
  have hox0_8 := hox0_7.below hb8 (Nat.le_refl _)
  have hog0_8 := own_below hog0_7 hb8 (Nat.le_refl _)
  have hoz0_8 := hoz0.below hb8 (Nat.le_refl _)
  go_wp2_with fail
  have hlenR : (yieldToks l0).length ≤ 1048576 := (by have := yieldToks_len l0; omega)
  refine (markNodeS_any l0 yx0 1 _ hn0 (by omega) hox0_8).mono ?_; rintro e w9 ⟨rfl, hg9, hm9⟩
  have hs9 := hg9.size
  have hB9 := Fr.below hB8 hg9 hB3.size
  have how0_9 := own_fr_old how0 how0_8 hg9 (by omega)
  have hog0_9 := own_fr_new hog0_8 hg9 (by omega)
  go_wp2_with fail
  refine (eqTokenS_any (yieldToks l0) (yieldToks l0) g0 w0 _ (Slc.of_own hog0_9) (Slc.of_own how0_9)).mono ?_; rintro e w10 ⟨rfl, hb10⟩
  have hs10 := hb10.size
  have hB10 := hB9.trans (hb10.mono hB9.size)
  have how0_10 := own_below how0_9 hb10 (Nat.le_refl _)
  have hog0_10 := own_below hog0_9 hb10 (Nat.le_refl _)
  go_wp2_with fail
  refine (markTokenS_any (yieldToks l0) g0 1 _ (by omega) (by omega) hog0_10).mono ?_; rintro e w11 ⟨rfl, hg11, hm11⟩
  have hs11 := hg11.size
  have hB11 := below_mark hB10 hg11 hog0_10 hB4.size
  have how0_11 := own_grown how0_10 hg11 (own_apart2 how0 hog0 (by omega))
  go_wp2_with fail
  refine (heldTokenS_any (yieldToks l0).length g0 1 _ (by omega) (by omega) (Slc.of_own hm11)).mono ?_; rintro e w12 ⟨rfl, hb12⟩
  have hs12 := hb12.size
  have hB12 := hB11.trans (hb12.mono hB11.size)
  have how0_12 := own_below how0_11 hb12 (Nat.le_refl _)
  have hog0_12 := own_below hm11 hb12 (Nat.le_refl _)
  go_wp2_with fail
  refine (toNodeS_any l0 v0 _ hn0 (hv0.mono hB12 (Nat.le_refl _))).mono ?_; rintro e w13 ⟨yq0, rfl, hb13, hoq0⟩
  have hs13 := hb13.size
  have hB13 := hB12.trans (hb13.mono hB12.size)
  have how0_13 := own_below how0_12 hb13 (Nat.le_refl _)
  have hog0_13 := own_below hog0_12 hb13 (Nat.le_refl _)
  go_wp2_with fail
  refine (implYield_any l0 yq0 _ hx0 hn0 hoq0.slc (hWordEnv.below hB13)).mono ?_; rintro e w14 ⟨h0, rfl, hb14, hoh0⟩
  have hs14 := hb14.size
  have hB14 := hB13.trans (hb14.mono hB13.size)
  have how0_14 := own_below how0_13 hb14 (Nat.le_refl _)
  have hog0_14 := own_below hog0_13 hb14 (Nat.le_refl _)
  have hoq0_14 := hoq0.below hb14 (Nat.le_refl _)
  go_wp2_with fail
  refine (eqTokenS_any (yieldToks l0) (yieldToks l0) h0 w0 _ (Slc.of_own hoh0) (Slc.of_own how0_14)).mono ?_; rintro e w15 ⟨rfl, hb15⟩
  have hs15 := hb15.size
  have hB15 := hB14.trans (hb15.mono hB14.size)
  have how0_15 := own_below how0_14 hb15 (Nat.le_refl _)
  have hog0_15 := own_below hog0_14 hb15 (Nat.le_refl _)
  have hoh0_15 := own_below hoh0 hb15 (Nat.le_refl _)
  go_wp2_with fail
  refine (heldTokenS_any (yieldToks l0).length g0 1 _ (by omega) (by omega) (Slc.of_own hog0_15)).mono ?_; rintro e w16 ⟨rfl, hb16⟩
  have hs16 := hb16.size
  have hB16 := hB15.trans (hb16.mono hB15.size)
  have how0_16 := own_below how0_15 hb16 (Nat.le_refl _)
  have hog0_16 := own_below hog0_15 hb16 (Nat.le_refl _)
  have hoh0_16 := own_below hoh0_15 hb16 (Nat.le_refl _)
  go_wp2_with fail
  go_ret
  exact ⟨rfl, hB16⟩

end Go.Proofs.YtkelhmgdajiocaaGreatDoor
