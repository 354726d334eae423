/- Walks and lemmas of this seat (LDiff): what each theorem says of the functions that it names. Conditions: those that each theorem states. -/
import Derived.Test.YtagoeiegdlnalaaHString
import Derived.Test.YtagoeiegdlnalaaFDiff
namespace Go.Proofs.Ytagoeiegdlnalaa
set_option linter.unusedVariables false
set_option linter.unusedSimpArgs false
open Go.RowKit

set_option maxRecDepth 100000 in
set_option maxHeartbeats 1600000 in
theorem lawDiff {w : World} (l0 : List ByteArray) (v0 : Value) (hx0 : ∀ x ∈ l0, x.size ≤ maxLen) (hv0 : Slc w v0 1 l0.length (l0.flatMap str1)) (l1 : List ByteArray) (v1 : Value) (hx1 : ∀ x ∈ l1, x.size ≤ maxLen) (hv1 : Slc w v1 1 l1.length (l1.flatMap str1)) :
    Calls Try.prog 3 #[v0, v1] w fun e w' => e = .returned (.bool true) ∧ Below w.heap.size w w' := by
  by_cases hbig0 : 1048576 < bulk ByteArray.size l0
  · have hz0 := szList_eq ByteArray.size l0 1048576 (by omega)
    rw [if_pos (by omega)] at hz0
    have hlo0 : szList ByteArray.size l0 1048576 < 0 := by omega
    clear hz0
    clear hbig0
    go_enter Try.func3, Try.ntmps3
    go_wp2_with fail
    refine (szStringS_any l0 v0 1048576 (by omega) (by omega) _ hx0 hv0).mono ?_; rintro e w1 ⟨rfl, hb1⟩
    have hB1 := hb1
    go_wp2_with fail
    go_ret
    exact ⟨rfl, hB1⟩
  by_cases hbig1 : 1048576 < bulk ByteArray.size l0 + bulk ByteArray.size l1
  · have hz0 := szList_eq ByteArray.size l0 1048576 (by omega)
    rw [if_neg (by omega)] at hz0
    have hlo0 : 0 ≤ szList ByteArray.size l0 1048576 := by omega
    have hhi0 : szList ByteArray.size l0 1048576 ≤ 1048576 := by omega
    have hz1 := szList_eq ByteArray.size l1 (szList ByteArray.size l0 1048576) (by omega)
    rw [if_pos (by omega)] at hz1
    have hlo1 : szList ByteArray.size l1 (szList ByteArray.size l0 1048576) < 0 := by omega
    clear hz0
    clear hz1
    clear hbig1
    go_enter Try.func3, Try.ntmps3
    go_wp2_with fail
    refine (szStringS_any l0 v0 1048576 (by omega) (by omega) _ hx0 hv0).mono ?_; rintro e w1 ⟨rfl, hb1⟩
    have hB1 := hb1
    go_wp2_with fail
    refine (szStringS_any l1 v1 (szList ByteArray.size l0 1048576) (by omega) (by omega) _ hx1 (hv1.mono hB1 (Nat.le_refl _))).mono ?_; rintro e w2 ⟨rfl, hb2⟩
    have hB2 := hB1.trans (hb2.mono hB1.size)
    go_wp2_with fail
    go_ret
    exact ⟨rfl, hB2⟩
  have hz0 := szList_eq ByteArray.size l0 1048576 (by omega)
  rw [if_neg (by omega)] at hz0
  have hlo0 : 0 ≤ szList ByteArray.size l0 1048576 := by omega
  have hhi0 : szList ByteArray.size l0 1048576 ≤ 1048576 := by omega
  have hz1 := szList_eq ByteArray.size l1 (szList ByteArray.size l0 1048576) (by omega)
  rw [if_neg (by omega)] at hz1
  have hlo1 : 0 ≤ szList ByteArray.size l1 (szList ByteArray.size l0 1048576) := by omega
  have hhi1 : szList ByteArray.size l1 (szList ByteArray.size l0 1048576) ≤ 1048576 := by omega
  have hn0 : bulk ByteArray.size l0 ≤ 1048576 := by omega
  have hn1 : bulk ByteArray.size l1 ≤ 1048576 := by omega
  have hlen0 : l0.length ≤ 1048576 := by have := length_bulk ByteArray.size l0; omega
  have hlen1 : l1.length ≤ 1048576 := by have := length_bulk ByteArray.size l1; omega
  clear hz0
  clear hz1
  clear hbig0
  clear hbig1
  have hself0 := eqList_self eqString eqString_iff l0
  have hself1 := eqList_self eqString eqString_iff l1
  have hselfR := eqList_self eqString eqString_iff (diff l0 l1)
  go_enter Try.func3, Try.ntmps3
  go_wp2_with fail
  refine (szStringS_any l0 v0 1048576 (by omega) (by omega) _ hx0 hv0).mono ?_; rintro e w1 ⟨rfl, hb1⟩
  have hs1 := hb1.size
  have hB1 := hb1
  go_wp2_with fail
  refine (szStringS_any l1 v1 (szList ByteArray.size l0 1048576) (by omega) (by omega) _ hx1 (hv1.mono hB1 (Nat.le_refl _))).mono ?_; rintro e w2 ⟨rfl, hb2⟩
  have hs2 := hb2.size
  have hB2 := hB1.trans (hb2.mono hB1.size)
  go_wp2_with fail
  refine (toStringS_any l0 v0 _ hlen0 (hv0.mono hB2 (Nat.le_refl _))).mono ?_; rintro e w3 ⟨yp0, rfl, hb3, hop0⟩
  have hs3 := hb3.size
  have hB3 := hB2.trans (hb3.mono hB2.size)
  go_wp2_with fail
  refine (toStringS_any l1 v1 _ hlen1 (hv1.mono hB3 (Nat.le_refl _))).mono ?_; rintro e w4 ⟨yp1, rfl, hb4, hop1⟩
  have hs4 := hb4.size
  have hB4 := hB3.trans (hb4.mono hB3.size)
  have hop0_4 := own_below hop0 hb4 (Nat.le_refl _)
  go_wp2_with fail
  refine (specDiff_any l0 yp0 l1 yp1 _ hx0 hn0 (Slc.of_own hop0_4) hx1 hn1 (Slc.of_own hop1)).mono ?_; rintro e w5 ⟨w0, rfl, hb5, how0⟩
  have hs5 := hb5.size
  have hB5 := hB4.trans (hb5.mono hB4.size)
  have hop0_5 := own_below hop0_4 hb5 (Nat.le_refl _)
  have hop1_5 := own_below hop1 hb5 (Nat.le_refl _)
  go_wp2_with fail
  refine (toStringS_any l0 v0 _ hlen0 (hv0.mono hB5 (Nat.le_refl _))).mono ?_; rintro e w6 ⟨yx0, rfl, hb6, hox0⟩
  have hs6 := hb6.size
  have hB6 := hB5.trans (hb6.mono hB5.size)
  have how0_6 := own_below how0 hb6 (Nat.le_refl _)
  go_wp2_with fail
  refine (toStringS_any l1 v1 _ hlen1 (hv1.mono hB6 (Nat.le_refl _))).mono ?_; rintro e w7 ⟨yx1, rfl, hb7, hox1⟩
  have hs7 := hb7.size
  have hB7 := hB6.trans (hb7.mono hB6.size)
  have how0_7 := own_below how0_6 hb7 (Nat.le_refl _)
  have hox0_7 := own_below hox0 hb7 (Nat.le_refl _)
  go_wp2_with fail
  refine (implDiff_any l0 yx0 l1 yx1 _ hx0 hn0 (Slc.of_own hox0_7) hx1 hn1 (Slc.of_own hox1)).mono ?_; rintro e w8 ⟨g0, rfl, hb8, hog0⟩
  have hs8 := hb8.size
  have hB8 := hB7.trans (hb8.mono hB7.size)
  have how0_8 := own_below how0_7 hb8 (Nat.le_refl _)
  have hox0_8 := own_below hox0_7 hb8 (Nat.le_refl _)
  have hox1_8 := own_below hox1 hb8 (Nat.le_refl _)
  go_wp2_with fail
  refine (eqStringS_any (diff l0 l1) (diff l0 l1) g0 w0 _ (Slc.of_own hog0) (Slc.of_own how0_8)).mono ?_; rintro e w9 ⟨rfl, hb9⟩
  have hs9 := hb9.size
  have hB9 := hB8.trans (hb9.mono hB8.size)
  have how0_9 := own_below how0_8 hb9 (Nat.le_refl _)
  have hox0_9 := own_below hox0_8 hb9 (Nat.le_refl _)
  have hox1_9 := own_below hox1_8 hb9 (Nat.le_refl _)
  have hog0_9 := own_below hog0 hb9 (Nat.le_refl _)
  go_wp2_with fail
  refine (toStringS_any l0 v0 _ hlen0 (hv0.mono hB9 (Nat.le_refl _))).mono ?_; rintro e w10 ⟨yz0, rfl, hb10, hoz0⟩
  have hs10 := hb10.size
  have hB10 := hB9.trans (hb10.mono hB9.size)
  have how0_10 := own_below how0_9 hb10 (Nat.le_refl _)
  have hox0_10 := own_below hox0_9 hb10 (Nat.le_refl _)
  have hox1_10 := own_below hox1_9 hb10 (Nat.le_refl _)
  have hog0_10 := own_below hog0_9 hb10 (Nat.le_refl _)
  go_wp2_with fail
  refine (eqStringS_any l0 l0 yx0 yz0 _ (Slc.of_own hox0_10) (Slc.of_own hoz0)).mono ?_; rintro e w11 ⟨rfl, hb11⟩
  have hs11 := hb11.size
  have hB11 := hB10.trans (hb11.mono hB10.size)
  have how0_11 := own_below how0_10 hb11 (Nat.le_refl _)
  have hox0_11 := own_below hox0_10 hb11 (Nat.le_refl _)
  have hox1_11 := own_below hox1_10 hb11 (Nat.le_refl _)
  have hog0_11 := own_below hog0_10 hb11 (Nat.le_refl _)
  have hoz0_11 := own_below hoz0 hb11 (Nat.le_refl _)
  go_wp2_with fail
  refine (toStringS_any l1 v1 _ hlen1 (hv1.mono hB11 (Nat.le_refl _))).mono ?_; rintro e w12 ⟨yz1, rfl, hb12, hoz1⟩
  have hs12 := hb12.size
  have hB12 := hB11.trans (hb12.mono hB11.size)
  have how0_12 := own_below how0_11 hb12 (Nat.le_refl _)
  have hox0_12 := own_below hox0_11 hb12 (Nat.le_refl _)
  have hox1_12 := own_below hox1_11 hb12 (Nat.le_refl _)
  have hog0_12 := own_below hog0_11 hb12 (Nat.le_refl _)
  go_wp2_with fail
  refine (eqStringS_any l1 l1 yx1 yz1 _ (Slc.of_own hox1_12) (Slc.of_own hoz1)).mono ?_; rintro e w13 ⟨rfl, hb13⟩
  have hs13 := hb13.size
  have hB13 := hB12.trans (hb13.mono hB12.size)
  have how0_13 := own_below how0_12 hb13 (Nat.le_refl _)
  have hox0_13 := own_below hox0_12 hb13 (Nat.le_refl _)
  have hox1_13 := own_below hox1_12 hb13 (Nat.le_refl _)
  have hog0_13 := own_below hog0_12 hb13 (Nat.le_refl _)
  have hoz1_13 := own_below hoz1 hb13 (Nat.le_refl _)
  go_wp2_with fail
  have hlenR : (diff l0 l1).length ≤ 1048576 := Nat.le_trans (diff_len l0 l1) (by omega)
  refine (markStringS_any l0 yx0 1 _ (by omega) (by omega) hox0_13).mono ?_; rintro e w14 ⟨rfl, hg14, hm14⟩
  have hs14 := hg14.size
  have hB14 := below_mark hB13 hg14 hox0_13 hB5.size
  have how0_14 := own_grown how0_13 hg14 (own_apart2 how0 hox0 (by omega))
  have hox1_14 := own_grown hox1_13 hg14 (own_apart hox0 hox1 (by omega))
  have hog0_14 := own_grown hog0_13 hg14 (own_apart hox0 hog0 (by omega))
  go_wp2_with fail
  refine (markStringS_any l1 yx1 (1 + l0.length) _ (by omega) (by omega) hox1_14).mono ?_; rintro e w15 ⟨rfl, hg15, hm15⟩
  have hs15 := hg15.size
  have hB15 := below_mark hB14 hg15 hox1_14 hB6.size
  have how0_15 := own_grown how0_14 hg15 (own_apart2 how0 hox1 (by omega))
  have hog0_15 := own_grown hog0_14 hg15 (own_apart hox1 hog0 (by omega))
  go_wp2_with fail
  refine (eqStringS_any (diff l0 l1) (diff l0 l1) g0 w0 _ (Slc.of_own hog0_15) (Slc.of_own how0_15)).mono ?_; rintro e w16 ⟨rfl, hb16⟩
  have hs16 := hb16.size
  have hB16 := hB15.trans (hb16.mono hB15.size)
  have how0_16 := own_below how0_15 hb16 (Nat.le_refl _)
  have hog0_16 := own_below hog0_15 hb16 (Nat.le_refl _)
  go_wp2_with fail
  refine (markStringS_any (diff l0 l1) g0 1 _ (by omega) (by omega) hog0_16).mono ?_; rintro e w17 ⟨rfl, hg17, hm17⟩
  have hs17 := hg17.size
  have hB17 := below_mark hB16 hg17 hog0_16 hB7.size
  have how0_17 := own_grown how0_16 hg17 (own_apart2 how0 hog0 (by omega))
  go_wp2_with fail
  refine (heldStringS_any (diff l0 l1).length g0 1 _ (by omega) (by omega) (Slc.of_own hm17)).mono ?_; rintro e w18 ⟨rfl, hb18⟩
  have hs18 := hb18.size
  have hB18 := hB17.trans (hb18.mono hB17.size)
  have how0_18 := own_below how0_17 hb18 (Nat.le_refl _)
  have hog0_18 := own_below hm17 hb18 (Nat.le_refl _)
  go_wp2_with fail
  refine (toStringS_any l0 v0 _ hlen0 (hv0.mono hB18 (Nat.le_refl _))).mono ?_; rintro e w19 ⟨yq0, rfl, hb19, hoq0⟩
  have hs19 := hb19.size
  have hB19 := hB18.trans (hb19.mono hB18.size)
  have how0_19 := own_below how0_18 hb19 (Nat.le_refl _)
  have hog0_19 := own_below hog0_18 hb19 (Nat.le_refl _)
  go_wp2_with fail
  refine (toStringS_any l1 v1 _ hlen1 (hv1.mono hB19 (Nat.le_refl _))).mono ?_; rintro e w20 ⟨yq1, rfl, hb20, hoq1⟩
  have hs20 := hb20.size
  have hB20 := hB19.trans (hb20.mono hB19.size)
  have how0_20 := own_below how0_19 hb20 (Nat.le_refl _)
  have hog0_20 := own_below hog0_19 hb20 (Nat.le_refl _)
  have hoq0_20 := own_below hoq0 hb20 (Nat.le_refl _)
  go_wp2_with fail
  refine (implDiff_any l0 yq0 l1 yq1 _ hx0 hn0 (Slc.of_own hoq0_20) hx1 hn1 (Slc.of_own hoq1)).mono ?_; rintro e w21 ⟨h0, rfl, hb21, hoh0⟩
  have hs21 := hb21.size
  have hB21 := hB20.trans (hb21.mono hB20.size)
  have how0_21 := own_below how0_20 hb21 (Nat.le_refl _)
  have hog0_21 := own_below hog0_20 hb21 (Nat.le_refl _)
  have hoq0_21 := own_below hoq0_20 hb21 (Nat.le_refl _)
  have hoq1_21 := own_below hoq1 hb21 (Nat.le_refl _)
  go_wp2_with fail
  refine (eqStringS_any (diff l0 l1) (diff l0 l1) h0 w0 _ (Slc.of_own hoh0) (Slc.of_own how0_21)).mono ?_; rintro e w22 ⟨rfl, hb22⟩
  have hs22 := hb22.size
  have hB22 := hB21.trans (hb22.mono hB21.size)
  have how0_22 := own_below how0_21 hb22 (Nat.le_refl _)
  have hog0_22 := own_below hog0_21 hb22 (Nat.le_refl _)
  have hoh0_22 := own_below hoh0 hb22 (Nat.le_refl _)
  go_wp2_with fail
  refine (heldStringS_any (diff l0 l1).length g0 1 _ (by omega) (by omega) (Slc.of_own hog0_22)).mono ?_; rintro e w23 ⟨rfl, hb23⟩
  have hs23 := hb23.size
  have hB23 := hB22.trans (hb23.mono hB22.size)
  have how0_23 := own_below how0_22 hb23 (Nat.le_refl _)
  have hog0_23 := own_below hog0_22 hb23 (Nat.le_refl _)
  have hoh0_23 := own_below hoh0_22 hb23 (Nat.le_refl _)
  go_wp2_with fail
  go_ret
  exact ⟨rfl, hB23⟩

end Go.Proofs.Ytagoeiegdlnalaa
