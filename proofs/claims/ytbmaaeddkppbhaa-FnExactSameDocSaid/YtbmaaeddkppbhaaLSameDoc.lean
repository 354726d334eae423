/- Walks and lemmas of this seat (LSameDoc): what each theorem says of the functions that it names. Conditions: those that each theorem states. -/
import Derived.Test.YtbmaaeddkppbhaaHDNode
import Derived.Test.YtbmaaeddkppbhaaFSameDoc
import Derived.Test.YtbmaaeddkppbhaaFSameDoc2
namespace Go.Proofs.Ytbmaaeddkppbhaa
set_option linter.unusedVariables false
set_option linter.unusedSimpArgs false
open Go.RowKit

set_option maxRecDepth 100000 in
set_option maxHeartbeats 1600000 in
theorem lawSameDoc {w : World} (l0 : List DNode) (v0 : Value) (hx0 : ∀ x ∈ l0, x.Ok) (hv0 : DNodeSlc w v0 l0) (l1 : List DNode) (v1 : Value) (hx1 : ∀ x ∈ l1, x.Ok) (hv1 : DNodeSlc w v1 l1) :
    Calls Try.prog 14 #[v0, v1] w fun e w' => e = .returned (.bool true) ∧ Below w.heap.size w w' := by
  by_cases hbig0 : 1048576 < bulk DNode.sizes l0
  · have hz0 := szList_eq DNode.sizes l0 1048576 (by omega)
    rw [if_pos (by omega)] at hz0
    have hlo0 : szList DNode.sizes l0 1048576 < 0 := by omega
    clear hz0
    clear hbig0
    go_enter Try.func14, Try.ntmps14
    go_wp2_with fail
    refine (szDNodeS_any l0 v0 1048576 (by omega) (by omega) _ hx0 hv0).mono ?_; rintro e w1 ⟨rfl, hb1⟩
    have hB1 := hb1
    go_wp2_with fail
    go_ret
    exact ⟨rfl, hB1⟩
  by_cases hbig1 : 1048576 < bulk DNode.sizes l0 + bulk DNode.sizes l1
  · have hz0 := szList_eq DNode.sizes l0 1048576 (by omega)
    rw [if_neg (by omega)] at hz0
    have hlo0 : 0 ≤ szList DNode.sizes l0 1048576 := by omega
    have hhi0 : szList DNode.sizes l0 1048576 ≤ 1048576 := by omega
    have hz1 := szList_eq DNode.sizes l1 (szList DNode.sizes l0 1048576) (by omega)
    rw [if_pos (by omega)] at hz1
    have hlo1 : szList DNode.sizes l1 (szList DNode.sizes l0 1048576) < 0 := by omega
    clear hz0
    clear hz1
    clear hbig1
    go_enter Try.func14, Try.ntmps14
    go_wp2_with fail
    refine (szDNodeS_any l0 v0 1048576 (by omega) (by omega) _ hx0 hv0).mono ?_; rintro e w1 ⟨rfl, hb1⟩
    have hB1 := hb1
    go_wp2_with fail
    refine (szDNodeS_any l1 v1 (szList DNode.sizes l0 1048576) (by omega) (by omega) _ hx1 (hv1.mono hB1 (Nat.le_refl _))).mono ?_; rintro e w2 ⟨rfl, hb2⟩
    have hB2 := hB1.trans (hb2.mono hB1.size)
    go_wp2_with fail
    go_ret
    exact ⟨rfl, hB2⟩
  have hz0 := szList_eq DNode.sizes l0 1048576 (by omega)
  rw [if_neg (by omega)] at hz0
  have hlo0 : 0 ≤ szList DNode.sizes l0 1048576 := by omega
  have hhi0 : szList DNode.sizes l0 1048576 ≤ 1048576 := by omega
  have hz1 := szList_eq DNode.sizes l1 (szList DNode.sizes l0 1048576) (by omega)
  rw [if_neg (by omega)] at hz1
  have hlo1 : 0 ≤ szList DNode.sizes l1 (szList DNode.sizes l0 1048576) := by omega
  have hhi1 : szList DNode.sizes l1 (szList DNode.sizes l0 1048576) ≤ 1048576 := by omega
  have hn0 : bulk DNode.sizes l0 ≤ 1048576 := by omega
  have hn1 : bulk DNode.sizes l1 ≤ 1048576 := by omega
  have hlen0 : l0.length ≤ 1048576 := by have := length_bulk DNode.sizes l0; omega
  have hlen1 : l1.length ≤ 1048576 := by have := length_bulk DNode.sizes l1; omega
  clear hz0
  clear hz1
  clear hbig0
  clear hbig1
  have hself0 := eqList_self eqDNode eqDNode_iff l0
  have hself1 := eqList_self eqDNode eqDNode_iff l1
  go_enter Try.func14, Try.ntmps14
  go_wp2_with fail
  refine (szDNodeS_any l0 v0 1048576 (by omega) (by omega) _ hx0 hv0).mono ?_; rintro e w1 ⟨rfl, hb1⟩
  have hs1 := hb1.size
  have hB1 := hb1
  go_wp2_with fail
  refine (szDNodeS_any l1 v1 (szList DNode.sizes l0 1048576) (by omega) (by omega) _ hx1 (hv1.mono hB1 (Nat.le_refl _))).mono ?_; rintro e w2 ⟨rfl, hb2⟩
  have hs2 := hb2.size
  have hB2 := hB1.trans (hb2.mono hB1.size)
  go_wp2_with fail
  refine (toDNodeS_any l0 v0 _ hn0 (hv0.mono hB2 (Nat.le_refl _))).mono ?_; rintro e w3 ⟨yp0, rfl, hb3, hop0⟩
  have hs3 := hb3.size
  have hB3 := hB2.trans (hb3.mono hB2.size)
  go_wp2_with fail
  refine (toDNodeS_any l1 v1 _ hn1 (hv1.mono hB3 (Nat.le_refl _))).mono ?_; rintro e w4 ⟨yp1, rfl, hb4, hop1⟩
  have hs4 := hb4.size
  have hB4 := hB3.trans (hb4.mono hB3.size)
  have hop0_4 := hop0.below hb4 (Nat.le_refl _)
  go_wp2_with fail
  refine (specSameDoc_any l0 yp0 l1 yp1 _ hx0 hn0 hop0_4.slc hx1 hn1 hop1.slc).mono ?_; rintro e w5 ⟨rfl, hb5⟩
  have hs5 := hb5.size
  have hB5 := hB4.trans (hb5.mono hB4.size)
  have hop0_5 := hop0_4.below hb5 (Nat.le_refl _)
  have hop1_5 := hop1.below hb5 (Nat.le_refl _)
  go_wp2_with fail
  refine (toDNodeS_any l0 v0 _ hn0 (hv0.mono hB5 (Nat.le_refl _))).mono ?_; rintro e w6 ⟨yx0, rfl, hb6, hox0⟩
  have hs6 := hb6.size
  have hB6 := hB5.trans (hb6.mono hB5.size)
  go_wp2_with fail
  refine (toDNodeS_any l1 v1 _ hn1 (hv1.mono hB6 (Nat.le_refl _))).mono ?_; rintro e w7 ⟨yx1, rfl, hb7, hox1⟩
  have hs7 := hb7.size
  have hB7 := hB6.trans (hb7.mono hB6.size)
  have hox0_7 := hox0.below hb7 (Nat.le_refl _)
  go_wp2_with fail
  refine (implSameDoc_any l0 yx0 l1 yx1 _ hx0 hn0 hox0_7.slc hx1 hn1 hox1.slc).mono ?_; rintro e w8 ⟨rfl, hb8⟩
  have hs8 := hb8.size
  have hB8 := hB7.trans (hb8.mono hB7.size)
  have hox0_8 := hox0_7.below hb8 (Nat.le_refl _)
  have hox1_8 := hox1.below hb8 (Nat.le_refl _)
  go_wp2_with fail
  refine (toDNodeS_any l0 v0 _ hn0 (hv0.mono hB8 (Nat.le_refl _))).mono ?_; rintro e w9 ⟨yz0, rfl, hb9, hoz0⟩
  have hs9 := hb9.size
  have hB9 := hB8.trans (hb9.mono hB8.size)
  have hox0_9 := hox0_8.below hb9 (Nat.le_refl _)
  have hox1_9 := hox1_8.below hb9 (Nat.le_refl _)
  go_wp2_with fail
  refine (eqDNodeS_any l0 l0 yx0 yz0 _ hox0_9.slc hoz0.slc).mono ?_; rintro e w10 ⟨rfl, hb10⟩
  have hs10 := hb10.size
  have hB10 := hB9.trans (hb10.mono hB9.size)
  have hox0_10 := hox0_9.below hb10 (Nat.le_refl _)
  have hox1_10 := hox1_9.below hb10 (Nat.le_refl _)
  have hoz0_10 := hoz0.below hb10 (Nat.le_refl _)
  go_wp2_with fail
  refine (toDNodeS_any l1 v1 _ hn1 (hv1.mono hB10 (Nat.le_refl _))).mono ?_; rintro e w11 ⟨yz1, rfl, hb11, hoz1⟩
  have hs11 := hb11.size
  have hB11 := hB10.trans (hb11.mono hB10.size)
  have hox0_11 := hox0_10.below hb11 (Nat.le_refl _)
  have hox1_11 := hox1_10.below hb11 (Nat.le_refl _)
  go_wp2_with fail
  refine (eqDNodeS_any l1 l1 yx1 yz1 _ hox1_11.slc hoz1.slc).mono ?_; rintro e w12 ⟨rfl, hb12⟩
  have hs12 := hb12.size
  have hB12 := hB11.trans (hb12.mono hB11.size)
  have hox0_12 := hox0_11.below hb12 (Nat.le_refl _)
  have hox1_12 := hox1_11.below hb12 (Nat.le_refl _)
  have hoz1_12 := hoz1.below hb12 (Nat.le_refl _)
  go_wp2_with fail
  go_ret
  exact ⟨rfl, hB12⟩

end Go.Proofs.Ytbmaaeddkppbhaa
