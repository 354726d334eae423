/- Walks and lemmas of this seat (LEval): what each theorem says of the functions that it names. Conditions: those that each theorem states. -/
import Derived.Test.YtfmojbfodcgebaaGreatDoorGA
import Derived.Test.YtfmojbfodcgebaaGreatDoorHBind
import Derived.Test.YtfmojbfodcgebaaGreatDoorGEV
namespace Go.Proofs.YtfmojbfodcgebaaGreatDoor
set_option linter.unusedVariables false
set_option linter.unusedSimpArgs false
open Go.RowKit

set_option maxRecDepth 100000 in
set_option maxHeartbeats 1600000 in
theorem lawEval {w : World} (l0 : List Node) (v0 : Value) (hx0 : ∀ x ∈ l0, x.Ok) (hv0 : NodeSlc w v0 l0) (l1 : List Bind) (v1 : Value) (hx1 : ∀ x ∈ l1, x.Ok) (hv1 : Slc w v1 2 l1.length (l1.flatMap Bind.cells)) (hEvalEnv : EvalEnv w) :
    Calls Tryz.prog 10 #[v0, v1] w fun e w' => e = .returned (.bool true) ∧ Below w.heap.size w w' := by
  by_cases hbig0 : 1048576 < bulk Node.sizes l0
  · have hz0 := szList_eq Node.sizes l0 1048576 (by omega)
    rw [if_pos (by omega)] at hz0
    have hlo0 : szList Node.sizes l0 1048576 < 0 := by omega
    clear hz0
    clear hbig0
    go_enter Tryz.func10, Tryz.ntmps10
    go_wp2_with fail
    refine (szNodeS_any l0 v0 1048576 (by omega) (by omega) _ hx0 hv0).mono ?_; rintro e w1 ⟨rfl, hb1⟩
    have hB1 := hb1
    go_wp2_with fail
    go_ret
    exact ⟨rfl, hB1⟩
  by_cases hbig1 : 1048576 < bulk Node.sizes l0 + bulk Bind.sizes l1
  · have hz0 := szList_eq Node.sizes l0 1048576 (by omega)
    rw [if_neg (by omega)] at hz0
    have hlo0 : 0 ≤ szList Node.sizes l0 1048576 := by omega
    have hhi0 : szList Node.sizes l0 1048576 ≤ 1048576 := by omega
    have hz1 := szList_eq Bind.sizes l1 (szList Node.sizes l0 1048576) (by omega)
    rw [if_pos (by omega)] at hz1
    have hlo1 : szList Bind.sizes l1 (szList Node.sizes l0 1048576) < 0 := by omega
    clear hz0
    clear hz1
    clear hbig1
    go_enter Tryz.func10, Tryz.ntmps10
    go_wp2_with fail
    refine (szNodeS_any l0 v0 1048576 (by omega) (by omega) _ hx0 hv0).mono ?_; rintro e w1 ⟨rfl, hb1⟩
    have hB1 := hb1
    go_wp2_with fail
    refine (szBindS_any l1 v1 (szList Node.sizes l0 1048576) (by omega) (by omega) _ hx1 (hv1.mono hB1 (Nat.le_refl _))).mono ?_; rintro e w2 ⟨rfl, hb2⟩
    have hB2 := hB1.trans (hb2.mono hB1.size)
    go_wp2_with fail
    go_ret
    exact ⟨rfl, hB2⟩
  have hz0 := szList_eq Node.sizes l0 1048576 (by omega)
  rw [if_neg (by omega)] at hz0
  have hlo0 : 0 ≤ szList Node.sizes l0 1048576 := by omega
  have hhi0 : szList Node.sizes l0 1048576 ≤ 1048576 := by omega
  have hz1 := szList_eq Bind.sizes l1 (szList Node.sizes l0 1048576) (by omega)
  rw [if_neg (by omega)] at hz1
  have hlo1 : 0 ≤ szList Bind.sizes l1 (szList Node.sizes l0 1048576) := by omega
  have hhi1 : szList Bind.sizes l1 (szList Node.sizes l0 1048576) ≤ 1048576 := by omega
  have hn0 : bulk Node.sizes l0 ≤ 1048576 := by omega
  have hn1 : bulk Bind.sizes l1 ≤ 1048576 := by omega
  have hlen0 : l0.length ≤ 1048576 := by have := length_bulk Node.sizes l0; omega
  have hlen1 : l1.length ≤ 1048576 := by have := length_bulk Bind.sizes l1; omega
  clear hz0
  clear hz1
  clear hbig0
  clear hbig1
  have hself0 := eqList_self eqNode eqNode_iff l0
  have hself1 := eqList_self eqBind eqBind_iff l1
  go_enter Tryz.func10, Tryz.ntmps10
  go_wp2_with fail
  refine (szNodeS_any l0 v0 1048576 (by omega) (by omega) _ hx0 hv0).mono ?_; rintro e w1 ⟨rfl, hb1⟩
  have hs1 := hb1.size
  have hB1 := hb1
  go_wp2_with fail
  refine (szBindS_any l1 v1 (szList Node.sizes l0 1048576) (by omega) (by omega) _ hx1 (hv1.mono hB1 (Nat.le_refl _))).mono ?_; rintro e w2 ⟨rfl, hb2⟩
  have hs2 := hb2.size
  have hB2 := hB1.trans (hb2.mono hB1.size)
  go_wp2_with fail
  refine (toNodeS_any l0 v0 _ hn0 (hv0.mono hB2 (Nat.le_refl _))).mono ?_; rintro e w3 ⟨yp0, rfl, hb3, hop0⟩
  have hs3 := hb3.size
  have hB3 := hB2.trans (hb3.mono hB2.size)
  go_wp2_with fail
  refine (toBindS_any l1 v1 _ hlen1 (hv1.mono hB3 (Nat.le_refl _))).mono ?_; rintro e w4 ⟨yp1, rfl, hb4, hop1⟩
  have hs4 := hb4.size
  have hB4 := hB3.trans (hb4.mono hB3.size)
  have hop0_4 := hop0.below hb4 (Nat.le_refl _)
  go_wp2_with fail
  refine (specEval_any l0 yp0 l1 yp1 _ hx0 hn0 hop0_4.slc hx1 hn1 (Slc.of_own hop1)).mono ?_; rintro e w5 ⟨he, hb5⟩; unfold pairEnd at he; subst he
  have hs5 := hb5.size
  have hB5 := hB4.trans (hb5.mono hB4.size)
  have hop0_5 := hop0_4.below hb5 (Nat.le_refl _)
  have hop1_5 := own_below hop1 hb5 (Nat.le_refl _)
  go_wp2_with fail
  refine (toNodeS_any l0 v0 _ hn0 (hv0.mono hB5 (Nat.le_refl _))).mono ?_; rintro e w6 ⟨yx0, rfl, hb6, hox0⟩
  have hs6 := hb6.size
  have hB6 := hB5.trans (hb6.mono hB5.size)
  go_wp2_with fail
  refine (toBindS_any l1 v1 _ hlen1 (hv1.mono hB6 (Nat.le_refl _))).mono ?_; rintro e w7 ⟨yx1, rfl, hb7, hox1⟩
  have hs7 := hb7.size
  have hB7 := hB6.trans (hb7.mono hB6.size)
  have hox0_7 := hox0.below hb7 (Nat.le_refl _)
  go_wp2_with fail
  refine (implEval_any l0 yx0 l1 yx1 _ hx0 hn0 hox0_7.slc hx1 hn1 (Slc.of_own hox1) (hEvalEnv.below hB7)).mono ?_; rintro e w8 ⟨he, hb8⟩; unfold pairEnd at he; subst he
  have hs8 := hb8.size
  have hB8 := hB7.trans (hb8.mono hB7.size)
  have hox0_8 := hox0_7.below hb8 (Nat.le_refl _)
  have hox1_8 := own_below hox1 hb8 (Nat.le_refl _)
  go_wp2_with fail
  refine (toNodeS_any l0 v0 _ hn0 (hv0.mono hB8 (Nat.le_refl _))).mono ?_; rintro e w9 ⟨yz0, rfl, hb9, hoz0⟩
  have hs9 := hb9.size
  have hB9 := hB8.trans (hb9.mono hB8.size)
  have hox0_9 := hox0_8.below hb9 (Nat.le_refl _)
  have hox1_9 := own_below hox1_8 hb9 (Nat.le_refl _)
  go_wp2_with fail
  refine (eqNodeS_any l0 l0 yx0 yz0 _ hox0_9.slc hoz0.slc).mono ?_; rintro e w10 ⟨rfl, hb10⟩
  have hs10 := hb10.size
  have hB10 := hB9.trans (hb10.mono hB9.size)
  have hox0_10 := hox0_9.below hb10 (Nat.le_refl _)
  have hox1_10 := own_below hox1_9 hb10 (Nat.le_refl _)
  have hoz0_10 := hoz0.below hb10 (Nat.le_refl _)
  go_wp2_with fail
  refine (toBindS_any l1 v1 _ hlen1 (hv1.mono hB10 (Nat.le_refl _))).mono ?_; rintro e w11 ⟨yz1, rfl, hb11, hoz1⟩
  have hs11 := hb11.size
  have hB11 := hB10.trans (hb11.mono hB10.size)
  have hox0_11 := hox0_10.below hb11 (Nat.le_refl _)
  have hox1_11 := own_below hox1_10 hb11 (Nat.le_refl _)
  go_wp2_with fail
  refine (eqBindS_any l1 l1 yx1 yz1 _ (Slc.of_own hox1_11) (Slc.of_own hoz1)).mono ?_; rintro e w12 ⟨rfl, hb12⟩
  have hs12 := hb12.size
  have hB12 := hB11.trans (hb12.mono hB11.size)
  have hox0_12 := hox0_11.below hb12 (Nat.le_refl _)
  have hox1_12 := own_below hox1_11 hb12 (Nat.le_refl _)
  have hoz1_12 := own_below hoz1 hb12 (Nat.le_refl _)
  go_wp2_with fail
  go_ret
  exact ⟨rfl, hB12⟩

end Go.Proofs.YtfmojbfodcgebaaGreatDoor
