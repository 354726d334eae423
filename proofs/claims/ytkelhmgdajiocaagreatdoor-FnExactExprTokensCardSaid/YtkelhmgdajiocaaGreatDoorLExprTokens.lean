/- Walks and lemmas of this seat (LExprTokens): what each theorem says of the functions that it names. Conditions: those that each theorem states. -/
import Derived.Test.YtkelhmgdajiocaaGreatDoorGA
import Derived.Test.YtkelhmgdajiocaaGreatDoorGHM
import Derived.Test.YtkelhmgdajiocaaGreatDoorGSK
import Derived.Test.YtkelhmgdajiocaaGreatDoorGSZ
namespace Go.Proofs.YtkelhmgdajiocaaGreatDoor
set_option linter.unusedVariables false
set_option linter.unusedSimpArgs false
open Go.RowKit

set_option maxRecDepth 100000 in
set_option maxHeartbeats 1600000 in
theorem lawExprTokens {w : World} (l0 : List Node) (v0 : Value) (hx0 : ∀ x ∈ l0, x.Ok) (hv0 : NodeSlc w v0 l0) (a1 : Pos) (ha1 : a1.Ok) (hWordEnv : WordEnv w) :
    Calls Tryz.prog 7 #[v0, .agg #[.int .i64 a1.level, .bool a1.dollar, .bool a1.noIn, .bool a1.noGt, .bool a1.noSign]] w fun e w' => e = .returned (.bool true) ∧ Below w.heap.size w w' := by
  by_cases hbig0 : 1048576 < bulk Node.sizes l0
  · have hz0 := szList_eq Node.sizes l0 1048576 (by omega)
    rw [if_pos (by omega)] at hz0
    have hlo0 : szList Node.sizes l0 1048576 < 0 := by omega
    clear hz0
    clear hbig0
    go_enter Tryz.func7, Tryz.ntmps7
    go_wp2_with fail
    have hb1 : Below w.heap.size w (w.alloc (.cells #[.int .i64 a1.level, .bool a1.dollar, .bool a1.noIn, .bool a1.noGt, .bool a1.noSign] 34)) := (Below.refl _ _).alloc (Nat.le_refl _) _
    generalize w.alloc (.cells #[.int .i64 a1.level, .bool a1.dollar, .bool a1.noIn, .bool a1.noGt, .bool a1.noSign] 34) = w1 at *
    have hB1 := hb1
    refine (szNodeS_any l0 v0 1048576 (by omega) (by omega) _ hx0 (hv0.mono hB1 (Nat.le_refl _))).mono ?_; rintro e w2 ⟨rfl, hb2⟩
    have hB2 := hB1.trans (hb2.mono hB1.size)
    go_wp2_with fail
    go_ret
    exact ⟨rfl, hB2⟩
  have hz0 := szList_eq Node.sizes l0 1048576 (by omega)
  rw [if_neg (by omega)] at hz0
  have hlo0 : 0 ≤ szList Node.sizes l0 1048576 := by omega
  have hhi0 : szList Node.sizes l0 1048576 ≤ 1048576 := by omega
  have hn0 : bulk Node.sizes l0 ≤ 1048576 := by omega
  have hlen0 : l0.length ≤ 1048576 := by have := length_bulk Node.sizes l0; omega
  clear hz0
  clear hbig0
  have hself0 := eqList_self eqNode eqNode_iff l0
  have hselfR := eqList_self eqToken eqToken_iff (exprToks l0 a1)
  go_enter Tryz.func7, Tryz.ntmps7
  go_wp2_with fail
  have hb1 : Below w.heap.size w (w.alloc (.cells #[.int .i64 a1.level, .bool a1.dollar, .bool a1.noIn, .bool a1.noGt, .bool a1.noSign] 34)) := (Below.refl _ _).alloc (Nat.le_refl _) _
  have hobox := own_box w #[.int .i64 a1.level, .bool a1.dollar, .bool a1.noIn, .bool a1.noGt, .bool a1.noSign] 34 5 rfl
  generalize w.alloc (.cells #[.int .i64 a1.level, .bool a1.dollar, .bool a1.noIn, .bool a1.noGt, .bool a1.noSign] 34) = w1 at *
  have hB1 := hb1
  have hs1 := hb1.size
  have hlw : w.heap.size < w1.heap.size := (hobox.lt _ rfl).2
  have p0_1 : w1.cell? ⟨w.heap.size, 0, none⟩ = some (.int .i64 a1.level) := hobox.cellAt 0 (by decide)
  have p1_1 : w1.cell? ⟨w.heap.size, 1, none⟩ = some (.bool a1.dollar) := hobox.cellAt 1 (by decide)
  have p2_1 : w1.cell? ⟨w.heap.size, 2, none⟩ = some (.bool a1.noIn) := hobox.cellAt 2 (by decide)
  have p3_1 : w1.cell? ⟨w.heap.size, 3, none⟩ = some (.bool a1.noGt) := hobox.cellAt 3 (by decide)
  have p4_1 : w1.cell? ⟨w.heap.size, 4, none⟩ = some (.bool a1.noSign) := hobox.cellAt 4 (by decide)
  refine (szNodeS_any l0 v0 1048576 (by omega) (by omega) _ hx0 (hv0.mono hB1 (Nat.le_refl _))).mono ?_; rintro e w2 ⟨rfl, hb2⟩
  clear p0_1 p1_1 p2_1 p3_1 p4_1
  have hs2 := hb2.size
  have hB2 := hB1.trans (hb2.mono hB1.size)
  have hobox_2 := own_below hobox hb2 (Nat.le_refl _)
  have p0_2 : w2.cell? ⟨w.heap.size, 0, none⟩ = some (.int .i64 a1.level) := hobox_2.cellAt 0 (by decide)
  have p1_2 : w2.cell? ⟨w.heap.size, 1, none⟩ = some (.bool a1.dollar) := hobox_2.cellAt 1 (by decide)
  have p2_2 : w2.cell? ⟨w.heap.size, 2, none⟩ = some (.bool a1.noIn) := hobox_2.cellAt 2 (by decide)
  have p3_2 : w2.cell? ⟨w.heap.size, 3, none⟩ = some (.bool a1.noGt) := hobox_2.cellAt 3 (by decide)
  have p4_2 : w2.cell? ⟨w.heap.size, 4, none⟩ = some (.bool a1.noSign) := hobox_2.cellAt 4 (by decide)
  go_wp2_with fail
  go_region_held3 (fun W => Below w2.heap.size w2 W ∧ W.cell? ⟨w.heap.size, 0, none⟩ = some (.int .i64 a1.level) ∧ W.cell? ⟨w.heap.size, 1, none⟩ = some (.bool a1.dollar) ∧ W.cell? ⟨w.heap.size, 2, none⟩ = some (.bool a1.noIn) ∧ W.cell? ⟨w.heap.size, 3, none⟩ = some (.bool a1.noGt) ∧ W.cell? ⟨w.heap.size, 4, none⟩ = some (.bool a1.noSign)) (first | exact ⟨(Below.refl _ _).drew, p0_2, p1_2, p2_2, p3_2, p4_2⟩ | exact (fun h3 => ⟨h3, (h3.cell (p := ⟨w.heap.size, 0, none⟩) (by show w.heap.size < _; omega)).trans p0_2, (h3.cell (p := ⟨w.heap.size, 1, none⟩) (by show w.heap.size < _; omega)).trans p1_2, (h3.cell (p := ⟨w.heap.size, 2, none⟩) (by show w.heap.size < _; omega)).trans p2_2, (h3.cell (p := ⟨w.heap.size, 3, none⟩) (by show w.heap.size < _; omega)).trans p3_2, (h3.cell (p := ⟨w.heap.size, 4, none⟩) (by show w.heap.size < _; omega)).trans p4_2⟩) (keep_b2 (by assumption) hb3) | exact (fun h3 => ⟨h3, (h3.cell (p := ⟨w.heap.size, 0, none⟩) (by show w.heap.size < _; omega)).trans p0_2, (h3.cell (p := ⟨w.heap.size, 1, none⟩) (by show w.heap.size < _; omega)).trans p1_2, (h3.cell (p := ⟨w.heap.size, 2, none⟩) (by show w.heap.size < _; omega)).trans p2_2, (h3.cell (p := ⟨w.heap.size, 3, none⟩) (by show w.heap.size < _; omega)).trans p3_2, (h3.cell (p := ⟨w.heap.size, 4, none⟩) (by show w.heap.size < _; omega)).trans p4_2⟩) (keep_b (by assumption) hb3) | exact (fun h3 => ⟨h3, (h3.cell (p := ⟨w.heap.size, 0, none⟩) (by show w.heap.size < _; omega)).trans p0_2, (h3.cell (p := ⟨w.heap.size, 1, none⟩) (by show w.heap.size < _; omega)).trans p1_2, (h3.cell (p := ⟨w.heap.size, 2, none⟩) (by show w.heap.size < _; omega)).trans p2_2, (h3.cell (p := ⟨w.heap.size, 3, none⟩) (by show w.heap.size < _; omega)).trans p3_2, (h3.cell (p := ⟨w.heap.size, 4, none⟩) (by show w.heap.size < _; omega)).trans p4_2⟩) (keep_b2 (by assumption) hb4) | exact (fun h3 => ⟨h3, (h3.cell (p := ⟨w.heap.size, 0, none⟩) (by show w.heap.size < _; omega)).trans p0_2, (h3.cell (p := ⟨w.heap.size, 1, none⟩) (by show w.heap.size < _; omega)).trans p1_2, (h3.cell (p := ⟨w.heap.size, 2, none⟩) (by show w.heap.size < _; omega)).trans p2_2, (h3.cell (p := ⟨w.heap.size, 3, none⟩) (by show w.heap.size < _; omega)).trans p3_2, (h3.cell (p := ⟨w.heap.size, 4, none⟩) (by show w.heap.size < _; omega)).trans p4_2⟩) (keep_b (by assumption) hb4) | exact (fun h3 => ⟨h3, (h3.cell (p := ⟨w.heap.size, 0, none⟩) (by show w.heap.size < _; omega)).trans p0_2, (h3.cell (p := ⟨w.heap.size, 1, none⟩) (by show w.heap.size < _; omega)).trans p1_2, (h3.cell (p := ⟨w.heap.size, 2, none⟩) (by show w.heap.size < _; omega)).trans p2_2, (h3.cell (p := ⟨w.heap.size, 3, none⟩) (by show w.heap.size < _; omega)).trans p3_2, (h3.cell (p := ⟨w.heap.size, 4, none⟩) (by show w.heap.size < _; omega)).trans p4_2⟩) (keep_b2 (by assumption) hb5) | exact (fun h3 => ⟨h3, (h3.cell (p := ⟨w.heap.size, 0, none⟩) (by show w.heap.size < _; omega)).trans p0_2, (h3.cell (p := ⟨w.heap.size, 1, none⟩) (by show w.heap.size < _; omega)).trans p1_2, (h3.cell (p := ⟨w.heap.size, 2, none⟩) (by show w.heap.size < _; omega)).trans p2_2, (h3.cell (p := ⟨w.heap.size, 3, none⟩) (by show w.heap.size < _; omega)).trans p3_2, (h3.cell (p := ⟨w.heap.size, 4, none⟩) (by show w.heap.size < _; omega)).trans p4_2⟩) (keep_b (by assumption) hb5)) (first | (go_at_call 10; refine (toNodeS_any l0 v0 _ hn0 (hv0.mono hB2.drew (Nat.le_refl _))).mono ?_; rintro e w3 ⟨yp0, rfl, hb3, hop0⟩; have hB3 := (hB2.drew).trans (hb3.mono (hB2.drew).size); have hs3 : w2.heap.size ≤ w3.heap.size := hb3.size) | (go_at_call 18; refine (toPos_any a1 _).mono ?_; rintro e w4 ⟨rfl, hb4⟩; have hB4 := (hB3).trans (hb4.mono (hB3).size); have hs4 : w3.heap.size ≤ w4.heap.size := hb4.size) | (go_at_call 31; refine (specExprTokens_any l0 yp0 a1 _ hx0 hn0 (hop0.below hb4 (Nat.le_refl _)).slc ha1).mono ?_; rintro e w5 ⟨w0, rfl, hb5, how0⟩; have hB5 := (hB4).trans (hb5.mono (hB4).size); have hs5 : w4.heap.size ≤ w5.heap.size := hb5.size))
  have hobox_5 := (own_below (own_below (own_below (own_drew hobox_2) hb3 (Nat.le_refl _)) hb4 (Nat.le_refl _)) hb5 (Nat.le_refl _))
  clear p0_2 p1_2 p2_2 p3_2 p4_2
  have p0_5 : w5.cell? ⟨w.heap.size, 0, none⟩ = some (.int .i64 a1.level) := hobox_5.cellAt 0 (by decide)
  have p1_5 : w5.cell? ⟨w.heap.size, 1, none⟩ = some (.bool a1.dollar) := hobox_5.cellAt 1 (by decide)
  have p2_5 : w5.cell? ⟨w.heap.size, 2, none⟩ = some (.bool a1.noIn) := hobox_5.cellAt 2 (by decide)
  have p3_5 : w5.cell? ⟨w.heap.size, 3, none⟩ = some (.bool a1.noGt) := hobox_5.cellAt 3 (by decide)
  have p4_5 : w5.cell? ⟨w.heap.size, 4, none⟩ = some (.bool a1.noSign) := hobox_5.cellAt 4 (by decide)
  go_wp2_with fail
  refine (toNodeS_any l0 v0 _ hn0 (hv0.mono hB5 (Nat.le_refl _))).mono ?_; rintro e w6 ⟨yx0, rfl, hb6, hox0⟩
  clear p0_5 p1_5 p2_5 p3_5 p4_5
  have hs6 := hb6.size
  have hB6 := hB5.trans (hb6.mono hB5.size)
  have hobox_6 := own_below hobox_5 hb6 (Nat.le_refl _)
  have how0_6 := own_below how0 hb6 (Nat.le_refl _)
  have p0_6 : w6.cell? ⟨w.heap.size, 0, none⟩ = some (.int .i64 a1.level) := hobox_6.cellAt 0 (by decide)
  have p1_6 : w6.cell? ⟨w.heap.size, 1, none⟩ = some (.bool a1.dollar) := hobox_6.cellAt 1 (by decide)
  have p2_6 : w6.cell? ⟨w.heap.size, 2, none⟩ = some (.bool a1.noIn) := hobox_6.cellAt 2 (by decide)
  have p3_6 : w6.cell? ⟨w.heap.size, 3, none⟩ = some (.bool a1.noGt) := hobox_6.cellAt 3 (by decide)
  have p4_6 : w6.cell? ⟨w.heap.size, 4, none⟩ = some (.bool a1.noSign) := hobox_6.cellAt 4 (by decide)
  go_wp2_with fail
  refine (toPos_any a1 _).mono ?_; rintro e w7 ⟨rfl, hb7⟩
  clear p0_6 p1_6 p2_6 p3_6 p4_6
  have hs7 := hb7.size
  have hB7 := hB6.trans (hb7.mono hB6.size)
  have hobox_7 := own_below hobox_6 hb7 (Nat.le_refl _)
  have how0_7 := own_below how0_6 hb7 (Nat.le_refl _)
  have hox0_7 := hox0.below hb7 (Nat.le_refl _)
  have p0_7 : w7.cell? ⟨w.heap.size, 0, none⟩ = some (.int .i64 a1.level) := hobox_7.cellAt 0 (by decide)
  have p1_7 : w7.cell? ⟨w.heap.size, 1, none⟩ = some (.bool a1.dollar) := hobox_7.cellAt 1 (by decide)
  have p2_7 : w7.cell? ⟨w.heap.size, 2, none⟩ = some (.bool a1.noIn) := hobox_7.cellAt 2 (by decide)
  have p3_7 : w7.cell? ⟨w.heap.size, 3, none⟩ = some (.bool a1.noGt) := hobox_7.cellAt 3 (by decide)
  have p4_7 : w7.cell? ⟨w.heap.size, 4, none⟩ = some (.bool a1.noSign) := hobox_7.cellAt 4 (by decide)
  go_wp2_with fail
  refine (implExprTokens_any l0 yx0 a1 _ hx0 hn0 hox0_7.slc ha1 (hWordEnv.below hB7)).mono ?_; rintro e w8 ⟨g0, rfl, hb8, hog0⟩
  clear p0_7 p1_7 p2_7 p3_7 p4_7
  have hs8 := hb8.size
  have hB8 := hB7.trans (hb8.mono hB7.size)
  have hobox_8 := own_below hobox_7 hb8 (Nat.le_refl _)
  have how0_8 := own_below how0_7 hb8 (Nat.le_refl _)
  have hox0_8 := hox0_7.below hb8 (Nat.le_refl _)
  have p0_8 : w8.cell? ⟨w.heap.size, 0, none⟩ = some (.int .i64 a1.level) := hobox_8.cellAt 0 (by decide)
  have p1_8 : w8.cell? ⟨w.heap.size, 1, none⟩ = some (.bool a1.dollar) := hobox_8.cellAt 1 (by decide)
  have p2_8 : w8.cell? ⟨w.heap.size, 2, none⟩ = some (.bool a1.noIn) := hobox_8.cellAt 2 (by decide)
  have p3_8 : w8.cell? ⟨w.heap.size, 3, none⟩ = some (.bool a1.noGt) := hobox_8.cellAt 3 (by decide)
  have p4_8 : w8.cell? ⟨w.heap.size, 4, none⟩ = some (.bool a1.noSign) := hobox_8.cellAt 4 (by decide)
  go_wp2_with fail
  refine (eqTokenS_any (exprToks l0 a1) (exprToks l0 a1) g0 w0 _ (Slc.of_own hog0) (Slc.of_own how0_8)).mono ?_; rintro e w9 ⟨rfl, hb9⟩
  clear p0_8 p1_8 p2_8 p3_8 p4_8
  have hs9 := hb9.size
  have hB9 := hB8.trans (hb9.mono hB8.size)
  have hobox_9 := own_below hobox_8 hb9 (Nat.le_refl _)
  have how0_9 := own_below how0_8 hb9 (Nat.le_refl _)
  have hox0_9 := hox0_8.below hb9 (Nat.le_refl _)
  have hog0_9 := own_below hog0 hb9 (Nat.le_refl _)
  have p0_9 : w9.cell? ⟨w.heap.size, 0, none⟩ = some (.int .i64 a1.level) := hobox_9.cellAt 0 (by decide)
  have p1_9 : w9.cell? ⟨w.heap.size, 1, none⟩ = some (.bool a1.dollar) := hobox_9.cellAt 1 (by decide)
  have p2_9 : w9.cell? ⟨w.heap.size, 2, none⟩ = some (.bool a1.noIn) := hobox_9.cellAt 2 (by decide)
  have p3_9 : w9.cell? ⟨w.heap.size, 3, none⟩ = some (.bool a1.noGt) := hobox_9.cellAt 3 (by decide)
  have p4_9 : w9.cell? ⟨w.heap.size, 4, none⟩ = some (.bool a1.noSign) := hobox_9.cellAt 4 (by decide)
  go_wp2_with fail
  refine (toNodeS_any l0 v0 _ hn0 (hv0.mono hB9 (Nat.le_refl _))).mono ?_; rintro e w10 ⟨yz0, rfl, hb10, hoz0⟩
  clear p0_9 p1_9 p2_9 p3_9 p4_9
  have hs10 := hb10.size
  have hB10 := hB9.trans (hb10.mono hB9.size)
  have hobox_10 := own_below hobox_9 hb10 (Nat.le_refl _)
  have how0_10 := own_below how0_9 hb10 (Nat.le_refl _)
  have hox0_10 := hox0_9.below hb10 (Nat.le_refl _)
  have hog0_10 := own_below hog0_9 hb10 (Nat.le_refl _)
  have p0_10 : w10.cell? ⟨w.heap.size, 0, none⟩ = some (.int .i64 a1.level) := hobox_10.cellAt 0 (by decide)
  have p1_10 : w10.cell? ⟨w.heap.size, 1, none⟩ = some (.bool a1.dollar) := hobox_10.cellAt 1 (by decide)
  have p2_10 : w10.cell? ⟨w.heap.size, 2, none⟩ = some (.bool a1.noIn) := hobox_10.cellAt 2 (by decide)
  have p3_10 : w10.cell? ⟨w.heap.size, 3, none⟩ = some (.bool a1.noGt) := hobox_10.cellAt 3 (by decide)
  have p4_10 : w10.cell? ⟨w.heap.size, 4, none⟩ = some (.bool a1.noSign) := hobox_10.cellAt 4 (by decide)
  go_wp2_with fail
  refine (eqNodeS_any l0 l0 yx0 yz0 _ hox0_10.slc hoz0.slc).mono ?_; rintro e w11 ⟨rfl, hb11⟩
  clear p0_10 p1_10 p2_10 p3_10 p4_10
  have hs11 := hb11.size
  have hB11 := hB10.trans (hb11.mono hB10.size)
  have hobox_11 := own_below hobox_10 hb11 (Nat.le_refl _)
  have how0_11 := own_below how0_10 hb11 (Nat.le_refl _)
  have hox0_11 := hox0_10.below hb11 (Nat.le_refl _)
  have hog0_11 := own_below hog0_10 hb11 (Nat.le_refl _)
  have hoz0_11 := hoz0.below hb11 (Nat.le_refl _)
  have p0_11 : w11.cell? ⟨w.heap.size, 0, none⟩ = some (.int .i64 a1.level) := hobox_11.cellAt 0 (by decide)
  have p1_11 : w11.cell? ⟨w.heap.size, 1, none⟩ = some (.bool a1.dollar) := hobox_11.cellAt 1 (by decide)
  have p2_11 : w11.cell? ⟨w.heap.size, 2, none⟩ = some (.bool a1.noIn) := hobox_11.cellAt 2 (by decide)
  have p3_11 : w11.cell? ⟨w.heap.size, 3, none⟩ = some (.bool a1.noGt) := hobox_11.cellAt 3 (by decide)
  have p4_11 : w11.cell? ⟨w.heap.size, 4, none⟩ = some (.bool a1.noSign) := hobox_11.cellAt 4 (by decide)
  go_wp2_with fail
  have hlenR : (exprToks l0 a1).length ≤ 1048576 := (by have := exprToks_len l0 a1; omega)
  refine (markNodeS_any l0 yx0 1 _ hn0 (by omega) hox0_11).mono ?_; rintro e w12 ⟨rfl, hg12, hm12⟩
  clear p0_11 p1_11 p2_11 p3_11 p4_11
  have hs12 := hg12.size
  have hB12 := Fr.below hB11 hg12 hB5.size
  have hobox_12 := own_fr_old hobox hobox_11 hg12 (by omega)
  have how0_12 := own_fr_old how0 how0_11 hg12 (by omega)
  have hog0_12 := own_fr_new hog0_11 hg12 (by omega)
  have p0_12 : w12.cell? ⟨w.heap.size, 0, none⟩ = some (.int .i64 a1.level) := hobox_12.cellAt 0 (by decide)
  have p1_12 : w12.cell? ⟨w.heap.size, 1, none⟩ = some (.bool a1.dollar) := hobox_12.cellAt 1 (by decide)
  have p2_12 : w12.cell? ⟨w.heap.size, 2, none⟩ = some (.bool a1.noIn) := hobox_12.cellAt 2 (by decide)
  have p3_12 : w12.cell? ⟨w.heap.size, 3, none⟩ = some (.bool a1.noGt) := hobox_12.cellAt 3 (by decide)
  have p4_12 : w12.cell? ⟨w.heap.size, 4, none⟩ = some (.bool a1.noSign) := hobox_12.cellAt 4 (by decide)
  go_wp2_with fail
  refine (eqTokenS_any (exprToks l0 a1) (exprToks l0 a1) g0 w0 _ (Slc.of_own hog0_12) (Slc.of_own how0_12)).mono ?_; rintro e w13 ⟨rfl, hb13⟩
  clear p0_12 p1_12 p2_12 p3_12 p4_12
  have hs13 := hb13.size
  have hB13 := hB12.trans (hb13.mono hB12.size)
  have hobox_13 := own_below hobox_12 hb13 (Nat.le_refl _)
  have how0_13 := own_below how0_12 hb13 (Nat.le_refl _)
  have hog0_13 := own_below hog0_12 hb13 (Nat.le_refl _)
  have p0_13 : w13.cell? ⟨w.heap.size, 0, none⟩ = some (.int .i64 a1.level) := hobox_13.cellAt 0 (by decide)
  have p1_13 : w13.cell? ⟨w.heap.size, 1, none⟩ = some (.bool a1.dollar) := hobox_13.cellAt 1 (by decide)
  have p2_13 : w13.cell? ⟨w.heap.size, 2, none⟩ = some (.bool a1.noIn) := hobox_13.cellAt 2 (by decide)
  have p3_13 : w13.cell? ⟨w.heap.size, 3, none⟩ = some (.bool a1.noGt) := hobox_13.cellAt 3 (by decide)
  have p4_13 : w13.cell? ⟨w.heap.size, 4, none⟩ = some (.bool a1.noSign) := hobox_13.cellAt 4 (by decide)
  go_wp2_with fail
  refine (markTokenS_any (exprToks l0 a1) g0 1 _ (by omega) (by omega) hog0_13).mono ?_; rintro e w14 ⟨rfl, hg14, hm14⟩
  clear p0_13 p1_13 p2_13 p3_13 p4_13
  have hs14 := hg14.size
  have hB14 := below_mark hB13 hg14 hog0_13 hB7.size
  have hobox_14 := own_grown hobox_13 hg14 (own_apart2 hobox hog0 (by omega))
  have how0_14 := own_grown how0_13 hg14 (own_apart2 how0 hog0 (by omega))
  have p0_14 : w14.cell? ⟨w.heap.size, 0, none⟩ = some (.int .i64 a1.level) := hobox_14.cellAt 0 (by decide)
  have p1_14 : w14.cell? ⟨w.heap.size, 1, none⟩ = some (.bool a1.dollar) := hobox_14.cellAt 1 (by decide)
  have p2_14 : w14.cell? ⟨w.heap.size, 2, none⟩ = some (.bool a1.noIn) := hobox_14.cellAt 2 (by decide)
  have p3_14 : w14.cell? ⟨w.heap.size, 3, none⟩ = some (.bool a1.noGt) := hobox_14.cellAt 3 (by decide)
  have p4_14 : w14.cell? ⟨w.heap.size, 4, none⟩ = some (.bool a1.noSign) := hobox_14.cellAt 4 (by decide)
  go_wp2_with fail
  refine (heldTokenS_any (exprToks l0 a1).length g0 1 _ (by omega) (by omega) (Slc.of_own hm14)).mono ?_; rintro e w15 ⟨rfl, hb15⟩
  clear p0_14 p1_14 p2_14 p3_14 p4_14
  have hs15 := hb15.size
  have hB15 := hB14.trans (hb15.mono hB14.size)
  have hobox_15 := own_below hobox_14 hb15 (Nat.le_refl _)
  have how0_15 := own_below how0_14 hb15 (Nat.le_refl _)
  have hog0_15 := own_below hm14 hb15 (Nat.le_refl _)
  have p0_15 : w15.cell? ⟨w.heap.size, 0, none⟩ = some (.int .i64 a1.level) := hobox_15.cellAt 0 (by decide)
  have p1_15 : w15.cell? ⟨w.heap.size, 1, none⟩ = some (.bool a1.dollar) := hobox_15.cellAt 1 (by decide)
  have p2_15 : w15.cell? ⟨w.heap.size, 2, none⟩ = some (.bool a1.noIn) := hobox_15.cellAt 2 (by decide)
  have p3_15 : w15.cell? ⟨w.heap.size, 3, none⟩ = some (.bool a1.noGt) := hobox_15.cellAt 3 (by decide)
  have p4_15 : w15.cell? ⟨w.heap.size, 4, none⟩ = some (.bool a1.noSign) := hobox_15.cellAt 4 (by decide)
  go_wp2_with fail
  go_region_held3 (fun W => Below w15.heap.size w15 W ∧ W.cell? ⟨w.heap.size, 0, none⟩ = some (.int .i64 a1.level) ∧ W.cell? ⟨w.heap.size, 1, none⟩ = some (.bool a1.dollar) ∧ W.cell? ⟨w.heap.size, 2, none⟩ = some (.bool a1.noIn) ∧ W.cell? ⟨w.heap.size, 3, none⟩ = some (.bool a1.noGt) ∧ W.cell? ⟨w.heap.size, 4, none⟩ = some (.bool a1.noSign)) (first | exact ⟨(Below.refl _ _).drew, p0_15, p1_15, p2_15, p3_15, p4_15⟩ | exact (fun h3 => ⟨h3, (h3.cell (p := ⟨w.heap.size, 0, none⟩) (by show w.heap.size < _; omega)).trans p0_15, (h3.cell (p := ⟨w.heap.size, 1, none⟩) (by show w.heap.size < _; omega)).trans p1_15, (h3.cell (p := ⟨w.heap.size, 2, none⟩) (by show w.heap.size < _; omega)).trans p2_15, (h3.cell (p := ⟨w.heap.size, 3, none⟩) (by show w.heap.size < _; omega)).trans p3_15, (h3.cell (p := ⟨w.heap.size, 4, none⟩) (by show w.heap.size < _; omega)).trans p4_15⟩) (keep_b2 (by assumption) hb16) | exact (fun h3 => ⟨h3, (h3.cell (p := ⟨w.heap.size, 0, none⟩) (by show w.heap.size < _; omega)).trans p0_15, (h3.cell (p := ⟨w.heap.size, 1, none⟩) (by show w.heap.size < _; omega)).trans p1_15, (h3.cell (p := ⟨w.heap.size, 2, none⟩) (by show w.heap.size < _; omega)).trans p2_15, (h3.cell (p := ⟨w.heap.size, 3, none⟩) (by show w.heap.size < _; omega)).trans p3_15, (h3.cell (p := ⟨w.heap.size, 4, none⟩) (by show w.heap.size < _; omega)).trans p4_15⟩) (keep_b (by assumption) hb16) | exact (fun h3 => ⟨h3, (h3.cell (p := ⟨w.heap.size, 0, none⟩) (by show w.heap.size < _; omega)).trans p0_15, (h3.cell (p := ⟨w.heap.size, 1, none⟩) (by show w.heap.size < _; omega)).trans p1_15, (h3.cell (p := ⟨w.heap.size, 2, none⟩) (by show w.heap.size < _; omega)).trans p2_15, (h3.cell (p := ⟨w.heap.size, 3, none⟩) (by show w.heap.size < _; omega)).trans p3_15, (h3.cell (p := ⟨w.heap.size, 4, none⟩) (by show w.heap.size < _; omega)).trans p4_15⟩) (keep_b2 (by assumption) hb17) | exact (fun h3 => ⟨h3, (h3.cell (p := ⟨w.heap.size, 0, none⟩) (by show w.heap.size < _; omega)).trans p0_15, (h3.cell (p := ⟨w.heap.size, 1, none⟩) (by show w.heap.size < _; omega)).trans p1_15, (h3.cell (p := ⟨w.heap.size, 2, none⟩) (by show w.heap.size < _; omega)).trans p2_15, (h3.cell (p := ⟨w.heap.size, 3, none⟩) (by show w.heap.size < _; omega)).trans p3_15, (h3.cell (p := ⟨w.heap.size, 4, none⟩) (by show w.heap.size < _; omega)).trans p4_15⟩) (keep_b (by assumption) hb17) | exact (fun h3 => ⟨h3, (h3.cell (p := ⟨w.heap.size, 0, none⟩) (by show w.heap.size < _; omega)).trans p0_15, (h3.cell (p := ⟨w.heap.size, 1, none⟩) (by show w.heap.size < _; omega)).trans p1_15, (h3.cell (p := ⟨w.heap.size, 2, none⟩) (by show w.heap.size < _; omega)).trans p2_15, (h3.cell (p := ⟨w.heap.size, 3, none⟩) (by show w.heap.size < _; omega)).trans p3_15, (h3.cell (p := ⟨w.heap.size, 4, none⟩) (by show w.heap.size < _; omega)).trans p4_15⟩) (keep_b2 (by assumption) hb18) | exact (fun h3 => ⟨h3, (h3.cell (p := ⟨w.heap.size, 0, none⟩) (by show w.heap.size < _; omega)).trans p0_15, (h3.cell (p := ⟨w.heap.size, 1, none⟩) (by show w.heap.size < _; omega)).trans p1_15, (h3.cell (p := ⟨w.heap.size, 2, none⟩) (by show w.heap.size < _; omega)).trans p2_15, (h3.cell (p := ⟨w.heap.size, 3, none⟩) (by show w.heap.size < _; omega)).trans p3_15, (h3.cell (p := ⟨w.heap.size, 4, none⟩) (by show w.heap.size < _; omega)).trans p4_15⟩) (keep_b (by assumption) hb18)) (first | (go_at_call 10; refine (toNodeS_any l0 v0 _ hn0 (hv0.mono hB15.drew (Nat.le_refl _))).mono ?_; rintro e w16 ⟨yq0, rfl, hb16, hoq0⟩; have hB16 := (hB15.drew).trans (hb16.mono (hB15.drew).size); have hs16 : w15.heap.size ≤ w16.heap.size := hb16.size) | (go_at_call 18; refine (toPos_any a1 _).mono ?_; rintro e w17 ⟨rfl, hb17⟩; have hB17 := (hB16).trans (hb17.mono (hB16).size); have hs17 : w16.heap.size ≤ w17.heap.size := hb17.size) | (go_at_call 23; refine (implExprTokens_any l0 yq0 a1 _ hx0 hn0 (hoq0.below hb17 (Nat.le_refl _)).slc ha1 (hWordEnv.below hB17)).mono ?_; rintro e w18 ⟨h0, rfl, hb18, hoh0⟩; have hB18 := (hB17).trans (hb18.mono (hB17).size); have hs18 : w17.heap.size ≤ w18.heap.size := hb18.size))
  have hobox_18 := (own_below (own_below (own_below (own_drew hobox_15) hb16 (Nat.le_refl _)) hb17 (Nat.le_refl _)) hb18 (Nat.le_refl _))
  have how0_18 := (own_below (own_below (own_below (own_drew how0_15) hb16 (Nat.le_refl _)) hb17 (Nat.le_refl _)) hb18 (Nat.le_refl _))
  have hog0_18 := (own_below (own_below (own_below (own_drew hog0_15) hb16 (Nat.le_refl _)) hb17 (Nat.le_refl _)) hb18 (Nat.le_refl _))
  clear p0_15 p1_15 p2_15 p3_15 p4_15
  have p0_18 : w18.cell? ⟨w.heap.size, 0, none⟩ = some (.int .i64 a1.level) := hobox_18.cellAt 0 (by decide)
  have p1_18 : w18.cell? ⟨w.heap.size, 1, none⟩ = some (.bool a1.dollar) := hobox_18.cellAt 1 (by decide)
  have p2_18 : w18.cell? ⟨w.heap.size, 2, none⟩ = some (.bool a1.noIn) := hobox_18.cellAt 2 (by decide)
  have p3_18 : w18.cell? ⟨w.heap.size, 3, none⟩ = some (.bool a1.noGt) := hobox_18.cellAt 3 (by decide)
  have p4_18 : w18.cell? ⟨w.heap.size, 4, none⟩ = some (.bool a1.noSign) := hobox_18.cellAt 4 (by decide)
  go_wp2_with fail
  refine (eqTokenS_any (exprToks l0 a1) (exprToks l0 a1) h0 w0 _ (Slc.of_own hoh0) (Slc.of_own how0_18)).mono ?_; rintro e w19 ⟨rfl, hb19⟩
  clear p0_18 p1_18 p2_18 p3_18 p4_18
  have hs19 := hb19.size
  have hB19 := hB18.trans (hb19.mono hB18.size)
  have hobox_19 := own_below hobox_18 hb19 (Nat.le_refl _)
  have how0_19 := own_below how0_18 hb19 (Nat.le_refl _)
  have hog0_19 := own_below hog0_18 hb19 (Nat.le_refl _)
  have hoh0_19 := own_below hoh0 hb19 (Nat.le_refl _)
  have p0_19 : w19.cell? ⟨w.heap.size, 0, none⟩ = some (.int .i64 a1.level) := hobox_19.cellAt 0 (by decide)
  have p1_19 : w19.cell? ⟨w.heap.size, 1, none⟩ = some (.bool a1.dollar) := hobox_19.cellAt 1 (by decide)
  have p2_19 : w19.cell? ⟨w.heap.size, 2, none⟩ = some (.bool a1.noIn) := hobox_19.cellAt 2 (by decide)
  have p3_19 : w19.cell? ⟨w.heap.size, 3, none⟩ = some (.bool a1.noGt) := hobox_19.cellAt 3 (by decide)
  have p4_19 : w19.cell? ⟨w.heap.size, 4, none⟩ = some (.bool a1.noSign) := hobox_19.cellAt 4 (by decide)
  go_wp2_with fail
  refine (heldTokenS_any (exprToks l0 a1).length g0 1 _ (by omega) (by omega) (Slc.of_own hog0_19)).mono ?_; rintro e w20 ⟨rfl, hb20⟩
  clear p0_19 p1_19 p2_19 p3_19 p4_19
  have hs20 := hb20.size
  have hB20 := hB19.trans (hb20.mono hB19.size)
  have hobox_20 := own_below hobox_19 hb20 (Nat.le_refl _)
  have how0_20 := own_below how0_19 hb20 (Nat.le_refl _)
  have hog0_20 := own_below hog0_19 hb20 (Nat.le_refl _)
  have hoh0_20 := own_below hoh0_19 hb20 (Nat.le_refl _)
  have p0_20 : w20.cell? ⟨w.heap.size, 0, none⟩ = some (.int .i64 a1.level) := hobox_20.cellAt 0 (by decide)
  have p1_20 : w20.cell? ⟨w.heap.size, 1, none⟩ = some (.bool a1.dollar) := hobox_20.cellAt 1 (by decide)
  have p2_20 : w20.cell? ⟨w.heap.size, 2, none⟩ = some (.bool a1.noIn) := hobox_20.cellAt 2 (by decide)
  have p3_20 : w20.cell? ⟨w.heap.size, 3, none⟩ = some (.bool a1.noGt) := hobox_20.cellAt 3 (by decide)
  have p4_20 : w20.cell? ⟨w.heap.size, 4, none⟩ = some (.bool a1.noSign) := hobox_20.cellAt 4 (by decide)
  go_wp2_with fail
  go_ret
  exact ⟨rfl, hB20⟩

end Go.Proofs.YtkelhmgdajiocaaGreatDoor
