/- Walks and lemmas of this seat (FDrawNB): what each theorem says of the functions that it names. Conditions: those that each theorem states. -/
import Derived.Test.YtkelhmgdajiocaaGreatDoorGDX
namespace Go.Proofs.YtkelhmgdajiocaaGreatDoor
set_option linter.unusedVariables false
set_option linter.unusedSimpArgs false
open Go.RowKit
def blts7 : List ByteArray := [⟨#[108, 101, 110, 103, 116, 104]⟩, ⟨#[115, 117, 98, 115, 116, 114]⟩, ⟨#[105, 110, 100, 101, 120]⟩, ⟨#[105, 110, 116]⟩, ⟨#[116, 111, 117, 112, 112, 101, 114]⟩]
def uns7 : List Int := [56, 55, 61]
def asg7 : List Int := [54, 38, 43]
def bin7 : List Int := [60, 57, 58, 59, 55, 56, 56, 99, 99, 99, 63, 48, 47, 50, 62, 62, 49, 67, 46, 45, 44]
set_option maxRecDepth 100000 in
set_option maxHeartbeats 6400000 in
theorem binY {w0 w w1 : World} {p : Nat} {bv : Value} {bs : List UInt8} {s s' : DS} {x : Nat} {ps : List (List Node × Value)} (h : GX w0 w p bv bs s ps w1) (hd : Hid (dNext bs s = (x, s'))) :
    Calls Tryz.prog 116 #[.pointer (some ⟨p, 0, none⟩)] w1 fun e w' => ∃ t : Int, (0 ≤ t ∧ t ≤ 100) ∧ e = .returned (.int .i64 t) ∧ GX w0 w p bv bs s' ps w' := by
  replace h := hid h
  go_enter Tryz.func116, Tryz.ntmps116
  go_wp2_with fail
  refine (pickIntY h.out hd bin7 21 rfl (by decide) (by decide) _ _ rfl (by decide)).mono ?_
  rintro e w2 ⟨t, ht, rfl, gx⟩
  replace gx := hid gx
  go_wp2
  go_ret
  exact ⟨t, ht, rfl, gx.out⟩
set_option maxRecDepth 100000 in
set_option maxHeartbeats 6400000 in
theorem expr_zero (k : Int) (hk : k ≤ 0 ∧ -10 ≤ k) : Draws 84 [.int .i64 k] dLeaf := by
  intro w0 w p bv bs s0 hc
  have hcall := hid (leaf_draws w0 w p bv bs s0 hc)
  clear hc
  show Calls Tryz.prog 84 #[.pointer (some ⟨p, 0, none⟩), .int .i64 k] w _
  go_enter Tryz.func84, Tryz.ntmps84
  go_wp2_with fail
  refine hcall.out.mono ?_
  rintro e w9 ⟨v, l, rfl, h⟩
  go_wp2
  go_ret
  exact ⟨v, l, rfl, h⟩
theorem rn_expr0 {nx : DS → Nat × DS} {s0 s1 s2 : DS} {x0 x1 y0 : Nat} (e1 e2 e3 : Draw Nat) (a_q0 : nx s0 = (x0, s1)) (a_hv0 : x0 % 2 = y0) (a_q1 : nx s1 = (x1, s2)) (a_hv1 : x1 % 16 = 0) : Draw.run nx (dStepE e1 e2 e3) s0 = Draw.run nx (dLeaf) s2 := by
  simp [dStepE, Draw.run, Draw.run_bind, skip, a_q0, a_hv0, a_q1, a_hv1]
  try omega
theorem rn_expr1 {nx : DS → Nat × DS} {s0 s1 s2 : DS} {x0 x1 y0 : Nat} (e1 e2 e3 : Draw Nat) (a_q0 : nx s0 = (x0, s1)) (a_hv0 : x0 % 2 = y0) (a_q1 : nx s1 = (x1, s2)) (a_hv1 : x1 % 16 = 1) : Draw.run nx (dStepE e1 e2 e3) s0 = Draw.run nx (dLval e1 e2) s2 := by
  simp [dStepE, Draw.run, Draw.run_bind, skip, a_q0, a_hv0, a_q1, a_hv1]
  try omega
theorem rn_expr2 {nx : DS → Nat × DS} {s0 s1 s2 s3 : DS} {n2 x0 x1 y0 : Nat} (e1 e2 e3 : Draw Nat) (a_q0 : nx s0 = (x0, s1)) (a_hv0 : x0 % 2 = y0) (a_q1 : nx s1 = (x1, s2)) (a_hv1 : x1 % 16 = 2) (a_q2 : Draw.run nx (e1) s2 = (n2, s3)) : Draw.run nx (dStepE e1 e2 e3) s0 = (n2 + 1, s3) := by
  simp [dStepE, Draw.run, Draw.run_bind, skip, a_q0, a_hv0, a_q1, a_hv1, a_q2]
  try omega
theorem rn_expr3 {nx : DS → Nat × DS} {s0 s1 s2 s3 s4 : DS} {n3 x0 x1 x2 y0 : Nat} (e1 e2 e3 : Draw Nat) (a_q0 : nx s0 = (x0, s1)) (a_hv0 : x0 % 2 = y0) (a_q1 : nx s1 = (x1, s2)) (a_hv1 : x1 % 16 = 3) (a_q2 : nx s2 = (x2, s3)) (a_q3 : Draw.run nx (dList (e1) (0) (4)) s3 = (n3, s4)) : Draw.run nx (dStepE e1 e2 e3) s0 = (n3 + 1, s4) := by
  simp [dStepE, Draw.run, Draw.run_bind, skip, a_q0, a_hv0, a_q1, a_hv1, a_q2, a_q3]
  try omega
theorem rn_expr4 {nx : DS → Nat × DS} {s0 s1 s2 s3 s4 : DS} {n3 x0 x1 x2 y0 : Nat} (e1 e2 e3 : Draw Nat) (a_q0 : nx s0 = (x0, s1)) (a_hv0 : x0 % 2 = y0) (a_q1 : nx s1 = (x1, s2)) (a_hv1 : x1 % 16 = 4) (a_q2 : nx s2 = (x2, s3)) (a_q3 : Draw.run nx (dList (e2) (0) (4)) s3 = (n3, s4)) : Draw.run nx (dStepE e1 e2 e3) s0 = (n3 + 1, s4) := by
  simp [dStepE, Draw.run, Draw.run_bind, skip, a_q0, a_hv0, a_q1, a_hv1, a_q2, a_q3]
  try omega
theorem rn_expr5 {nx : DS → Nat × DS} {s0 s1 s2 s3 : DS} {n2 x0 x1 y0 : Nat} (e1 e2 e3 : Draw Nat) (a_q0 : nx s0 = (x0, s1)) (a_hv0 : x0 % 2 = y0) (a_q1 : nx s1 = (x1, s2)) (a_hv1 : x1 % 16 = 5) (a_q2 : Draw.run nx (dLval e2 e3) s2 = (n2, s3)) : Draw.run nx (dStepE e1 e2 e3) s0 = (n2 + 1, s3) := by
  simp [dStepE, Draw.run, Draw.run_bind, skip, a_q0, a_hv0, a_q1, a_hv1, a_q2]
  try omega
theorem rn_expr6 {nx : DS → Nat × DS} {s0 s1 s2 s3 : DS} {n2 x0 x1 y0 : Nat} (e1 e2 e3 : Draw Nat) (a_q0 : nx s0 = (x0, s1)) (a_hv0 : x0 % 2 = y0) (a_q1 : nx s1 = (x1, s2)) (a_hv1 : x1 % 16 = 6) (a_q2 : Draw.run nx (dLval e2 e3) s2 = (n2, s3)) : Draw.run nx (dStepE e1 e2 e3) s0 = (n2 + 1, s3) := by
  simp [dStepE, Draw.run, Draw.run_bind, skip, a_q0, a_hv0, a_q1, a_hv1, a_q2]
  try omega
theorem rn_expr7 {nx : DS → Nat × DS} {s0 s1 s2 s3 s4 : DS} {n3 x0 x1 x2 y0 : Nat} (e1 e2 e3 : Draw Nat) (a_q0 : nx s0 = (x0, s1)) (a_hv0 : x0 % 2 = y0) (a_q1 : nx s1 = (x1, s2)) (a_hv1 : x1 % 16 = 7) (a_q2 : nx s2 = (x2, s3)) (a_q3 : Draw.run nx (e1) s3 = (n3, s4)) : Draw.run nx (dStepE e1 e2 e3) s0 = (n3 + 1, s4) := by
  simp [dStepE, Draw.run, Draw.run_bind, skip, a_q0, a_hv0, a_q1, a_hv1, a_q2, a_q3]
  try omega
theorem rn_expr8 {nx : DS → Nat × DS} {s0 s1 s2 s3 s4 : DS} {n3 x0 x1 x2 y0 : Nat} (e1 e2 e3 : Draw Nat) (a_q0 : nx s0 = (x0, s1)) (a_hv0 : x0 % 2 = y0) (a_q1 : nx s1 = (x1, s2)) (a_hv1 : x1 % 16 = 8) (a_q2 : nx s2 = (x2, s3)) (a_q3 : Draw.run nx (e1) s3 = (n3, s4)) : Draw.run nx (dStepE e1 e2 e3) s0 = (n3 + 1, s4) := by
  simp [dStepE, Draw.run, Draw.run_bind, skip, a_q0, a_hv0, a_q1, a_hv1, a_q2, a_q3]
  try omega
theorem rn_expr9 {nx : DS → Nat × DS} {s0 s1 s2 s3 s4 : DS} {n3 x0 x1 x2 y0 : Nat} (e1 e2 e3 : Draw Nat) (a_q0 : nx s0 = (x0, s1)) (a_hv0 : x0 % 2 = y0) (a_q1 : nx s1 = (x1, s2)) (a_hv1 : x1 % 16 = 9) (a_q2 : nx s2 = (x2, s3)) (a_q3 : Draw.run nx (dList (e1) (1) (2)) s3 = (n3, s4)) : Draw.run nx (dStepE e1 e2 e3) s0 = (n3 + 1, s4) := by
  simp [dStepE, Draw.run, Draw.run_bind, skip, a_q0, a_hv0, a_q1, a_hv1, a_q2, a_q3]
  try omega
theorem rn_expr10 {nx : DS → Nat × DS} {s0 s1 s2 s3 s4 s5 : DS} {n2 n3 n4 x0 x1 y0 : Nat} (e1 e2 e3 : Draw Nat) (a_q0 : nx s0 = (x0, s1)) (a_hv0 : x0 % 2 = y0) (a_q1 : nx s1 = (x1, s2)) (a_hv1 : x1 % 16 = 10) (a_q2 : Draw.run nx (e1) s2 = (n2, s3)) (a_q3 : Draw.run nx (e1) s3 = (n3, s4)) (a_q4 : Draw.run nx (e1) s4 = (n4, s5)) : Draw.run nx (dStepE e1 e2 e3) s0 = (n2 + n3 + n4 + 1, s5) := by
  simp [dStepE, Draw.run, Draw.run_bind, skip, a_q0, a_hv0, a_q1, a_hv1, a_q2, a_q3, a_q4]
  try omega
theorem rn_expr11 {nx : DS → Nat × DS} {s0 s1 s2 s3 s4 s5 : DS} {n3 n4 x0 x1 x2 y0 : Nat} (e1 e2 e3 : Draw Nat) (a_q0 : nx s0 = (x0, s1)) (a_hv0 : x0 % 2 = y0) (a_q1 : nx s1 = (x1, s2)) (a_hv1 : x1 % 16 = 11) (a_q2 : nx s2 = (x2, s3)) (a_q3 : Draw.run nx (dLval e2 e3) s3 = (n3, s4)) (a_q4 : Draw.run nx (e1) s4 = (n4, s5)) : Draw.run nx (dStepE e1 e2 e3) s0 = (n3 + n4 + 1, s5) := by
  simp [dStepE, Draw.run, Draw.run_bind, skip, a_q0, a_hv0, a_q1, a_hv1, a_q2, a_q3, a_q4]
  try omega
theorem rn_expr12 {nx : DS → Nat × DS} {s0 s1 s2 s3 s4 s5 : DS} {n3 n4 x0 x1 x2 y0 : Nat} (e1 e2 e3 : Draw Nat) (a_q0 : nx s0 = (x0, s1)) (a_hv0 : x0 % 2 = y0) (a_q1 : nx s1 = (x1, s2)) (a_hv1 : x1 % 16 = 12) (a_q2 : nx s2 = (x2, s3)) (a_q3 : Draw.run nx (e1) s3 = (n3, s4)) (a_q4 : Draw.run nx (e1) s4 = (n4, s5)) : Draw.run nx (dStepE e1 e2 e3) s0 = (n3 + n4 + 1, s5) := by
  simp [dStepE, Draw.run, Draw.run_bind, skip, a_q0, a_hv0, a_q1, a_hv1, a_q2, a_q3, a_q4]
  try omega
theorem rn_expr13 {nx : DS → Nat × DS} {s0 s1 s2 s3 s4 s5 : DS} {n3 n4 x0 x1 x2 y0 : Nat} (e1 e2 e3 : Draw Nat) (a_q0 : nx s0 = (x0, s1)) (a_hv0 : x0 % 2 = y0) (a_q1 : nx s1 = (x1, s2)) (a_hv1 : x1 % 16 = 13) (a_q2 : nx s2 = (x2, s3)) (a_q3 : Draw.run nx (e1) s3 = (n3, s4)) (a_q4 : Draw.run nx (e1) s4 = (n4, s5)) : Draw.run nx (dStepE e1 e2 e3) s0 = (n3 + n4 + 1, s5) := by
  simp [dStepE, Draw.run, Draw.run_bind, skip, a_q0, a_hv0, a_q1, a_hv1, a_q2, a_q3, a_q4]
  try omega
theorem rn_expr14 {nx : DS → Nat × DS} {s0 s1 s2 s3 s4 s5 : DS} {n3 n4 x0 x1 x2 y0 : Nat} (e1 e2 e3 : Draw Nat) (a_q0 : nx s0 = (x0, s1)) (a_hv0 : x0 % 2 = y0) (a_q1 : nx s1 = (x1, s2)) (a_hv1 : x1 % 16 = 14) (a_q2 : nx s2 = (x2, s3)) (a_q3 : Draw.run nx (e1) s3 = (n3, s4)) (a_q4 : Draw.run nx (e1) s4 = (n4, s5)) : Draw.run nx (dStepE e1 e2 e3) s0 = (n3 + n4 + 1, s5) := by
  simp [dStepE, Draw.run, Draw.run_bind, skip, a_q0, a_hv0, a_q1, a_hv1, a_q2, a_q3, a_q4]
  try omega
theorem rn_expr15 {nx : DS → Nat × DS} {s0 s1 s2 s3 s4 s5 : DS} {n3 n4 x0 x1 x2 y0 : Nat} (e1 e2 e3 : Draw Nat) (a_q0 : nx s0 = (x0, s1)) (a_hv0 : x0 % 2 = y0) (a_q1 : nx s1 = (x1, s2)) (a_hv1 : x1 % 16 = 15) (a_q2 : nx s2 = (x2, s3)) (a_q3 : Draw.run nx (e1) s3 = (n3, s4)) (a_q4 : Draw.run nx (e1) s4 = (n4, s5)) : Draw.run nx (dStepE e1 e2 e3) s0 = (n3 + n4 + 1, s5) := by
  simp [dStepE, Draw.run, Draw.run_bind, skip, a_q0, a_hv0, a_q1, a_hv1, a_q2, a_q3, a_q4]
  try omega
set_option maxRecDepth 100000 in
set_option maxHeartbeats 6400000 in
theorem expr_case0 (k : Int) (hk : 1 ≤ k ∧ k ≤ 6) {e1 e2 e3 : Draw Nat} {m b : Nat} (h1 : Draws 84 [.int .i64 (k - 1)] e1) (h2 : Draws 84 [.int .i64 (k - 2)] e2) (h3 : Draws 84 [.int .i64 (k - 3)] e3) (l1 : e1.Lt m b) (l2 : e2.Lt m b) (l3 : e3.Lt m b) (hm : m ≤ 400) (hlv1 : Draws 112 [.int .i64 k] (dLval e1 e2)) (hlv2 : Draws 112 [.int .i64 (k - 1)] (dLval e2 e3))
    {w0 w : World} {p : Nat} {bv : Value} {bs : List UInt8} {s0 s1 s2 : DS} {x0 x1 : Nat} (hc : CurX w0 w p bv bs s0) (q0 : Hid (dNext bs s0 = (x0, s1))) (q1 : Hid (dNext bs s1 = (x1, s2))) (hv1 : Hid (x1 % 16 = 0)) :
    Calls Tryz.prog 84 #[.pointer (some ⟨p, 0, none⟩), .int .i64 k] w fun e w' => DrawnX w0 w p bv bs (dStepE e1 e2 e3) s0 e w' := by
  have lv2 := lt_lval l2 l3
  have g0 := hid (GX.start hc)
  clear hc
  go_enter Tryz.func84, Tryz.ntmps84
  go_wp2_with fail
  refine (belowY g0.out q0 _ 2 rfl (by omega) (by omega)).mono ?_
  rintro e w1 ⟨rfl, gx⟩
  have g1 := hid gx
  clear gx g0
  have hy0 := Nat.mod_lt x0 (show 0 < 2 by omega)
  generalize hv0 : x0 % 2 = y0 at hy0 ⊢
  replace hv0 := hid hv0
  go_wp2_with fail
  refine (belowY g1.out q1 _ 16 rfl (by omega) (by omega)).mono ?_
  rintro e w2 ⟨rfl, gx⟩
  have g2 := hid gx
  clear gx g1
  rw [hv1.out]
  go_wp2_with fail
  refine (leaf_draws w0 w2 p bv bs s2 g2.out.cur).mono ?_
  rintro e w9 ⟨v, l, rfl, h1, h2, h3, h4, h5⟩
  go_wp2
  go_ret
  have hmod := rn_expr0 (nx := dNext bs) e1 e2 e3 q0.out hv0.out q1.out hv1.out
  exact ⟨v, l, rfl, grown_trans g2.out.gr h1, by rw [hmod]; exact h2, h3.lowX g2.out.gr.size, h4, by rw [hmod]; exact h5⟩
set_option maxRecDepth 100000 in
set_option maxHeartbeats 6400000 in
theorem expr_case1 (k : Int) (hk : 1 ≤ k ∧ k ≤ 6) {e1 e2 e3 : Draw Nat} {m b : Nat} (h1 : Draws 84 [.int .i64 (k - 1)] e1) (h2 : Draws 84 [.int .i64 (k - 2)] e2) (h3 : Draws 84 [.int .i64 (k - 3)] e3) (l1 : e1.Lt m b) (l2 : e2.Lt m b) (l3 : e3.Lt m b) (hm : m ≤ 400) (hlv1 : Draws 112 [.int .i64 k] (dLval e1 e2)) (hlv2 : Draws 112 [.int .i64 (k - 1)] (dLval e2 e3))
    {w0 w : World} {p : Nat} {bv : Value} {bs : List UInt8} {s0 s1 s2 : DS} {x0 x1 : Nat} (hc : CurX w0 w p bv bs s0) (q0 : Hid (dNext bs s0 = (x0, s1))) (q1 : Hid (dNext bs s1 = (x1, s2))) (hv1 : Hid (x1 % 16 = 1)) :
    Calls Tryz.prog 84 #[.pointer (some ⟨p, 0, none⟩), .int .i64 k] w fun e w' => DrawnX w0 w p bv bs (dStepE e1 e2 e3) s0 e w' := by
  have lv2 := lt_lval l2 l3
  have g0 := hid (GX.start hc)
  clear hc
  go_enter Tryz.func84, Tryz.ntmps84
  go_wp2_with fail
  refine (belowY g0.out q0 _ 2 rfl (by omega) (by omega)).mono ?_
  rintro e w1 ⟨rfl, gx⟩
  have g1 := hid gx
  clear gx g0
  have hy0 := Nat.mod_lt x0 (show 0 < 2 by omega)
  generalize hv0 : x0 % 2 = y0 at hy0 ⊢
  replace hv0 := hid hv0
  go_wp2_with fail
  refine (belowY g1.out q1 _ 16 rfl (by omega) (by omega)).mono ?_
  rintro e w2 ⟨rfl, gx⟩
  have g2 := hid gx
  clear gx g1
  rw [hv1.out]
  go_wp2_with fail
  refine (hlv1 w0 w2 p bv bs s2 g2.out.cur).mono ?_
  rintro e w9 ⟨v, l, rfl, h1, h2, h3, h4, h5⟩
  go_wp2
  go_ret
  have hmod := rn_expr1 (nx := dNext bs) e1 e2 e3 q0.out hv0.out q1.out hv1.out
  exact ⟨v, l, rfl, grown_trans g2.out.gr h1, by rw [hmod]; exact h2, h3.lowX g2.out.gr.size, h4, by rw [hmod]; exact h5⟩
set_option maxRecDepth 100000 in
set_option maxHeartbeats 6400000 in
theorem expr_case2 (k : Int) (hk : 1 ≤ k ∧ k ≤ 6) {e1 e2 e3 : Draw Nat} {m b : Nat} (h1 : Draws 84 [.int .i64 (k - 1)] e1) (h2 : Draws 84 [.int .i64 (k - 2)] e2) (h3 : Draws 84 [.int .i64 (k - 3)] e3) (l1 : e1.Lt m b) (l2 : e2.Lt m b) (l3 : e3.Lt m b) (hm : m ≤ 400) (hlv1 : Draws 112 [.int .i64 k] (dLval e1 e2)) (hlv2 : Draws 112 [.int .i64 (k - 1)] (dLval e2 e3))
    {w0 w : World} {p : Nat} {bv : Value} {bs : List UInt8} {s0 s1 s2 : DS} {x0 x1 : Nat} (hc : CurX w0 w p bv bs s0) (q0 : Hid (dNext bs s0 = (x0, s1))) (q1 : Hid (dNext bs s1 = (x1, s2))) (hv1 : Hid (x1 % 16 = 2)) :
    Calls Tryz.prog 84 #[.pointer (some ⟨p, 0, none⟩), .int .i64 k] w fun e w' => DrawnX w0 w p bv bs (dStepE e1 e2 e3) s0 e w' := by
  have lv2 := lt_lval l2 l3
  have g0 := hid (GX.start hc)
  clear hc
  go_enter Tryz.func84, Tryz.ntmps84
  go_wp2_with fail
  refine (belowY g0.out q0 _ 2 rfl (by omega) (by omega)).mono ?_
  rintro e w1 ⟨rfl, gx⟩
  have g1 := hid gx
  clear gx g0
  have hy0 := Nat.mod_lt x0 (show 0 < 2 by omega)
  generalize hv0 : x0 % 2 = y0 at hy0 ⊢
  replace hv0 := hid hv0
  go_wp2_with fail
  refine (belowY g1.out q1 _ 16 rfl (by omega) (by omega)).mono ?_
  rintro e w2 ⟨rfl, gx⟩
  have g2 := hid gx
  clear gx g1
  rw [hv1.out]
  obtain ⟨n2, s3, q2⟩ : ∃ n s', Hid (Draw.run (dNext bs) (e1) s2 = (n, s')) := ⟨_, _, hid rfl⟩
  go_wp2_with fail
  refine (drawY h1 g2.out q2 l1 (by omega)).mono ?_
  rintro e w3 ⟨a2, b2, c2, l2, rfl, gx, hl2⟩
  have g3 := hid gx
  clear gx g2
  go_wp2_with fail
  refine (make_any (g3.out.lit #[.slice a2 b2 c2] rfl 1 rfl (by omega)) (by simp) ⟨_, _, _, _, []⟩ ⟨⟨by first | assumption | (show 0 ≤ 16; omega), by first | assumption | (show 0 ≤ 16; omega)⟩, by first | (simp; done) | (simp; omega), by first | (simp; done) | (simp; omega)⟩).mono ?_
  rintro e w9 ⟨v, l, rfl, h1, h2, h3, h4, h5⟩
  go_wp2
  go_ret
  have hmod := rn_expr2 (nx := dNext bs) e1 e2 e3 q0.out hv0.out q1.out hv1.out q2.out
  exact ⟨v, l, rfl, h1, by rw [hmod]; exact h2, h3, h4, by rw [hmod, h5]; simp [hl2]; try omega⟩
set_option maxRecDepth 100000 in
set_option maxHeartbeats 6400000 in
theorem expr_case3 (k : Int) (hk : 1 ≤ k ∧ k ≤ 6) {e1 e2 e3 : Draw Nat} {m b : Nat} (h1 : Draws 84 [.int .i64 (k - 1)] e1) (h2 : Draws 84 [.int .i64 (k - 2)] e2) (h3 : Draws 84 [.int .i64 (k - 3)] e3) (l1 : e1.Lt m b) (l2 : e2.Lt m b) (l3 : e3.Lt m b) (hm : m ≤ 400) (hlv1 : Draws 112 [.int .i64 k] (dLval e1 e2)) (hlv2 : Draws 112 [.int .i64 (k - 1)] (dLval e2 e3))
    {w0 w : World} {p : Nat} {bv : Value} {bs : List UInt8} {s0 s1 s2 : DS} {x0 x1 : Nat} (hc : CurX w0 w p bv bs s0) (q0 : Hid (dNext bs s0 = (x0, s1))) (q1 : Hid (dNext bs s1 = (x1, s2))) (hv1 : Hid (x1 % 16 = 3)) :
    Calls Tryz.prog 84 #[.pointer (some ⟨p, 0, none⟩), .int .i64 k] w fun e w' => DrawnX w0 w p bv bs (dStepE e1 e2 e3) s0 e w' := by
  have lv2 := lt_lval l2 l3
  have g0 := hid (GX.start hc)
  clear hc
  go_enter Tryz.func84, Tryz.ntmps84
  go_wp2_with fail
  refine (belowY g0.out q0 _ 2 rfl (by omega) (by omega)).mono ?_
  rintro e w1 ⟨rfl, gx⟩
  have g1 := hid gx
  clear gx g0
  have hy0 := Nat.mod_lt x0 (show 0 < 2 by omega)
  generalize hv0 : x0 % 2 = y0 at hy0 ⊢
  replace hv0 := hid hv0
  go_wp2_with fail
  refine (belowY g1.out q1 _ 16 rfl (by omega) (by omega)).mono ?_
  rintro e w2 ⟨rfl, gx⟩
  have g2 := hid gx
  clear gx g1
  rw [hv1.out]
  obtain ⟨x2, s3, q2⟩ := ex_next bs s2
  go_wp2_with fail
  refine (wordY g2.out q2).mono ?_
  rintro e w3 ⟨t2, ht2, rfl, gx⟩
  have g3 := hid gx
  clear gx g2
  obtain ⟨n3, s4, q3⟩ : ∃ n s', Hid (Draw.run (dNext bs) (dList (e1) (0) (4)) s3 = (n, s')) := ⟨_, _, hid rfl⟩
  go_wp2_with fail
  refine (list_parts (k - 1) (by omega) h1 l1 (by omega) 0 4 0 3 (hid rfl) (hid rfl) (by omega) (by omega) (by omega) (by omega) g3.out.cur q3).mono ?_
  rintro e w4 ⟨a3, b3, c3, ps3, rfl, px3, hb3, hlp3, hsum3⟩
  replace px3 := hid px3
  replace hb3 := hid hb3
  go_wp2_with fail
  refine (make_any px3.out (by omega) ⟨_, _, _, _, []⟩ ⟨⟨by first | assumption | (show 0 ≤ 16; omega), by first | assumption | (show 0 ≤ 16; omega)⟩, by first | (simp; done) | (simp; omega), by first | (simp; done) | (simp; omega)⟩).mono ?_
  rintro e w9 ⟨v, l, rfl, h1, h2, h3, h4, h5⟩
  go_wp2
  go_ret
  have hmod := rn_expr3 (nx := dNext bs) e1 e2 e3 q0.out hv0.out q1.out hv1.out q2.out q3.out
  exact ⟨v, l, rfl, grown_trans g3.out.gr h1, by rw [hmod]; exact h2, h3.lowX g3.out.gr.size, h4, by rw [hmod, h5, hsum3]; try omega⟩
set_option maxRecDepth 100000 in
set_option maxHeartbeats 6400000 in
theorem expr_case4 (k : Int) (hk : 1 ≤ k ∧ k ≤ 6) {e1 e2 e3 : Draw Nat} {m b : Nat} (h1 : Draws 84 [.int .i64 (k - 1)] e1) (h2 : Draws 84 [.int .i64 (k - 2)] e2) (h3 : Draws 84 [.int .i64 (k - 3)] e3) (l1 : e1.Lt m b) (l2 : e2.Lt m b) (l3 : e3.Lt m b) (hm : m ≤ 400) (hlv1 : Draws 112 [.int .i64 k] (dLval e1 e2)) (hlv2 : Draws 112 [.int .i64 (k - 1)] (dLval e2 e3))
    {w0 w : World} {p : Nat} {bv : Value} {bs : List UInt8} {s0 s1 s2 : DS} {x0 x1 : Nat} (hc : CurX w0 w p bv bs s0) (q0 : Hid (dNext bs s0 = (x0, s1))) (q1 : Hid (dNext bs s1 = (x1, s2))) (hv1 : Hid (x1 % 16 = 4)) :
    Calls Tryz.prog 84 #[.pointer (some ⟨p, 0, none⟩), .int .i64 k] w fun e w' => DrawnX w0 w p bv bs (dStepE e1 e2 e3) s0 e w' := by
  have lv2 := lt_lval l2 l3
  have g0 := hid (GX.start hc)
  clear hc
  go_enter Tryz.func84, Tryz.ntmps84
  go_wp2_with fail
  refine (belowY g0.out q0 _ 2 rfl (by omega) (by omega)).mono ?_
  rintro e w1 ⟨rfl, gx⟩
  have g1 := hid gx
  clear gx g0
  have hy0 := Nat.mod_lt x0 (show 0 < 2 by omega)
  generalize hv0 : x0 % 2 = y0 at hy0 ⊢
  replace hv0 := hid hv0
  go_wp2_with fail
  refine (belowY g1.out q1 _ 16 rfl (by omega) (by omega)).mono ?_
  rintro e w2 ⟨rfl, gx⟩
  have g2 := hid gx
  clear gx g1
  rw [hv1.out]
  obtain ⟨x2, s3, q2⟩ := ex_next bs s2
  go_wp2_with fail
  refine (pickY g2.out q2 blts7 5 rfl (by decide) (by decide) _ _ rfl (by decide)).mono ?_
  rintro e w3 ⟨t2, ht2, rfl, gx⟩
  have g3 := hid gx
  clear gx g2
  obtain ⟨n3, s4, q3⟩ : ∃ n s', Hid (Draw.run (dNext bs) (dList (e2) (0) (4)) s3 = (n, s')) := ⟨_, _, hid rfl⟩
  go_wp2_with fail
  refine (list_parts (k - 2) (by omega) h2 l2 (by omega) 0 4 0 3 (hid rfl) (hid rfl) (by omega) (by omega) (by omega) (by omega) g3.out.cur q3).mono ?_
  rintro e w4 ⟨a3, b3, c3, ps3, rfl, px3, hb3, hlp3, hsum3⟩
  replace px3 := hid px3
  replace hb3 := hid hb3
  go_wp2_with fail
  refine (make_any px3.out (by omega) ⟨_, _, _, _, []⟩ ⟨⟨by first | assumption | (show 0 ≤ 16; omega), by first | assumption | (show 0 ≤ 16; omega)⟩, by first | (simp; done) | (simp; omega), by first | (simp; done) | (simp; omega)⟩).mono ?_
  rintro e w9 ⟨v, l, rfl, h1, h2, h3, h4, h5⟩
  go_wp2
  go_ret
  have hmod := rn_expr4 (nx := dNext bs) e1 e2 e3 q0.out hv0.out q1.out hv1.out q2.out q3.out
  exact ⟨v, l, rfl, grown_trans g3.out.gr h1, by rw [hmod]; exact h2, h3.lowX g3.out.gr.size, h4, by rw [hmod, h5, hsum3]; try omega⟩
set_option maxRecDepth 100000 in
set_option maxHeartbeats 6400000 in
theorem expr_case5 (k : Int) (hk : 1 ≤ k ∧ k ≤ 6) {e1 e2 e3 : Draw Nat} {m b : Nat} (h1 : Draws 84 [.int .i64 (k - 1)] e1) (h2 : Draws 84 [.int .i64 (k - 2)] e2) (h3 : Draws 84 [.int .i64 (k - 3)] e3) (l1 : e1.Lt m b) (l2 : e2.Lt m b) (l3 : e3.Lt m b) (hm : m ≤ 400) (hlv1 : Draws 112 [.int .i64 k] (dLval e1 e2)) (hlv2 : Draws 112 [.int .i64 (k - 1)] (dLval e2 e3))
    {w0 w : World} {p : Nat} {bv : Value} {bs : List UInt8} {s0 s1 s2 : DS} {x0 x1 : Nat} (hc : CurX w0 w p bv bs s0) (q0 : Hid (dNext bs s0 = (x0, s1))) (q1 : Hid (dNext bs s1 = (x1, s2))) (hv1 : Hid (x1 % 16 = 5)) :
    Calls Tryz.prog 84 #[.pointer (some ⟨p, 0, none⟩), .int .i64 k] w fun e w' => DrawnX w0 w p bv bs (dStepE e1 e2 e3) s0 e w' := by
  have lv2 := lt_lval l2 l3
  have g0 := hid (GX.start hc)
  clear hc
  go_enter Tryz.func84, Tryz.ntmps84
  go_wp2_with fail
  refine (belowY g0.out q0 _ 2 rfl (by omega) (by omega)).mono ?_
  rintro e w1 ⟨rfl, gx⟩
  have g1 := hid gx
  clear gx g0
  have hy0 := Nat.mod_lt x0 (show 0 < 2 by omega)
  generalize hv0 : x0 % 2 = y0 at hy0 ⊢
  replace hv0 := hid hv0
  go_wp2_with fail
  refine (belowY g1.out q1 _ 16 rfl (by omega) (by omega)).mono ?_
  rintro e w2 ⟨rfl, gx⟩
  have g2 := hid gx
  clear gx g1
  rw [hv1.out]
  obtain ⟨n2, s3, q2⟩ : ∃ n s', Hid (Draw.run (dNext bs) (dLval e2 e3) s2 = (n, s')) := ⟨_, _, hid rfl⟩
  go_wp2_with fail
  refine (drawY hlv2 g2.out q2 lv2 (by omega)).mono ?_
  rintro e w3 ⟨a2, b2, c2, l2, rfl, gx, hl2⟩
  have g3 := hid gx
  clear gx g2
  go_wp2_with fail
  refine (make_any (g3.out.lit #[.slice a2 b2 c2] rfl 1 rfl (by omega)) (by simp) ⟨_, _, _, _, []⟩ ⟨⟨by first | assumption | (show 0 ≤ 16; omega), by first | assumption | (show 0 ≤ 16; omega)⟩, by first | (simp; done) | (simp; omega), by first | (simp; done) | (simp; omega)⟩).mono ?_
  rintro e w9 ⟨v, l, rfl, h1, h2, h3, h4, h5⟩
  go_wp2
  go_ret
  have hmod := rn_expr5 (nx := dNext bs) e1 e2 e3 q0.out hv0.out q1.out hv1.out q2.out
  exact ⟨v, l, rfl, h1, by rw [hmod]; exact h2, h3, h4, by rw [hmod, h5]; simp [hl2]; try omega⟩
set_option maxRecDepth 100000 in
set_option maxHeartbeats 6400000 in
theorem expr_case6 (k : Int) (hk : 1 ≤ k ∧ k ≤ 6) {e1 e2 e3 : Draw Nat} {m b : Nat} (h1 : Draws 84 [.int .i64 (k - 1)] e1) (h2 : Draws 84 [.int .i64 (k - 2)] e2) (h3 : Draws 84 [.int .i64 (k - 3)] e3) (l1 : e1.Lt m b) (l2 : e2.Lt m b) (l3 : e3.Lt m b) (hm : m ≤ 400) (hlv1 : Draws 112 [.int .i64 k] (dLval e1 e2)) (hlv2 : Draws 112 [.int .i64 (k - 1)] (dLval e2 e3))
    {w0 w : World} {p : Nat} {bv : Value} {bs : List UInt8} {s0 s1 s2 : DS} {x0 x1 : Nat} (hc : CurX w0 w p bv bs s0) (q0 : Hid (dNext bs s0 = (x0, s1))) (q1 : Hid (dNext bs s1 = (x1, s2))) (hv1 : Hid (x1 % 16 = 6)) :
    Calls Tryz.prog 84 #[.pointer (some ⟨p, 0, none⟩), .int .i64 k] w fun e w' => DrawnX w0 w p bv bs (dStepE e1 e2 e3) s0 e w' := by
  have lv2 := lt_lval l2 l3
  have g0 := hid (GX.start hc)
  clear hc
  go_enter Tryz.func84, Tryz.ntmps84
  go_wp2_with fail
  refine (belowY g0.out q0 _ 2 rfl (by omega) (by omega)).mono ?_
  rintro e w1 ⟨rfl, gx⟩
  have g1 := hid gx
  clear gx g0
  have hy0 := Nat.mod_lt x0 (show 0 < 2 by omega)
  generalize hv0 : x0 % 2 = y0 at hy0 ⊢
  replace hv0 := hid hv0
  go_wp2_with fail
  refine (belowY g1.out q1 _ 16 rfl (by omega) (by omega)).mono ?_
  rintro e w2 ⟨rfl, gx⟩
  have g2 := hid gx
  clear gx g1
  rw [hv1.out]
  obtain ⟨n2, s3, q2⟩ : ∃ n s', Hid (Draw.run (dNext bs) (dLval e2 e3) s2 = (n, s')) := ⟨_, _, hid rfl⟩
  go_wp2_with fail
  refine (drawY hlv2 g2.out q2 lv2 (by omega)).mono ?_
  rintro e w3 ⟨a2, b2, c2, l2, rfl, gx, hl2⟩
  have g3 := hid gx
  clear gx g2
  go_wp2_with fail
  refine (make_any (g3.out.lit #[.slice a2 b2 c2] rfl 1 rfl (by omega)) (by simp) ⟨_, _, _, _, []⟩ ⟨⟨by first | assumption | (show 0 ≤ 16; omega), by first | assumption | (show 0 ≤ 16; omega)⟩, by first | (simp; done) | (simp; omega), by first | (simp; done) | (simp; omega)⟩).mono ?_
  rintro e w9 ⟨v, l, rfl, h1, h2, h3, h4, h5⟩
  go_wp2
  go_ret
  have hmod := rn_expr6 (nx := dNext bs) e1 e2 e3 q0.out hv0.out q1.out hv1.out q2.out
  exact ⟨v, l, rfl, h1, by rw [hmod]; exact h2, h3, h4, by rw [hmod, h5]; simp [hl2]; try omega⟩
set_option maxRecDepth 100000 in
set_option maxHeartbeats 6400000 in
theorem expr_case7 (k : Int) (hk : 1 ≤ k ∧ k ≤ 6) {e1 e2 e3 : Draw Nat} {m b : Nat} (h1 : Draws 84 [.int .i64 (k - 1)] e1) (h2 : Draws 84 [.int .i64 (k - 2)] e2) (h3 : Draws 84 [.int .i64 (k - 3)] e3) (l1 : e1.Lt m b) (l2 : e2.Lt m b) (l3 : e3.Lt m b) (hm : m ≤ 400) (hlv1 : Draws 112 [.int .i64 k] (dLval e1 e2)) (hlv2 : Draws 112 [.int .i64 (k - 1)] (dLval e2 e3))
    {w0 w : World} {p : Nat} {bv : Value} {bs : List UInt8} {s0 s1 s2 : DS} {x0 x1 : Nat} (hc : CurX w0 w p bv bs s0) (q0 : Hid (dNext bs s0 = (x0, s1))) (q1 : Hid (dNext bs s1 = (x1, s2))) (hv1 : Hid (x1 % 16 = 7)) :
    Calls Tryz.prog 84 #[.pointer (some ⟨p, 0, none⟩), .int .i64 k] w fun e w' => DrawnX w0 w p bv bs (dStepE e1 e2 e3) s0 e w' := by
  have lv2 := lt_lval l2 l3
  have g0 := hid (GX.start hc)
  clear hc
  go_enter Tryz.func84, Tryz.ntmps84
  go_wp2_with fail
  refine (belowY g0.out q0 _ 2 rfl (by omega) (by omega)).mono ?_
  rintro e w1 ⟨rfl, gx⟩
  have g1 := hid gx
  clear gx g0
  have hy0 := Nat.mod_lt x0 (show 0 < 2 by omega)
  generalize hv0 : x0 % 2 = y0 at hy0 ⊢
  replace hv0 := hid hv0
  go_wp2_with fail
  refine (belowY g1.out q1 _ 16 rfl (by omega) (by omega)).mono ?_
  rintro e w2 ⟨rfl, gx⟩
  have g2 := hid gx
  clear gx g1
  rw [hv1.out]
  obtain ⟨x2, s3, q2⟩ := ex_next bs s2
  go_wp2_with fail
  refine (pickIntY g2.out q2 uns7 3 rfl (by decide) (by decide) _ _ rfl (by decide)).mono ?_
  rintro e w3 ⟨t2, ht2, rfl, gx⟩
  have g3 := hid gx
  clear gx g2
  obtain ⟨n3, s4, q3⟩ : ∃ n s', Hid (Draw.run (dNext bs) (e1) s3 = (n, s')) := ⟨_, _, hid rfl⟩
  go_wp2_with fail
  refine (drawY h1 g3.out q3 l1 (by omega)).mono ?_
  rintro e w4 ⟨a3, b3, c3, l3, rfl, gx, hl3⟩
  have g4 := hid gx
  clear gx g3
  go_wp2_with fail
  refine (make_any (g4.out.lit #[.slice a3 b3 c3] rfl 1 rfl (by omega)) (by simp) ⟨_, _, _, _, []⟩ ⟨⟨by first | assumption | (show 0 ≤ 16; omega), by first | assumption | (show 0 ≤ 16; omega)⟩, by first | (simp; done) | (simp; omega), by first | (simp; done) | (simp; omega)⟩).mono ?_
  rintro e w9 ⟨v, l, rfl, h1, h2, h3, h4, h5⟩
  go_wp2
  go_ret
  have hmod := rn_expr7 (nx := dNext bs) e1 e2 e3 q0.out hv0.out q1.out hv1.out q2.out q3.out
  exact ⟨v, l, rfl, h1, by rw [hmod]; exact h2, h3, h4, by rw [hmod, h5]; simp [hl3]; try omega⟩
set_option maxRecDepth 100000 in
set_option maxHeartbeats 6400000 in
theorem expr_case8 (k : Int) (hk : 1 ≤ k ∧ k ≤ 6) {e1 e2 e3 : Draw Nat} {m b : Nat} (h1 : Draws 84 [.int .i64 (k - 1)] e1) (h2 : Draws 84 [.int .i64 (k - 2)] e2) (h3 : Draws 84 [.int .i64 (k - 3)] e3) (l1 : e1.Lt m b) (l2 : e2.Lt m b) (l3 : e3.Lt m b) (hm : m ≤ 400) (hlv1 : Draws 112 [.int .i64 k] (dLval e1 e2)) (hlv2 : Draws 112 [.int .i64 (k - 1)] (dLval e2 e3))
    {w0 w : World} {p : Nat} {bv : Value} {bs : List UInt8} {s0 s1 s2 : DS} {x0 x1 : Nat} (hc : CurX w0 w p bv bs s0) (q0 : Hid (dNext bs s0 = (x0, s1))) (q1 : Hid (dNext bs s1 = (x1, s2))) (hv1 : Hid (x1 % 16 = 8)) :
    Calls Tryz.prog 84 #[.pointer (some ⟨p, 0, none⟩), .int .i64 k] w fun e w' => DrawnX w0 w p bv bs (dStepE e1 e2 e3) s0 e w' := by
  have lv2 := lt_lval l2 l3
  have g0 := hid (GX.start hc)
  clear hc
  go_enter Tryz.func84, Tryz.ntmps84
  go_wp2_with fail
  refine (belowY g0.out q0 _ 2 rfl (by omega) (by omega)).mono ?_
  rintro e w1 ⟨rfl, gx⟩
  have g1 := hid gx
  clear gx g0
  have hy0 := Nat.mod_lt x0 (show 0 < 2 by omega)
  generalize hv0 : x0 % 2 = y0 at hy0 ⊢
  replace hv0 := hid hv0
  go_wp2_with fail
  refine (belowY g1.out q1 _ 16 rfl (by omega) (by omega)).mono ?_
  rintro e w2 ⟨rfl, gx⟩
  have g2 := hid gx
  clear gx g1
  rw [hv1.out]
  obtain ⟨x2, s3, q2⟩ := ex_next bs s2
  go_wp2_with fail
  refine (pickIntY g2.out q2 uns7 3 rfl (by decide) (by decide) _ _ rfl (by decide)).mono ?_
  rintro e w3 ⟨t2, ht2, rfl, gx⟩
  have g3 := hid gx
  clear gx g2
  obtain ⟨n3, s4, q3⟩ : ∃ n s', Hid (Draw.run (dNext bs) (e1) s3 = (n, s')) := ⟨_, _, hid rfl⟩
  go_wp2_with fail
  refine (drawY h1 g3.out q3 l1 (by omega)).mono ?_
  rintro e w4 ⟨a3, b3, c3, l3, rfl, gx, hl3⟩
  have g4 := hid gx
  clear gx g3
  go_wp2_with fail
  refine (make_any (g4.out.lit #[.slice a3 b3 c3] rfl 1 rfl (by omega)) (by simp) ⟨_, _, _, _, []⟩ ⟨⟨by first | assumption | (show 0 ≤ 16; omega), by first | assumption | (show 0 ≤ 16; omega)⟩, by first | (simp; done) | (simp; omega), by first | (simp; done) | (simp; omega)⟩).mono ?_
  rintro e w9 ⟨v, l, rfl, h1, h2, h3, h4, h5⟩
  go_wp2
  go_ret
  have hmod := rn_expr8 (nx := dNext bs) e1 e2 e3 q0.out hv0.out q1.out hv1.out q2.out q3.out
  exact ⟨v, l, rfl, h1, by rw [hmod]; exact h2, h3, h4, by rw [hmod, h5]; simp [hl3]; try omega⟩
set_option maxRecDepth 100000 in
set_option maxHeartbeats 6400000 in
theorem expr_case9 (k : Int) (hk : 1 ≤ k ∧ k ≤ 6) {e1 e2 e3 : Draw Nat} {m b : Nat} (h1 : Draws 84 [.int .i64 (k - 1)] e1) (h2 : Draws 84 [.int .i64 (k - 2)] e2) (h3 : Draws 84 [.int .i64 (k - 3)] e3) (l1 : e1.Lt m b) (l2 : e2.Lt m b) (l3 : e3.Lt m b) (hm : m ≤ 400) (hlv1 : Draws 112 [.int .i64 k] (dLval e1 e2)) (hlv2 : Draws 112 [.int .i64 (k - 1)] (dLval e2 e3))
    {w0 w : World} {p : Nat} {bv : Value} {bs : List UInt8} {s0 s1 s2 : DS} {x0 x1 : Nat} (hc : CurX w0 w p bv bs s0) (q0 : Hid (dNext bs s0 = (x0, s1))) (q1 : Hid (dNext bs s1 = (x1, s2))) (hv1 : Hid (x1 % 16 = 9)) :
    Calls Tryz.prog 84 #[.pointer (some ⟨p, 0, none⟩), .int .i64 k] w fun e w' => DrawnX w0 w p bv bs (dStepE e1 e2 e3) s0 e w' := by
  have lv2 := lt_lval l2 l3
  have g0 := hid (GX.start hc)
  clear hc
  go_enter Tryz.func84, Tryz.ntmps84
  go_wp2_with fail
  refine (belowY g0.out q0 _ 2 rfl (by omega) (by omega)).mono ?_
  rintro e w1 ⟨rfl, gx⟩
  have g1 := hid gx
  clear gx g0
  have hy0 := Nat.mod_lt x0 (show 0 < 2 by omega)
  generalize hv0 : x0 % 2 = y0 at hy0 ⊢
  replace hv0 := hid hv0
  go_wp2_with fail
  refine (belowY g1.out q1 _ 16 rfl (by omega) (by omega)).mono ?_
  rintro e w2 ⟨rfl, gx⟩
  have g2 := hid gx
  clear gx g1
  rw [hv1.out]
  obtain ⟨x2, s3, q2⟩ := ex_next bs s2
  go_wp2_with fail
  refine (wordY g2.out q2).mono ?_
  rintro e w3 ⟨t2, ht2, rfl, gx⟩
  have g3 := hid gx
  clear gx g2
  obtain ⟨n3, s4, q3⟩ : ∃ n s', Hid (Draw.run (dNext bs) (dList (e1) (1) (2)) s3 = (n, s')) := ⟨_, _, hid rfl⟩
  go_wp2_with fail
  refine (list_parts (k - 1) (by omega) h1 l1 (by omega) 1 2 1 2 (hid rfl) (hid rfl) (by omega) (by omega) (by omega) (by omega) g3.out.cur q3).mono ?_
  rintro e w4 ⟨a3, b3, c3, ps3, rfl, px3, hb3, hlp3, hsum3⟩
  replace px3 := hid px3
  replace hb3 := hid hb3
  go_wp2_with fail
  refine (make_any px3.out (by omega) ⟨_, _, _, _, []⟩ ⟨⟨by first | assumption | (show 0 ≤ 16; omega), by first | assumption | (show 0 ≤ 16; omega)⟩, by first | (simp; done) | (simp; omega), by first | (simp; done) | (simp; omega)⟩).mono ?_
  rintro e w9 ⟨v, l, rfl, h1, h2, h3, h4, h5⟩
  go_wp2
  go_ret
  have hmod := rn_expr9 (nx := dNext bs) e1 e2 e3 q0.out hv0.out q1.out hv1.out q2.out q3.out
  exact ⟨v, l, rfl, grown_trans g3.out.gr h1, by rw [hmod]; exact h2, h3.lowX g3.out.gr.size, h4, by rw [hmod, h5, hsum3]; try omega⟩
set_option maxRecDepth 100000 in
set_option maxHeartbeats 6400000 in
theorem expr_case10 (k : Int) (hk : 1 ≤ k ∧ k ≤ 6) {e1 e2 e3 : Draw Nat} {m b : Nat} (h1 : Draws 84 [.int .i64 (k - 1)] e1) (h2 : Draws 84 [.int .i64 (k - 2)] e2) (h3 : Draws 84 [.int .i64 (k - 3)] e3) (l1 : e1.Lt m b) (l2 : e2.Lt m b) (l3 : e3.Lt m b) (hm : m ≤ 400) (hlv1 : Draws 112 [.int .i64 k] (dLval e1 e2)) (hlv2 : Draws 112 [.int .i64 (k - 1)] (dLval e2 e3))
    {w0 w : World} {p : Nat} {bv : Value} {bs : List UInt8} {s0 s1 s2 : DS} {x0 x1 : Nat} (hc : CurX w0 w p bv bs s0) (q0 : Hid (dNext bs s0 = (x0, s1))) (q1 : Hid (dNext bs s1 = (x1, s2))) (hv1 : Hid (x1 % 16 = 10)) :
    Calls Tryz.prog 84 #[.pointer (some ⟨p, 0, none⟩), .int .i64 k] w fun e w' => DrawnX w0 w p bv bs (dStepE e1 e2 e3) s0 e w' := by
  have lv2 := lt_lval l2 l3
  have g0 := hid (GX.start hc)
  clear hc
  go_enter Tryz.func84, Tryz.ntmps84
  go_wp2_with fail
  refine (belowY g0.out q0 _ 2 rfl (by omega) (by omega)).mono ?_
  rintro e w1 ⟨rfl, gx⟩
  have g1 := hid gx
  clear gx g0
  have hy0 := Nat.mod_lt x0 (show 0 < 2 by omega)
  generalize hv0 : x0 % 2 = y0 at hy0 ⊢
  replace hv0 := hid hv0
  go_wp2_with fail
  refine (belowY g1.out q1 _ 16 rfl (by omega) (by omega)).mono ?_
  rintro e w2 ⟨rfl, gx⟩
  have g2 := hid gx
  clear gx g1
  rw [hv1.out]
  obtain ⟨n2, s3, q2⟩ : ∃ n s', Hid (Draw.run (dNext bs) (e1) s2 = (n, s')) := ⟨_, _, hid rfl⟩
  go_wp2_with fail
  refine (drawY h1 g2.out q2 l1 (by omega)).mono ?_
  rintro e w3 ⟨a2, b2, c2, l2, rfl, gx, hl2⟩
  have g3 := hid gx
  clear gx g2
  obtain ⟨n3, s4, q3⟩ : ∃ n s', Hid (Draw.run (dNext bs) (e1) s3 = (n, s')) := ⟨_, _, hid rfl⟩
  go_wp2_with fail
  refine (drawY h1 g3.out q3 l1 (by omega)).mono ?_
  rintro e w4 ⟨a3, b3, c3, l3, rfl, gx, hl3⟩
  have g4 := hid gx
  clear gx g3
  obtain ⟨n4, s5, q4⟩ : ∃ n s', Hid (Draw.run (dNext bs) (e1) s4 = (n, s')) := ⟨_, _, hid rfl⟩
  go_wp2_with fail
  refine (drawY h1 g4.out q4 l1 (by omega)).mono ?_
  rintro e w5 ⟨a4, b4, c4, l4, rfl, gx, hl4⟩
  have g5 := hid gx
  clear gx g4
  go_wp2_with fail
  refine (make_any (g5.out.lit #[.slice a2 b2 c2, .slice a3 b3 c3, .slice a4 b4 c4] rfl 3 rfl (by omega)) (by simp) ⟨_, _, _, _, []⟩ ⟨⟨by first | assumption | (show 0 ≤ 16; omega), by first | assumption | (show 0 ≤ 16; omega)⟩, by first | (simp; done) | (simp; omega), by first | (simp; done) | (simp; omega)⟩).mono ?_
  rintro e w9 ⟨v, l, rfl, h1, h2, h3, h4, h5⟩
  go_wp2
  go_ret
  have hmod := rn_expr10 (nx := dNext bs) e1 e2 e3 q0.out hv0.out q1.out hv1.out q2.out q3.out q4.out
  exact ⟨v, l, rfl, h1, by rw [hmod]; exact h2, h3, h4, by rw [hmod, h5]; simp [hl2, hl3, hl4]; try omega⟩
set_option maxRecDepth 100000 in
set_option maxHeartbeats 6400000 in
theorem expr_case11 (k : Int) (hk : 1 ≤ k ∧ k ≤ 6) {e1 e2 e3 : Draw Nat} {m b : Nat} (h1 : Draws 84 [.int .i64 (k - 1)] e1) (h2 : Draws 84 [.int .i64 (k - 2)] e2) (h3 : Draws 84 [.int .i64 (k - 3)] e3) (l1 : e1.Lt m b) (l2 : e2.Lt m b) (l3 : e3.Lt m b) (hm : m ≤ 400) (hlv1 : Draws 112 [.int .i64 k] (dLval e1 e2)) (hlv2 : Draws 112 [.int .i64 (k - 1)] (dLval e2 e3))
    {w0 w : World} {p : Nat} {bv : Value} {bs : List UInt8} {s0 s1 s2 : DS} {x0 x1 : Nat} (hc : CurX w0 w p bv bs s0) (q0 : Hid (dNext bs s0 = (x0, s1))) (q1 : Hid (dNext bs s1 = (x1, s2))) (hv1 : Hid (x1 % 16 = 11)) :
    Calls Tryz.prog 84 #[.pointer (some ⟨p, 0, none⟩), .int .i64 k] w fun e w' => DrawnX w0 w p bv bs (dStepE e1 e2 e3) s0 e w' := by
  have lv2 := lt_lval l2 l3
  have g0 := hid (GX.start hc)
  clear hc
  go_enter Tryz.func84, Tryz.ntmps84
  go_wp2_with fail
  refine (belowY g0.out q0 _ 2 rfl (by omega) (by omega)).mono ?_
  rintro e w1 ⟨rfl, gx⟩
  have g1 := hid gx
  clear gx g0
  have hy0 := Nat.mod_lt x0 (show 0 < 2 by omega)
  generalize hv0 : x0 % 2 = y0 at hy0 ⊢
  replace hv0 := hid hv0
  go_wp2_with fail
  refine (belowY g1.out q1 _ 16 rfl (by omega) (by omega)).mono ?_
  rintro e w2 ⟨rfl, gx⟩
  have g2 := hid gx
  clear gx g1
  rw [hv1.out]
  obtain ⟨x2, s3, q2⟩ := ex_next bs s2
  go_wp2_with fail
  refine (pickIntY g2.out q2 asg7 3 rfl (by decide) (by decide) _ _ rfl (by decide)).mono ?_
  rintro e w3 ⟨t2, ht2, rfl, gx⟩
  have g3 := hid gx
  clear gx g2
  obtain ⟨n3, s4, q3⟩ : ∃ n s', Hid (Draw.run (dNext bs) (dLval e2 e3) s3 = (n, s')) := ⟨_, _, hid rfl⟩
  go_wp2_with fail
  refine (drawY hlv2 g3.out q3 lv2 (by omega)).mono ?_
  rintro e w4 ⟨a3, b3, c3, l3, rfl, gx, hl3⟩
  have g4 := hid gx
  clear gx g3
  obtain ⟨n4, s5, q4⟩ : ∃ n s', Hid (Draw.run (dNext bs) (e1) s4 = (n, s')) := ⟨_, _, hid rfl⟩
  go_wp2_with fail
  refine (drawY h1 g4.out q4 l1 (by omega)).mono ?_
  rintro e w5 ⟨a4, b4, c4, l4, rfl, gx, hl4⟩
  have g5 := hid gx
  clear gx g4
  go_wp2_with fail
  refine (make_any (g5.out.lit #[.slice a3 b3 c3, .slice a4 b4 c4] rfl 2 rfl (by omega)) (by simp) ⟨_, _, _, _, []⟩ ⟨⟨by first | assumption | (show 0 ≤ 16; omega), by first | assumption | (show 0 ≤ 16; omega)⟩, by first | (simp; done) | (simp; omega), by first | (simp; done) | (simp; omega)⟩).mono ?_
  rintro e w9 ⟨v, l, rfl, h1, h2, h3, h4, h5⟩
  go_wp2
  go_ret
  have hmod := rn_expr11 (nx := dNext bs) e1 e2 e3 q0.out hv0.out q1.out hv1.out q2.out q3.out q4.out
  exact ⟨v, l, rfl, h1, by rw [hmod]; exact h2, h3, h4, by rw [hmod, h5]; simp [hl3, hl4]; try omega⟩
set_option maxRecDepth 100000 in
set_option maxHeartbeats 6400000 in
theorem expr_case12 (k : Int) (hk : 1 ≤ k ∧ k ≤ 6) {e1 e2 e3 : Draw Nat} {m b : Nat} (h1 : Draws 84 [.int .i64 (k - 1)] e1) (h2 : Draws 84 [.int .i64 (k - 2)] e2) (h3 : Draws 84 [.int .i64 (k - 3)] e3) (l1 : e1.Lt m b) (l2 : e2.Lt m b) (l3 : e3.Lt m b) (hm : m ≤ 400) (hlv1 : Draws 112 [.int .i64 k] (dLval e1 e2)) (hlv2 : Draws 112 [.int .i64 (k - 1)] (dLval e2 e3))
    {w0 w : World} {p : Nat} {bv : Value} {bs : List UInt8} {s0 s1 s2 : DS} {x0 x1 : Nat} (hc : CurX w0 w p bv bs s0) (q0 : Hid (dNext bs s0 = (x0, s1))) (q1 : Hid (dNext bs s1 = (x1, s2))) (hv1 : Hid (x1 % 16 = 12)) :
    Calls Tryz.prog 84 #[.pointer (some ⟨p, 0, none⟩), .int .i64 k] w fun e w' => DrawnX w0 w p bv bs (dStepE e1 e2 e3) s0 e w' := by
  have lv2 := lt_lval l2 l3
  have g0 := hid (GX.start hc)
  clear hc
  go_enter Tryz.func84, Tryz.ntmps84
  go_wp2_with fail
  refine (belowY g0.out q0 _ 2 rfl (by omega) (by omega)).mono ?_
  rintro e w1 ⟨rfl, gx⟩
  have g1 := hid gx
  clear gx g0
  have hy0 := Nat.mod_lt x0 (show 0 < 2 by omega)
  generalize hv0 : x0 % 2 = y0 at hy0 ⊢
  replace hv0 := hid hv0
  go_wp2_with fail
  refine (belowY g1.out q1 _ 16 rfl (by omega) (by omega)).mono ?_
  rintro e w2 ⟨rfl, gx⟩
  have g2 := hid gx
  clear gx g1
  rw [hv1.out]
  obtain ⟨x2, s3, q2⟩ := ex_next bs s2
  go_wp2_with fail
  refine (binY g2.out q2).mono ?_
  rintro e w3 ⟨t2, ht2, rfl, gx⟩
  have g3 := hid gx
  clear gx g2
  obtain ⟨n3, s4, q3⟩ : ∃ n s', Hid (Draw.run (dNext bs) (e1) s3 = (n, s')) := ⟨_, _, hid rfl⟩
  go_wp2_with fail
  refine (drawY h1 g3.out q3 l1 (by omega)).mono ?_
  rintro e w4 ⟨a3, b3, c3, l3, rfl, gx, hl3⟩
  have g4 := hid gx
  clear gx g3
  obtain ⟨n4, s5, q4⟩ : ∃ n s', Hid (Draw.run (dNext bs) (e1) s4 = (n, s')) := ⟨_, _, hid rfl⟩
  go_wp2_with fail
  refine (drawY h1 g4.out q4 l1 (by omega)).mono ?_
  rintro e w5 ⟨a4, b4, c4, l4, rfl, gx, hl4⟩
  have g5 := hid gx
  clear gx g4
  go_wp2_with fail
  refine (make_any (g5.out.lit #[.slice a3 b3 c3, .slice a4 b4 c4] rfl 2 rfl (by omega)) (by simp) ⟨_, _, _, _, []⟩ ⟨⟨by first | assumption | (show 0 ≤ 16; omega), by first | assumption | (show 0 ≤ 16; omega)⟩, by first | (simp; done) | (simp; omega), by first | (simp; done) | (simp; omega)⟩).mono ?_
  rintro e w9 ⟨v, l, rfl, h1, h2, h3, h4, h5⟩
  go_wp2
  go_ret
  have hmod := rn_expr12 (nx := dNext bs) e1 e2 e3 q0.out hv0.out q1.out hv1.out q2.out q3.out q4.out
  exact ⟨v, l, rfl, h1, by rw [hmod]; exact h2, h3, h4, by rw [hmod, h5]; simp [hl3, hl4]; try omega⟩
set_option maxRecDepth 100000 in
set_option maxHeartbeats 6400000 in
theorem expr_case13 (k : Int) (hk : 1 ≤ k ∧ k ≤ 6) {e1 e2 e3 : Draw Nat} {m b : Nat} (h1 : Draws 84 [.int .i64 (k - 1)] e1) (h2 : Draws 84 [.int .i64 (k - 2)] e2) (h3 : Draws 84 [.int .i64 (k - 3)] e3) (l1 : e1.Lt m b) (l2 : e2.Lt m b) (l3 : e3.Lt m b) (hm : m ≤ 400) (hlv1 : Draws 112 [.int .i64 k] (dLval e1 e2)) (hlv2 : Draws 112 [.int .i64 (k - 1)] (dLval e2 e3))
    {w0 w : World} {p : Nat} {bv : Value} {bs : List UInt8} {s0 s1 s2 : DS} {x0 x1 : Nat} (hc : CurX w0 w p bv bs s0) (q0 : Hid (dNext bs s0 = (x0, s1))) (q1 : Hid (dNext bs s1 = (x1, s2))) (hv1 : Hid (x1 % 16 = 13)) :
    Calls Tryz.prog 84 #[.pointer (some ⟨p, 0, none⟩), .int .i64 k] w fun e w' => DrawnX w0 w p bv bs (dStepE e1 e2 e3) s0 e w' := by
  have lv2 := lt_lval l2 l3
  have g0 := hid (GX.start hc)
  clear hc
  go_enter Tryz.func84, Tryz.ntmps84
  go_wp2_with fail
  refine (belowY g0.out q0 _ 2 rfl (by omega) (by omega)).mono ?_
  rintro e w1 ⟨rfl, gx⟩
  have g1 := hid gx
  clear gx g0
  have hy0 := Nat.mod_lt x0 (show 0 < 2 by omega)
  generalize hv0 : x0 % 2 = y0 at hy0 ⊢
  replace hv0 := hid hv0
  go_wp2_with fail
  refine (belowY g1.out q1 _ 16 rfl (by omega) (by omega)).mono ?_
  rintro e w2 ⟨rfl, gx⟩
  have g2 := hid gx
  clear gx g1
  rw [hv1.out]
  obtain ⟨x2, s3, q2⟩ := ex_next bs s2
  go_wp2_with fail
  refine (binY g2.out q2).mono ?_
  rintro e w3 ⟨t2, ht2, rfl, gx⟩
  have g3 := hid gx
  clear gx g2
  obtain ⟨n3, s4, q3⟩ : ∃ n s', Hid (Draw.run (dNext bs) (e1) s3 = (n, s')) := ⟨_, _, hid rfl⟩
  go_wp2_with fail
  refine (drawY h1 g3.out q3 l1 (by omega)).mono ?_
  rintro e w4 ⟨a3, b3, c3, l3, rfl, gx, hl3⟩
  have g4 := hid gx
  clear gx g3
  obtain ⟨n4, s5, q4⟩ : ∃ n s', Hid (Draw.run (dNext bs) (e1) s4 = (n, s')) := ⟨_, _, hid rfl⟩
  go_wp2_with fail
  refine (drawY h1 g4.out q4 l1 (by omega)).mono ?_
  rintro e w5 ⟨a4, b4, c4, l4, rfl, gx, hl4⟩
  have g5 := hid gx
  clear gx g4
  go_wp2_with fail
  refine (make_any (g5.out.lit #[.slice a3 b3 c3, .slice a4 b4 c4] rfl 2 rfl (by omega)) (by simp) ⟨_, _, _, _, []⟩ ⟨⟨by first | assumption | (show 0 ≤ 16; omega), by first | assumption | (show 0 ≤ 16; omega)⟩, by first | (simp; done) | (simp; omega), by first | (simp; done) | (simp; omega)⟩).mono ?_
  rintro e w9 ⟨v, l, rfl, h1, h2, h3, h4, h5⟩
  go_wp2
  go_ret
  have hmod := rn_expr13 (nx := dNext bs) e1 e2 e3 q0.out hv0.out q1.out hv1.out q2.out q3.out q4.out
  exact ⟨v, l, rfl, h1, by rw [hmod]; exact h2, h3, h4, by rw [hmod, h5]; simp [hl3, hl4]; try omega⟩
set_option maxRecDepth 100000 in
set_option maxHeartbeats 6400000 in
theorem expr_case14 (k : Int) (hk : 1 ≤ k ∧ k ≤ 6) {e1 e2 e3 : Draw Nat} {m b : Nat} (h1 : Draws 84 [.int .i64 (k - 1)] e1) (h2 : Draws 84 [.int .i64 (k - 2)] e2) (h3 : Draws 84 [.int .i64 (k - 3)] e3) (l1 : e1.Lt m b) (l2 : e2.Lt m b) (l3 : e3.Lt m b) (hm : m ≤ 400) (hlv1 : Draws 112 [.int .i64 k] (dLval e1 e2)) (hlv2 : Draws 112 [.int .i64 (k - 1)] (dLval e2 e3))
    {w0 w : World} {p : Nat} {bv : Value} {bs : List UInt8} {s0 s1 s2 : DS} {x0 x1 : Nat} (hc : CurX w0 w p bv bs s0) (q0 : Hid (dNext bs s0 = (x0, s1))) (q1 : Hid (dNext bs s1 = (x1, s2))) (hv1 : Hid (x1 % 16 = 14)) :
    Calls Tryz.prog 84 #[.pointer (some ⟨p, 0, none⟩), .int .i64 k] w fun e w' => DrawnX w0 w p bv bs (dStepE e1 e2 e3) s0 e w' := by
  have lv2 := lt_lval l2 l3
  have g0 := hid (GX.start hc)
  clear hc
  go_enter Tryz.func84, Tryz.ntmps84
  go_wp2_with fail
  refine (belowY g0.out q0 _ 2 rfl (by omega) (by omega)).mono ?_
  rintro e w1 ⟨rfl, gx⟩
  have g1 := hid gx
  clear gx g0
  have hy0 := Nat.mod_lt x0 (show 0 < 2 by omega)
  generalize hv0 : x0 % 2 = y0 at hy0 ⊢
  replace hv0 := hid hv0
  go_wp2_with fail
  refine (belowY g1.out q1 _ 16 rfl (by omega) (by omega)).mono ?_
  rintro e w2 ⟨rfl, gx⟩
  have g2 := hid gx
  clear gx g1
  rw [hv1.out]
  obtain ⟨x2, s3, q2⟩ := ex_next bs s2
  go_wp2_with fail
  refine (binY g2.out q2).mono ?_
  rintro e w3 ⟨t2, ht2, rfl, gx⟩
  have g3 := hid gx
  clear gx g2
  obtain ⟨n3, s4, q3⟩ : ∃ n s', Hid (Draw.run (dNext bs) (e1) s3 = (n, s')) := ⟨_, _, hid rfl⟩
  go_wp2_with fail
  refine (drawY h1 g3.out q3 l1 (by omega)).mono ?_
  rintro e w4 ⟨a3, b3, c3, l3, rfl, gx, hl3⟩
  have g4 := hid gx
  clear gx g3
  obtain ⟨n4, s5, q4⟩ : ∃ n s', Hid (Draw.run (dNext bs) (e1) s4 = (n, s')) := ⟨_, _, hid rfl⟩
  go_wp2_with fail
  refine (drawY h1 g4.out q4 l1 (by omega)).mono ?_
  rintro e w5 ⟨a4, b4, c4, l4, rfl, gx, hl4⟩
  have g5 := hid gx
  clear gx g4
  go_wp2_with fail
  refine (make_any (g5.out.lit #[.slice a3 b3 c3, .slice a4 b4 c4] rfl 2 rfl (by omega)) (by simp) ⟨_, _, _, _, []⟩ ⟨⟨by first | assumption | (show 0 ≤ 16; omega), by first | assumption | (show 0 ≤ 16; omega)⟩, by first | (simp; done) | (simp; omega), by first | (simp; done) | (simp; omega)⟩).mono ?_
  rintro e w9 ⟨v, l, rfl, h1, h2, h3, h4, h5⟩
  go_wp2
  go_ret
  have hmod := rn_expr14 (nx := dNext bs) e1 e2 e3 q0.out hv0.out q1.out hv1.out q2.out q3.out q4.out
  exact ⟨v, l, rfl, h1, by rw [hmod]; exact h2, h3, h4, by rw [hmod, h5]; simp [hl3, hl4]; try omega⟩
set_option maxRecDepth 100000 in
set_option maxHeartbeats 6400000 in
theorem expr_case15 (k : Int) (hk : 1 ≤ k ∧ k ≤ 6) {e1 e2 e3 : Draw Nat} {m b : Nat} (h1 : Draws 84 [.int .i64 (k - 1)] e1) (h2 : Draws 84 [.int .i64 (k - 2)] e2) (h3 : Draws 84 [.int .i64 (k - 3)] e3) (l1 : e1.Lt m b) (l2 : e2.Lt m b) (l3 : e3.Lt m b) (hm : m ≤ 400) (hlv1 : Draws 112 [.int .i64 k] (dLval e1 e2)) (hlv2 : Draws 112 [.int .i64 (k - 1)] (dLval e2 e3))
    {w0 w : World} {p : Nat} {bv : Value} {bs : List UInt8} {s0 s1 s2 : DS} {x0 x1 : Nat} (hc : CurX w0 w p bv bs s0) (q0 : Hid (dNext bs s0 = (x0, s1))) (q1 : Hid (dNext bs s1 = (x1, s2))) (hv1 : Hid (x1 % 16 = 15)) :
    Calls Tryz.prog 84 #[.pointer (some ⟨p, 0, none⟩), .int .i64 k] w fun e w' => DrawnX w0 w p bv bs (dStepE e1 e2 e3) s0 e w' := by
  have lv2 := lt_lval l2 l3
  have g0 := hid (GX.start hc)
  clear hc
  go_enter Tryz.func84, Tryz.ntmps84
  go_wp2_with fail
  refine (belowY g0.out q0 _ 2 rfl (by omega) (by omega)).mono ?_
  rintro e w1 ⟨rfl, gx⟩
  have g1 := hid gx
  clear gx g0
  have hy0 := Nat.mod_lt x0 (show 0 < 2 by omega)
  generalize hv0 : x0 % 2 = y0 at hy0 ⊢
  replace hv0 := hid hv0
  go_wp2_with fail
  refine (belowY g1.out q1 _ 16 rfl (by omega) (by omega)).mono ?_
  rintro e w2 ⟨rfl, gx⟩
  have g2 := hid gx
  clear gx g1
  rw [hv1.out]
  obtain ⟨x2, s3, q2⟩ := ex_next bs s2
  go_wp2_with fail
  refine (binY g2.out q2).mono ?_
  rintro e w3 ⟨t2, ht2, rfl, gx⟩
  have g3 := hid gx
  clear gx g2
  obtain ⟨n3, s4, q3⟩ : ∃ n s', Hid (Draw.run (dNext bs) (e1) s3 = (n, s')) := ⟨_, _, hid rfl⟩
  go_wp2_with fail
  refine (drawY h1 g3.out q3 l1 (by omega)).mono ?_
  rintro e w4 ⟨a3, b3, c3, l3, rfl, gx, hl3⟩
  have g4 := hid gx
  clear gx g3
  obtain ⟨n4, s5, q4⟩ : ∃ n s', Hid (Draw.run (dNext bs) (e1) s4 = (n, s')) := ⟨_, _, hid rfl⟩
  go_wp2_with fail
  refine (drawY h1 g4.out q4 l1 (by omega)).mono ?_
  rintro e w5 ⟨a4, b4, c4, l4, rfl, gx, hl4⟩
  have g5 := hid gx
  clear gx g4
  go_wp2_with fail
  refine (make_any (g5.out.lit #[.slice a3 b3 c3, .slice a4 b4 c4] rfl 2 rfl (by omega)) (by simp) ⟨_, _, _, _, []⟩ ⟨⟨by first | assumption | (show 0 ≤ 16; omega), by first | assumption | (show 0 ≤ 16; omega)⟩, by first | (simp; done) | (simp; omega), by first | (simp; done) | (simp; omega)⟩).mono ?_
  rintro e w9 ⟨v, l, rfl, h1, h2, h3, h4, h5⟩
  go_wp2
  go_ret
  have hmod := rn_expr15 (nx := dNext bs) e1 e2 e3 q0.out hv0.out q1.out hv1.out q2.out q3.out q4.out
  exact ⟨v, l, rfl, h1, by rw [hmod]; exact h2, h3, h4, by rw [hmod, h5]; simp [hl3, hl4]; try omega⟩
theorem expr_step (k : Int) (hk : 1 ≤ k ∧ k ≤ 6) {e1 e2 e3 : Draw Nat} {m b : Nat} (h1 : Draws 84 [.int .i64 (k - 1)] e1) (h2 : Draws 84 [.int .i64 (k - 2)] e2) (h3 : Draws 84 [.int .i64 (k - 3)] e3) (l1 : e1.Lt m b) (l2 : e2.Lt m b) (l3 : e3.Lt m b) (hm : m ≤ 400) : Draws 84 [.int .i64 k] (dStepE e1 e2 e3) := by
  have hlv1 : Draws 112 [.int .i64 k] (dLval e1 e2) := lval_draws k (by omega) h1 h2 l1 l2 (by omega) (by omega)
  have hlv2 : Draws 112 [.int .i64 (k - 1)] (dLval e2 e3) := lval_draws (k - 1) (by omega) (by rw [show k - 1 - 1 = k - 2 by omega]; exact h2) (by rw [show k - 1 - 2 = k - 3 by omega]; exact h3) l2 l3 (by omega) (by omega)
  intro w0 w p bv bs s0 hc
  obtain ⟨x0, s1, q0⟩ := ex_next bs s0
  obtain ⟨x1, s2, q1⟩ := ex_next bs s1
  have hy := Nat.mod_lt x1 (show 0 < 16 by omega)
  obtain h | h | h | h | h | h | h | h | h | h | h | h | h | h | h | h : x1 % 16 = 0 ∨ x1 % 16 = 1 ∨ x1 % 16 = 2 ∨ x1 % 16 = 3 ∨ x1 % 16 = 4 ∨ x1 % 16 = 5 ∨ x1 % 16 = 6 ∨ x1 % 16 = 7 ∨ x1 % 16 = 8 ∨ x1 % 16 = 9 ∨ x1 % 16 = 10 ∨ x1 % 16 = 11 ∨ x1 % 16 = 12 ∨ x1 % 16 = 13 ∨ x1 % 16 = 14 ∨ x1 % 16 = 15 := by omega
  · exact expr_case0 k hk h1 h2 h3 l1 l2 l3 hm hlv1 hlv2 hc q0 q1 (hid h)
  · exact expr_case1 k hk h1 h2 h3 l1 l2 l3 hm hlv1 hlv2 hc q0 q1 (hid h)
  · exact expr_case2 k hk h1 h2 h3 l1 l2 l3 hm hlv1 hlv2 hc q0 q1 (hid h)
  · exact expr_case3 k hk h1 h2 h3 l1 l2 l3 hm hlv1 hlv2 hc q0 q1 (hid h)
  · exact expr_case4 k hk h1 h2 h3 l1 l2 l3 hm hlv1 hlv2 hc q0 q1 (hid h)
  · exact expr_case5 k hk h1 h2 h3 l1 l2 l3 hm hlv1 hlv2 hc q0 q1 (hid h)
  · exact expr_case6 k hk h1 h2 h3 l1 l2 l3 hm hlv1 hlv2 hc q0 q1 (hid h)
  · exact expr_case7 k hk h1 h2 h3 l1 l2 l3 hm hlv1 hlv2 hc q0 q1 (hid h)
  · exact expr_case8 k hk h1 h2 h3 l1 l2 l3 hm hlv1 hlv2 hc q0 q1 (hid h)
  · exact expr_case9 k hk h1 h2 h3 l1 l2 l3 hm hlv1 hlv2 hc q0 q1 (hid h)
  · exact expr_case10 k hk h1 h2 h3 l1 l2 l3 hm hlv1 hlv2 hc q0 q1 (hid h)
  · exact expr_case11 k hk h1 h2 h3 l1 l2 l3 hm hlv1 hlv2 hc q0 q1 (hid h)
  · exact expr_case12 k hk h1 h2 h3 l1 l2 l3 hm hlv1 hlv2 hc q0 q1 (hid h)
  · exact expr_case13 k hk h1 h2 h3 l1 l2 l3 hm hlv1 hlv2 hc q0 q1 (hid h)
  · exact expr_case14 k hk h1 h2 h3 l1 l2 l3 hm hlv1 hlv2 hc q0 q1 (hid h)
  · exact expr_case15 k hk h1 h2 h3 l1 l2 l3 hm hlv1 hlv2 hc q0 q1 (hid h)
theorem expr_nat (d : Nat) : d ≤ 5 → ∀ k : Int, -10 ≤ k → k.toNat = d → Draws 84 [.int .i64 k] (dExpr d) := by
  induction d using Nat.strongRecOn with
  | _ d ih =>
    intro hd k hk hkd
    cases d with
    | zero => exact expr_zero k ⟨by omega, hk⟩
    | succ d =>
      rw [dExpr_succ]
      have hm : mE d ≤ 400 := by
        have : ∀ d, d < 5 → mE d ≤ 400 := by decide
        exact this d (by omega)
      have l2 : (dExpr (d - 1)).Lt (mE d) (bE d) := lt_expr1 d
      have l3 : (dExpr (d - 2)).Lt (mE d) (bE d) := by rw [← (dExpr_prev d).2]; exact (lt_exprs d).2.2
      exact expr_step k (by omega) (ih d (by omega) (by omega) _ (by omega) (by omega)) (ih (d - 1) (by omega) (by omega) _ (by omega) (by omega)) (ih (d - 2) (by omega) (by omega) _ (by omega) (by omega)) (lt_expr d) l2 l3 hm
end Go.Proofs.YtkelhmgdajiocaaGreatDoor
