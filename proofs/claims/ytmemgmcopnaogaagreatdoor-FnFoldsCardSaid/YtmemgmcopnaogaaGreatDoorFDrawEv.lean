/- Walks and lemmas of this seat (FDrawEv): what each theorem says of the functions that it names. Conditions: those that each theorem states. -/
import Derived.Test.YtmemgmcopnaogaaGreatDoorFDrawNB
namespace Go.Proofs.YtmemgmcopnaogaaGreatDoor
set_option linter.unusedVariables false
set_option linter.unusedSimpArgs false
open Go.RowKit
def words27 : List ByteArray := [⟨#[120]⟩, ⟨#[121]⟩, ⟨#[110]⟩]
def nums27 : List ByteArray := [⟨#[48]⟩, ⟨#[49]⟩, ⟨#[50]⟩, ⟨#[55]⟩, ⟨#[49, 48]⟩, ⟨#[57, 57, 57, 57, 57, 57, 57, 57, 57]⟩, ⟨#[51, 46, 53]⟩]
def uns27 : List Int := [56, 61, 55]
def bin27 : List Int := [55, 56, 57, 59, 63, 47, 49, 45, 44, 55, 50, 62, 48, 58]
def dZeroV : Draw Nat := skip (.byte fun x => skip (.ret 1))
def dStepV (e : Draw Nat) : Draw Nat := .byte fun x =>
  if x % 10 = 0 ∨ x % 10 = 1 ∨ x % 10 = 2 then skip (.ret 1)
  else if x % 10 = 3 then skip (e.bind fun n => .ret (n + 1))
  else if x % 10 = 4 then e.bind fun a => e.bind fun b => e.bind fun c => .ret (a + b + c + 1)
  else skip (e.bind fun a => e.bind fun b => .ret (a + b + 1))
def dV : Nat → Draw Nat
  | 0 => dZeroV
  | d + 1 => dStepV (dV d)
theorem lt_zeroV : dZeroV.Lt 1 3 := le_skip (le_byte fun x => le_skip (le_ret (Nat.le_refl _) 0))
theorem lt_stepV {e : Draw Nat} {m b : Nat} (h : e.Lt m b) (hm : 1 ≤ m) (hb : 3 ≤ b) : (dStepV e).Lt (3 * m + 1) (2 + 3 * b) := by
  refine lt_mono (m := 3 * m + 1) (b := (1 + 3 * b) + 1) (le_byte fun x => ?_) (Nat.le_refl _) (by omega)
  split
  · exact lt_mono (le_skip (le_ret (P := fun n => n ≤ 1) (Nat.le_refl _) 0)) (by omega) (by omega)
  split
  · exact lt_mono (le_skip (lt_map h fun a ha => show a + 1 ≤ m + 1 by omega)) (by omega) (by omega)
  split
  · exact lt_mono (lt_bind h fun a ha => lt_bind h fun c hc => lt_map h fun d hd => show a + c + d + 1 ≤ 3 * m + 1 by omega) (by omega) (by omega)
  · exact lt_mono (le_skip (lt_bind h fun a ha => lt_map h fun d hd => show a + d + 1 ≤ 2 * m + 1 by omega)) (by omega) (by omega)
def mV : Nat → Nat | 0 => 1 | d + 1 => 3 * mV d + 1
def bV : Nat → Nat | 0 => 3 | d + 1 => 2 + 3 * bV d
theorem mV_pos (d : Nat) : 1 ≤ mV d ∧ 3 ≤ bV d := by
  induction d with
  | zero => exact ⟨by simp [mV], by simp [bV]⟩
  | succ d ih => simp only [mV, bV]; omega
theorem lt_V (d : Nat) : (dV d).Lt (mV d) (bV d) := by
  induction d with
  | zero => exact lt_zeroV
  | succ d ih => exact lt_stepV ih (mV_pos d).1 (mV_pos d).2
theorem rn_evz0 {nx : DS → Nat × DS} {s0 s1 s2 s3 : DS} {x0 x1 x2 y0 : Nat}  (a_q0 : nx s0 = (x0, s1)) (a_hv0 : x0 % 10 = y0) (a_q1 : nx s1 = (x1, s2)) (a_hv1 : x1 % 3 = 0) (a_q2 : nx s2 = (x2, s3)) : Draw.run nx (dZeroV) s0 = (1, s3) := by
  simp [dZeroV, Draw.run, Draw.run_bind, skip, a_q0, a_hv0, a_q1, a_hv1, a_q2]
  try omega
theorem rn_evz1 {nx : DS → Nat × DS} {s0 s1 s2 s3 : DS} {x0 x1 x2 y0 : Nat}  (a_q0 : nx s0 = (x0, s1)) (a_hv0 : x0 % 10 = y0) (a_q1 : nx s1 = (x1, s2)) (a_hv1 : x1 % 3 = 1) (a_q2 : nx s2 = (x2, s3)) : Draw.run nx (dZeroV) s0 = (1, s3) := by
  simp [dZeroV, Draw.run, Draw.run_bind, skip, a_q0, a_hv0, a_q1, a_hv1, a_q2]
  try omega
theorem rn_evz2 {nx : DS → Nat × DS} {s0 s1 s2 s3 : DS} {x0 x1 x2 y0 : Nat}  (a_q0 : nx s0 = (x0, s1)) (a_hv0 : x0 % 10 = y0) (a_q1 : nx s1 = (x1, s2)) (a_hv1 : x1 % 3 = 2) (a_q2 : nx s2 = (x2, s3)) : Draw.run nx (dZeroV) s0 = (1, s3) := by
  simp [dZeroV, Draw.run, Draw.run_bind, skip, a_q0, a_hv0, a_q1, a_hv1, a_q2]
  try omega
set_option maxRecDepth 100000 in
set_option maxHeartbeats 6400000 in
theorem ev_zero (k : Int) (hk : k ≤ 0 ∧ -10 ≤ k) : Draws 49 [.int .i64 k] dZeroV := by
  intro w0 w p bv bs s0 hc
  have g0 := hid (GX.start hc)
  clear hc
  show Calls Tryz.prog 49 #[.pointer (some ⟨p, 0, none⟩), .int .i64 k] w _
  go_enter Tryz.func49, Tryz.ntmps49
  obtain ⟨x0, s1, q0⟩ := ex_next bs s0
  go_wp2_with fail
  refine (belowY g0.out q0 _ 10 rfl (by omega) (by omega)).mono ?_
  rintro e w1 ⟨rfl, gx⟩
  have g1 := hid gx
  clear gx g0
  have hy0 := Nat.mod_lt x0 (show 0 < 10 by omega)
  generalize hv0 : x0 % 10 = y0 at hy0 ⊢
  replace hv0 := hid hv0
  obtain ⟨x1, s2, q1⟩ := ex_next bs s1
  go_wp2_with fail
  refine (belowY g1.out q1 _ 3 rfl (by omega) (by omega)).mono ?_
  rintro e w2 ⟨rfl, gx⟩
  have g2 := hid gx
  clear gx g1
  have hy1 := Nat.mod_lt x1 (show 0 < 3 by omega)
  generalize hv1 : x1 % 3 = y1 at hy1 ⊢
  replace hv1 := hid hv1
  obtain rfl | rfl | rfl : y1 = 0 ∨ y1 = 1 ∨ y1 = 2 := by omega
  · obtain ⟨x2, s3, q2⟩ := ex_next bs s2
    go_wp2_with fail
    refine (pickY g2.out q2 words27 3 rfl (by decide) (by decide) _ _ rfl (by decide)).mono ?_
    rintro e w3 ⟨t2, ht2, rfl, gx⟩
    have g3 := hid gx
    clear gx g2
    have hlf := hid (leaf_drawn ⟨1, 0, t2, ⟨#[]⟩, []⟩ rfl ⟨⟨ht2, by show 0 ≤ 16; omega⟩, by simp, by simp⟩ g3.out)
    go_wp2
    go_ret
    have hmod := rn_evz0 (nx := dNext bs)  q0.out hv0.out q1.out hv1.out q2.out
    obtain ⟨v, l, e1, h1, h2, h3, h4, h5⟩ := hlf.out
    exact ⟨v, l, e1, h1, by rw [hmod]; exact h2, h3, h4, by rw [hmod, h5]⟩
  · obtain ⟨x2, s3, q2⟩ := ex_next bs s2
    go_wp2_with fail
    refine (pickY g2.out q2 nums27 7 rfl (by decide) (by decide) _ _ rfl (by decide)).mono ?_
    rintro e w3 ⟨t2, ht2, rfl, gx⟩
    have g3 := hid gx
    clear gx g2
    have hlf := hid (leaf_drawn ⟨2, 0, t2, ⟨#[]⟩, []⟩ rfl ⟨⟨ht2, by show 0 ≤ 16; omega⟩, by simp, by simp⟩ g3.out)
    go_wp2
    go_ret
    have hmod := rn_evz1 (nx := dNext bs)  q0.out hv0.out q1.out hv1.out q2.out
    obtain ⟨v, l, e1, h1, h2, h3, h4, h5⟩ := hlf.out
    exact ⟨v, l, e1, h1, by rw [hmod]; exact h2, h3, h4, by rw [hmod, h5]⟩
  · obtain ⟨x2, s3, q2⟩ := ex_next bs s2
    go_wp2_with fail
    refine (pickY g2.out q2 nums27 7 rfl (by decide) (by decide) _ _ rfl (by decide)).mono ?_
    rintro e w3 ⟨t2, ht2, rfl, gx⟩
    have g3 := hid gx
    clear gx g2
    have hlf := hid (leaf_drawn ⟨2, 0, t2, ⟨#[]⟩, []⟩ rfl ⟨⟨ht2, by show 0 ≤ 16; omega⟩, by simp, by simp⟩ g3.out)
    go_wp2
    go_ret
    have hmod := rn_evz2 (nx := dNext bs)  q0.out hv0.out q1.out hv1.out q2.out
    obtain ⟨v, l, e1, h1, h2, h3, h4, h5⟩ := hlf.out
    exact ⟨v, l, e1, h1, by rw [hmod]; exact h2, h3, h4, by rw [hmod, h5]⟩
theorem rn_evs0 {nx : DS → Nat × DS} {s0 s1 s2 : DS} {x0 x1 : Nat} (e1 : Draw Nat) (a_q0 : nx s0 = (x0, s1)) (a_hv0 : x0 % 10 = 0) (a_q1 : nx s1 = (x1, s2)) : Draw.run nx (dStepV e1) s0 = (1, s2) := by
  simp [dStepV, Draw.run, Draw.run_bind, skip, a_q0, a_hv0, a_q1]
  try omega
theorem rn_evs1 {nx : DS → Nat × DS} {s0 s1 s2 : DS} {x0 x1 : Nat} (e1 : Draw Nat) (a_q0 : nx s0 = (x0, s1)) (a_hv0 : x0 % 10 = 1) (a_q1 : nx s1 = (x1, s2)) : Draw.run nx (dStepV e1) s0 = (1, s2) := by
  simp [dStepV, Draw.run, Draw.run_bind, skip, a_q0, a_hv0, a_q1]
  try omega
theorem rn_evs2 {nx : DS → Nat × DS} {s0 s1 s2 : DS} {x0 x1 : Nat} (e1 : Draw Nat) (a_q0 : nx s0 = (x0, s1)) (a_hv0 : x0 % 10 = 2) (a_q1 : nx s1 = (x1, s2)) : Draw.run nx (dStepV e1) s0 = (1, s2) := by
  simp [dStepV, Draw.run, Draw.run_bind, skip, a_q0, a_hv0, a_q1]
  try omega
theorem rn_evs3 {nx : DS → Nat × DS} {s0 s1 s2 s3 : DS} {n2 x0 x1 : Nat} (e1 : Draw Nat) (a_q0 : nx s0 = (x0, s1)) (a_hv0 : x0 % 10 = 3) (a_q1 : nx s1 = (x1, s2)) (a_q2 : Draw.run nx (e1) s2 = (n2, s3)) : Draw.run nx (dStepV e1) s0 = (n2 + 1, s3) := by
  simp [dStepV, Draw.run, Draw.run_bind, skip, a_q0, a_hv0, a_q1, a_q2]
  try omega
theorem rn_evs4 {nx : DS → Nat × DS} {s0 s1 s2 s3 s4 : DS} {n1 n2 n3 x0 : Nat} (e1 : Draw Nat) (a_q0 : nx s0 = (x0, s1)) (a_hv0 : x0 % 10 = 4) (a_q1 : Draw.run nx (e1) s1 = (n1, s2)) (a_q2 : Draw.run nx (e1) s2 = (n2, s3)) (a_q3 : Draw.run nx (e1) s3 = (n3, s4)) : Draw.run nx (dStepV e1) s0 = (n1 + n2 + n3 + 1, s4) := by
  simp [dStepV, Draw.run, Draw.run_bind, skip, a_q0, a_hv0, a_q1, a_q2, a_q3]
  try omega
theorem rn_evs5 {nx : DS → Nat × DS} {s0 s1 s2 s3 s4 : DS} {n2 n3 x0 x1 : Nat} (e1 : Draw Nat) (a_q0 : nx s0 = (x0, s1)) (a_hv0 : x0 % 10 = 5) (a_q1 : nx s1 = (x1, s2)) (a_q2 : Draw.run nx (e1) s2 = (n2, s3)) (a_q3 : Draw.run nx (e1) s3 = (n3, s4)) : Draw.run nx (dStepV e1) s0 = (n2 + n3 + 1, s4) := by
  simp [dStepV, Draw.run, Draw.run_bind, skip, a_q0, a_hv0, a_q1, a_q2, a_q3]
  try omega
theorem rn_evs6 {nx : DS → Nat × DS} {s0 s1 s2 s3 s4 : DS} {n2 n3 x0 x1 : Nat} (e1 : Draw Nat) (a_q0 : nx s0 = (x0, s1)) (a_hv0 : x0 % 10 = 6) (a_q1 : nx s1 = (x1, s2)) (a_q2 : Draw.run nx (e1) s2 = (n2, s3)) (a_q3 : Draw.run nx (e1) s3 = (n3, s4)) : Draw.run nx (dStepV e1) s0 = (n2 + n3 + 1, s4) := by
  simp [dStepV, Draw.run, Draw.run_bind, skip, a_q0, a_hv0, a_q1, a_q2, a_q3]
  try omega
theorem rn_evs7 {nx : DS → Nat × DS} {s0 s1 s2 s3 s4 : DS} {n2 n3 x0 x1 : Nat} (e1 : Draw Nat) (a_q0 : nx s0 = (x0, s1)) (a_hv0 : x0 % 10 = 7) (a_q1 : nx s1 = (x1, s2)) (a_q2 : Draw.run nx (e1) s2 = (n2, s3)) (a_q3 : Draw.run nx (e1) s3 = (n3, s4)) : Draw.run nx (dStepV e1) s0 = (n2 + n3 + 1, s4) := by
  simp [dStepV, Draw.run, Draw.run_bind, skip, a_q0, a_hv0, a_q1, a_q2, a_q3]
  try omega
theorem rn_evs8 {nx : DS → Nat × DS} {s0 s1 s2 s3 s4 : DS} {n2 n3 x0 x1 : Nat} (e1 : Draw Nat) (a_q0 : nx s0 = (x0, s1)) (a_hv0 : x0 % 10 = 8) (a_q1 : nx s1 = (x1, s2)) (a_q2 : Draw.run nx (e1) s2 = (n2, s3)) (a_q3 : Draw.run nx (e1) s3 = (n3, s4)) : Draw.run nx (dStepV e1) s0 = (n2 + n3 + 1, s4) := by
  simp [dStepV, Draw.run, Draw.run_bind, skip, a_q0, a_hv0, a_q1, a_q2, a_q3]
  try omega
theorem rn_evs9 {nx : DS → Nat × DS} {s0 s1 s2 s3 s4 : DS} {n2 n3 x0 x1 : Nat} (e1 : Draw Nat) (a_q0 : nx s0 = (x0, s1)) (a_hv0 : x0 % 10 = 9) (a_q1 : nx s1 = (x1, s2)) (a_q2 : Draw.run nx (e1) s2 = (n2, s3)) (a_q3 : Draw.run nx (e1) s3 = (n3, s4)) : Draw.run nx (dStepV e1) s0 = (n2 + n3 + 1, s4) := by
  simp [dStepV, Draw.run, Draw.run_bind, skip, a_q0, a_hv0, a_q1, a_q2, a_q3]
  try omega
set_option maxRecDepth 100000 in
set_option maxHeartbeats 6400000 in
theorem ev_case0 (k : Int) (hk : 1 ≤ k ∧ k ≤ 6) {e1 : Draw Nat} {m b : Nat} (he : Draws 49 [.int .i64 (k - 1)] e1) (lt : e1.Lt m b) (hm : m ≤ 400)
    {w0 w : World} {p : Nat} {bv : Value} {bs : List UInt8} {s0 s1 : DS} {x0 : Nat} (hc : CurX w0 w p bv bs s0) (q0 : Hid (dNext bs s0 = (x0, s1))) (hv0 : Hid (x0 % 10 = 0)) :
    Calls Tryz.prog 49 #[.pointer (some ⟨p, 0, none⟩), .int .i64 k] w fun e w' => DrawnX w0 w p bv bs (dStepV e1) s0 e w' := by
  have g0 := hid (GX.start hc)
  clear hc
  go_enter Tryz.func49, Tryz.ntmps49
  go_wp2_with fail
  refine (belowY g0.out q0 _ 10 rfl (by omega) (by omega)).mono ?_
  rintro e w1 ⟨rfl, gx⟩
  have g1 := hid gx
  clear gx g0
  rw [hv0.out]
  obtain ⟨x1, s2, q1⟩ := ex_next bs s1
  go_wp2_with fail
  refine (pickY g1.out q1 words27 3 rfl (by decide) (by decide) _ _ rfl (by decide)).mono ?_
  rintro e w2 ⟨t1, ht1, rfl, gx⟩
  have g2 := hid gx
  clear gx g1
  have hlf := hid (leaf_drawn ⟨1, 0, t1, ⟨#[]⟩, []⟩ rfl ⟨⟨ht1, by show 0 ≤ 16; omega⟩, by simp, by simp⟩ g2.out)
  go_wp2
  go_ret
  have hmod := rn_evs0 (nx := dNext bs) e1 q0.out hv0.out q1.out
  obtain ⟨v, l, e1, h1, h2, h3, h4, h5⟩ := hlf.out
  exact ⟨v, l, e1, h1, by rw [hmod]; exact h2, h3, h4, by rw [hmod, h5]⟩
set_option maxRecDepth 100000 in
set_option maxHeartbeats 6400000 in
theorem ev_case1 (k : Int) (hk : 1 ≤ k ∧ k ≤ 6) {e1 : Draw Nat} {m b : Nat} (he : Draws 49 [.int .i64 (k - 1)] e1) (lt : e1.Lt m b) (hm : m ≤ 400)
    {w0 w : World} {p : Nat} {bv : Value} {bs : List UInt8} {s0 s1 : DS} {x0 : Nat} (hc : CurX w0 w p bv bs s0) (q0 : Hid (dNext bs s0 = (x0, s1))) (hv0 : Hid (x0 % 10 = 1)) :
    Calls Tryz.prog 49 #[.pointer (some ⟨p, 0, none⟩), .int .i64 k] w fun e w' => DrawnX w0 w p bv bs (dStepV e1) s0 e w' := by
  have g0 := hid (GX.start hc)
  clear hc
  go_enter Tryz.func49, Tryz.ntmps49
  go_wp2_with fail
  refine (belowY g0.out q0 _ 10 rfl (by omega) (by omega)).mono ?_
  rintro e w1 ⟨rfl, gx⟩
  have g1 := hid gx
  clear gx g0
  rw [hv0.out]
  obtain ⟨x1, s2, q1⟩ := ex_next bs s1
  go_wp2_with fail
  refine (pickY g1.out q1 nums27 7 rfl (by decide) (by decide) _ _ rfl (by decide)).mono ?_
  rintro e w2 ⟨t1, ht1, rfl, gx⟩
  have g2 := hid gx
  clear gx g1
  have hlf := hid (leaf_drawn ⟨2, 0, t1, ⟨#[]⟩, []⟩ rfl ⟨⟨ht1, by show 0 ≤ 16; omega⟩, by simp, by simp⟩ g2.out)
  go_wp2
  go_ret
  have hmod := rn_evs1 (nx := dNext bs) e1 q0.out hv0.out q1.out
  obtain ⟨v, l, e1, h1, h2, h3, h4, h5⟩ := hlf.out
  exact ⟨v, l, e1, h1, by rw [hmod]; exact h2, h3, h4, by rw [hmod, h5]⟩
set_option maxRecDepth 100000 in
set_option maxHeartbeats 6400000 in
theorem ev_case2 (k : Int) (hk : 1 ≤ k ∧ k ≤ 6) {e1 : Draw Nat} {m b : Nat} (he : Draws 49 [.int .i64 (k - 1)] e1) (lt : e1.Lt m b) (hm : m ≤ 400)
    {w0 w : World} {p : Nat} {bv : Value} {bs : List UInt8} {s0 s1 : DS} {x0 : Nat} (hc : CurX w0 w p bv bs s0) (q0 : Hid (dNext bs s0 = (x0, s1))) (hv0 : Hid (x0 % 10 = 2)) :
    Calls Tryz.prog 49 #[.pointer (some ⟨p, 0, none⟩), .int .i64 k] w fun e w' => DrawnX w0 w p bv bs (dStepV e1) s0 e w' := by
  have g0 := hid (GX.start hc)
  clear hc
  go_enter Tryz.func49, Tryz.ntmps49
  go_wp2_with fail
  refine (belowY g0.out q0 _ 10 rfl (by omega) (by omega)).mono ?_
  rintro e w1 ⟨rfl, gx⟩
  have g1 := hid gx
  clear gx g0
  rw [hv0.out]
  obtain ⟨x1, s2, q1⟩ := ex_next bs s1
  go_wp2_with fail
  refine (pickY g1.out q1 nums27 7 rfl (by decide) (by decide) _ _ rfl (by decide)).mono ?_
  rintro e w2 ⟨t1, ht1, rfl, gx⟩
  have g2 := hid gx
  clear gx g1
  have hlf := hid (leaf_drawn ⟨2, 0, t1, ⟨#[]⟩, []⟩ rfl ⟨⟨ht1, by show 0 ≤ 16; omega⟩, by simp, by simp⟩ g2.out)
  go_wp2
  go_ret
  have hmod := rn_evs2 (nx := dNext bs) e1 q0.out hv0.out q1.out
  obtain ⟨v, l, e1, h1, h2, h3, h4, h5⟩ := hlf.out
  exact ⟨v, l, e1, h1, by rw [hmod]; exact h2, h3, h4, by rw [hmod, h5]⟩
set_option maxRecDepth 100000 in
set_option maxHeartbeats 6400000 in
theorem ev_case3 (k : Int) (hk : 1 ≤ k ∧ k ≤ 6) {e1 : Draw Nat} {m b : Nat} (he : Draws 49 [.int .i64 (k - 1)] e1) (lt : e1.Lt m b) (hm : m ≤ 400)
    {w0 w : World} {p : Nat} {bv : Value} {bs : List UInt8} {s0 s1 : DS} {x0 : Nat} (hc : CurX w0 w p bv bs s0) (q0 : Hid (dNext bs s0 = (x0, s1))) (hv0 : Hid (x0 % 10 = 3)) :
    Calls Tryz.prog 49 #[.pointer (some ⟨p, 0, none⟩), .int .i64 k] w fun e w' => DrawnX w0 w p bv bs (dStepV e1) s0 e w' := by
  have g0 := hid (GX.start hc)
  clear hc
  go_enter Tryz.func49, Tryz.ntmps49
  go_wp2_with fail
  refine (belowY g0.out q0 _ 10 rfl (by omega) (by omega)).mono ?_
  rintro e w1 ⟨rfl, gx⟩
  have g1 := hid gx
  clear gx g0
  rw [hv0.out]
  obtain ⟨x1, s2, q1⟩ := ex_next bs s1
  go_wp2_with fail
  refine (pickIntY g1.out q1 uns27 3 rfl (by decide) (by decide) _ _ rfl (by decide)).mono ?_
  rintro e w2 ⟨t1, ht1, rfl, gx⟩
  have g2 := hid gx
  clear gx g1
  obtain ⟨n2, s3, q2⟩ : ∃ n s', Hid (Draw.run (dNext bs) (e1) s2 = (n, s')) := ⟨_, _, hid rfl⟩
  go_wp2_with fail
  refine (drawY he g2.out q2 lt (by omega)).mono ?_
  rintro e w3 ⟨a2, b2, c2, l2, rfl, gx, hl2⟩
  have g3 := hid gx
  clear gx g2
  go_wp2_with fail
  refine (make_any (g3.out.lit #[.slice a2 b2 c2] rfl 1 rfl (by omega)) (by simp) ⟨_, _, _, _, []⟩ ⟨⟨by first | assumption | (show 0 ≤ 16; omega), by first | assumption | (show 0 ≤ 16; omega)⟩, by first | (simp; done) | (simp; omega), by first | (simp; done) | (simp; omega)⟩).mono ?_
  rintro e w9 ⟨v, l, rfl, h1, h2, h3, h4, h5⟩
  go_wp2
  go_ret
  have hmod := rn_evs3 (nx := dNext bs) e1 q0.out hv0.out q1.out q2.out
  exact ⟨v, l, rfl, h1, by rw [hmod]; exact h2, h3, h4, by rw [hmod, h5]; simp [hl2]; try omega⟩
set_option maxRecDepth 100000 in
set_option maxHeartbeats 6400000 in
theorem ev_case4 (k : Int) (hk : 1 ≤ k ∧ k ≤ 6) {e1 : Draw Nat} {m b : Nat} (he : Draws 49 [.int .i64 (k - 1)] e1) (lt : e1.Lt m b) (hm : m ≤ 400)
    {w0 w : World} {p : Nat} {bv : Value} {bs : List UInt8} {s0 s1 : DS} {x0 : Nat} (hc : CurX w0 w p bv bs s0) (q0 : Hid (dNext bs s0 = (x0, s1))) (hv0 : Hid (x0 % 10 = 4)) :
    Calls Tryz.prog 49 #[.pointer (some ⟨p, 0, none⟩), .int .i64 k] w fun e w' => DrawnX w0 w p bv bs (dStepV e1) s0 e w' := by
  have g0 := hid (GX.start hc)
  clear hc
  go_enter Tryz.func49, Tryz.ntmps49
  go_wp2_with fail
  refine (belowY g0.out q0 _ 10 rfl (by omega) (by omega)).mono ?_
  rintro e w1 ⟨rfl, gx⟩
  have g1 := hid gx
  clear gx g0
  rw [hv0.out]
  obtain ⟨n1, s2, q1⟩ : ∃ n s', Hid (Draw.run (dNext bs) (e1) s1 = (n, s')) := ⟨_, _, hid rfl⟩
  go_wp2_with fail
  refine (drawY he g1.out q1 lt (by omega)).mono ?_
  rintro e w2 ⟨a1, b1, c1, l1, rfl, gx, hl1⟩
  have g2 := hid gx
  clear gx g1
  obtain ⟨n2, s3, q2⟩ : ∃ n s', Hid (Draw.run (dNext bs) (e1) s2 = (n, s')) := ⟨_, _, hid rfl⟩
  go_wp2_with fail
  refine (drawY he g2.out q2 lt (by omega)).mono ?_
  rintro e w3 ⟨a2, b2, c2, l2, rfl, gx, hl2⟩
  have g3 := hid gx
  clear gx g2
  obtain ⟨n3, s4, q3⟩ : ∃ n s', Hid (Draw.run (dNext bs) (e1) s3 = (n, s')) := ⟨_, _, hid rfl⟩
  go_wp2_with fail
  refine (drawY he g3.out q3 lt (by omega)).mono ?_
  rintro e w4 ⟨a3, b3, c3, l3, rfl, gx, hl3⟩
  have g4 := hid gx
  clear gx g3
  go_wp2_with fail
  refine (make_any (g4.out.lit #[.slice a1 b1 c1, .slice a2 b2 c2, .slice a3 b3 c3] rfl 3 rfl (by omega)) (by simp) ⟨_, _, _, _, []⟩ ⟨⟨by first | assumption | (show 0 ≤ 16; omega), by first | assumption | (show 0 ≤ 16; omega)⟩, by first | (simp; done) | (simp; omega), by first | (simp; done) | (simp; omega)⟩).mono ?_
  rintro e w9 ⟨v, l, rfl, h1, h2, h3, h4, h5⟩
  go_wp2
  go_ret
  have hmod := rn_evs4 (nx := dNext bs) e1 q0.out hv0.out q1.out q2.out q3.out
  exact ⟨v, l, rfl, h1, by rw [hmod]; exact h2, h3, h4, by rw [hmod, h5]; simp [hl1, hl2, hl3]; try omega⟩
set_option maxRecDepth 100000 in
set_option maxHeartbeats 6400000 in
theorem ev_case5 (k : Int) (hk : 1 ≤ k ∧ k ≤ 6) {e1 : Draw Nat} {m b : Nat} (he : Draws 49 [.int .i64 (k - 1)] e1) (lt : e1.Lt m b) (hm : m ≤ 400)
    {w0 w : World} {p : Nat} {bv : Value} {bs : List UInt8} {s0 s1 : DS} {x0 : Nat} (hc : CurX w0 w p bv bs s0) (q0 : Hid (dNext bs s0 = (x0, s1))) (hv0 : Hid (x0 % 10 = 5)) :
    Calls Tryz.prog 49 #[.pointer (some ⟨p, 0, none⟩), .int .i64 k] w fun e w' => DrawnX w0 w p bv bs (dStepV e1) s0 e w' := by
  have g0 := hid (GX.start hc)
  clear hc
  go_enter Tryz.func49, Tryz.ntmps49
  go_wp2_with fail
  refine (belowY g0.out q0 _ 10 rfl (by omega) (by omega)).mono ?_
  rintro e w1 ⟨rfl, gx⟩
  have g1 := hid gx
  clear gx g0
  rw [hv0.out]
  obtain ⟨x1, s2, q1⟩ := ex_next bs s1
  go_wp2_with fail
  refine (pickIntY g1.out q1 bin27 14 rfl (by decide) (by decide) _ _ rfl (by decide)).mono ?_
  rintro e w2 ⟨t1, ht1, rfl, gx⟩
  have g2 := hid gx
  clear gx g1
  obtain ⟨n2, s3, q2⟩ : ∃ n s', Hid (Draw.run (dNext bs) (e1) s2 = (n, s')) := ⟨_, _, hid rfl⟩
  go_wp2_with fail
  refine (drawY he g2.out q2 lt (by omega)).mono ?_
  rintro e w3 ⟨a2, b2, c2, l2, rfl, gx, hl2⟩
  have g3 := hid gx
  clear gx g2
  obtain ⟨n3, s4, q3⟩ : ∃ n s', Hid (Draw.run (dNext bs) (e1) s3 = (n, s')) := ⟨_, _, hid rfl⟩
  go_wp2_with fail
  refine (drawY he g3.out q3 lt (by omega)).mono ?_
  rintro e w4 ⟨a3, b3, c3, l3, rfl, gx, hl3⟩
  have g4 := hid gx
  clear gx g3
  go_wp2_with fail
  refine (make_any (g4.out.lit #[.slice a2 b2 c2, .slice a3 b3 c3] rfl 2 rfl (by omega)) (by simp) ⟨_, _, _, _, []⟩ ⟨⟨by first | assumption | (show 0 ≤ 16; omega), by first | assumption | (show 0 ≤ 16; omega)⟩, by first | (simp; done) | (simp; omega), by first | (simp; done) | (simp; omega)⟩).mono ?_
  rintro e w9 ⟨v, l, rfl, h1, h2, h3, h4, h5⟩
  go_wp2
  go_ret
  have hmod := rn_evs5 (nx := dNext bs) e1 q0.out hv0.out q1.out q2.out q3.out
  exact ⟨v, l, rfl, h1, by rw [hmod]; exact h2, h3, h4, by rw [hmod, h5]; simp [hl2, hl3]; try omega⟩
set_option maxRecDepth 100000 in
set_option maxHeartbeats 6400000 in
theorem ev_case6 (k : Int) (hk : 1 ≤ k ∧ k ≤ 6) {e1 : Draw Nat} {m b : Nat} (he : Draws 49 [.int .i64 (k - 1)] e1) (lt : e1.Lt m b) (hm : m ≤ 400)
    {w0 w : World} {p : Nat} {bv : Value} {bs : List UInt8} {s0 s1 : DS} {x0 : Nat} (hc : CurX w0 w p bv bs s0) (q0 : Hid (dNext bs s0 = (x0, s1))) (hv0 : Hid (x0 % 10 = 6)) :
    Calls Tryz.prog 49 #[.pointer (some ⟨p, 0, none⟩), .int .i64 k] w fun e w' => DrawnX w0 w p bv bs (dStepV e1) s0 e w' := by
  have g0 := hid (GX.start hc)
  clear hc
  go_enter Tryz.func49, Tryz.ntmps49
  go_wp2_with fail
  refine (belowY g0.out q0 _ 10 rfl (by omega) (by omega)).mono ?_
  rintro e w1 ⟨rfl, gx⟩
  have g1 := hid gx
  clear gx g0
  rw [hv0.out]
  obtain ⟨x1, s2, q1⟩ := ex_next bs s1
  go_wp2_with fail
  refine (pickIntY g1.out q1 bin27 14 rfl (by decide) (by decide) _ _ rfl (by decide)).mono ?_
  rintro e w2 ⟨t1, ht1, rfl, gx⟩
  have g2 := hid gx
  clear gx g1
  obtain ⟨n2, s3, q2⟩ : ∃ n s', Hid (Draw.run (dNext bs) (e1) s2 = (n, s')) := ⟨_, _, hid rfl⟩
  go_wp2_with fail
  refine (drawY he g2.out q2 lt (by omega)).mono ?_
  rintro e w3 ⟨a2, b2, c2, l2, rfl, gx, hl2⟩
  have g3 := hid gx
  clear gx g2
  obtain ⟨n3, s4, q3⟩ : ∃ n s', Hid (Draw.run (dNext bs) (e1) s3 = (n, s')) := ⟨_, _, hid rfl⟩
  go_wp2_with fail
  refine (drawY he g3.out q3 lt (by omega)).mono ?_
  rintro e w4 ⟨a3, b3, c3, l3, rfl, gx, hl3⟩
  have g4 := hid gx
  clear gx g3
  go_wp2_with fail
  refine (make_any (g4.out.lit #[.slice a2 b2 c2, .slice a3 b3 c3] rfl 2 rfl (by omega)) (by simp) ⟨_, _, _, _, []⟩ ⟨⟨by first | assumption | (show 0 ≤ 16; omega), by first | assumption | (show 0 ≤ 16; omega)⟩, by first | (simp; done) | (simp; omega), by first | (simp; done) | (simp; omega)⟩).mono ?_
  rintro e w9 ⟨v, l, rfl, h1, h2, h3, h4, h5⟩
  go_wp2
  go_ret
  have hmod := rn_evs6 (nx := dNext bs) e1 q0.out hv0.out q1.out q2.out q3.out
  exact ⟨v, l, rfl, h1, by rw [hmod]; exact h2, h3, h4, by rw [hmod, h5]; simp [hl2, hl3]; try omega⟩
set_option maxRecDepth 100000 in
set_option maxHeartbeats 6400000 in
theorem ev_case7 (k : Int) (hk : 1 ≤ k ∧ k ≤ 6) {e1 : Draw Nat} {m b : Nat} (he : Draws 49 [.int .i64 (k - 1)] e1) (lt : e1.Lt m b) (hm : m ≤ 400)
    {w0 w : World} {p : Nat} {bv : Value} {bs : List UInt8} {s0 s1 : DS} {x0 : Nat} (hc : CurX w0 w p bv bs s0) (q0 : Hid (dNext bs s0 = (x0, s1))) (hv0 : Hid (x0 % 10 = 7)) :
    Calls Tryz.prog 49 #[.pointer (some ⟨p, 0, none⟩), .int .i64 k] w fun e w' => DrawnX w0 w p bv bs (dStepV e1) s0 e w' := by
  have g0 := hid (GX.start hc)
  clear hc
  go_enter Tryz.func49, Tryz.ntmps49
  go_wp2_with fail
  refine (belowY g0.out q0 _ 10 rfl (by omega) (by omega)).mono ?_
  rintro e w1 ⟨rfl, gx⟩
  have g1 := hid gx
  clear gx g0
  rw [hv0.out]
  obtain ⟨x1, s2, q1⟩ := ex_next bs s1
  go_wp2_with fail
  refine (pickIntY g1.out q1 bin27 14 rfl (by decide) (by decide) _ _ rfl (by decide)).mono ?_
  rintro e w2 ⟨t1, ht1, rfl, gx⟩
  have g2 := hid gx
  clear gx g1
  obtain ⟨n2, s3, q2⟩ : ∃ n s', Hid (Draw.run (dNext bs) (e1) s2 = (n, s')) := ⟨_, _, hid rfl⟩
  go_wp2_with fail
  refine (drawY he g2.out q2 lt (by omega)).mono ?_
  rintro e w3 ⟨a2, b2, c2, l2, rfl, gx, hl2⟩
  have g3 := hid gx
  clear gx g2
  obtain ⟨n3, s4, q3⟩ : ∃ n s', Hid (Draw.run (dNext bs) (e1) s3 = (n, s')) := ⟨_, _, hid rfl⟩
  go_wp2_with fail
  refine (drawY he g3.out q3 lt (by omega)).mono ?_
  rintro e w4 ⟨a3, b3, c3, l3, rfl, gx, hl3⟩
  have g4 := hid gx
  clear gx g3
  go_wp2_with fail
  refine (make_any (g4.out.lit #[.slice a2 b2 c2, .slice a3 b3 c3] rfl 2 rfl (by omega)) (by simp) ⟨_, _, _, _, []⟩ ⟨⟨by first | assumption | (show 0 ≤ 16; omega), by first | assumption | (show 0 ≤ 16; omega)⟩, by first | (simp; done) | (simp; omega), by first | (simp; done) | (simp; omega)⟩).mono ?_
  rintro e w9 ⟨v, l, rfl, h1, h2, h3, h4, h5⟩
  go_wp2
  go_ret
  have hmod := rn_evs7 (nx := dNext bs) e1 q0.out hv0.out q1.out q2.out q3.out
  exact ⟨v, l, rfl, h1, by rw [hmod]; exact h2, h3, h4, by rw [hmod, h5]; simp [hl2, hl3]; try omega⟩
set_option maxRecDepth 100000 in
set_option maxHeartbeats 6400000 in
theorem ev_case8 (k : Int) (hk : 1 ≤ k ∧ k ≤ 6) {e1 : Draw Nat} {m b : Nat} (he : Draws 49 [.int .i64 (k - 1)] e1) (lt : e1.Lt m b) (hm : m ≤ 400)
    {w0 w : World} {p : Nat} {bv : Value} {bs : List UInt8} {s0 s1 : DS} {x0 : Nat} (hc : CurX w0 w p bv bs s0) (q0 : Hid (dNext bs s0 = (x0, s1))) (hv0 : Hid (x0 % 10 = 8)) :
    Calls Tryz.prog 49 #[.pointer (some ⟨p, 0, none⟩), .int .i64 k] w fun e w' => DrawnX w0 w p bv bs (dStepV e1) s0 e w' := by
  have g0 := hid (GX.start hc)
  clear hc
  go_enter Tryz.func49, Tryz.ntmps49
  go_wp2_with fail
  refine (belowY g0.out q0 _ 10 rfl (by omega) (by omega)).mono ?_
  rintro e w1 ⟨rfl, gx⟩
  have g1 := hid gx
  clear gx g0
  rw [hv0.out]
  obtain ⟨x1, s2, q1⟩ := ex_next bs s1
  go_wp2_with fail
  refine (pickIntY g1.out q1 bin27 14 rfl (by decide) (by decide) _ _ rfl (by decide)).mono ?_
  rintro e w2 ⟨t1, ht1, rfl, gx⟩
  have g2 := hid gx
  clear gx g1
  obtain ⟨n2, s3, q2⟩ : ∃ n s', Hid (Draw.run (dNext bs) (e1) s2 = (n, s')) := ⟨_, _, hid rfl⟩
  go_wp2_with fail
  refine (drawY he g2.out q2 lt (by omega)).mono ?_
  rintro e w3 ⟨a2, b2, c2, l2, rfl, gx, hl2⟩
  have g3 := hid gx
  clear gx g2
  obtain ⟨n3, s4, q3⟩ : ∃ n s', Hid (Draw.run (dNext bs) (e1) s3 = (n, s')) := ⟨_, _, hid rfl⟩
  go_wp2_with fail
  refine (drawY he g3.out q3 lt (by omega)).mono ?_
  rintro e w4 ⟨a3, b3, c3, l3, rfl, gx, hl3⟩
  have g4 := hid gx
  clear gx g3
  go_wp2_with fail
  refine (make_any (g4.out.lit #[.slice a2 b2 c2, .slice a3 b3 c3] rfl 2 rfl (by omega)) (by simp) ⟨_, _, _, _, []⟩ ⟨⟨by first | assumption | (show 0 ≤ 16; omega), by first | assumption | (show 0 ≤ 16; omega)⟩, by first | (simp; done) | (simp; omega), by first | (simp; done) | (simp; omega)⟩).mono ?_
  rintro e w9 ⟨v, l, rfl, h1, h2, h3, h4, h5⟩
  go_wp2
  go_ret
  have hmod := rn_evs8 (nx := dNext bs) e1 q0.out hv0.out q1.out q2.out q3.out
  exact ⟨v, l, rfl, h1, by rw [hmod]; exact h2, h3, h4, by rw [hmod, h5]; simp [hl2, hl3]; try omega⟩
set_option maxRecDepth 100000 in
set_option maxHeartbeats 6400000 in
theorem ev_case9 (k : Int) (hk : 1 ≤ k ∧ k ≤ 6) {e1 : Draw Nat} {m b : Nat} (he : Draws 49 [.int .i64 (k - 1)] e1) (lt : e1.Lt m b) (hm : m ≤ 400)
    {w0 w : World} {p : Nat} {bv : Value} {bs : List UInt8} {s0 s1 : DS} {x0 : Nat} (hc : CurX w0 w p bv bs s0) (q0 : Hid (dNext bs s0 = (x0, s1))) (hv0 : Hid (x0 % 10 = 9)) :
    Calls Tryz.prog 49 #[.pointer (some ⟨p, 0, none⟩), .int .i64 k] w fun e w' => DrawnX w0 w p bv bs (dStepV e1) s0 e w' := by
  have g0 := hid (GX.start hc)
  clear hc
  go_enter Tryz.func49, Tryz.ntmps49
  go_wp2_with fail
  refine (belowY g0.out q0 _ 10 rfl (by omega) (by omega)).mono ?_
  rintro e w1 ⟨rfl, gx⟩
  have g1 := hid gx
  clear gx g0
  rw [hv0.out]
  obtain ⟨x1, s2, q1⟩ := ex_next bs s1
  go_wp2_with fail
  refine (pickIntY g1.out q1 bin27 14 rfl (by decide) (by decide) _ _ rfl (by decide)).mono ?_
  rintro e w2 ⟨t1, ht1, rfl, gx⟩
  have g2 := hid gx
  clear gx g1
  obtain ⟨n2, s3, q2⟩ : ∃ n s', Hid (Draw.run (dNext bs) (e1) s2 = (n, s')) := ⟨_, _, hid rfl⟩
  go_wp2_with fail
  refine (drawY he g2.out q2 lt (by omega)).mono ?_
  rintro e w3 ⟨a2, b2, c2, l2, rfl, gx, hl2⟩
  have g3 := hid gx
  clear gx g2
  obtain ⟨n3, s4, q3⟩ : ∃ n s', Hid (Draw.run (dNext bs) (e1) s3 = (n, s')) := ⟨_, _, hid rfl⟩
  go_wp2_with fail
  refine (drawY he g3.out q3 lt (by omega)).mono ?_
  rintro e w4 ⟨a3, b3, c3, l3, rfl, gx, hl3⟩
  have g4 := hid gx
  clear gx g3
  go_wp2_with fail
  refine (make_any (g4.out.lit #[.slice a2 b2 c2, .slice a3 b3 c3] rfl 2 rfl (by omega)) (by simp) ⟨_, _, _, _, []⟩ ⟨⟨by first | assumption | (show 0 ≤ 16; omega), by first | assumption | (show 0 ≤ 16; omega)⟩, by first | (simp; done) | (simp; omega), by first | (simp; done) | (simp; omega)⟩).mono ?_
  rintro e w9 ⟨v, l, rfl, h1, h2, h3, h4, h5⟩
  go_wp2
  go_ret
  have hmod := rn_evs9 (nx := dNext bs) e1 q0.out hv0.out q1.out q2.out q3.out
  exact ⟨v, l, rfl, h1, by rw [hmod]; exact h2, h3, h4, by rw [hmod, h5]; simp [hl2, hl3]; try omega⟩
theorem ev_step (k : Int) (hk : 1 ≤ k ∧ k ≤ 6) {e1 : Draw Nat} {m b : Nat} (he : Draws 49 [.int .i64 (k - 1)] e1) (lt : e1.Lt m b) (hm : m ≤ 400) : Draws 49 [.int .i64 k] (dStepV e1) := by
  intro w0 w p bv bs s0 hc
  obtain ⟨x0, s1, q0⟩ := ex_next bs s0
  have hy := Nat.mod_lt x0 (show 0 < 10 by omega)
  obtain h | h | h | h | h | h | h | h | h | h : x0 % 10 = 0 ∨ x0 % 10 = 1 ∨ x0 % 10 = 2 ∨ x0 % 10 = 3 ∨ x0 % 10 = 4 ∨ x0 % 10 = 5 ∨ x0 % 10 = 6 ∨ x0 % 10 = 7 ∨ x0 % 10 = 8 ∨ x0 % 10 = 9 := by omega
  · exact ev_case0 k hk he lt hm hc q0 (hid h)
  · exact ev_case1 k hk he lt hm hc q0 (hid h)
  · exact ev_case2 k hk he lt hm hc q0 (hid h)
  · exact ev_case3 k hk he lt hm hc q0 (hid h)
  · exact ev_case4 k hk he lt hm hc q0 (hid h)
  · exact ev_case5 k hk he lt hm hc q0 (hid h)
  · exact ev_case6 k hk he lt hm hc q0 (hid h)
  · exact ev_case7 k hk he lt hm hc q0 (hid h)
  · exact ev_case8 k hk he lt hm hc q0 (hid h)
  · exact ev_case9 k hk he lt hm hc q0 (hid h)
theorem ev_nat (d : Nat) : d ≤ 5 → ∀ k : Int, -10 ≤ k → k.toNat = d → Draws 49 [.int .i64 k] (dV d) := by
  induction d with
  | zero => intro _ k hk hkd; exact ev_zero k ⟨by omega, hk⟩
  | succ d ih =>
    intro hd k hk hkd
    have hm : mV d ≤ 400 := by
      have : ∀ d, d < 5 → mV d ≤ 400 := by decide
      exact this d (by omega)
    exact ev_step k (by omega) (ih (by omega) (k - 1) (by omega) (by omega)) (lt_V d) hm
end Go.Proofs.YtmemgmcopnaogaaGreatDoor
