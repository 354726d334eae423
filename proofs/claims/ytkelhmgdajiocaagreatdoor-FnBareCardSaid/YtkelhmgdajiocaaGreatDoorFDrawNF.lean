/- Walks and lemmas of this seat (FDrawNF): what each theorem says of the functions that it names. Conditions: those that each theorem states. -/
import Derived.Test.YtkelhmgdajiocaaGreatDoorGDY
namespace Go.Proofs.YtkelhmgdajiocaaGreatDoor
set_option linter.unusedVariables false
set_option linter.unusedSimpArgs false
open Go.RowKit
def fun7 : List ByteArray := [⟨#[102]⟩, ⟨#[103]⟩, ⟨#[109, 97, 120]⟩]
def top7 : List ByteArray := [⟨#[35, 32, 116, 111, 112]⟩, ⟨#[35]⟩]
theorem rn_item5 {nx : DS → Nat × DS} {s0 s1 s2 s3 s4 s5 s6 : DS} {x0 x1 x2 x4 n3 n5 : Nat} (d : Nat) (a0 : nx s0 = (x0, s1)) (h0 : 1 + x0 % 2 = d) (a1 : nx s1 = (x1, s2)) (h1 : x1 % 8 = 5) (a2 : nx s2 = (x2, s3)) (a3 : Draw.run nx (dTimes (skip (.ret 1)) (x2 % 3) 0) s3 = (n3, s4)) (a4 : nx s4 = (x4, s5)) (a5 : Draw.run nx (dBlock (dStmt d)) s5 = (n5, s6)) : Draw.run nx dItem s0 = (n3 + n5 + 1, s6) := by
  subst h0
  simp only [skip] at a3
  simp [dItem, dItemAt, Draw.run, a0, a1, h1, a2, Draw.run_bind, a3, skip, a4, a5]
theorem run_skip1 {nx : DS → Nat × DS} {s s' : DS} {x : Nat} (a : nx s = (x, s')) : Draw.run nx (skip (.ret 1)) s = (1, s') := by simp [skip, Draw.run, a]
theorem rn_item1_0 {nx : DS → Nat × DS} {s0 s1 s2 s3 s4 : DS} {n3 x0 x1 x2 y2 : Nat}  (a_q0 : nx s0 = (x0, s1)) (a_hv0 : x0 % 2 = 0) (a_q1 : nx s1 = (x1, s2)) (a_hv1 : x1 % 8 = 0) (a_q2 : nx s2 = (x2, s3)) (a_hv2 : x2 % 2 = y2) (a_q3 : Draw.run nx (dBlock (dStmt 1)) s3 = (n3, s4)) : Draw.run nx (dItem) s0 = (n3 + 1, s4) := by
  simp [dItem, dItemAt, Draw.run, Draw.run_bind, skip, a_q0, a_hv0, a_q1, a_hv1, a_q2, a_hv2, a_q3]
  try omega
theorem rn_item1_1 {nx : DS → Nat × DS} {s0 s1 s2 s3 : DS} {n2 x0 x1 : Nat}  (a_q0 : nx s0 = (x0, s1)) (a_hv0 : x0 % 2 = 0) (a_q1 : nx s1 = (x1, s2)) (a_hv1 : x1 % 8 = 1) (a_q2 : Draw.run nx (dExpr 1) s2 = (n2, s3)) : Draw.run nx (dItem) s0 = (n2 + 1, s3) := by
  simp [dItem, dItemAt, Draw.run, Draw.run_bind, skip, a_q0, a_hv0, a_q1, a_hv1, a_q2]
  try omega
theorem rn_item1_2 {nx : DS → Nat × DS} {s0 s1 s2 s3 : DS} {n2 x0 x1 : Nat}  (a_q0 : nx s0 = (x0, s1)) (a_hv0 : x0 % 2 = 0) (a_q1 : nx s1 = (x1, s2)) (a_hv1 : x1 % 8 = 2) (a_q2 : Draw.run nx (dBlock (dStmt 1)) s2 = (n2, s3)) : Draw.run nx (dItem) s0 = (n2 + 1, s3) := by
  simp [dItem, dItemAt, Draw.run, Draw.run_bind, skip, a_q0, a_hv0, a_q1, a_hv1, a_q2]
  try omega
theorem rn_item1_3 {nx : DS → Nat × DS} {s0 s1 s2 s3 s4 : DS} {n2 n3 x0 x1 : Nat}  (a_q0 : nx s0 = (x0, s1)) (a_hv0 : x0 % 2 = 0) (a_q1 : nx s1 = (x1, s2)) (a_hv1 : x1 % 8 = 3) (a_q2 : Draw.run nx (dExpr 1) s2 = (n2, s3)) (a_q3 : Draw.run nx (dExpr 1) s3 = (n3, s4)) : Draw.run nx (dItem) s0 = (n2 + n3 + 1, s4) := by
  simp [dItem, dItemAt, Draw.run, Draw.run_bind, skip, a_q0, a_hv0, a_q1, a_hv1, a_q2, a_q3]
  try omega
theorem rn_item1_4 {nx : DS → Nat × DS} {s0 s1 s2 s3 s4 s5 : DS} {n2 n3 n4 x0 x1 : Nat}  (a_q0 : nx s0 = (x0, s1)) (a_hv0 : x0 % 2 = 0) (a_q1 : nx s1 = (x1, s2)) (a_hv1 : x1 % 8 = 4) (a_q2 : Draw.run nx (dExpr 1) s2 = (n2, s3)) (a_q3 : Draw.run nx (dExpr 1) s3 = (n3, s4)) (a_q4 : Draw.run nx (dBlock (dStmt 1)) s4 = (n4, s5)) : Draw.run nx (dItem) s0 = (n2 + n3 + n4 + 1, s5) := by
  simp [dItem, dItemAt, Draw.run, Draw.run_bind, skip, a_q0, a_hv0, a_q1, a_hv1, a_q2, a_q3, a_q4]
  try omega
theorem rn_item1_6 {nx : DS → Nat × DS} {s0 s1 s2 s3 : DS} {x0 x1 x2 : Nat}  (a_q0 : nx s0 = (x0, s1)) (a_hv0 : x0 % 2 = 0) (a_q1 : nx s1 = (x1, s2)) (a_hv1 : x1 % 8 = 6) (a_q2 : nx s2 = (x2, s3)) : Draw.run nx (dItem) s0 = (1, s3) := by
  simp [dItem, dItemAt, Draw.run, Draw.run_bind, skip, a_q0, a_hv0, a_q1, a_hv1, a_q2]
  try omega
theorem rn_item1_7 {nx : DS → Nat × DS} {s0 s1 s2 s3 s4 : DS} {n2 n3 x0 x1 : Nat}  (a_q0 : nx s0 = (x0, s1)) (a_hv0 : x0 % 2 = 0) (a_q1 : nx s1 = (x1, s2)) (a_hv1 : x1 % 8 = 7) (a_q2 : Draw.run nx (dExpr 1) s2 = (n2, s3)) (a_q3 : Draw.run nx (dBlock (dStmt 1)) s3 = (n3, s4)) : Draw.run nx (dItem) s0 = (n2 + n3 + 1, s4) := by
  simp [dItem, dItemAt, Draw.run, Draw.run_bind, skip, a_q0, a_hv0, a_q1, a_hv1, a_q2, a_q3]
  try omega
set_option maxRecDepth 100000 in
set_option maxHeartbeats 6400000 in
theorem item_case1 {w0 w : World} {p : Nat} {bv : Value} {bs : List UInt8} {s0 s1 : DS} {x0 : Nat} (hc : CurX w0 w p bv bs s0) (q0 : Hid (dNext bs s0 = (x0, s1))) (hv0 : Hid (x0 % 2 = 0)) :
    Calls Tryz.prog 136 #[.pointer (some ⟨p, 0, none⟩)] w fun e w' => DrawnX w0 w p bv bs dItem s0 e w' := by
  have he1 := expr_at 1 1 (by omega) rfl
  have le1 : (dExpr 1).Lt 4 13 := lt_expr 1
  have he := expr_at 1 1 (by omega) rfl
  have le : (dExpr 1).Lt 13 43 := lt_mono (lt_expr 1) (by decide) (by decide)
  have hb := block_at1
  have lb := lt_blocks 1 (by omega)
  have g0 := hid (GX.start hc)
  clear hc
  go_enter Tryz.func136, Tryz.ntmps136
  go_wp2_with fail
  refine (belowY g0.out q0 _ 2 rfl (by omega) (by omega)).mono ?_
  rintro e w1 ⟨rfl, gx⟩
  have g1 := hid gx
  clear gx g0
  rw [hv0.out]
  obtain ⟨x1, s2, q1⟩ := ex_next bs s1
  go_wp2_with fail
  refine (belowY g1.out q1 _ 8 rfl (by omega) (by omega)).mono ?_
  rintro e w2 ⟨rfl, gx⟩
  have g2 := hid gx
  clear gx g1
  have hy1 := Nat.mod_lt x1 (show 0 < 8 by omega)
  generalize hv1 : x1 % 8 = y1 at hy1 ⊢
  replace hv1 := hid hv1
  obtain rfl | rfl | rfl | rfl | rfl | rfl | rfl | rfl : y1 = 0 ∨ y1 = 1 ∨ y1 = 2 ∨ y1 = 3 ∨ y1 = 4 ∨ y1 = 5 ∨ y1 = 6 ∨ y1 = 7 := by omega
  · obtain ⟨x2, s3, q2⟩ := ex_next bs s2
    go_wp2_with fail
    refine (belowY g2.out q2 _ 2 rfl (by omega) (by omega)).mono ?_
    rintro e w3 ⟨rfl, gx⟩
    have g3 := hid gx
    clear gx g2
    have hy2 := Nat.mod_lt x2 (show 0 < 2 by omega)
    generalize hv2 : x2 % 2 = y2 at hy2 ⊢
    replace hv2 := hid hv2
    obtain ⟨n3, s4, q3⟩ : ∃ n s', Hid (Draw.run (dNext bs) (dBlock (dStmt 1)) s3 = (n, s')) := ⟨_, _, hid rfl⟩
    go_wp2_with fail
    refine (drawY hb g3.out q3 lb (by omega)).mono ?_
    rintro e w4 ⟨a3, b3, c3, l3, rfl, gx, hl3⟩
    have g4 := hid gx
    clear gx g3
    go_wp2_with fail
    refine (make_any (g4.out.lit #[.slice a3 b3 c3] rfl 1 rfl (by omega)) (by simp) ⟨_, _, _, _, []⟩ ⟨⟨by first | assumption | (show 0 ≤ 16; omega), by first | assumption | (show 0 ≤ 16; omega)⟩, by first | (simp; done) | (simp; omega), by first | (simp; done) | (simp; omega)⟩).mono ?_
    rintro e w9 ⟨v, l, rfl, h1, h2, h3, h4, h5⟩
    go_wp2
    go_ret
    have hmod := rn_item1_0 (nx := dNext bs)  q0.out hv0.out q1.out hv1.out q2.out hv2.out q3.out
    exact ⟨v, l, rfl, h1, by rw [hmod]; exact h2, h3, h4, by rw [hmod, h5]; simp [hl3]; try omega⟩
  · obtain ⟨n2, s3, q2⟩ : ∃ n s', Hid (Draw.run (dNext bs) (dExpr 1) s2 = (n, s')) := ⟨_, _, hid rfl⟩
    go_wp2_with fail
    refine (drawY he g2.out q2 le (by omega)).mono ?_
    rintro e w3 ⟨a2, b2, c2, l2, rfl, gx, hl2⟩
    have g3 := hid gx
    clear gx g2
    go_wp2_with fail
    refine (make_any (g3.out.lit #[.slice a2 b2 c2] rfl 1 rfl (by omega)) (by simp) ⟨_, _, _, _, []⟩ ⟨⟨by first | assumption | (show 0 ≤ 16; omega), by first | assumption | (show 0 ≤ 16; omega)⟩, by first | (simp; done) | (simp; omega), by first | (simp; done) | (simp; omega)⟩).mono ?_
    rintro e w9 ⟨v, l, rfl, h1, h2, h3, h4, h5⟩
    go_wp2
    go_ret
    have hmod := rn_item1_1 (nx := dNext bs)  q0.out hv0.out q1.out hv1.out q2.out
    exact ⟨v, l, rfl, h1, by rw [hmod]; exact h2, h3, h4, by rw [hmod, h5]; simp [hl2]; try omega⟩
  · obtain ⟨n2, s3, q2⟩ : ∃ n s', Hid (Draw.run (dNext bs) (dBlock (dStmt 1)) s2 = (n, s')) := ⟨_, _, hid rfl⟩
    go_wp2_with fail
    refine (drawY hb g2.out q2 lb (by omega)).mono ?_
    rintro e w3 ⟨a2, b2, c2, l2, rfl, gx, hl2⟩
    have g3 := hid gx
    clear gx g2
    go_wp2_with fail
    refine (make_any (g3.out.lit #[.slice a2 b2 c2] rfl 1 rfl (by omega)) (by simp) ⟨_, _, _, _, []⟩ ⟨⟨by first | assumption | (show 0 ≤ 16; omega), by first | assumption | (show 0 ≤ 16; omega)⟩, by first | (simp; done) | (simp; omega), by first | (simp; done) | (simp; omega)⟩).mono ?_
    rintro e w9 ⟨v, l, rfl, h1, h2, h3, h4, h5⟩
    go_wp2
    go_ret
    have hmod := rn_item1_2 (nx := dNext bs)  q0.out hv0.out q1.out hv1.out q2.out
    exact ⟨v, l, rfl, h1, by rw [hmod]; exact h2, h3, h4, by rw [hmod, h5]; simp [hl2]; try omega⟩
  · obtain ⟨n2, s3, q2⟩ : ∃ n s', Hid (Draw.run (dNext bs) (dExpr 1) s2 = (n, s')) := ⟨_, _, hid rfl⟩
    go_wp2_with fail
    refine (drawY he1 g2.out q2 le1 (by omega)).mono ?_
    rintro e w3 ⟨a2, b2, c2, l2, rfl, gx, hl2⟩
    have g3 := hid gx
    clear gx g2
    obtain ⟨n3, s4, q3⟩ : ∃ n s', Hid (Draw.run (dNext bs) (dExpr 1) s3 = (n, s')) := ⟨_, _, hid rfl⟩
    go_wp2_with fail
    refine (drawY he1 g3.out q3 le1 (by omega)).mono ?_
    rintro e w4 ⟨a3, b3, c3, l3, rfl, gx, hl3⟩
    have g4 := hid gx
    clear gx g3
    go_wp2_with fail
    refine (make_any (g4.out.lit #[.slice a2 b2 c2, .slice a3 b3 c3] rfl 2 rfl (by omega)) (by simp) ⟨_, _, _, _, []⟩ ⟨⟨by first | assumption | (show 0 ≤ 16; omega), by first | assumption | (show 0 ≤ 16; omega)⟩, by first | (simp; done) | (simp; omega), by first | (simp; done) | (simp; omega)⟩).mono ?_
    rintro e w9 ⟨v, l, rfl, h1, h2, h3, h4, h5⟩
    go_wp2
    go_ret
    have hmod := rn_item1_3 (nx := dNext bs)  q0.out hv0.out q1.out hv1.out q2.out q3.out
    exact ⟨v, l, rfl, h1, by rw [hmod]; exact h2, h3, h4, by rw [hmod, h5]; simp [hl2, hl3]; try omega⟩
  · obtain ⟨n2, s3, q2⟩ : ∃ n s', Hid (Draw.run (dNext bs) (dExpr 1) s2 = (n, s')) := ⟨_, _, hid rfl⟩
    go_wp2_with fail
    refine (drawY he1 g2.out q2 le1 (by omega)).mono ?_
    rintro e w3 ⟨a2, b2, c2, l2, rfl, gx, hl2⟩
    have g3 := hid gx
    clear gx g2
    obtain ⟨n3, s4, q3⟩ : ∃ n s', Hid (Draw.run (dNext bs) (dExpr 1) s3 = (n, s')) := ⟨_, _, hid rfl⟩
    go_wp2_with fail
    refine (drawY he1 g3.out q3 le1 (by omega)).mono ?_
    rintro e w4 ⟨a3, b3, c3, l3, rfl, gx, hl3⟩
    have g4 := hid gx
    clear gx g3
    obtain ⟨n4, s5, q4⟩ : ∃ n s', Hid (Draw.run (dNext bs) (dBlock (dStmt 1)) s4 = (n, s')) := ⟨_, _, hid rfl⟩
    go_wp2_with fail
    refine (drawY hb g4.out q4 lb (by omega)).mono ?_
    rintro e w5 ⟨a4, b4, c4, l4, rfl, gx, hl4⟩
    have g5 := hid gx
    clear gx g4
    go_wp2_with fail
    refine (make_any (g5.out.lit #[.slice a2 b2 c2, .slice a3 b3 c3, .slice a4 b4 c4] rfl 3 rfl (by omega)) (by simp) ⟨_, _, _, _, []⟩ ⟨⟨by first | assumption | (show 0 ≤ 16; omega), by first | assumption | (show 0 ≤ 16; omega)⟩, by first | (simp; done) | (simp; omega), by first | (simp; done) | (simp; omega)⟩).mono ?_
    rintro e w9 ⟨v, l, rfl, h1, h2, h3, h4, h5⟩
    go_wp2
    go_ret
    have hmod := rn_item1_4 (nx := dNext bs)  q0.out hv0.out q1.out hv1.out q2.out q3.out q4.out
    exact ⟨v, l, rfl, h1, by rw [hmod]; exact h2, h3, h4, by rw [hmod, h5]; simp [hl2, hl3, hl4]; try omega⟩
  · have hv0' := hv0.out
    obtain ⟨x2, s3, q2⟩ := ex_next bs s2
    obtain ⟨n3, s4, q3⟩ : ∃ n s', Hid (Draw.run (dNext bs) (dTimes (skip (.ret 1)) (x2 % 3) 0) s3 = (n, s')) := ⟨_, _, hid rfl⟩
    obtain ⟨x4, s5, q4⟩ := ex_next bs s4
    obtain ⟨n5, s6, q5⟩ : ∃ n s', Hid (Draw.run (dNext bs) (dBlock (dStmt 1)) s5 = (n, s')) := ⟨_, _, hid rfl⟩
    have hmod := hid (rn_item5 1 q0.out (by omega) q1.out hv1.out q2.out q3.out q4.out q5.out)
    obtain ⟨i0, hi, hz0, hz1, hz2⟩ := info_parts infoNSlice
    clear hv0'
    have hp2 := g2.out.cur.lt
    have hbc := hid (fun o => specl1BelowX w0 (w2.alloc o) p bv bs s2 3 3 rfl (by omega) (by omega) (g2.out.alloc o).cur)
    rw [q2.out] at hbc
    have hy := Nat.mod_lt x2 (show 0 < 3 by omega)
    simp only at hbc
    generalize x2 % 3 = y at *
    go_wp2_with fail
    refine (hbc.out _).mono ?_
    rintro e w3 ⟨rfl, hg1, hc1⟩
    have hp0 := hid (PartsX.start (GX.start g2.out.cur) hg1 hc1)
    clear hg1 hc1 hbc
    go_wp2
    go_loopw [4, 5] (fun v i wr => ∃ (ps : List (List Node × Value)) (j : Nat) (sj : DS) (v' : Value), v = v' ∧ i = .int .i64 j ∧ ps.length + j ≤ 4 ∧ Hid ((dTimes (skip (.ret 1)) j ((ps.map Prod.fst).map List.length).sum).run (dNext bs) sj = (n3, s4)) ∧ Hid (PartsX w0 w2 p bv bs sj v' ps wr)) (fun _ i _ => (intOf i).toNat)
    case atStart => exact ⟨[], y, s3, _, rfl, rfl, by simp; omega, q3, hp0⟩
    clear hp0 q3
    obtain ⟨ps, j, sj, v0, rfl, rfl, hm0, hrun, hpd⟩ := hrel
    rename World => wo
    by_cases hj : 0 < j
    · obtain ⟨j', rfl⟩ : ∃ j', j = j' + 1 := ⟨j - 1, by omega⟩
      obtain ⟨xj, sk, qj⟩ := ex_next bs sj
      have hrun2 := rn_times _ hrun.out
      rw [run_skip1 qj.out] at hrun2
      go_wp2_with fail
      refine (wordY (GX.start hpd.out.cur) qj).mono ?_
      rintro e w1' ⟨t, ht, rfl, gx⟩
      have hown := hpd.out.own.kept gx.gr (ownBlock_ne hpd.out.own hp2)
      have hsz := hpd.out.gr.size
      have hsz5 := gx.gr.size
      have hlf := hid (own_leafN w1' ⟨1, 0, t, ⟨#[]⟩, []⟩ rfl)
      have hsl := hid (leaf_small ⟨1, 0, t, ⟨#[]⟩, []⟩ rfl ⟨⟨ht, by show 0 ≤ 16; omega⟩, by simp, by simp⟩)
      have hrun3 : Hid ((dTimes (skip (.ret 1)) j' (((ps ++ [([(⟨1, 0, t, ⟨#[]⟩, []⟩ : Node)], Value.slice (some ⟨w1'.heap.size, 0, none⟩) 1 1)]).map Prod.fst).map List.length).sum).run (dNext bs) sk = (n3, s4)) := hid (by
        simp only [List.map_append, List.map_cons, List.map_nil, List.sum_append, List.sum_cons, List.sum_nil, Nat.add_zero, List.length_singleton]
        exact hrun2)
      replace hown := hid hown
      replace gx := hid gx
      clear hrun hrun2
      go_wp2_with (at_builtin; refine Hid.out ?_)
      refine hid ?_
      refine wpList_append_lies _ (by rfl) _ _ _ (by rfl) w2.heap.size 26 i0 _ 1 24 Tryz.underlying127 hi hz0 hz1 hz2 rfl (by omega) _ ps.length (ps.flatMap part1) (by rfl) ((hown.out.alloc _).alloc _) ⟨w1'.heap.size + 1, 0, none⟩ 1 1 [.slice (some ⟨w1'.heap.size, 0, none⟩) 1 1] (by rfl) (by rfl) (new_cells_at _ _ _ _ _ (by rfl) (by simp)) (by simp [Value.oneCell']) (by omega) (by unfold maxLen; omega) (by omega) (by simp; omega) (w1'.heap.size + 1 + 1) (by simp) ?_
      intro gg cap w6 hown6 hg6 hat hlt6
      have hpd2 := hid (hpd.out.step (gx.out.alloc _).gr (gx.out.alloc _).cur (hlf.out.lowX hsz5) hsl.out (by simp) hown6 hg6 (by simpa using hat))
      clear hpd hown6 hg6 hat hown gx hlf hsl
      go_wp2
      all_goals go_roundw
      all_goals first
        | (simp only [intOf]; omega)
        | exact ⟨_, j', _, _, rfl, by first | rfl | (congr 1; omega), by simp; omega, hrun3, hpd2⟩
    · obtain rfl : j = 0 := by omega
      obtain ⟨va, vc, rfl, _⟩ := own_slice hpd.out.own
      have hfin := rn_times0 _ hrun.out
      obtain ⟨hf1, rfl⟩ := hfin
      have hf2 : Hid ((ps.map (List.length ∘ Prod.fst)).sum = n3) := hid (by rw [← hf1, List.map_map])
      clear hrun hf1
      have hpk := hid (fun o => specl1PickX w0 (wo.alloc (.cells (fun7.flatMap str1).toArray o)) p bv bs sj fun7 wo.heap.size 3 (by decide) (by decide) (by decide) (by have := hpd.out.cur.lt; omega) (rowAt_lit _ _ _) (hpd.out.alloc _).cur)
      go_wp2_with fail
      refine (hpk.out _).mono ?_
      rintro e w4 ⟨t, ht, rfl, hg4, hc4⟩
      rw [q4.out] at hc4
      have hts : t.size ≤ 16 := by
        have : ∀ y ∈ fun7, y.size ≤ 16 := by decide
        exact this t ht
      have px4 := hid ((hpd.out.alloc _).keep hg4 hc4)
      clear hpd hpk hg4 hc4 ht
      go_wp2_with fail
      refine (hb w0 w4 p bv bs s5 px4.out.cur).mono ?_
      rintro e w5 ⟨v1, l1', rfl, hg5, hc5, ho5, hs5, hl5⟩
      have hlb : l1'.length ≤ 1300 := by have := (lb.run (dNext bs) s5).1; omega
      rw [q5.out] at hc5 hl5
      have hown := px4.out.own.kept hg5 (ownBlock_ne px4.out.own hp2)
      have hsz := px4.out.gr.size
      have hsz5 := hg5.size
      obtain ⟨a1, n1, c1, rfl⟩ := own_vslice ho5
      replace hown := hid hown
      replace ho5 := hid ho5
      replace hg5 := hid hg5
      replace hc5 := hid hc5
      replace hl5 := hid hl5
      go_wp2_with (at_builtin; refine Hid.out ?_)
      refine hid ?_
      refine wpList_append_lies _ (by rfl) _ _ _ (by rfl) w2.heap.size 26 i0 _ 1 24 Tryz.underlying127 hi hz0 hz1 hz2 rfl (by omega) _ ps.length (ps.flatMap part1) (by rfl) (hown.out.alloc _) ⟨w5.heap.size, 0, none⟩ 1 1 [.slice a1 n1 c1] (by rfl) (by rfl) (World.news_of_block (cs := #[.slice a1 n1 c1]) (t := 26) (fr := (0, 0)) (heap_alloc_new w5 _)) (by simp [Value.oneCell']) (by omega) (by unfold maxLen; omega) (by omega) (by simp; omega) (w5.heap.size + 1) (by simp) ?_
      intro gg cap w6 hown6 hg6 hat hlt6
      have hpd2 := hid (px4.out.step hg5.out hc5.out ho5.out hs5 hlb hown6 hg6 hat)
      clear px4 hown6 hg6 hat hown hg5 hc5 ho5
      go_wp2_with fail
      refine (make_any hpd2.out (by simp; omega) ⟨44, 0, t, ⟨#[]⟩, []⟩ ⟨⟨hts, by show 0 ≤ 16; omega⟩, by simp, by simp⟩).mono ?_
      rintro e w9 ⟨v, l, rfl, h1, h2, h3, h4, h5⟩
      go_wp2
      go_ret
      exact ⟨v, l, rfl, grown_trans g2.out.gr h1, by rw [hmod.out]; exact h2, h3.lowX g2.out.gr.size, h4, by rw [hmod.out, h5]; simp [hf2.out, hl5.out]⟩
  · obtain ⟨x2, s3, q2⟩ := ex_next bs s2
    go_wp2_with fail
    refine (pickY g2.out q2 top7 2 rfl (by decide) (by decide) _ _ rfl (by decide)).mono ?_
    rintro e w3 ⟨t2, ht2, rfl, gx⟩
    have g3 := hid gx
    clear gx g2
    have hlf := hid (leaf_drawn ⟨34, 0, t2, ⟨#[]⟩, []⟩ rfl ⟨⟨ht2, by show 0 ≤ 16; omega⟩, by simp, by simp⟩ g3.out)
    go_wp2
    go_ret
    have hmod := rn_item1_6 (nx := dNext bs)  q0.out hv0.out q1.out hv1.out q2.out
    obtain ⟨v, l, e1, h1, h2, h3, h4, h5⟩ := hlf.out
    exact ⟨v, l, e1, h1, by rw [hmod]; exact h2, h3, h4, by rw [hmod, h5]⟩
  · obtain ⟨n2, s3, q2⟩ : ∃ n s', Hid (Draw.run (dNext bs) (dExpr 1) s2 = (n, s')) := ⟨_, _, hid rfl⟩
    go_wp2_with fail
    refine (drawY he g2.out q2 le (by omega)).mono ?_
    rintro e w3 ⟨a2, b2, c2, l2, rfl, gx, hl2⟩
    have g3 := hid gx
    clear gx g2
    obtain ⟨n3, s4, q3⟩ : ∃ n s', Hid (Draw.run (dNext bs) (dBlock (dStmt 1)) s3 = (n, s')) := ⟨_, _, hid rfl⟩
    go_wp2_with fail
    refine (drawY hb g3.out q3 lb (by omega)).mono ?_
    rintro e w4 ⟨a3, b3, c3, l3, rfl, gx, hl3⟩
    have g4 := hid gx
    clear gx g3
    go_wp2_with fail
    refine (make_any (g4.out.lit #[.slice a2 b2 c2, .slice a3 b3 c3] rfl 2 rfl (by omega)) (by simp) ⟨_, _, _, _, []⟩ ⟨⟨by first | assumption | (show 0 ≤ 16; omega), by first | assumption | (show 0 ≤ 16; omega)⟩, by first | (simp; done) | (simp; omega), by first | (simp; done) | (simp; omega)⟩).mono ?_
    rintro e w9 ⟨v, l, rfl, h1, h2, h3, h4, h5⟩
    go_wp2
    go_ret
    have hmod := rn_item1_7 (nx := dNext bs)  q0.out hv0.out q1.out hv1.out q2.out q3.out
    exact ⟨v, l, rfl, h1, by rw [hmod]; exact h2, h3, h4, by rw [hmod, h5]; simp [hl2, hl3]; try omega⟩
theorem rn_item2_0 {nx : DS → Nat × DS} {s0 s1 s2 s3 s4 : DS} {n3 x0 x1 x2 y2 : Nat}  (a_q0 : nx s0 = (x0, s1)) (a_hv0 : x0 % 2 = 1) (a_q1 : nx s1 = (x1, s2)) (a_hv1 : x1 % 8 = 0) (a_q2 : nx s2 = (x2, s3)) (a_hv2 : x2 % 2 = y2) (a_q3 : Draw.run nx (dBlock (dStmt 2)) s3 = (n3, s4)) : Draw.run nx (dItem) s0 = (n3 + 1, s4) := by
  simp [dItem, dItemAt, Draw.run, Draw.run_bind, skip, a_q0, a_hv0, a_q1, a_hv1, a_q2, a_hv2, a_q3]
  try omega
theorem rn_item2_1 {nx : DS → Nat × DS} {s0 s1 s2 s3 : DS} {n2 x0 x1 : Nat}  (a_q0 : nx s0 = (x0, s1)) (a_hv0 : x0 % 2 = 1) (a_q1 : nx s1 = (x1, s2)) (a_hv1 : x1 % 8 = 1) (a_q2 : Draw.run nx (dExpr 2) s2 = (n2, s3)) : Draw.run nx (dItem) s0 = (n2 + 1, s3) := by
  simp [dItem, dItemAt, Draw.run, Draw.run_bind, skip, a_q0, a_hv0, a_q1, a_hv1, a_q2]
  try omega
theorem rn_item2_2 {nx : DS → Nat × DS} {s0 s1 s2 s3 : DS} {n2 x0 x1 : Nat}  (a_q0 : nx s0 = (x0, s1)) (a_hv0 : x0 % 2 = 1) (a_q1 : nx s1 = (x1, s2)) (a_hv1 : x1 % 8 = 2) (a_q2 : Draw.run nx (dBlock (dStmt 2)) s2 = (n2, s3)) : Draw.run nx (dItem) s0 = (n2 + 1, s3) := by
  simp [dItem, dItemAt, Draw.run, Draw.run_bind, skip, a_q0, a_hv0, a_q1, a_hv1, a_q2]
  try omega
theorem rn_item2_3 {nx : DS → Nat × DS} {s0 s1 s2 s3 s4 : DS} {n2 n3 x0 x1 : Nat}  (a_q0 : nx s0 = (x0, s1)) (a_hv0 : x0 % 2 = 1) (a_q1 : nx s1 = (x1, s2)) (a_hv1 : x1 % 8 = 3) (a_q2 : Draw.run nx (dExpr 1) s2 = (n2, s3)) (a_q3 : Draw.run nx (dExpr 1) s3 = (n3, s4)) : Draw.run nx (dItem) s0 = (n2 + n3 + 1, s4) := by
  simp [dItem, dItemAt, Draw.run, Draw.run_bind, skip, a_q0, a_hv0, a_q1, a_hv1, a_q2, a_q3]
  try omega
theorem rn_item2_4 {nx : DS → Nat × DS} {s0 s1 s2 s3 s4 s5 : DS} {n2 n3 n4 x0 x1 : Nat}  (a_q0 : nx s0 = (x0, s1)) (a_hv0 : x0 % 2 = 1) (a_q1 : nx s1 = (x1, s2)) (a_hv1 : x1 % 8 = 4) (a_q2 : Draw.run nx (dExpr 1) s2 = (n2, s3)) (a_q3 : Draw.run nx (dExpr 1) s3 = (n3, s4)) (a_q4 : Draw.run nx (dBlock (dStmt 2)) s4 = (n4, s5)) : Draw.run nx (dItem) s0 = (n2 + n3 + n4 + 1, s5) := by
  simp [dItem, dItemAt, Draw.run, Draw.run_bind, skip, a_q0, a_hv0, a_q1, a_hv1, a_q2, a_q3, a_q4]
  try omega
theorem rn_item2_6 {nx : DS → Nat × DS} {s0 s1 s2 s3 : DS} {x0 x1 x2 : Nat}  (a_q0 : nx s0 = (x0, s1)) (a_hv0 : x0 % 2 = 1) (a_q1 : nx s1 = (x1, s2)) (a_hv1 : x1 % 8 = 6) (a_q2 : nx s2 = (x2, s3)) : Draw.run nx (dItem) s0 = (1, s3) := by
  simp [dItem, dItemAt, Draw.run, Draw.run_bind, skip, a_q0, a_hv0, a_q1, a_hv1, a_q2]
  try omega
theorem rn_item2_7 {nx : DS → Nat × DS} {s0 s1 s2 s3 s4 : DS} {n2 n3 x0 x1 : Nat}  (a_q0 : nx s0 = (x0, s1)) (a_hv0 : x0 % 2 = 1) (a_q1 : nx s1 = (x1, s2)) (a_hv1 : x1 % 8 = 7) (a_q2 : Draw.run nx (dExpr 2) s2 = (n2, s3)) (a_q3 : Draw.run nx (dBlock (dStmt 2)) s3 = (n3, s4)) : Draw.run nx (dItem) s0 = (n2 + n3 + 1, s4) := by
  simp [dItem, dItemAt, Draw.run, Draw.run_bind, skip, a_q0, a_hv0, a_q1, a_hv1, a_q2, a_q3]
  try omega
set_option maxRecDepth 100000 in
set_option maxHeartbeats 6400000 in
theorem item_case2 {w0 w : World} {p : Nat} {bv : Value} {bs : List UInt8} {s0 s1 : DS} {x0 : Nat} (hc : CurX w0 w p bv bs s0) (q0 : Hid (dNext bs s0 = (x0, s1))) (hv0 : Hid (x0 % 2 = 1)) :
    Calls Tryz.prog 136 #[.pointer (some ⟨p, 0, none⟩)] w fun e w' => DrawnX w0 w p bv bs dItem s0 e w' := by
  have he1 := expr_at 1 1 (by omega) rfl
  have le1 : (dExpr 1).Lt 4 13 := lt_expr 1
  have he := expr_at 2 2 (by omega) rfl
  have le : (dExpr 2).Lt 13 43 := lt_mono (lt_expr 2) (by decide) (by decide)
  have hb := block_at2
  have lb := lt_blocks 2 (by omega)
  have g0 := hid (GX.start hc)
  clear hc
  go_enter Tryz.func136, Tryz.ntmps136
  go_wp2_with fail
  refine (belowY g0.out q0 _ 2 rfl (by omega) (by omega)).mono ?_
  rintro e w1 ⟨rfl, gx⟩
  have g1 := hid gx
  clear gx g0
  rw [hv0.out]
  obtain ⟨x1, s2, q1⟩ := ex_next bs s1
  go_wp2_with fail
  refine (belowY g1.out q1 _ 8 rfl (by omega) (by omega)).mono ?_
  rintro e w2 ⟨rfl, gx⟩
  have g2 := hid gx
  clear gx g1
  have hy1 := Nat.mod_lt x1 (show 0 < 8 by omega)
  generalize hv1 : x1 % 8 = y1 at hy1 ⊢
  replace hv1 := hid hv1
  obtain rfl | rfl | rfl | rfl | rfl | rfl | rfl | rfl : y1 = 0 ∨ y1 = 1 ∨ y1 = 2 ∨ y1 = 3 ∨ y1 = 4 ∨ y1 = 5 ∨ y1 = 6 ∨ y1 = 7 := by omega
  · obtain ⟨x2, s3, q2⟩ := ex_next bs s2
    go_wp2_with fail
    refine (belowY g2.out q2 _ 2 rfl (by omega) (by omega)).mono ?_
    rintro e w3 ⟨rfl, gx⟩
    have g3 := hid gx
    clear gx g2
    have hy2 := Nat.mod_lt x2 (show 0 < 2 by omega)
    generalize hv2 : x2 % 2 = y2 at hy2 ⊢
    replace hv2 := hid hv2
    obtain ⟨n3, s4, q3⟩ : ∃ n s', Hid (Draw.run (dNext bs) (dBlock (dStmt 2)) s3 = (n, s')) := ⟨_, _, hid rfl⟩
    go_wp2_with fail
    refine (drawY hb g3.out q3 lb (by omega)).mono ?_
    rintro e w4 ⟨a3, b3, c3, l3, rfl, gx, hl3⟩
    have g4 := hid gx
    clear gx g3
    go_wp2_with fail
    refine (make_any (g4.out.lit #[.slice a3 b3 c3] rfl 1 rfl (by omega)) (by simp) ⟨_, _, _, _, []⟩ ⟨⟨by first | assumption | (show 0 ≤ 16; omega), by first | assumption | (show 0 ≤ 16; omega)⟩, by first | (simp; done) | (simp; omega), by first | (simp; done) | (simp; omega)⟩).mono ?_
    rintro e w9 ⟨v, l, rfl, h1, h2, h3, h4, h5⟩
    go_wp2
    go_ret
    have hmod := rn_item2_0 (nx := dNext bs)  q0.out hv0.out q1.out hv1.out q2.out hv2.out q3.out
    exact ⟨v, l, rfl, h1, by rw [hmod]; exact h2, h3, h4, by rw [hmod, h5]; simp [hl3]; try omega⟩
  · obtain ⟨n2, s3, q2⟩ : ∃ n s', Hid (Draw.run (dNext bs) (dExpr 2) s2 = (n, s')) := ⟨_, _, hid rfl⟩
    go_wp2_with fail
    refine (drawY he g2.out q2 le (by omega)).mono ?_
    rintro e w3 ⟨a2, b2, c2, l2, rfl, gx, hl2⟩
    have g3 := hid gx
    clear gx g2
    go_wp2_with fail
    refine (make_any (g3.out.lit #[.slice a2 b2 c2] rfl 1 rfl (by omega)) (by simp) ⟨_, _, _, _, []⟩ ⟨⟨by first | assumption | (show 0 ≤ 16; omega), by first | assumption | (show 0 ≤ 16; omega)⟩, by first | (simp; done) | (simp; omega), by first | (simp; done) | (simp; omega)⟩).mono ?_
    rintro e w9 ⟨v, l, rfl, h1, h2, h3, h4, h5⟩
    go_wp2
    go_ret
    have hmod := rn_item2_1 (nx := dNext bs)  q0.out hv0.out q1.out hv1.out q2.out
    exact ⟨v, l, rfl, h1, by rw [hmod]; exact h2, h3, h4, by rw [hmod, h5]; simp [hl2]; try omega⟩
  · obtain ⟨n2, s3, q2⟩ : ∃ n s', Hid (Draw.run (dNext bs) (dBlock (dStmt 2)) s2 = (n, s')) := ⟨_, _, hid rfl⟩
    go_wp2_with fail
    refine (drawY hb g2.out q2 lb (by omega)).mono ?_
    rintro e w3 ⟨a2, b2, c2, l2, rfl, gx, hl2⟩
    have g3 := hid gx
    clear gx g2
    go_wp2_with fail
    refine (make_any (g3.out.lit #[.slice a2 b2 c2] rfl 1 rfl (by omega)) (by simp) ⟨_, _, _, _, []⟩ ⟨⟨by first | assumption | (show 0 ≤ 16; omega), by first | assumption | (show 0 ≤ 16; omega)⟩, by first | (simp; done) | (simp; omega), by first | (simp; done) | (simp; omega)⟩).mono ?_
    rintro e w9 ⟨v, l, rfl, h1, h2, h3, h4, h5⟩
    go_wp2
    go_ret
    have hmod := rn_item2_2 (nx := dNext bs)  q0.out hv0.out q1.out hv1.out q2.out
    exact ⟨v, l, rfl, h1, by rw [hmod]; exact h2, h3, h4, by rw [hmod, h5]; simp [hl2]; try omega⟩
  · obtain ⟨n2, s3, q2⟩ : ∃ n s', Hid (Draw.run (dNext bs) (dExpr 1) s2 = (n, s')) := ⟨_, _, hid rfl⟩
    go_wp2_with fail
    refine (drawY he1 g2.out q2 le1 (by omega)).mono ?_
    rintro e w3 ⟨a2, b2, c2, l2, rfl, gx, hl2⟩
    have g3 := hid gx
    clear gx g2
    obtain ⟨n3, s4, q3⟩ : ∃ n s', Hid (Draw.run (dNext bs) (dExpr 1) s3 = (n, s')) := ⟨_, _, hid rfl⟩
    go_wp2_with fail
    refine (drawY he1 g3.out q3 le1 (by omega)).mono ?_
    rintro e w4 ⟨a3, b3, c3, l3, rfl, gx, hl3⟩
    have g4 := hid gx
    clear gx g3
    go_wp2_with fail
    refine (make_any (g4.out.lit #[.slice a2 b2 c2, .slice a3 b3 c3] rfl 2 rfl (by omega)) (by simp) ⟨_, _, _, _, []⟩ ⟨⟨by first | assumption | (show 0 ≤ 16; omega), by first | assumption | (show 0 ≤ 16; omega)⟩, by first | (simp; done) | (simp; omega), by first | (simp; done) | (simp; omega)⟩).mono ?_
    rintro e w9 ⟨v, l, rfl, h1, h2, h3, h4, h5⟩
    go_wp2
    go_ret
    have hmod := rn_item2_3 (nx := dNext bs)  q0.out hv0.out q1.out hv1.out q2.out q3.out
    exact ⟨v, l, rfl, h1, by rw [hmod]; exact h2, h3, h4, by rw [hmod, h5]; simp [hl2, hl3]; try omega⟩
  · obtain ⟨n2, s3, q2⟩ : ∃ n s', Hid (Draw.run (dNext bs) (dExpr 1) s2 = (n, s')) := ⟨_, _, hid rfl⟩
    go_wp2_with fail
    refine (drawY he1 g2.out q2 le1 (by omega)).mono ?_
    rintro e w3 ⟨a2, b2, c2, l2, rfl, gx, hl2⟩
    have g3 := hid gx
    clear gx g2
    obtain ⟨n3, s4, q3⟩ : ∃ n s', Hid (Draw.run (dNext bs) (dExpr 1) s3 = (n, s')) := ⟨_, _, hid rfl⟩
    go_wp2_with fail
    refine (drawY he1 g3.out q3 le1 (by omega)).mono ?_
    rintro e w4 ⟨a3, b3, c3, l3, rfl, gx, hl3⟩
    have g4 := hid gx
    clear gx g3
    obtain ⟨n4, s5, q4⟩ : ∃ n s', Hid (Draw.run (dNext bs) (dBlock (dStmt 2)) s4 = (n, s')) := ⟨_, _, hid rfl⟩
    go_wp2_with fail
    refine (drawY hb g4.out q4 lb (by omega)).mono ?_
    rintro e w5 ⟨a4, b4, c4, l4, rfl, gx, hl4⟩
    have g5 := hid gx
    clear gx g4
    go_wp2_with fail
    refine (make_any (g5.out.lit #[.slice a2 b2 c2, .slice a3 b3 c3, .slice a4 b4 c4] rfl 3 rfl (by omega)) (by simp) ⟨_, _, _, _, []⟩ ⟨⟨by first | assumption | (show 0 ≤ 16; omega), by first | assumption | (show 0 ≤ 16; omega)⟩, by first | (simp; done) | (simp; omega), by first | (simp; done) | (simp; omega)⟩).mono ?_
    rintro e w9 ⟨v, l, rfl, h1, h2, h3, h4, h5⟩
    go_wp2
    go_ret
    have hmod := rn_item2_4 (nx := dNext bs)  q0.out hv0.out q1.out hv1.out q2.out q3.out q4.out
    exact ⟨v, l, rfl, h1, by rw [hmod]; exact h2, h3, h4, by rw [hmod, h5]; simp [hl2, hl3, hl4]; try omega⟩
  · have hv0' := hv0.out
    obtain ⟨x2, s3, q2⟩ := ex_next bs s2
    obtain ⟨n3, s4, q3⟩ : ∃ n s', Hid (Draw.run (dNext bs) (dTimes (skip (.ret 1)) (x2 % 3) 0) s3 = (n, s')) := ⟨_, _, hid rfl⟩
    obtain ⟨x4, s5, q4⟩ := ex_next bs s4
    obtain ⟨n5, s6, q5⟩ : ∃ n s', Hid (Draw.run (dNext bs) (dBlock (dStmt 2)) s5 = (n, s')) := ⟨_, _, hid rfl⟩
    have hmod := hid (rn_item5 2 q0.out (by omega) q1.out hv1.out q2.out q3.out q4.out q5.out)
    obtain ⟨i0, hi, hz0, hz1, hz2⟩ := info_parts infoNSlice
    clear hv0'
    have hp2 := g2.out.cur.lt
    have hbc := hid (fun o => specl1BelowX w0 (w2.alloc o) p bv bs s2 3 3 rfl (by omega) (by omega) (g2.out.alloc o).cur)
    rw [q2.out] at hbc
    have hy := Nat.mod_lt x2 (show 0 < 3 by omega)
    simp only at hbc
    generalize x2 % 3 = y at *
    go_wp2_with fail
    refine (hbc.out _).mono ?_
    rintro e w3 ⟨rfl, hg1, hc1⟩
    have hp0 := hid (PartsX.start (GX.start g2.out.cur) hg1 hc1)
    clear hg1 hc1 hbc
    go_wp2
    go_loopw [4, 5] (fun v i wr => ∃ (ps : List (List Node × Value)) (j : Nat) (sj : DS) (v' : Value), v = v' ∧ i = .int .i64 j ∧ ps.length + j ≤ 4 ∧ Hid ((dTimes (skip (.ret 1)) j ((ps.map Prod.fst).map List.length).sum).run (dNext bs) sj = (n3, s4)) ∧ Hid (PartsX w0 w2 p bv bs sj v' ps wr)) (fun _ i _ => (intOf i).toNat)
    case atStart => exact ⟨[], y, s3, _, rfl, rfl, by simp; omega, q3, hp0⟩
    clear hp0 q3
    obtain ⟨ps, j, sj, v0, rfl, rfl, hm0, hrun, hpd⟩ := hrel
    rename World => wo
    by_cases hj : 0 < j
    · obtain ⟨j', rfl⟩ : ∃ j', j = j' + 1 := ⟨j - 1, by omega⟩
      obtain ⟨xj, sk, qj⟩ := ex_next bs sj
      have hrun2 := rn_times _ hrun.out
      rw [run_skip1 qj.out] at hrun2
      go_wp2_with fail
      refine (wordY (GX.start hpd.out.cur) qj).mono ?_
      rintro e w1' ⟨t, ht, rfl, gx⟩
      have hown := hpd.out.own.kept gx.gr (ownBlock_ne hpd.out.own hp2)
      have hsz := hpd.out.gr.size
      have hsz5 := gx.gr.size
      have hlf := hid (own_leafN w1' ⟨1, 0, t, ⟨#[]⟩, []⟩ rfl)
      have hsl := hid (leaf_small ⟨1, 0, t, ⟨#[]⟩, []⟩ rfl ⟨⟨ht, by show 0 ≤ 16; omega⟩, by simp, by simp⟩)
      have hrun3 : Hid ((dTimes (skip (.ret 1)) j' (((ps ++ [([(⟨1, 0, t, ⟨#[]⟩, []⟩ : Node)], Value.slice (some ⟨w1'.heap.size, 0, none⟩) 1 1)]).map Prod.fst).map List.length).sum).run (dNext bs) sk = (n3, s4)) := hid (by
        simp only [List.map_append, List.map_cons, List.map_nil, List.sum_append, List.sum_cons, List.sum_nil, Nat.add_zero, List.length_singleton]
        exact hrun2)
      replace hown := hid hown
      replace gx := hid gx
      clear hrun hrun2
      go_wp2_with (at_builtin; refine Hid.out ?_)
      refine hid ?_
      refine wpList_append_lies _ (by rfl) _ _ _ (by rfl) w2.heap.size 26 i0 _ 1 24 Tryz.underlying127 hi hz0 hz1 hz2 rfl (by omega) _ ps.length (ps.flatMap part1) (by rfl) ((hown.out.alloc _).alloc _) ⟨w1'.heap.size + 1, 0, none⟩ 1 1 [.slice (some ⟨w1'.heap.size, 0, none⟩) 1 1] (by rfl) (by rfl) (new_cells_at _ _ _ _ _ (by rfl) (by simp)) (by simp [Value.oneCell']) (by omega) (by unfold maxLen; omega) (by omega) (by simp; omega) (w1'.heap.size + 1 + 1) (by simp) ?_
      intro gg cap w6 hown6 hg6 hat hlt6
      have hpd2 := hid (hpd.out.step (gx.out.alloc _).gr (gx.out.alloc _).cur (hlf.out.lowX hsz5) hsl.out (by simp) hown6 hg6 (by simpa using hat))
      clear hpd hown6 hg6 hat hown gx hlf hsl
      go_wp2
      all_goals go_roundw
      all_goals first
        | (simp only [intOf]; omega)
        | exact ⟨_, j', _, _, rfl, by first | rfl | (congr 1; omega), by simp; omega, hrun3, hpd2⟩
    · obtain rfl : j = 0 := by omega
      obtain ⟨va, vc, rfl, _⟩ := own_slice hpd.out.own
      have hfin := rn_times0 _ hrun.out
      obtain ⟨hf1, rfl⟩ := hfin
      have hf2 : Hid ((ps.map (List.length ∘ Prod.fst)).sum = n3) := hid (by rw [← hf1, List.map_map])
      clear hrun hf1
      have hpk := hid (fun o => specl1PickX w0 (wo.alloc (.cells (fun7.flatMap str1).toArray o)) p bv bs sj fun7 wo.heap.size 3 (by decide) (by decide) (by decide) (by have := hpd.out.cur.lt; omega) (rowAt_lit _ _ _) (hpd.out.alloc _).cur)
      go_wp2_with fail
      refine (hpk.out _).mono ?_
      rintro e w4 ⟨t, ht, rfl, hg4, hc4⟩
      rw [q4.out] at hc4
      have hts : t.size ≤ 16 := by
        have : ∀ y ∈ fun7, y.size ≤ 16 := by decide
        exact this t ht
      have px4 := hid ((hpd.out.alloc _).keep hg4 hc4)
      clear hpd hpk hg4 hc4 ht
      go_wp2_with fail
      refine (hb w0 w4 p bv bs s5 px4.out.cur).mono ?_
      rintro e w5 ⟨v1, l1', rfl, hg5, hc5, ho5, hs5, hl5⟩
      have hlb : l1'.length ≤ 1300 := by have := (lb.run (dNext bs) s5).1; omega
      rw [q5.out] at hc5 hl5
      have hown := px4.out.own.kept hg5 (ownBlock_ne px4.out.own hp2)
      have hsz := px4.out.gr.size
      have hsz5 := hg5.size
      obtain ⟨a1, n1, c1, rfl⟩ := own_vslice ho5
      replace hown := hid hown
      replace ho5 := hid ho5
      replace hg5 := hid hg5
      replace hc5 := hid hc5
      replace hl5 := hid hl5
      go_wp2_with (at_builtin; refine Hid.out ?_)
      refine hid ?_
      refine wpList_append_lies _ (by rfl) _ _ _ (by rfl) w2.heap.size 26 i0 _ 1 24 Tryz.underlying127 hi hz0 hz1 hz2 rfl (by omega) _ ps.length (ps.flatMap part1) (by rfl) (hown.out.alloc _) ⟨w5.heap.size, 0, none⟩ 1 1 [.slice a1 n1 c1] (by rfl) (by rfl) (World.news_of_block (cs := #[.slice a1 n1 c1]) (t := 26) (fr := (0, 0)) (heap_alloc_new w5 _)) (by simp [Value.oneCell']) (by omega) (by unfold maxLen; omega) (by omega) (by simp; omega) (w5.heap.size + 1) (by simp) ?_
      intro gg cap w6 hown6 hg6 hat hlt6
      have hpd2 := hid (px4.out.step hg5.out hc5.out ho5.out hs5 hlb hown6 hg6 hat)
      clear px4 hown6 hg6 hat hown hg5 hc5 ho5
      go_wp2_with fail
      refine (make_any hpd2.out (by simp; omega) ⟨44, 0, t, ⟨#[]⟩, []⟩ ⟨⟨hts, by show 0 ≤ 16; omega⟩, by simp, by simp⟩).mono ?_
      rintro e w9 ⟨v, l, rfl, h1, h2, h3, h4, h5⟩
      go_wp2
      go_ret
      exact ⟨v, l, rfl, grown_trans g2.out.gr h1, by rw [hmod.out]; exact h2, h3.lowX g2.out.gr.size, h4, by rw [hmod.out, h5]; simp [hf2.out, hl5.out]⟩
  · obtain ⟨x2, s3, q2⟩ := ex_next bs s2
    go_wp2_with fail
    refine (pickY g2.out q2 top7 2 rfl (by decide) (by decide) _ _ rfl (by decide)).mono ?_
    rintro e w3 ⟨t2, ht2, rfl, gx⟩
    have g3 := hid gx
    clear gx g2
    have hlf := hid (leaf_drawn ⟨34, 0, t2, ⟨#[]⟩, []⟩ rfl ⟨⟨ht2, by show 0 ≤ 16; omega⟩, by simp, by simp⟩ g3.out)
    go_wp2
    go_ret
    have hmod := rn_item2_6 (nx := dNext bs)  q0.out hv0.out q1.out hv1.out q2.out
    obtain ⟨v, l, e1, h1, h2, h3, h4, h5⟩ := hlf.out
    exact ⟨v, l, e1, h1, by rw [hmod]; exact h2, h3, h4, by rw [hmod, h5]⟩
  · obtain ⟨n2, s3, q2⟩ : ∃ n s', Hid (Draw.run (dNext bs) (dExpr 2) s2 = (n, s')) := ⟨_, _, hid rfl⟩
    go_wp2_with fail
    refine (drawY he g2.out q2 le (by omega)).mono ?_
    rintro e w3 ⟨a2, b2, c2, l2, rfl, gx, hl2⟩
    have g3 := hid gx
    clear gx g2
    obtain ⟨n3, s4, q3⟩ : ∃ n s', Hid (Draw.run (dNext bs) (dBlock (dStmt 2)) s3 = (n, s')) := ⟨_, _, hid rfl⟩
    go_wp2_with fail
    refine (drawY hb g3.out q3 lb (by omega)).mono ?_
    rintro e w4 ⟨a3, b3, c3, l3, rfl, gx, hl3⟩
    have g4 := hid gx
    clear gx g3
    go_wp2_with fail
    refine (make_any (g4.out.lit #[.slice a2 b2 c2, .slice a3 b3 c3] rfl 2 rfl (by omega)) (by simp) ⟨_, _, _, _, []⟩ ⟨⟨by first | assumption | (show 0 ≤ 16; omega), by first | assumption | (show 0 ≤ 16; omega)⟩, by first | (simp; done) | (simp; omega), by first | (simp; done) | (simp; omega)⟩).mono ?_
    rintro e w9 ⟨v, l, rfl, h1, h2, h3, h4, h5⟩
    go_wp2
    go_ret
    have hmod := rn_item2_7 (nx := dNext bs)  q0.out hv0.out q1.out hv1.out q2.out q3.out
    exact ⟨v, l, rfl, h1, by rw [hmod]; exact h2, h3, h4, by rw [hmod, h5]; simp [hl2, hl3]; try omega⟩
theorem item_draws : Draws 136 [] dItem := by
  intro w0 w p bv bs s0 hc
  obtain ⟨x0, s1, q0⟩ := ex_next bs s0
  have hy := Nat.mod_lt x0 (show 0 < 2 by omega)
  obtain h | h : x0 % 2 = 0 ∨ x0 % 2 = 1 := by omega
  · exact item_case1 hc q0 (hid h)
  · exact item_case2 hc q0 (hid h)
end Go.Proofs.YtkelhmgdajiocaaGreatDoor
