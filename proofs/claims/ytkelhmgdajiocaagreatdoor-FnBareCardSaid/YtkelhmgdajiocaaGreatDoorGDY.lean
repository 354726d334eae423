/- Walks and lemmas of this seat (FDrawNC): what each theorem says of the functions that it names. Conditions: those that each theorem states. -/
import Derived.Test.YtkelhmgdajiocaaGreatDoorFDrawNB
namespace Go.Proofs.YtkelhmgdajiocaaGreatDoor
set_option linter.unusedVariables false
set_option linter.unusedSimpArgs false
open Go.RowKit
theorem rn_maybey {nx : DS → Nat × DS} {s0 s1 : DS} {x0 : Nat} (e_ : Draw Nat) (a_q0 : nx s0 = (x0, s1)) (a_hz0 : x0 % 3 = 0) : Draw.run nx (dMaybe e_) s0 = (1, s1) := by
  simp [dMaybe, Draw.run, Draw.run_bind, skip, a_q0, a_hz0]
  try omega
theorem rn_mayben {nx : DS → Nat × DS} {s0 s1 : DS} {x0 : Nat} (e_ : Draw Nat) (a_q0 : nx s0 = (x0, s1)) (a_hz0 : ¬ x0 % 3 = 0) : Draw.run nx (dMaybe e_) s0 = Draw.run nx (e_) s1 := by
  simp [dMaybe, Draw.run, Draw.run_bind, skip, a_q0, a_hz0]
  try omega
set_option maxRecDepth 100000 in
set_option maxHeartbeats 6400000 in
theorem maybe_draws (k : Int) {e_ : Draw Nat} (he : Draws 84 [.int .i64 k] e_) : Draws 135 [.int .i64 k] (dMaybe e_) := by
  intro w0 w p bv bs s0 hc
  have g0 := hid (GX.start hc)
  clear hc
  show Calls Tryz.prog 135 #[.pointer (some ⟨p, 0, none⟩), .int .i64 k] w _
  go_enter Tryz.func135, Tryz.ntmps135
  obtain ⟨x0, s1, q0⟩ := ex_next bs s0
  go_wp2_with fail
  refine (onceY g0.out q0 _ 3 rfl (by omega) (by omega)).mono ?_
  rintro e w1 ⟨rfl, gx⟩
  have g1 := hid gx
  clear gx g0
  by_cases hz0 : x0 % 3 = 0
  · have hb0 : (x0 % 3 == 0) = true := by simpa using hz0
    rw [hb0]
    clear hb0
    replace hz0 := hid hz0
    have hlf := hid (leaf_drawn ⟨16, 0, ⟨#[]⟩, ⟨#[]⟩, []⟩ rfl ⟨⟨by show 0 ≤ 16; omega, by show 0 ≤ 16; omega⟩, by simp, by simp⟩ g1.out)
    go_wp2
    go_ret
    have hmod := rn_maybey (nx := dNext bs) e_ q0.out hz0.out
    obtain ⟨v, l, e1, h1, h2, h3, h4, h5⟩ := hlf.out
    exact ⟨v, l, e1, h1, by rw [hmod]; exact h2, h3, h4, by rw [hmod, h5]⟩
  · have hb0 : (x0 % 3 == 0) = false := by simpa using hz0
    rw [hb0]
    clear hb0
    replace hz0 := hid hz0
    go_wp2_with fail
    refine (he w0 w1 p bv bs s1 g1.out.cur).mono ?_
    rintro e w9 ⟨v, l, rfl, h1, h2, h3, h4, h5⟩
    go_wp2
    go_ret
    have hmod := rn_mayben (nx := dNext bs) e_ q0.out hz0.out
    exact ⟨v, l, rfl, grown_trans g1.out.gr h1, by rw [hmod]; exact h2, h3.lowX g1.out.gr.size, h4, by rw [hmod]; exact h5⟩
theorem rn_block {nx : DS → Nat × DS} {s0 s1 s9 : DS} {x0 n9 : Nat} (t : Draw Nat) (a0 : nx s0 = (x0, s1)) (a1 : Draw.run nx (dTimes t (x0 % 3) 0) s1 = (n9, s9)) : Draw.run nx (dBlock t) s0 = (n9 + 1, s9) := by
  simp [dBlock, Draw.run, Draw.run_bind, a0, a1]
theorem rn_times {nx : DS → Nat × DS} {s s9 : DS} {n9 j m : Nat} (t : Draw Nat) (a : Draw.run nx (dTimes t (j + 1) m) s = (n9, s9)) : Draw.run nx (dTimes t j (m + (Draw.run nx t s).1)) (Draw.run nx t s).2 = (n9, s9) := by
  rw [dTimes, Draw.run_bind] at a
  exact a
theorem rn_times0 {nx : DS → Nat × DS} {s s9 : DS} {n9 m : Nat} (t : Draw Nat) (a : Draw.run nx (dTimes t 0 m) s = (n9, s9)) : m = n9 ∧ s = s9 := by
  rw [dTimes] at a
  simpa [Draw.run] using a
set_option maxRecDepth 100000 in
set_option maxHeartbeats 6400000 in
theorem block_draws (k : Int) (hk : -10 ≤ k ∧ k ≤ 10) {t : Draw Nat} {m b : Nat} (he : Draws 109 [.int .i64 k] t) (lt : t.Lt m b) (hm : m ≤ 1300) : Draws 134 [.int .i64 k] (dBlock t) := by
  intro w0 w p bv bs s0 hc
  have g0 := hid (GX.start hc)
  obtain ⟨x0, s1, q0⟩ := ex_next bs s0
  obtain ⟨n9, s9, q9⟩ : ∃ n s', Hid (Draw.run (dNext bs) (dTimes t (x0 % 3) 0) s1 = (n, s')) := ⟨_, _, hid rfl⟩
  have hmod := hid (rn_block t q0.out q9.out)
  obtain ⟨i0, hi, hz0, hz1, hz2⟩ := info_parts infoNSlice
  have hpw := hc.lt
  clear hc
  have hbc := specl1BelowX w0 (w.alloc (.cells #[] 26)) p bv bs s0 3 3 rfl (by omega) (by omega) (g0.out.alloc _).cur
  rw [q0.out] at hbc
  have hy := Nat.mod_lt x0 (show 0 < 3 by omega)
  simp only at hbc
  generalize x0 % 3 = y at *
  replace hbc := hid hbc
  show Calls Tryz.prog 134 #[.pointer (some ⟨p, 0, none⟩), .int .i64 k] w _
  go_enter Tryz.func134, Tryz.ntmps134
  go_wp2_with fail
  refine hbc.out.mono ?_
  rintro e w1 ⟨rfl, hg1, hc1⟩
  have hp0 := hid (PartsX.start g0.out hg1 hc1)
  clear hg1 hc1 hbc g0
  go_wp2
  go_loopw [5, 6] (fun v i wr => ∃ (ps : List (List Node × Value)) (j : Nat) (sj : DS) (v' : Value), v = v' ∧ i = .int .i64 j ∧ ps.length + j ≤ 4 ∧ Hid ((dTimes t j ((ps.map Prod.fst).map List.length).sum).run (dNext bs) sj = (n9, s9)) ∧ Hid (PartsX w0 w p bv bs sj v' ps wr)) (fun _ i _ => (intOf i).toNat)
  case atStart => exact ⟨[], y, s1, _, rfl, rfl, by simp; omega, q9, hp0⟩
  clear hp0 q9
  obtain ⟨ps, j, sj, v0, rfl, rfl, hm0, hrun, hpd⟩ := hrel
  rename World => wo
  by_cases hj : 0 < j
  · obtain ⟨j', rfl⟩ : ∃ j', j = j' + 1 := ⟨j - 1, by omega⟩
    go_wp2_with fail
    refine (he w0 wo p bv bs sj hpd.out.cur).mono ?_
    rintro e w5 ⟨v1, l1, rfl, hg5, hc5, ho5, hs5, hl5⟩
    have hlb : l1.length ≤ 1300 := by have := (lt.run (dNext bs) sj).1; omega
    have hrun2 : Hid ((dTimes t j' (((ps ++ [(l1, v1)]).map Prod.fst).map List.length).sum).run (dNext bs) (Draw.run (dNext bs) t sj).2 = (n9, s9)) := hid (by
      have := rn_times t hrun.out
      simp only [List.map_append, List.map_cons, List.map_nil, List.sum_append, List.sum_cons, List.sum_nil, Nat.add_zero, hl5]
      exact this)
    have hown := hpd.out.own.kept hg5 (ownBlock_ne hpd.out.own hpw)
    have hsz := hpd.out.gr.size
    have hsz5 := hg5.size
    obtain ⟨a1, n1, c1, rfl⟩ := own_vslice ho5
    replace hown := hid hown
    replace ho5 := hid ho5
    replace hg5 := hid hg5
    replace hc5 := hid hc5
    clear hrun hl5
    go_wp2_with (at_builtin; refine Hid.out ?_)
    refine hid ?_
    refine wpList_append_lies _ (by rfl) _ _ _ (by rfl) w.heap.size 26 i0 _ 1 24 Tryz.underlying127 hi hz0 hz1 hz2 rfl (by omega) _ ps.length (ps.flatMap part1) (by rfl) (hown.out.alloc _) ⟨w5.heap.size, 0, none⟩ 1 1 [.slice a1 n1 c1] (by rfl) (by rfl) (World.news_of_block (cs := #[.slice a1 n1 c1]) (t := 26) (fr := (0, 0)) (heap_alloc_new w5 _)) (by simp [Value.oneCell']) (by omega) (by unfold maxLen; omega) (by omega) (by simp; omega) (w5.heap.size + 1) (by simp) ?_
    intro gg cap w6 hown6 hg6 hat hlt6
    have hpd2 := hid (hpd.out.step hg5.out hc5.out ho5.out hs5 hlb hown6 hg6 hat)
    clear hpd hown6 hg6 hat hown hg5 hc5 ho5
    go_wp2
    all_goals go_roundw
    all_goals first
      | (simp only [intOf]; omega)
      | exact ⟨_, j', _, _, rfl, by first | rfl | (congr 1; omega), by simp; omega, hrun2, hpd2⟩
  · obtain rfl : j = 0 := by omega
    obtain ⟨va, vc, rfl, _⟩ := own_slice hpd.out.own
    have hfin := rn_times0 t hrun.out
    obtain ⟨hf1, rfl⟩ := hfin
    replace hf1 := hid hf1
    clear hrun
    go_wp2_with fail
    refine (make_any hpd.out (by omega) ⟨33, 0, ⟨#[]⟩, ⟨#[]⟩, []⟩ ⟨⟨by show 0 ≤ 16; omega, by show 0 ≤ 16; omega⟩, by simp, by simp⟩).mono ?_
    rintro e w9 ⟨v, l, rfl, h1, h2, h3, h4, h5⟩
    go_wp2
    go_ret
    exact ⟨v, l, rfl, h1, by rw [hmod.out]; exact h2, h3, h4, by rw [hmod.out, h5, hf1.out]⟩
end Go.Proofs.YtkelhmgdajiocaaGreatDoor
/- Walks and lemmas of this seat (FDrawND): what each theorem says of the functions that it names. Conditions: those that each theorem states. -/
namespace Go.Proofs.YtkelhmgdajiocaaGreatDoor
set_option linter.unusedVariables false
set_option linter.unusedSimpArgs false
open Go.RowKit
def sep7 : List ByteArray := [⟨#[62]⟩, ⟨#[62, 62]⟩, ⟨#[124]⟩]
def nbc7 : List Int := [22, 25, 26]
def exr7 : List Int := [23, 24]
def com7 : List ByteArray := [⟨#[35]⟩, ⟨#[35, 32, 110, 111, 116, 101]⟩, ⟨#[35, 120, 32, 61, 32, 49]⟩]
/-- A box ahead of the parts is written; the parts stand over the world ahead of the box. -/
theorem PartsX.box {w0 w2 wb w5 : World} {p b0 j : Nat} {bv v u : Value} {bs : List UInt8} {s : DS} {ps : List (List Node × Value)} (h : PartsX w0 wb p bv bs s v ps w5) (hg : w2.grownBy wb (some p)) (hp : p < w2.heap.size) (h1 : w2.heap.size ≤ b0) (h2 : b0 < wb.heap.size) : PartsX w0 w2 p bv bs s v ps (w5.setCell ⟨b0, j, none⟩ u) := by
  have hs := hg.size
  have hset := grown_set w5 b0 j u
  have e1 := grown_trans hg h.gr
  refine ⟨hp, ⟨hset.os.trans e1.os, hset.tape.trans e1.tape, hset.output.trans e1.output, Nat.le_trans e1.size hset.size, fun k hk hne => (hset.block k (Nat.lt_of_lt_of_le hk e1.size) fun e => by have := Option.some.inj e; omega).trans (e1.block k hk hne)⟩, ?_, ?_, fun q hq => ⟨(h.sub q hq).1.keep fun b hS hl => ⟨hset.block b hl fun e => by have := Option.some.inj e; have := hS.1; omega, by have := hS.1; omega, hS.2⟩, (h.sub q hq).2⟩⟩
  · exact h.cur.low (r := some b0) (fun g e => by have := Option.some.inj e; omega) hset
  · exact own_base (h.own.kept hset (ownBlock_ne h.own h2)) hs
theorem PartsX.lower {w0 w2 wb w5 : World} {p : Nat} {bv v : Value} {bs : List UInt8} {s : DS} {ps : List (List Node × Value)} (h : PartsX w0 wb p bv bs s v ps w5) (hg : w2.grownBy wb (some p)) (hp : p < w2.heap.size) : PartsX w0 w2 p bv bs s v ps w5 := by
  have hs := hg.size
  exact ⟨hp, grown_trans hg h.gr, h.cur, own_base h.own hs, fun q hq => ⟨(h.sub q hq).1.keep fun b hS hl => ⟨rfl, by have := hS.1; omega, hS.2⟩, (h.sub q hq).2⟩⟩
theorem PartsX.alloc {w0 w w1 : World} {p : Nat} {bv v : Value} {bs : List UInt8} {s : DS} {ps : List (List Node × Value)} (h : PartsX w0 w p bv bs s v ps w1) (o : Obj) : PartsX w0 w p bv bs s v ps (w1.alloc o) :=
  h.keep (World.grownBy_alloc _ _ _) (h.cur.below ((Below.refl _ _).alloc (Nat.le_refl _) _))
theorem rn_print {nx : DS → Nat × DS} {s0 s1 s2 s3 s4 : DS} {x0 x1 x3 n2 : Nat} (e_ e1 : Draw Nat) (a0 : nx s0 = (x0, s1)) (h0 : x0 % 9 = 0 ∨ x0 % 9 = 1) (a1 : nx s1 = (x1, s2)) (a2 : Draw.run nx (dList e_ (x1 % 2) (3 - x1 % 2 + 1)) s2 = (n2, s3)) (a3 : nx s3 = (x3, s4)) : Draw.run nx (dSimple e_ e1) s0 = if x3 % 3 = 0 then ((n2 + (Draw.run nx e1 (nx s4).2).1 + 1), (Draw.run nx e1 (nx s4).2).2) else (n2 + 1, s4) := by
  simp only [dSimple, Draw.run, a0, if_pos h0, a1, Draw.run_bind, a2, a3, skip]
  split <;> simp [Draw.run, Draw.run_bind]
theorem rn_simple2 {nx : DS → Nat × DS} {s0 s1 s2 : DS} {x0 x1 : Nat} (e_ e1 : Draw Nat) (a_q0 : nx s0 = (x0, s1)) (a_hv0 : x0 % 9 = 2) (a_q1 : nx s1 = (x1, s2)) : Draw.run nx (dSimple e_ e1) s0 = (1, s2) := by
  simp [dSimple, Draw.run, Draw.run_bind, skip, a_q0, a_hv0, a_q1]
  try omega
theorem rn_simple3 {nx : DS → Nat × DS} {s0 s1 s2 s3 : DS} {n2 x0 x1 : Nat} (e_ e1 : Draw Nat) (a_q0 : nx s0 = (x0, s1)) (a_hv0 : x0 % 9 = 3) (a_q1 : nx s1 = (x1, s2)) (a_q2 : Draw.run nx (dList (e_) (0) (2)) s2 = (n2, s3)) : Draw.run nx (dSimple e_ e1) s0 = (n2 + 1, s3) := by
  simp [dSimple, Draw.run, Draw.run_bind, skip, a_q0, a_hv0, a_q1, a_q2]
  try omega
theorem rn_simple4 {nx : DS → Nat × DS} {s0 s1 s2 s3 : DS} {n2 x0 x1 : Nat} (e_ e1 : Draw Nat) (a_q0 : nx s0 = (x0, s1)) (a_hv0 : x0 % 9 = 4) (a_q1 : nx s1 = (x1, s2)) (a_q2 : Draw.run nx (dList (e1) (0) (3)) s2 = (n2, s3)) : Draw.run nx (dSimple e_ e1) s0 = (n2 + 1, s3) := by
  simp [dSimple, Draw.run, Draw.run_bind, skip, a_q0, a_hv0, a_q1, a_q2]
  try omega
theorem rn_simple5y {nx : DS → Nat × DS} {s0 s1 s2 s3 : DS} {x0 x1 x2 : Nat} (e_ e1 : Draw Nat) (a_q0 : nx s0 = (x0, s1)) (a_hv0 : x0 % 9 = 5) (a_q1 : nx s1 = (x1, s2)) (a_hz1 : x1 % 2 = 0) (a_q2 : nx s2 = (x2, s3)) : Draw.run nx (dSimple e_ e1) s0 = (1, s3) := by
  simp [dSimple, Draw.run, Draw.run_bind, skip, a_q0, a_hv0, a_q1, a_hz1, a_q2]
  try omega
theorem rn_simple5n {nx : DS → Nat × DS} {s0 s1 s2 s3 : DS} {n2 x0 x1 : Nat} (e_ e1 : Draw Nat) (a_q0 : nx s0 = (x0, s1)) (a_hv0 : x0 % 9 = 5) (a_q1 : nx s1 = (x1, s2)) (a_hz1 : ¬ x1 % 2 = 0) (a_q2 : Draw.run nx (e_) s2 = (n2, s3)) : Draw.run nx (dSimple e_ e1) s0 = (n2 + 1, s3) := by
  simp [dSimple, Draw.run, Draw.run_bind, skip, a_q0, a_hv0, a_q1, a_hz1, a_q2]
  try omega
theorem rn_simple6 {nx : DS → Nat × DS} {s0 s1 s2 : DS} {n1 x0 : Nat} (e_ e1 : Draw Nat) (a_q0 : nx s0 = (x0, s1)) (a_hv0 : x0 % 9 = 6) (a_q1 : Draw.run nx (e_) s1 = (n1, s2)) : Draw.run nx (dSimple e_ e1) s0 = (n1 + 1, s2) := by
  simp [dSimple, Draw.run, Draw.run_bind, skip, a_q0, a_hv0, a_q1]
  try omega
theorem rn_simple7 {nx : DS → Nat × DS} {s0 s1 s2 : DS} {n1 x0 : Nat} (e_ e1 : Draw Nat) (a_q0 : nx s0 = (x0, s1)) (a_hv0 : x0 % 9 = 7) (a_q1 : Draw.run nx (e_) s1 = (n1, s2)) : Draw.run nx (dSimple e_ e1) s0 = (n1 + 1, s2) := by
  simp [dSimple, Draw.run, Draw.run_bind, skip, a_q0, a_hv0, a_q1]
  try omega
theorem rn_simple8 {nx : DS → Nat × DS} {s0 s1 s2 : DS} {n1 x0 : Nat} (e_ e1 : Draw Nat) (a_q0 : nx s0 = (x0, s1)) (a_hv0 : x0 % 9 = 8) (a_q1 : Draw.run nx (e_) s1 = (n1, s2)) : Draw.run nx (dSimple e_ e1) s0 = (n1 + 1, s2) := by
  simp [dSimple, Draw.run, Draw.run_bind, skip, a_q0, a_hv0, a_q1]
  try omega
set_option maxRecDepth 100000 in
set_option maxHeartbeats 6400000 in
theorem simple_case2 (k : Int) (hk : -5 ≤ k ∧ k ≤ 6) {e_ e1 : Draw Nat} {m b : Nat} (he : Draws 84 [.int .i64 k] e_) (he1 : Draws 84 [.int .i64 (k - 1)] e1) (l0 : e_.Lt m b) (l1 : e1.Lt m b) (hm : m ≤ 300)
    {w0 w : World} {p : Nat} {bv : Value} {bs : List UInt8} {s0 s1 : DS} {x0 : Nat} (hc : CurX w0 w p bv bs s0) (q0 : Hid (dNext bs s0 = (x0, s1))) (hv0 : Hid (x0 % 9 = 2)) :
    Calls Tryz.prog 133 #[.pointer (some ⟨p, 0, none⟩), .int .i64 k] w fun e w' => DrawnX w0 w p bv bs (dSimple e_ e1) s0 e w' := by
  have g0 := hid (GX.start hc)
  have hpw := hc.lt
  clear hc
  go_enter Tryz.func133, Tryz.ntmps133
  go_wp2_with fail
  refine (belowY g0.out q0 _ 9 rfl (by omega) (by omega)).mono ?_
  rintro e w1 ⟨rfl, gx⟩
  have g1 := hid gx
  clear gx g0
  rw [hv0.out]
  obtain ⟨x1, s2, q1⟩ := ex_next bs s1
  go_wp2_with fail
  refine (pickIntY g1.out q1 nbc7 3 rfl (by decide) (by decide) _ _ rfl (by decide)).mono ?_
  rintro e w2 ⟨t1, ht1, rfl, gx⟩
  have g2 := hid gx
  clear gx g1
  have hlf := hid (leaf_drawn ⟨t1, 0, ⟨#[]⟩, ⟨#[]⟩, []⟩ rfl ⟨⟨by show 0 ≤ 16; omega, by show 0 ≤ 16; omega⟩, ht1, by simp⟩ g2.out)
  go_wp2
  go_ret
  have hmod := rn_simple2 (nx := dNext bs) e_ e1 q0.out hv0.out q1.out
  obtain ⟨v, l, e1, h1, h2, h3, h4, h5⟩ := hlf.out
  exact ⟨v, l, e1, h1, by rw [hmod]; exact h2, h3, h4, by rw [hmod, h5]⟩
set_option maxRecDepth 100000 in
set_option maxHeartbeats 6400000 in
theorem simple_case3 (k : Int) (hk : -5 ≤ k ∧ k ≤ 6) {e_ e1 : Draw Nat} {m b : Nat} (he : Draws 84 [.int .i64 k] e_) (he1 : Draws 84 [.int .i64 (k - 1)] e1) (l0 : e_.Lt m b) (l1 : e1.Lt m b) (hm : m ≤ 300)
    {w0 w : World} {p : Nat} {bv : Value} {bs : List UInt8} {s0 s1 : DS} {x0 : Nat} (hc : CurX w0 w p bv bs s0) (q0 : Hid (dNext bs s0 = (x0, s1))) (hv0 : Hid (x0 % 9 = 3)) :
    Calls Tryz.prog 133 #[.pointer (some ⟨p, 0, none⟩), .int .i64 k] w fun e w' => DrawnX w0 w p bv bs (dSimple e_ e1) s0 e w' := by
  have g0 := hid (GX.start hc)
  have hpw := hc.lt
  clear hc
  go_enter Tryz.func133, Tryz.ntmps133
  go_wp2_with fail
  refine (belowY g0.out q0 _ 9 rfl (by omega) (by omega)).mono ?_
  rintro e w1 ⟨rfl, gx⟩
  have g1 := hid gx
  clear gx g0
  rw [hv0.out]
  obtain ⟨x1, s2, q1⟩ := ex_next bs s1
  go_wp2_with fail
  refine (pickIntY g1.out q1 exr7 2 rfl (by decide) (by decide) _ _ rfl (by decide)).mono ?_
  rintro e w2 ⟨t1, ht1, rfl, gx⟩
  have g2 := hid gx
  clear gx g1
  obtain ⟨n2, s3, q2⟩ : ∃ n s', Hid (Draw.run (dNext bs) (dList (e_) (0) (2)) s2 = (n, s')) := ⟨_, _, hid rfl⟩
  go_wp2_with fail
  refine (list_parts (k) (by omega) he l0 (by omega) 0 2 0 1 (hid rfl) (hid rfl) (by omega) (by omega) (by omega) (by omega) g2.out.cur q2).mono ?_
  rintro e w3 ⟨a2, b2, c2, ps2, rfl, px2, hb2, hlp2, hsum2⟩
  replace px2 := hid px2
  replace hb2 := hid hb2
  go_wp2_with fail
  refine (make_any px2.out (by omega) ⟨_, _, _, _, []⟩ ⟨⟨by first | assumption | (show 0 ≤ 16; omega), by first | assumption | (show 0 ≤ 16; omega)⟩, by first | (simp; done) | (simp; omega), by first | (simp; done) | (simp; omega)⟩).mono ?_
  rintro e w9 ⟨v, l, rfl, h1, h2, h3, h4, h5⟩
  go_wp2
  go_ret
  have hmod := rn_simple3 (nx := dNext bs) e_ e1 q0.out hv0.out q1.out q2.out
  exact ⟨v, l, rfl, grown_trans g2.out.gr h1, by rw [hmod]; exact h2, h3.lowX g2.out.gr.size, h4, by rw [hmod, h5, hsum2]; try omega⟩
set_option maxRecDepth 100000 in
set_option maxHeartbeats 6400000 in
theorem simple_case4 (k : Int) (hk : -5 ≤ k ∧ k ≤ 6) {e_ e1 : Draw Nat} {m b : Nat} (he : Draws 84 [.int .i64 k] e_) (he1 : Draws 84 [.int .i64 (k - 1)] e1) (l0 : e_.Lt m b) (l1 : e1.Lt m b) (hm : m ≤ 300)
    {w0 w : World} {p : Nat} {bv : Value} {bs : List UInt8} {s0 s1 : DS} {x0 : Nat} (hc : CurX w0 w p bv bs s0) (q0 : Hid (dNext bs s0 = (x0, s1))) (hv0 : Hid (x0 % 9 = 4)) :
    Calls Tryz.prog 133 #[.pointer (some ⟨p, 0, none⟩), .int .i64 k] w fun e w' => DrawnX w0 w p bv bs (dSimple e_ e1) s0 e w' := by
  have g0 := hid (GX.start hc)
  have hpw := hc.lt
  clear hc
  go_enter Tryz.func133, Tryz.ntmps133
  go_wp2_with fail
  refine (belowY g0.out q0 _ 9 rfl (by omega) (by omega)).mono ?_
  rintro e w1 ⟨rfl, gx⟩
  have g1 := hid gx
  clear gx g0
  rw [hv0.out]
  obtain ⟨x1, s2, q1⟩ := ex_next bs s1
  go_wp2_with fail
  refine (wordY g1.out q1).mono ?_
  rintro e w2 ⟨t1, ht1, rfl, gx⟩
  have g2 := hid gx
  clear gx g1
  obtain ⟨n2, s3, q2⟩ : ∃ n s', Hid (Draw.run (dNext bs) (dList (e1) (0) (3)) s2 = (n, s')) := ⟨_, _, hid rfl⟩
  go_wp2_with fail
  refine (list_parts (k - 1) (by omega) he1 l1 (by omega) 0 3 0 2 (hid rfl) (hid rfl) (by omega) (by omega) (by omega) (by omega) g2.out.cur q2).mono ?_
  rintro e w3 ⟨a2, b2, c2, ps2, rfl, px2, hb2, hlp2, hsum2⟩
  replace px2 := hid px2
  replace hb2 := hid hb2
  go_wp2_with fail
  refine (make_any px2.out (by omega) ⟨_, _, _, _, []⟩ ⟨⟨by first | assumption | (show 0 ≤ 16; omega), by first | assumption | (show 0 ≤ 16; omega)⟩, by first | (simp; done) | (simp; omega), by first | (simp; done) | (simp; omega)⟩).mono ?_
  rintro e w9 ⟨v, l, rfl, h1, h2, h3, h4, h5⟩
  go_wp2
  go_ret
  have hmod := rn_simple4 (nx := dNext bs) e_ e1 q0.out hv0.out q1.out q2.out
  exact ⟨v, l, rfl, grown_trans g2.out.gr h1, by rw [hmod]; exact h2, h3.lowX g2.out.gr.size, h4, by rw [hmod, h5, hsum2]; try omega⟩
set_option maxRecDepth 100000 in
set_option maxHeartbeats 6400000 in
theorem simple_case5 (k : Int) (hk : -5 ≤ k ∧ k ≤ 6) {e_ e1 : Draw Nat} {m b : Nat} (he : Draws 84 [.int .i64 k] e_) (he1 : Draws 84 [.int .i64 (k - 1)] e1) (l0 : e_.Lt m b) (l1 : e1.Lt m b) (hm : m ≤ 300)
    {w0 w : World} {p : Nat} {bv : Value} {bs : List UInt8} {s0 s1 : DS} {x0 : Nat} (hc : CurX w0 w p bv bs s0) (q0 : Hid (dNext bs s0 = (x0, s1))) (hv0 : Hid (x0 % 9 = 5)) :
    Calls Tryz.prog 133 #[.pointer (some ⟨p, 0, none⟩), .int .i64 k] w fun e w' => DrawnX w0 w p bv bs (dSimple e_ e1) s0 e w' := by
  have g0 := hid (GX.start hc)
  have hpw := hc.lt
  clear hc
  go_enter Tryz.func133, Tryz.ntmps133
  go_wp2_with fail
  refine (belowY g0.out q0 _ 9 rfl (by omega) (by omega)).mono ?_
  rintro e w1 ⟨rfl, gx⟩
  have g1 := hid gx
  clear gx g0
  rw [hv0.out]
  obtain ⟨x1, s2, q1⟩ := ex_next bs s1
  go_wp2_with fail
  refine (onceY g1.out q1 _ 2 rfl (by omega) (by omega)).mono ?_
  rintro e w2 ⟨rfl, gx⟩
  have g2 := hid gx
  clear gx g1
  by_cases hz1 : x1 % 2 = 0
  · have hb1 : (x1 % 2 == 0) = true := by simpa using hz1
    rw [hb1]
    clear hb1
    replace hz1 := hid hz1
    obtain ⟨x2, s3, q2⟩ := ex_next bs s2
    go_wp2_with fail
    refine (pickY g2.out q2 com7 3 rfl (by decide) (by decide) _ _ rfl (by decide)).mono ?_
    rintro e w3 ⟨t2, ht2, rfl, gx⟩
    have g3 := hid gx
    clear gx g2
    have hlf := hid (leaf_drawn ⟨34, 0, t2, ⟨#[]⟩, []⟩ rfl ⟨⟨ht2, by show 0 ≤ 16; omega⟩, by simp, by simp⟩ g3.out)
    go_wp2
    go_ret
    have hmod := rn_simple5y (nx := dNext bs) e_ e1 q0.out hv0.out q1.out hz1.out q2.out
    obtain ⟨v, l, e1, h1, h2, h3, h4, h5⟩ := hlf.out
    exact ⟨v, l, e1, h1, by rw [hmod]; exact h2, h3, h4, by rw [hmod, h5]⟩
  · have hb1 : (x1 % 2 == 0) = false := by simpa using hz1
    rw [hb1]
    clear hb1
    replace hz1 := hid hz1
    obtain ⟨n2, s3, q2⟩ : ∃ n s', Hid (Draw.run (dNext bs) (e_) s2 = (n, s')) := ⟨_, _, hid rfl⟩
    go_wp2_with fail
    refine (drawY he g2.out q2 l0 (by omega)).mono ?_
    rintro e w3 ⟨a2, b2, c2, l2, rfl, gx, hl2⟩
    have g3 := hid gx
    clear gx g2
    go_wp2_with fail
    refine (make_any (g3.out.lit #[.slice a2 b2 c2] rfl 1 rfl (by omega)) (by simp) ⟨_, _, _, _, []⟩ ⟨⟨by first | assumption | (show 0 ≤ 16; omega), by first | assumption | (show 0 ≤ 16; omega)⟩, by first | (simp; done) | (simp; omega), by first | (simp; done) | (simp; omega)⟩).mono ?_
    rintro e w9 ⟨v, l, rfl, h1, h2, h3, h4, h5⟩
    go_wp2
    go_ret
    have hmod := rn_simple5n (nx := dNext bs) e_ e1 q0.out hv0.out q1.out hz1.out q2.out
    exact ⟨v, l, rfl, h1, by rw [hmod]; exact h2, h3, h4, by rw [hmod, h5]; simp [hl2]; try omega⟩
set_option maxRecDepth 100000 in
set_option maxHeartbeats 6400000 in
theorem simple_case6 (k : Int) (hk : -5 ≤ k ∧ k ≤ 6) {e_ e1 : Draw Nat} {m b : Nat} (he : Draws 84 [.int .i64 k] e_) (he1 : Draws 84 [.int .i64 (k - 1)] e1) (l0 : e_.Lt m b) (l1 : e1.Lt m b) (hm : m ≤ 300)
    {w0 w : World} {p : Nat} {bv : Value} {bs : List UInt8} {s0 s1 : DS} {x0 : Nat} (hc : CurX w0 w p bv bs s0) (q0 : Hid (dNext bs s0 = (x0, s1))) (hv0 : Hid (x0 % 9 = 6)) :
    Calls Tryz.prog 133 #[.pointer (some ⟨p, 0, none⟩), .int .i64 k] w fun e w' => DrawnX w0 w p bv bs (dSimple e_ e1) s0 e w' := by
  have g0 := hid (GX.start hc)
  have hpw := hc.lt
  clear hc
  go_enter Tryz.func133, Tryz.ntmps133
  go_wp2_with fail
  refine (belowY g0.out q0 _ 9 rfl (by omega) (by omega)).mono ?_
  rintro e w1 ⟨rfl, gx⟩
  have g1 := hid gx
  clear gx g0
  rw [hv0.out]
  obtain ⟨n1, s2, q1⟩ : ∃ n s', Hid (Draw.run (dNext bs) (e_) s1 = (n, s')) := ⟨_, _, hid rfl⟩
  go_wp2_with fail
  refine (drawY he g1.out q1 l0 (by omega)).mono ?_
  rintro e w2 ⟨a1, b1, c1, l1, rfl, gx, hl1⟩
  have g2 := hid gx
  clear gx g1
  go_wp2_with fail
  refine (make_any (g2.out.lit #[.slice a1 b1 c1] rfl 1 rfl (by omega)) (by simp) ⟨_, _, _, _, []⟩ ⟨⟨by first | assumption | (show 0 ≤ 16; omega), by first | assumption | (show 0 ≤ 16; omega)⟩, by first | (simp; done) | (simp; omega), by first | (simp; done) | (simp; omega)⟩).mono ?_
  rintro e w9 ⟨v, l, rfl, h1, h2, h3, h4, h5⟩
  go_wp2
  go_ret
  have hmod := rn_simple6 (nx := dNext bs) e_ e1 q0.out hv0.out q1.out
  exact ⟨v, l, rfl, h1, by rw [hmod]; exact h2, h3, h4, by rw [hmod, h5]; simp [hl1]; try omega⟩
set_option maxRecDepth 100000 in
set_option maxHeartbeats 6400000 in
theorem simple_case7 (k : Int) (hk : -5 ≤ k ∧ k ≤ 6) {e_ e1 : Draw Nat} {m b : Nat} (he : Draws 84 [.int .i64 k] e_) (he1 : Draws 84 [.int .i64 (k - 1)] e1) (l0 : e_.Lt m b) (l1 : e1.Lt m b) (hm : m ≤ 300)
    {w0 w : World} {p : Nat} {bv : Value} {bs : List UInt8} {s0 s1 : DS} {x0 : Nat} (hc : CurX w0 w p bv bs s0) (q0 : Hid (dNext bs s0 = (x0, s1))) (hv0 : Hid (x0 % 9 = 7)) :
    Calls Tryz.prog 133 #[.pointer (some ⟨p, 0, none⟩), .int .i64 k] w fun e w' => DrawnX w0 w p bv bs (dSimple e_ e1) s0 e w' := by
  have g0 := hid (GX.start hc)
  have hpw := hc.lt
  clear hc
  go_enter Tryz.func133, Tryz.ntmps133
  go_wp2_with fail
  refine (belowY g0.out q0 _ 9 rfl (by omega) (by omega)).mono ?_
  rintro e w1 ⟨rfl, gx⟩
  have g1 := hid gx
  clear gx g0
  rw [hv0.out]
  obtain ⟨n1, s2, q1⟩ : ∃ n s', Hid (Draw.run (dNext bs) (e_) s1 = (n, s')) := ⟨_, _, hid rfl⟩
  go_wp2_with fail
  refine (drawY he g1.out q1 l0 (by omega)).mono ?_
  rintro e w2 ⟨a1, b1, c1, l1, rfl, gx, hl1⟩
  have g2 := hid gx
  clear gx g1
  go_wp2_with fail
  refine (make_any (g2.out.lit #[.slice a1 b1 c1] rfl 1 rfl (by omega)) (by simp) ⟨_, _, _, _, []⟩ ⟨⟨by first | assumption | (show 0 ≤ 16; omega), by first | assumption | (show 0 ≤ 16; omega)⟩, by first | (simp; done) | (simp; omega), by first | (simp; done) | (simp; omega)⟩).mono ?_
  rintro e w9 ⟨v, l, rfl, h1, h2, h3, h4, h5⟩
  go_wp2
  go_ret
  have hmod := rn_simple7 (nx := dNext bs) e_ e1 q0.out hv0.out q1.out
  exact ⟨v, l, rfl, h1, by rw [hmod]; exact h2, h3, h4, by rw [hmod, h5]; simp [hl1]; try omega⟩
set_option maxRecDepth 100000 in
set_option maxHeartbeats 6400000 in
theorem simple_case8 (k : Int) (hk : -5 ≤ k ∧ k ≤ 6) {e_ e1 : Draw Nat} {m b : Nat} (he : Draws 84 [.int .i64 k] e_) (he1 : Draws 84 [.int .i64 (k - 1)] e1) (l0 : e_.Lt m b) (l1 : e1.Lt m b) (hm : m ≤ 300)
    {w0 w : World} {p : Nat} {bv : Value} {bs : List UInt8} {s0 s1 : DS} {x0 : Nat} (hc : CurX w0 w p bv bs s0) (q0 : Hid (dNext bs s0 = (x0, s1))) (hv0 : Hid (x0 % 9 = 8)) :
    Calls Tryz.prog 133 #[.pointer (some ⟨p, 0, none⟩), .int .i64 k] w fun e w' => DrawnX w0 w p bv bs (dSimple e_ e1) s0 e w' := by
  have g0 := hid (GX.start hc)
  have hpw := hc.lt
  clear hc
  go_enter Tryz.func133, Tryz.ntmps133
  go_wp2_with fail
  refine (belowY g0.out q0 _ 9 rfl (by omega) (by omega)).mono ?_
  rintro e w1 ⟨rfl, gx⟩
  have g1 := hid gx
  clear gx g0
  rw [hv0.out]
  obtain ⟨n1, s2, q1⟩ : ∃ n s', Hid (Draw.run (dNext bs) (e_) s1 = (n, s')) := ⟨_, _, hid rfl⟩
  go_wp2_with fail
  refine (drawY he g1.out q1 l0 (by omega)).mono ?_
  rintro e w2 ⟨a1, b1, c1, l1, rfl, gx, hl1⟩
  have g2 := hid gx
  clear gx g1
  go_wp2_with fail
  refine (make_any (g2.out.lit #[.slice a1 b1 c1] rfl 1 rfl (by omega)) (by simp) ⟨_, _, _, _, []⟩ ⟨⟨by first | assumption | (show 0 ≤ 16; omega), by first | assumption | (show 0 ≤ 16; omega)⟩, by first | (simp; done) | (simp; omega), by first | (simp; done) | (simp; omega)⟩).mono ?_
  rintro e w9 ⟨v, l, rfl, h1, h2, h3, h4, h5⟩
  go_wp2
  go_ret
  have hmod := rn_simple8 (nx := dNext bs) e_ e1 q0.out hv0.out q1.out
  exact ⟨v, l, rfl, h1, by rw [hmod]; exact h2, h3, h4, by rw [hmod, h5]; simp [hl1]; try omega⟩
set_option maxRecDepth 100000 in
set_option maxHeartbeats 6400000 in
theorem simple_case0 (k : Int) (hk : -5 ≤ k ∧ k ≤ 6) {e_ e1 : Draw Nat} {m b : Nat} (he : Draws 84 [.int .i64 k] e_) (he1 : Draws 84 [.int .i64 (k - 1)] e1) (l0 : e_.Lt m b) (l1 : e1.Lt m b) (hm : m ≤ 300)
    {w0 w : World} {p : Nat} {bv : Value} {bs : List UInt8} {s0 s1 : DS} {x0 : Nat} (hc : CurX w0 w p bv bs s0) (q0 : Hid (dNext bs s0 = (x0, s1))) (hv0 : Hid (x0 % 9 = 0)) :
    Calls Tryz.prog 133 #[.pointer (some ⟨p, 0, none⟩), .int .i64 k] w fun e w' => DrawnX w0 w p bv bs (dSimple e_ e1) s0 e w' := by
  have g0 := hid (GX.start hc)
  have hpw := hc.lt
  clear hc
  go_enter Tryz.func133, Tryz.ntmps133
  go_wp2_with fail
  refine (belowY g0.out q0 _ 9 rfl (by omega) (by omega)).mono ?_
  rintro e w1 ⟨rfl, gx⟩
  have g1 := hid gx
  clear gx g0
  rw [hv0.out]
  obtain ⟨x1, s2, q1⟩ := ex_next bs s1
  go_wp2_with fail
  refine (belowY g1.out q1 _ 2 rfl (by omega) (by omega)).mono ?_
  rintro e w2 ⟨rfl, gx⟩
  have g2 := hid gx
  clear gx g1
  have hy1 := Nat.mod_lt x1 (show 0 < 2 by omega)
  generalize hv1 : x1 % 2 = y1 at hy1 ⊢
  replace hv1 := hid hv1
  obtain ⟨n2, s3, q2⟩ : ∃ n s', Hid (Draw.run (dNext bs) (dList e_ (x1 % 2) (3 - x1 % 2 + 1)) s2 = (n, s')) := ⟨_, _, hid rfl⟩
  obtain ⟨x3, s4, q3⟩ := ex_next bs s3
  have hmod := rn_print e_ e1 q0.out (by have := hv0.out; omega) q1.out q2.out q3.out
  replace hmod := hid hmod
  obtain ⟨i0, hi, hz0, hz1, hz2⟩ := info_parts infoNSlice
  rw [hv1.out] at q2
  have hgb := hid (grown_trans (World.grownBy_alloc w2 (.cells #[.int .i64 21, .int .i64 (y1 : Int), .string ⟨#[]⟩, .string ⟨#[]⟩, .slice none 0 0] 58) (some p)) (grown_below (Below.refl _ _)))
  have hp2 := g2.out.cur.lt
  have hwb := fun (o : Obj) => (g2.out.alloc o).cur
  go_wp2_with fail
  refine (list_parts k (by omega) he l0 (by omega) y1 (3 - y1 + 1) (y1 : Int) 3 (hid rfl) (hid (by omega)) (by omega) (by omega) (by omega) (by omega) (hwb _) q2).mono ?_
  rintro e w3 ⟨av, nv, cv, ps, rfl, px, hnb, hlp, hsum⟩
  subst hnb
  have hbx3 := (px.gr.block w2.heap.size (by simp) (fun e => by have := Option.some.inj e; omega)).trans (heap_alloc_new w2 _)
  have hrow : Hid (∀ r, (Value.slice av ps.length cv).ownBlock = some r → w2.heap.size + 1 ≤ r) := hid fun r e => by have := (px.own.lt r e).1; simpa using this
  have hsum2 : Hid ((ps.map (List.length ∘ Prod.fst)).sum = n2) := hid (by rw [← hsum, List.map_map])
  replace px := hid px
  replace hsum := hid hsum
  clear hwb
  have hon := specl1OnceX w0 w3 p bv bs s3 3 3 rfl (by omega) (by omega) px.out.cur (x3 % 3) (by rw [q3.out])
  rw [q3.out] at hon
  simp only at hon
  replace hon := hid hon
  have c3 : ∀ j, w3.frozen? ⟨w2.heap.size, j, none⟩ = false := fun j => box_froz hbx3
  replace hbx3 := hid hbx3
  go_wp2_with fail
  refine hon.out.mono ?_
  rintro e w4 ⟨rfl, hg4, hc4⟩
  have hbx4 := (hg4.block w2.heap.size (heap_lt hbx3.out) (fun e => by have := Option.some.inj e; omega)).trans hbx3.out
  have px4 := hid (px.out.keep hg4 hc4)
  clear px hg4 hc4 hon c3 hbx3
  by_cases hz3 : x3 % 3 = 0
  · have hb3 : (x3 % 3 == 0) = true := by simpa using hz3
    rw [hb3]
    rw [if_pos hz3] at hmod
    obtain ⟨x4, s5, q4⟩ := ex_next bs s4
    rw [q4.out] at hmod
    clear hb3
    replace hz3 := hid hz3
    have hpk := hid (fun o => specl1PickX w0 (w4.alloc (.cells (sep7.flatMap str1).toArray o)) p bv bs s4 sep7 w4.heap.size 3 (by decide) (by decide) (by decide) (by have := px4.out.cur.lt; omega) (rowAt_lit _ _ _) (px4.out.alloc _).cur)
    replace hbx4 := hid hbx4
    go_wp2_with fail
    refine (hpk.out _).mono ?_
    rintro e w5' ⟨t, ht, rfl, hg5, hc5⟩
    rw [q4.out] at hc5
    have hts : t.size ≤ 16 := by
      have : ∀ y ∈ sep7, y.size ≤ 16 := by decide
      exact this t ht
    have hbx5 := (hg5.block w2.heap.size (by have := heap_lt hbx4.out; simp; omega) (fun e => by have := Option.some.inj e; omega)).trans ((Below.heap_alloc _ _ _ (heap_lt hbx4.out)).trans hbx4.out)
    have px5 := hid ((px4.out.alloc _).keep hg5 hc5)
    have px6 := hid (px5.out.box (j := 3) (u := .string t) (World.grownBy_alloc w2 _ _) hp2 (Nat.le_refl _) (by simp))
    have hbx6 := heap_setCell_at (j := 3) (u := .string t) hbx5
    have d3 : w5'.cell? ⟨w2.heap.size, 3, none⟩ = some (.string ⟨#[]⟩) := box_cell hbx5 rfl
    have df : ∀ j, w5'.frozen? ⟨w2.heap.size, j, none⟩ = false := fun j => box_froz hbx5
    clear hpk hg5 hc5 px5 px4 hbx4 hbx5 ht
    generalize hW : w5'.setCell ⟨w2.heap.size, 3, none⟩ (.string t) = wS at px6 hbx6
    replace hbx6 := hid hbx6
    go_wp2_with fail
    clear hW d3 df
    refine (he1 w0 wS p bv bs s5 px6.out.cur).mono ?_
    rintro e w5 ⟨v1, l1', rfl, hg5, hc5, ho5, hs5, hl5⟩
    have hlb : l1'.length ≤ 1300 := by have := (l1.run (dNext bs) s5).1; omega
    have hown := px6.out.own.kept hg5 (ownBlock_ne px6.out.own hp2)
    have hsz := px6.out.gr.size
    have hsz5 := hg5.size
    have hbx7 := (hg5.block w2.heap.size (heap_lt hbx6.out) (fun e => by have := Option.some.inj e; omega)).trans hbx6.out
    obtain ⟨a1, n1, c1, rfl⟩ := own_vslice ho5
    replace hown := hid hown
    replace ho5 := hid ho5
    replace hg5 := hid hg5
    replace hc5 := hid hc5
    replace hl5 := hid hl5
    go_wp2_with (at_builtin; refine Hid.out ?_)
    refine hid ?_
    refine wpList_append_lies _ (by rfl) _ _ _ (by rfl) w2.heap.size 26 i0 _ 1 24 Tryz.underlying127 hi hz0 hz1 hz2 rfl (by omega) _ ps.length (ps.flatMap part1) (by rfl) (hown.out.alloc _) ⟨w5.heap.size, 0, none⟩ 1 1 [.slice a1 n1 c1] (by rfl) (by rfl) (World.news_of_block (cs := #[.slice a1 n1 c1]) (t := 26) (fr := (0, 0)) (heap_alloc_new w5 _)) (by simp [Value.oneCell']) (by omega) (by unfold maxLen; omega) (by omega) (by simp; omega) (w5.heap.size + 1) (by simp) ?_
    intro gg cap w6 hown6 hg6 hat hlt6
    have hpd2 := hid (px6.out.step hg5.out hc5.out ho5.out hs5 hlb hown6 hg6 hat)
    have hbx8 := (hg6.block w2.heap.size (by have := heap_lt hbx7; simp; omega) (fun e => by have := hrow.out _ e.symm; omega)).trans ((Below.heap_alloc _ _ _ (heap_lt hbx7)).trans hbx7)
    have p0 : w6.cell? ⟨w2.heap.size, 0, none⟩ = some (.int .i64 21) := box_cell hbx8 rfl
    have p1 : w6.cell? ⟨w2.heap.size, 1, none⟩ = some (.int .i64 (y1 : Int)) := box_cell hbx8 rfl
    have p2 : w6.cell? ⟨w2.heap.size, 2, none⟩ = some (.string ⟨#[]⟩) := box_cell hbx8 rfl
    have p3 : w6.cell? ⟨w2.heap.size, 3, none⟩ = some (.string t) := box_cell hbx8 rfl
    have p4 : w6.cell? ⟨w2.heap.size, 4, none⟩ = some (.slice none 0 0) := box_cell hbx8 rfl
    clear px6 hown6 hg6 hat hown hg5 hc5 ho5 hbx8 hbx7 hbx6
    go_wp2_with fail
    refine (make_any hpd2.out (by simp; omega) ⟨21, (y1 : Int), ⟨#[]⟩, t, []⟩ ⟨⟨by show 0 ≤ 16; omega, hts⟩, by simp, by show -1 ≤ (y1 : Int) ∧ (y1 : Int) ≤ 200; omega⟩).mono ?_
    rintro e w9 ⟨v, l, rfl, h1, h2, h3, h4, h5⟩
    go_wp2
    go_ret
    exact ⟨v, l, rfl, grown_trans g2.out.gr h1, by rw [hmod.out]; exact h2, h3.lowX g2.out.gr.size, h4, by rw [hmod.out, h5]; simp [hsum2.out, hl5.out]⟩
  · have hb3 : (x3 % 3 == 0) = false := by simpa using hz3
    rw [hb3]
    rw [if_neg hz3] at hmod
    clear hb3
    replace hz3 := hid hz3
    have p0 : w4.cell? ⟨w2.heap.size, 0, none⟩ = some (.int .i64 21) := box_cell hbx4 rfl
    have p1 : w4.cell? ⟨w2.heap.size, 1, none⟩ = some (.int .i64 (y1 : Int)) := box_cell hbx4 rfl
    have p2 : w4.cell? ⟨w2.heap.size, 2, none⟩ = some (.string ⟨#[]⟩) := box_cell hbx4 rfl
    have p3 : w4.cell? ⟨w2.heap.size, 3, none⟩ = some (.string ⟨#[]⟩) := box_cell hbx4 rfl
    have p4 : w4.cell? ⟨w2.heap.size, 4, none⟩ = some (.slice none 0 0) := box_cell hbx4 rfl
    have px7 := hid (px4.out.lower (World.grownBy_alloc w2 _ _) hp2)
    clear px4 hbx4
    go_wp2_with fail
    refine (make_any px7.out (by omega) ⟨21, (y1 : Int), ⟨#[]⟩, ⟨#[]⟩, []⟩ ⟨⟨by show 0 ≤ 16; omega, by show 0 ≤ 16; omega⟩, by simp, by show -1 ≤ (y1 : Int) ∧ (y1 : Int) ≤ 200; omega⟩).mono ?_
    rintro e w9 ⟨v, l, rfl, h1, h2, h3, h4, h5⟩
    go_wp2
    go_ret
    exact ⟨v, l, rfl, grown_trans g2.out.gr h1, by rw [hmod.out]; exact h2, h3.lowX g2.out.gr.size, h4, by rw [hmod.out, h5]; simp [hsum2.out]⟩
set_option maxRecDepth 100000 in
set_option maxHeartbeats 6400000 in
theorem simple_case1 (k : Int) (hk : -5 ≤ k ∧ k ≤ 6) {e_ e1 : Draw Nat} {m b : Nat} (he : Draws 84 [.int .i64 k] e_) (he1 : Draws 84 [.int .i64 (k - 1)] e1) (l0 : e_.Lt m b) (l1 : e1.Lt m b) (hm : m ≤ 300)
    {w0 w : World} {p : Nat} {bv : Value} {bs : List UInt8} {s0 s1 : DS} {x0 : Nat} (hc : CurX w0 w p bv bs s0) (q0 : Hid (dNext bs s0 = (x0, s1))) (hv0 : Hid (x0 % 9 = 1)) :
    Calls Tryz.prog 133 #[.pointer (some ⟨p, 0, none⟩), .int .i64 k] w fun e w' => DrawnX w0 w p bv bs (dSimple e_ e1) s0 e w' := by
  have g0 := hid (GX.start hc)
  have hpw := hc.lt
  clear hc
  go_enter Tryz.func133, Tryz.ntmps133
  go_wp2_with fail
  refine (belowY g0.out q0 _ 9 rfl (by omega) (by omega)).mono ?_
  rintro e w1 ⟨rfl, gx⟩
  have g1 := hid gx
  clear gx g0
  rw [hv0.out]
  obtain ⟨x1, s2, q1⟩ := ex_next bs s1
  go_wp2_with fail
  refine (belowY g1.out q1 _ 2 rfl (by omega) (by omega)).mono ?_
  rintro e w2 ⟨rfl, gx⟩
  have g2 := hid gx
  clear gx g1
  have hy1 := Nat.mod_lt x1 (show 0 < 2 by omega)
  generalize hv1 : x1 % 2 = y1 at hy1 ⊢
  replace hv1 := hid hv1
  obtain ⟨n2, s3, q2⟩ : ∃ n s', Hid (Draw.run (dNext bs) (dList e_ (x1 % 2) (3 - x1 % 2 + 1)) s2 = (n, s')) := ⟨_, _, hid rfl⟩
  obtain ⟨x3, s4, q3⟩ := ex_next bs s3
  have hmod := rn_print e_ e1 q0.out (by have := hv0.out; omega) q1.out q2.out q3.out
  replace hmod := hid hmod
  obtain ⟨i0, hi, hz0, hz1, hz2⟩ := info_parts infoNSlice
  rw [hv1.out] at q2
  have hgb := hid (grown_trans (World.grownBy_alloc w2 (.cells #[.int .i64 21, .int .i64 (y1 : Int), .string ⟨#[]⟩, .string ⟨#[]⟩, .slice none 0 0] 58) (some p)) (grown_below (Below.refl _ _)))
  have hp2 := g2.out.cur.lt
  have hwb := fun (o : Obj) => (g2.out.alloc o).cur
  go_wp2_with fail
  refine (list_parts k (by omega) he l0 (by omega) y1 (3 - y1 + 1) (y1 : Int) 3 (hid rfl) (hid (by omega)) (by omega) (by omega) (by omega) (by omega) (hwb _) q2).mono ?_
  rintro e w3 ⟨av, nv, cv, ps, rfl, px, hnb, hlp, hsum⟩
  subst hnb
  have hbx3 := (px.gr.block w2.heap.size (by simp) (fun e => by have := Option.some.inj e; omega)).trans (heap_alloc_new w2 _)
  have hrow : Hid (∀ r, (Value.slice av ps.length cv).ownBlock = some r → w2.heap.size + 1 ≤ r) := hid fun r e => by have := (px.own.lt r e).1; simpa using this
  have hsum2 : Hid ((ps.map (List.length ∘ Prod.fst)).sum = n2) := hid (by rw [← hsum, List.map_map])
  replace px := hid px
  replace hsum := hid hsum
  clear hwb
  have hon := specl1OnceX w0 w3 p bv bs s3 3 3 rfl (by omega) (by omega) px.out.cur (x3 % 3) (by rw [q3.out])
  rw [q3.out] at hon
  simp only at hon
  replace hon := hid hon
  have c3 : ∀ j, w3.frozen? ⟨w2.heap.size, j, none⟩ = false := fun j => box_froz hbx3
  replace hbx3 := hid hbx3
  go_wp2_with fail
  refine hon.out.mono ?_
  rintro e w4 ⟨rfl, hg4, hc4⟩
  have hbx4 := (hg4.block w2.heap.size (heap_lt hbx3.out) (fun e => by have := Option.some.inj e; omega)).trans hbx3.out
  have px4 := hid (px.out.keep hg4 hc4)
  clear px hg4 hc4 hon c3 hbx3
  by_cases hz3 : x3 % 3 = 0
  · have hb3 : (x3 % 3 == 0) = true := by simpa using hz3
    rw [hb3]
    rw [if_pos hz3] at hmod
    obtain ⟨x4, s5, q4⟩ := ex_next bs s4
    rw [q4.out] at hmod
    clear hb3
    replace hz3 := hid hz3
    have hpk := hid (fun o => specl1PickX w0 (w4.alloc (.cells (sep7.flatMap str1).toArray o)) p bv bs s4 sep7 w4.heap.size 3 (by decide) (by decide) (by decide) (by have := px4.out.cur.lt; omega) (rowAt_lit _ _ _) (px4.out.alloc _).cur)
    replace hbx4 := hid hbx4
    go_wp2_with fail
    refine (hpk.out _).mono ?_
    rintro e w5' ⟨t, ht, rfl, hg5, hc5⟩
    rw [q4.out] at hc5
    have hts : t.size ≤ 16 := by
      have : ∀ y ∈ sep7, y.size ≤ 16 := by decide
      exact this t ht
    have hbx5 := (hg5.block w2.heap.size (by have := heap_lt hbx4.out; simp; omega) (fun e => by have := Option.some.inj e; omega)).trans ((Below.heap_alloc _ _ _ (heap_lt hbx4.out)).trans hbx4.out)
    have px5 := hid ((px4.out.alloc _).keep hg5 hc5)
    have px6 := hid (px5.out.box (j := 3) (u := .string t) (World.grownBy_alloc w2 _ _) hp2 (Nat.le_refl _) (by simp))
    have hbx6 := heap_setCell_at (j := 3) (u := .string t) hbx5
    have d3 : w5'.cell? ⟨w2.heap.size, 3, none⟩ = some (.string ⟨#[]⟩) := box_cell hbx5 rfl
    have df : ∀ j, w5'.frozen? ⟨w2.heap.size, j, none⟩ = false := fun j => box_froz hbx5
    clear hpk hg5 hc5 px5 px4 hbx4 hbx5 ht
    generalize hW : w5'.setCell ⟨w2.heap.size, 3, none⟩ (.string t) = wS at px6 hbx6
    replace hbx6 := hid hbx6
    go_wp2_with fail
    clear hW d3 df
    refine (he1 w0 wS p bv bs s5 px6.out.cur).mono ?_
    rintro e w5 ⟨v1, l1', rfl, hg5, hc5, ho5, hs5, hl5⟩
    have hlb : l1'.length ≤ 1300 := by have := (l1.run (dNext bs) s5).1; omega
    have hown := px6.out.own.kept hg5 (ownBlock_ne px6.out.own hp2)
    have hsz := px6.out.gr.size
    have hsz5 := hg5.size
    have hbx7 := (hg5.block w2.heap.size (heap_lt hbx6.out) (fun e => by have := Option.some.inj e; omega)).trans hbx6.out
    obtain ⟨a1, n1, c1, rfl⟩ := own_vslice ho5
    replace hown := hid hown
    replace ho5 := hid ho5
    replace hg5 := hid hg5
    replace hc5 := hid hc5
    replace hl5 := hid hl5
    go_wp2_with (at_builtin; refine Hid.out ?_)
    refine hid ?_
    refine wpList_append_lies _ (by rfl) _ _ _ (by rfl) w2.heap.size 26 i0 _ 1 24 Tryz.underlying127 hi hz0 hz1 hz2 rfl (by omega) _ ps.length (ps.flatMap part1) (by rfl) (hown.out.alloc _) ⟨w5.heap.size, 0, none⟩ 1 1 [.slice a1 n1 c1] (by rfl) (by rfl) (World.news_of_block (cs := #[.slice a1 n1 c1]) (t := 26) (fr := (0, 0)) (heap_alloc_new w5 _)) (by simp [Value.oneCell']) (by omega) (by unfold maxLen; omega) (by omega) (by simp; omega) (w5.heap.size + 1) (by simp) ?_
    intro gg cap w6 hown6 hg6 hat hlt6
    have hpd2 := hid (px6.out.step hg5.out hc5.out ho5.out hs5 hlb hown6 hg6 hat)
    have hbx8 := (hg6.block w2.heap.size (by have := heap_lt hbx7; simp; omega) (fun e => by have := hrow.out _ e.symm; omega)).trans ((Below.heap_alloc _ _ _ (heap_lt hbx7)).trans hbx7)
    have p0 : w6.cell? ⟨w2.heap.size, 0, none⟩ = some (.int .i64 21) := box_cell hbx8 rfl
    have p1 : w6.cell? ⟨w2.heap.size, 1, none⟩ = some (.int .i64 (y1 : Int)) := box_cell hbx8 rfl
    have p2 : w6.cell? ⟨w2.heap.size, 2, none⟩ = some (.string ⟨#[]⟩) := box_cell hbx8 rfl
    have p3 : w6.cell? ⟨w2.heap.size, 3, none⟩ = some (.string t) := box_cell hbx8 rfl
    have p4 : w6.cell? ⟨w2.heap.size, 4, none⟩ = some (.slice none 0 0) := box_cell hbx8 rfl
    clear px6 hown6 hg6 hat hown hg5 hc5 ho5 hbx8 hbx7 hbx6
    go_wp2_with fail
    refine (make_any hpd2.out (by simp; omega) ⟨21, (y1 : Int), ⟨#[]⟩, t, []⟩ ⟨⟨by show 0 ≤ 16; omega, hts⟩, by simp, by show -1 ≤ (y1 : Int) ∧ (y1 : Int) ≤ 200; omega⟩).mono ?_
    rintro e w9 ⟨v, l, rfl, h1, h2, h3, h4, h5⟩
    go_wp2
    go_ret
    exact ⟨v, l, rfl, grown_trans g2.out.gr h1, by rw [hmod.out]; exact h2, h3.lowX g2.out.gr.size, h4, by rw [hmod.out, h5]; simp [hsum2.out, hl5.out]⟩
  · have hb3 : (x3 % 3 == 0) = false := by simpa using hz3
    rw [hb3]
    rw [if_neg hz3] at hmod
    clear hb3
    replace hz3 := hid hz3
    have p0 : w4.cell? ⟨w2.heap.size, 0, none⟩ = some (.int .i64 21) := box_cell hbx4 rfl
    have p1 : w4.cell? ⟨w2.heap.size, 1, none⟩ = some (.int .i64 (y1 : Int)) := box_cell hbx4 rfl
    have p2 : w4.cell? ⟨w2.heap.size, 2, none⟩ = some (.string ⟨#[]⟩) := box_cell hbx4 rfl
    have p3 : w4.cell? ⟨w2.heap.size, 3, none⟩ = some (.string ⟨#[]⟩) := box_cell hbx4 rfl
    have p4 : w4.cell? ⟨w2.heap.size, 4, none⟩ = some (.slice none 0 0) := box_cell hbx4 rfl
    have px7 := hid (px4.out.lower (World.grownBy_alloc w2 _ _) hp2)
    clear px4 hbx4
    go_wp2_with fail
    refine (make_any px7.out (by omega) ⟨21, (y1 : Int), ⟨#[]⟩, ⟨#[]⟩, []⟩ ⟨⟨by show 0 ≤ 16; omega, by show 0 ≤ 16; omega⟩, by simp, by show -1 ≤ (y1 : Int) ∧ (y1 : Int) ≤ 200; omega⟩).mono ?_
    rintro e w9 ⟨v, l, rfl, h1, h2, h3, h4, h5⟩
    go_wp2
    go_ret
    exact ⟨v, l, rfl, grown_trans g2.out.gr h1, by rw [hmod.out]; exact h2, h3.lowX g2.out.gr.size, h4, by rw [hmod.out, h5]; simp [hsum2.out]⟩
theorem simple_draws (k : Int) (hk : -5 ≤ k ∧ k ≤ 6) {e_ e1 : Draw Nat} {m b : Nat} (he : Draws 84 [.int .i64 k] e_) (he1 : Draws 84 [.int .i64 (k - 1)] e1) (l0 : e_.Lt m b) (l1 : e1.Lt m b) (hm : m ≤ 300) : Draws 133 [.int .i64 k] (dSimple e_ e1) := by
  intro w0 w p bv bs s0 hc
  obtain ⟨x0, s1, q0⟩ := ex_next bs s0
  have hy := Nat.mod_lt x0 (show 0 < 9 by omega)
  obtain h | h | h | h | h | h | h | h | h : x0 % 9 = 0 ∨ x0 % 9 = 1 ∨ x0 % 9 = 2 ∨ x0 % 9 = 3 ∨ x0 % 9 = 4 ∨ x0 % 9 = 5 ∨ x0 % 9 = 6 ∨ x0 % 9 = 7 ∨ x0 % 9 = 8 := by omega
  · exact simple_case0 k hk he he1 l0 l1 hm hc q0 (hid h)
  · exact simple_case1 k hk he he1 l0 l1 hm hc q0 (hid h)
  · exact simple_case2 k hk he he1 l0 l1 hm hc q0 (hid h)
  · exact simple_case3 k hk he he1 l0 l1 hm hc q0 (hid h)
  · exact simple_case4 k hk he he1 l0 l1 hm hc q0 (hid h)
  · exact simple_case5 k hk he he1 l0 l1 hm hc q0 (hid h)
  · exact simple_case6 k hk he he1 l0 l1 hm hc q0 (hid h)
  · exact simple_case7 k hk he he1 l0 l1 hm hc q0 (hid h)
  · exact simple_case8 k hk he he1 l0 l1 hm hc q0 (hid h)
end Go.Proofs.YtkelhmgdajiocaaGreatDoor
/- Walks and lemmas of this seat (FDrawNE): what each theorem says of the functions that it names. Conditions: those that each theorem states. -/
namespace Go.Proofs.YtkelhmgdajiocaaGreatDoor
set_option linter.unusedVariables false
set_option linter.unusedSimpArgs false
open Go.RowKit
def dStmtStep (b_ s_ : Draw Nat) : Draw Nat := .byte fun x => if x % 3 = 0 then .byte fun y =>
      if y % 6 = 0 then (dExpr 1).bind fun a => b_.bind fun b => .ret (a + b + 1)
      else if y % 6 = 1 then (dExpr 1).bind fun a => b_.bind fun b => b_.bind fun c => .ret (a + b + c + 1)
      else if y % 6 = 2 then (dExpr 1).bind fun a => b_.bind fun b => .ret (a + b + 1)
      else if y % 6 = 3 then b_.bind fun a => (dExpr 1).bind fun b => .ret (a + b + 1)
      else if y % 6 = 4 then (dMaybe (dExpr 2)).bind fun a => (dMaybe (dExpr 1)).bind fun b => (dMaybe (dExpr 1)).bind fun c => b_.bind fun e => .ret (a + b + c + e + 1)
      else .byte fun z => if z % 2 = 0 then b_ else skip (skip (b_.bind fun a => .ret (a + 1)))
    else s_
theorem expr_at (d : Nat) (k : Int) (hd : d ≤ 5) (hk : k = (d : Int)) : Draws 84 [.int .i64 k] (dExpr d) := expr_nat d hd k (by omega) (by omega)
theorem simple_at0 : Draws 133 [.int .i64 0] (dSimpleAt 0) := simple_draws 0 (by omega) (expr_at 0 0 (by omega) rfl) (expr_nat 0 (by omega) (0 - 1) (by omega) (by omega)) (lt_expr 0) (lt_expr 0) (by decide)
theorem simple_at1 : Draws 133 [.int .i64 1] (dSimpleAt 1) := simple_draws 1 (by omega) (expr_at 1 1 (by omega) rfl) (expr_nat 0 (by omega) (1 - 1) (by omega) (by omega)) (lt_expr 1) (lt_expr1 1) (by decide)
theorem simple_at2 : Draws 133 [.int .i64 2] (dSimpleAt 2) := simple_draws 2 (by omega) (expr_at 2 2 (by omega) rfl) (expr_nat 1 (by omega) (2 - 1) (by omega) (by omega)) (lt_expr 2) (lt_expr1 2) (by decide)
set_option maxRecDepth 100000 in
set_option maxHeartbeats 6400000 in
theorem stmt_zero : Draws 109 [.int .i64 0] (dStmt 0) := by
  intro w0 w p bv bs s0 hc
  have hcall := hid (simple_at0 w0 w p bv bs s0 hc)
  clear hc
  show Calls Tryz.prog 109 #[.pointer (some ⟨p, 0, none⟩), .int .i64 0] w _
  go_enter Tryz.func109, Tryz.ntmps109
  go_wp2_with fail
  refine hcall.out.mono ?_
  rintro e w9 ⟨v, l, rfl, h⟩
  go_wp2
  go_ret
  exact ⟨v, l, rfl, h⟩
theorem rn_stmt1n {nx : DS → Nat × DS} {s0 s1 : DS} {x0 : Nat} (b_ s_ : Draw Nat) (a_q0 : nx s0 = (x0, s1)) (a_hz0 : ¬ x0 % 3 = 0) : Draw.run nx (dStmtStep b_ s_) s0 = Draw.run nx (s_) s1 := by
  simp [dStmtStep, Draw.run, Draw.run_bind, skip, a_q0, a_hz0]
  try omega
theorem rn_stmt1y0 {nx : DS → Nat × DS} {s0 s1 s2 s3 s4 : DS} {n2 n3 x0 x1 : Nat} (b_ s_ : Draw Nat) (a_q0 : nx s0 = (x0, s1)) (a_hz0 : x0 % 3 = 0) (a_q1 : nx s1 = (x1, s2)) (a_hv1 : x1 % 6 = 0) (a_q2 : Draw.run nx (dExpr 1) s2 = (n2, s3)) (a_q3 : Draw.run nx (b_) s3 = (n3, s4)) : Draw.run nx (dStmtStep b_ s_) s0 = (n2 + n3 + 1, s4) := by
  simp [dStmtStep, Draw.run, Draw.run_bind, skip, a_q0, a_hz0, a_q1, a_hv1, a_q2, a_q3]
  try omega
theorem rn_stmt1y1 {nx : DS → Nat × DS} {s0 s1 s2 s3 s4 s5 : DS} {n2 n3 n4 x0 x1 : Nat} (b_ s_ : Draw Nat) (a_q0 : nx s0 = (x0, s1)) (a_hz0 : x0 % 3 = 0) (a_q1 : nx s1 = (x1, s2)) (a_hv1 : x1 % 6 = 1) (a_q2 : Draw.run nx (dExpr 1) s2 = (n2, s3)) (a_q3 : Draw.run nx (b_) s3 = (n3, s4)) (a_q4 : Draw.run nx (b_) s4 = (n4, s5)) : Draw.run nx (dStmtStep b_ s_) s0 = (n2 + n3 + n4 + 1, s5) := by
  simp [dStmtStep, Draw.run, Draw.run_bind, skip, a_q0, a_hz0, a_q1, a_hv1, a_q2, a_q3, a_q4]
  try omega
theorem rn_stmt1y2 {nx : DS → Nat × DS} {s0 s1 s2 s3 s4 : DS} {n2 n3 x0 x1 : Nat} (b_ s_ : Draw Nat) (a_q0 : nx s0 = (x0, s1)) (a_hz0 : x0 % 3 = 0) (a_q1 : nx s1 = (x1, s2)) (a_hv1 : x1 % 6 = 2) (a_q2 : Draw.run nx (dExpr 1) s2 = (n2, s3)) (a_q3 : Draw.run nx (b_) s3 = (n3, s4)) : Draw.run nx (dStmtStep b_ s_) s0 = (n2 + n3 + 1, s4) := by
  simp [dStmtStep, Draw.run, Draw.run_bind, skip, a_q0, a_hz0, a_q1, a_hv1, a_q2, a_q3]
  try omega
theorem rn_stmt1y3 {nx : DS → Nat × DS} {s0 s1 s2 s3 s4 : DS} {n2 n3 x0 x1 : Nat} (b_ s_ : Draw Nat) (a_q0 : nx s0 = (x0, s1)) (a_hz0 : x0 % 3 = 0) (a_q1 : nx s1 = (x1, s2)) (a_hv1 : x1 % 6 = 3) (a_q2 : Draw.run nx (b_) s2 = (n2, s3)) (a_q3 : Draw.run nx (dExpr 1) s3 = (n3, s4)) : Draw.run nx (dStmtStep b_ s_) s0 = (n2 + n3 + 1, s4) := by
  simp [dStmtStep, Draw.run, Draw.run_bind, skip, a_q0, a_hz0, a_q1, a_hv1, a_q2, a_q3]
  try omega
theorem rn_stmt1y4 {nx : DS → Nat × DS} {s0 s1 s2 s3 s4 s5 s6 : DS} {n2 n3 n4 n5 x0 x1 : Nat} (b_ s_ : Draw Nat) (a_q0 : nx s0 = (x0, s1)) (a_hz0 : x0 % 3 = 0) (a_q1 : nx s1 = (x1, s2)) (a_hv1 : x1 % 6 = 4) (a_q2 : Draw.run nx (dMaybe (dExpr 2)) s2 = (n2, s3)) (a_q3 : Draw.run nx (dMaybe (dExpr 1)) s3 = (n3, s4)) (a_q4 : Draw.run nx (dMaybe (dExpr 1)) s4 = (n4, s5)) (a_q5 : Draw.run nx (b_) s5 = (n5, s6)) : Draw.run nx (dStmtStep b_ s_) s0 = (n2 + n3 + n4 + n5 + 1, s6) := by
  simp [dStmtStep, Draw.run, Draw.run_bind, skip, a_q0, a_hz0, a_q1, a_hv1, a_q2, a_q3, a_q4, a_q5]
  try omega
theorem rn_stmt1y5y {nx : DS → Nat × DS} {s0 s1 s2 s3 : DS} {x0 x1 x2 : Nat} (b_ s_ : Draw Nat) (a_q0 : nx s0 = (x0, s1)) (a_hz0 : x0 % 3 = 0) (a_q1 : nx s1 = (x1, s2)) (a_hv1 : x1 % 6 = 5) (a_q2 : nx s2 = (x2, s3)) (a_hz2 : x2 % 2 = 0) : Draw.run nx (dStmtStep b_ s_) s0 = Draw.run nx (b_) s3 := by
  simp [dStmtStep, Draw.run, Draw.run_bind, skip, a_q0, a_hz0, a_q1, a_hv1, a_q2, a_hz2]
  try omega
theorem rn_stmt1y5n {nx : DS → Nat × DS} {s0 s1 s2 s3 s4 s5 s6 : DS} {n5 x0 x1 x2 x3 x4 : Nat} (b_ s_ : Draw Nat) (a_q0 : nx s0 = (x0, s1)) (a_hz0 : x0 % 3 = 0) (a_q1 : nx s1 = (x1, s2)) (a_hv1 : x1 % 6 = 5) (a_q2 : nx s2 = (x2, s3)) (a_hz2 : ¬ x2 % 2 = 0) (a_q3 : nx s3 = (x3, s4)) (a_q4 : nx s4 = (x4, s5)) (a_q5 : Draw.run nx (b_) s5 = (n5, s6)) : Draw.run nx (dStmtStep b_ s_) s0 = (n5 + 1, s6) := by
  simp [dStmtStep, Draw.run, Draw.run_bind, skip, a_q0, a_hz0, a_q1, a_hv1, a_q2, a_hz2, a_q3, a_q4, a_q5]
  try omega
set_option maxRecDepth 100000 in
set_option maxHeartbeats 6400000 in
theorem stmt_step1 {b_ s_ : Draw Nat} {mb bb : Nat} (hb : Draws 134 [.int .i64 0] b_) (hs : Draws 133 [.int .i64 1] s_) (lb : b_.Lt mb bb) (hmb : mb ≤ 1300) : Draws 109 [.int .i64 1] (dStmtStep b_ s_) := by
  have he := expr_at 1 1 (by omega) rfl
  have le : (dExpr 1).Lt 4 13 := lt_expr 1
  have hm1 := maybe_draws 1 he
  have lm1 : (dMaybe (dExpr 1)).Lt 4 14 := lt_maybe le (by omega)
  have hm2 := maybe_draws 2 (expr_at 2 2 (by omega) rfl)
  have lm2 : (dMaybe (dExpr 2)).Lt 13 44 := lt_maybe (lt_expr 2) (by decide)
  intro w0 w p bv bs s0 hc
  have g0 := hid (GX.start hc)
  clear hc
  show Calls Tryz.prog 109 #[.pointer (some ⟨p, 0, none⟩), .int .i64 1] w _
  go_enter Tryz.func109, Tryz.ntmps109
  obtain ⟨x0, s1, q0⟩ := ex_next bs s0
  go_wp2_with fail
  refine (onceY g0.out q0 _ 3 rfl (by omega) (by omega)).mono ?_
  rintro e w1 ⟨rfl, gx⟩
  have g1 := hid gx
  clear gx g0
  by_cases hz0 : x0 % 3 = 0
  · have hb0 : (x0 % 3 == 0) = true := by simpa using hz0
    rw [hb0]
    clear hb0
    replace hz0 := hid hz0
    obtain ⟨x1, s2, q1⟩ := ex_next bs s1
    go_wp2_with fail
    refine (belowY g1.out q1 _ 6 rfl (by omega) (by omega)).mono ?_
    rintro e w2 ⟨rfl, gx⟩
    have g2 := hid gx
    clear gx g1
    have hy1 := Nat.mod_lt x1 (show 0 < 6 by omega)
    generalize hv1 : x1 % 6 = y1 at hy1 ⊢
    replace hv1 := hid hv1
    obtain rfl | rfl | rfl | rfl | rfl | rfl : y1 = 0 ∨ y1 = 1 ∨ y1 = 2 ∨ y1 = 3 ∨ y1 = 4 ∨ y1 = 5 := by omega
    · obtain ⟨n2, s3, q2⟩ : ∃ n s', Hid (Draw.run (dNext bs) (dExpr 1) s2 = (n, s')) := ⟨_, _, hid rfl⟩
      go_wp2_with fail
      refine (drawY he g2.out q2 le (by omega)).mono ?_
      rintro e w3 ⟨a2, b2, c2, l2, rfl, gx, hl2⟩
      have g3 := hid gx
      clear gx g2
      obtain ⟨n3, s4, q3⟩ : ∃ n s', Hid (Draw.run (dNext bs) (b_) s3 = (n, s')) := ⟨_, _, hid rfl⟩
      go_wp2_with fail
      refine (drawY hb g3.out q3 lb (by omega)).mono ?_
      rintro e w4 ⟨a3, b3, c3, l3, rfl, gx, hl3⟩
      have g4 := hid gx
      clear gx g3
      go_wp2_with fail
      refine (make_any (g4.out.lit #[.slice a2 b2 c2, .slice a3 b3 c3] rfl 2 rfl (by omega)) (by simp) ⟨_, _, _, _, []⟩ ⟨⟨by first | assumption | (show 0 ≤ 16; omega), by first | assumption | (show 0 ≤ 16; omega)⟩, by first | (simp; done) | (simp; omega), by first | (simp; done) | (simp; omega)⟩).mono ?_
      rintro e w9 ⟨v, l, rfl, h1, h2, h3, h4, h5⟩
      go_wp2
      go_ret
      have hmod := rn_stmt1y0 (nx := dNext bs) b_ s_ q0.out hz0.out q1.out hv1.out q2.out q3.out
      exact ⟨v, l, rfl, h1, by rw [hmod]; exact h2, h3, h4, by rw [hmod, h5]; simp [hl2, hl3]; try omega⟩
    · obtain ⟨n2, s3, q2⟩ : ∃ n s', Hid (Draw.run (dNext bs) (dExpr 1) s2 = (n, s')) := ⟨_, _, hid rfl⟩
      go_wp2_with fail
      refine (drawY he g2.out q2 le (by omega)).mono ?_
      rintro e w3 ⟨a2, b2, c2, l2, rfl, gx, hl2⟩
      have g3 := hid gx
      clear gx g2
      obtain ⟨n3, s4, q3⟩ : ∃ n s', Hid (Draw.run (dNext bs) (b_) s3 = (n, s')) := ⟨_, _, hid rfl⟩
      go_wp2_with fail
      refine (drawY hb g3.out q3 lb (by omega)).mono ?_
      rintro e w4 ⟨a3, b3, c3, l3, rfl, gx, hl3⟩
      have g4 := hid gx
      clear gx g3
      obtain ⟨n4, s5, q4⟩ : ∃ n s', Hid (Draw.run (dNext bs) (b_) s4 = (n, s')) := ⟨_, _, hid rfl⟩
      go_wp2_with fail
      refine (drawY hb g4.out q4 lb (by omega)).mono ?_
      rintro e w5 ⟨a4, b4, c4, l4, rfl, gx, hl4⟩
      have g5 := hid gx
      clear gx g4
      go_wp2_with fail
      refine (make_any (g5.out.lit #[.slice a2 b2 c2, .slice a3 b3 c3, .slice a4 b4 c4] rfl 3 rfl (by omega)) (by simp) ⟨_, _, _, _, []⟩ ⟨⟨by first | assumption | (show 0 ≤ 16; omega), by first | assumption | (show 0 ≤ 16; omega)⟩, by first | (simp; done) | (simp; omega), by first | (simp; done) | (simp; omega)⟩).mono ?_
      rintro e w9 ⟨v, l, rfl, h1, h2, h3, h4, h5⟩
      go_wp2
      go_ret
      have hmod := rn_stmt1y1 (nx := dNext bs) b_ s_ q0.out hz0.out q1.out hv1.out q2.out q3.out q4.out
      exact ⟨v, l, rfl, h1, by rw [hmod]; exact h2, h3, h4, by rw [hmod, h5]; simp [hl2, hl3, hl4]; try omega⟩
    · obtain ⟨n2, s3, q2⟩ : ∃ n s', Hid (Draw.run (dNext bs) (dExpr 1) s2 = (n, s')) := ⟨_, _, hid rfl⟩
      go_wp2_with fail
      refine (drawY he g2.out q2 le (by omega)).mono ?_
      rintro e w3 ⟨a2, b2, c2, l2, rfl, gx, hl2⟩
      have g3 := hid gx
      clear gx g2
      obtain ⟨n3, s4, q3⟩ : ∃ n s', Hid (Draw.run (dNext bs) (b_) s3 = (n, s')) := ⟨_, _, hid rfl⟩
      go_wp2_with fail
      refine (drawY hb g3.out q3 lb (by omega)).mono ?_
      rintro e w4 ⟨a3, b3, c3, l3, rfl, gx, hl3⟩
      have g4 := hid gx
      clear gx g3
      go_wp2_with fail
      refine (make_any (g4.out.lit #[.slice a2 b2 c2, .slice a3 b3 c3] rfl 2 rfl (by omega)) (by simp) ⟨_, _, _, _, []⟩ ⟨⟨by first | assumption | (show 0 ≤ 16; omega), by first | assumption | (show 0 ≤ 16; omega)⟩, by first | (simp; done) | (simp; omega), by first | (simp; done) | (simp; omega)⟩).mono ?_
      rintro e w9 ⟨v, l, rfl, h1, h2, h3, h4, h5⟩
      go_wp2
      go_ret
      have hmod := rn_stmt1y2 (nx := dNext bs) b_ s_ q0.out hz0.out q1.out hv1.out q2.out q3.out
      exact ⟨v, l, rfl, h1, by rw [hmod]; exact h2, h3, h4, by rw [hmod, h5]; simp [hl2, hl3]; try omega⟩
    · obtain ⟨n2, s3, q2⟩ : ∃ n s', Hid (Draw.run (dNext bs) (b_) s2 = (n, s')) := ⟨_, _, hid rfl⟩
      go_wp2_with fail
      refine (drawY hb g2.out q2 lb (by omega)).mono ?_
      rintro e w3 ⟨a2, b2, c2, l2, rfl, gx, hl2⟩
      have g3 := hid gx
      clear gx g2
      obtain ⟨n3, s4, q3⟩ : ∃ n s', Hid (Draw.run (dNext bs) (dExpr 1) s3 = (n, s')) := ⟨_, _, hid rfl⟩
      go_wp2_with fail
      refine (drawY he g3.out q3 le (by omega)).mono ?_
      rintro e w4 ⟨a3, b3, c3, l3, rfl, gx, hl3⟩
      have g4 := hid gx
      clear gx g3
      go_wp2_with fail
      refine (make_any (g4.out.lit #[.slice a2 b2 c2, .slice a3 b3 c3] rfl 2 rfl (by omega)) (by simp) ⟨_, _, _, _, []⟩ ⟨⟨by first | assumption | (show 0 ≤ 16; omega), by first | assumption | (show 0 ≤ 16; omega)⟩, by first | (simp; done) | (simp; omega), by first | (simp; done) | (simp; omega)⟩).mono ?_
      rintro e w9 ⟨v, l, rfl, h1, h2, h3, h4, h5⟩
      go_wp2
      go_ret
      have hmod := rn_stmt1y3 (nx := dNext bs) b_ s_ q0.out hz0.out q1.out hv1.out q2.out q3.out
      exact ⟨v, l, rfl, h1, by rw [hmod]; exact h2, h3, h4, by rw [hmod, h5]; simp [hl2, hl3]; try omega⟩
    · obtain ⟨n2, s3, q2⟩ : ∃ n s', Hid (Draw.run (dNext bs) (dMaybe (dExpr 2)) s2 = (n, s')) := ⟨_, _, hid rfl⟩
      go_wp2_with fail
      refine (drawY hm2 g2.out q2 lm2 (by omega)).mono ?_
      rintro e w3 ⟨a2, b2, c2, l2, rfl, gx, hl2⟩
      have g3 := hid gx
      clear gx g2
      obtain ⟨n3, s4, q3⟩ : ∃ n s', Hid (Draw.run (dNext bs) (dMaybe (dExpr 1)) s3 = (n, s')) := ⟨_, _, hid rfl⟩
      go_wp2_with fail
      refine (drawY hm1 g3.out q3 lm1 (by omega)).mono ?_
      rintro e w4 ⟨a3, b3, c3, l3, rfl, gx, hl3⟩
      have g4 := hid gx
      clear gx g3
      obtain ⟨n4, s5, q4⟩ : ∃ n s', Hid (Draw.run (dNext bs) (dMaybe (dExpr 1)) s4 = (n, s')) := ⟨_, _, hid rfl⟩
      go_wp2_with fail
      refine (drawY hm1 g4.out q4 lm1 (by omega)).mono ?_
      rintro e w5 ⟨a4, b4, c4, l4, rfl, gx, hl4⟩
      have g5 := hid gx
      clear gx g4
      obtain ⟨n5, s6, q5⟩ : ∃ n s', Hid (Draw.run (dNext bs) (b_) s5 = (n, s')) := ⟨_, _, hid rfl⟩
      go_wp2_with fail
      refine (drawY hb g5.out q5 lb (by omega)).mono ?_
      rintro e w6 ⟨a5, b5, c5, l5, rfl, gx, hl5⟩
      have g6 := hid gx
      clear gx g5
      go_wp2_with fail
      refine (make_any (g6.out.lit #[.slice a2 b2 c2, .slice a3 b3 c3, .slice a4 b4 c4, .slice a5 b5 c5] rfl 4 rfl (by omega)) (by simp) ⟨_, _, _, _, []⟩ ⟨⟨by first | assumption | (show 0 ≤ 16; omega), by first | assumption | (show 0 ≤ 16; omega)⟩, by first | (simp; done) | (simp; omega), by first | (simp; done) | (simp; omega)⟩).mono ?_
      rintro e w9 ⟨v, l, rfl, h1, h2, h3, h4, h5⟩
      go_wp2
      go_ret
      have hmod := rn_stmt1y4 (nx := dNext bs) b_ s_ q0.out hz0.out q1.out hv1.out q2.out q3.out q4.out q5.out
      exact ⟨v, l, rfl, h1, by rw [hmod]; exact h2, h3, h4, by rw [hmod, h5]; simp [hl2, hl3, hl4, hl5]; try omega⟩
    · obtain ⟨x2, s3, q2⟩ := ex_next bs s2
      go_wp2_with fail
      refine (onceY g2.out q2 _ 2 rfl (by omega) (by omega)).mono ?_
      rintro e w3 ⟨rfl, gx⟩
      have g3 := hid gx
      clear gx g2
      by_cases hz2 : x2 % 2 = 0
      · have hb2 : (x2 % 2 == 0) = true := by simpa using hz2
        rw [hb2]
        clear hb2
        replace hz2 := hid hz2
        go_wp2_with fail
        refine (hb w0 w3 p bv bs s3 g3.out.cur).mono ?_
        rintro e w9 ⟨v, l, rfl, h1, h2, h3, h4, h5⟩
        go_wp2
        go_ret
        have hmod := rn_stmt1y5y (nx := dNext bs) b_ s_ q0.out hz0.out q1.out hv1.out q2.out hz2.out
        exact ⟨v, l, rfl, grown_trans g3.out.gr h1, by rw [hmod]; exact h2, h3.lowX g3.out.gr.size, h4, by rw [hmod]; exact h5⟩
      · have hb2 : (x2 % 2 == 0) = false := by simpa using hz2
        rw [hb2]
        clear hb2
        replace hz2 := hid hz2
        obtain ⟨x3, s4, q3⟩ := ex_next bs s3
        go_wp2_with fail
        refine (wordY g3.out q3).mono ?_
        rintro e w4 ⟨t3, ht3, rfl, gx⟩
        have g4 := hid gx
        clear gx g3
        obtain ⟨x4, s5, q4⟩ := ex_next bs s4
        go_wp2_with fail
        refine (wordY g4.out q4).mono ?_
        rintro e w5 ⟨t4, ht4, rfl, gx⟩
        have g5 := hid gx
        clear gx g4
        obtain ⟨n5, s6, q5⟩ : ∃ n s', Hid (Draw.run (dNext bs) (b_) s5 = (n, s')) := ⟨_, _, hid rfl⟩
        go_wp2_with fail
        refine (drawY hb g5.out q5 lb (by omega)).mono ?_
        rintro e w6 ⟨a5, b5, c5, l5, rfl, gx, hl5⟩
        have g6 := hid gx
        clear gx g5
        go_wp2_with fail
        refine (make_any (g6.out.lit #[.slice a5 b5 c5] rfl 1 rfl (by omega)) (by simp) ⟨_, _, _, _, []⟩ ⟨⟨by first | assumption | (show 0 ≤ 16; omega), by first | assumption | (show 0 ≤ 16; omega)⟩, by first | (simp; done) | (simp; omega), by first | (simp; done) | (simp; omega)⟩).mono ?_
        rintro e w9 ⟨v, l, rfl, h1, h2, h3, h4, h5⟩
        go_wp2
        go_ret
        have hmod := rn_stmt1y5n (nx := dNext bs) b_ s_ q0.out hz0.out q1.out hv1.out q2.out hz2.out q3.out q4.out q5.out
        exact ⟨v, l, rfl, h1, by rw [hmod]; exact h2, h3, h4, by rw [hmod, h5]; simp [hl5]; try omega⟩
  · have hb0 : (x0 % 3 == 0) = false := by simpa using hz0
    rw [hb0]
    clear hb0
    replace hz0 := hid hz0
    go_wp2_with fail
    refine (hs w0 w1 p bv bs s1 g1.out.cur).mono ?_
    rintro e w9 ⟨v, l, rfl, h1, h2, h3, h4, h5⟩
    go_wp2
    go_ret
    have hmod := rn_stmt1n (nx := dNext bs) b_ s_ q0.out hz0.out
    exact ⟨v, l, rfl, grown_trans g1.out.gr h1, by rw [hmod]; exact h2, h3.lowX g1.out.gr.size, h4, by rw [hmod]; exact h5⟩
theorem rn_stmt2n {nx : DS → Nat × DS} {s0 s1 : DS} {x0 : Nat} (b_ s_ : Draw Nat) (a_q0 : nx s0 = (x0, s1)) (a_hz0 : ¬ x0 % 3 = 0) : Draw.run nx (dStmtStep b_ s_) s0 = Draw.run nx (s_) s1 := by
  simp [dStmtStep, Draw.run, Draw.run_bind, skip, a_q0, a_hz0]
  try omega
theorem rn_stmt2y0 {nx : DS → Nat × DS} {s0 s1 s2 s3 s4 : DS} {n2 n3 x0 x1 : Nat} (b_ s_ : Draw Nat) (a_q0 : nx s0 = (x0, s1)) (a_hz0 : x0 % 3 = 0) (a_q1 : nx s1 = (x1, s2)) (a_hv1 : x1 % 6 = 0) (a_q2 : Draw.run nx (dExpr 1) s2 = (n2, s3)) (a_q3 : Draw.run nx (b_) s3 = (n3, s4)) : Draw.run nx (dStmtStep b_ s_) s0 = (n2 + n3 + 1, s4) := by
  simp [dStmtStep, Draw.run, Draw.run_bind, skip, a_q0, a_hz0, a_q1, a_hv1, a_q2, a_q3]
  try omega
theorem rn_stmt2y1 {nx : DS → Nat × DS} {s0 s1 s2 s3 s4 s5 : DS} {n2 n3 n4 x0 x1 : Nat} (b_ s_ : Draw Nat) (a_q0 : nx s0 = (x0, s1)) (a_hz0 : x0 % 3 = 0) (a_q1 : nx s1 = (x1, s2)) (a_hv1 : x1 % 6 = 1) (a_q2 : Draw.run nx (dExpr 1) s2 = (n2, s3)) (a_q3 : Draw.run nx (b_) s3 = (n3, s4)) (a_q4 : Draw.run nx (b_) s4 = (n4, s5)) : Draw.run nx (dStmtStep b_ s_) s0 = (n2 + n3 + n4 + 1, s5) := by
  simp [dStmtStep, Draw.run, Draw.run_bind, skip, a_q0, a_hz0, a_q1, a_hv1, a_q2, a_q3, a_q4]
  try omega
theorem rn_stmt2y2 {nx : DS → Nat × DS} {s0 s1 s2 s3 s4 : DS} {n2 n3 x0 x1 : Nat} (b_ s_ : Draw Nat) (a_q0 : nx s0 = (x0, s1)) (a_hz0 : x0 % 3 = 0) (a_q1 : nx s1 = (x1, s2)) (a_hv1 : x1 % 6 = 2) (a_q2 : Draw.run nx (dExpr 1) s2 = (n2, s3)) (a_q3 : Draw.run nx (b_) s3 = (n3, s4)) : Draw.run nx (dStmtStep b_ s_) s0 = (n2 + n3 + 1, s4) := by
  simp [dStmtStep, Draw.run, Draw.run_bind, skip, a_q0, a_hz0, a_q1, a_hv1, a_q2, a_q3]
  try omega
theorem rn_stmt2y3 {nx : DS → Nat × DS} {s0 s1 s2 s3 s4 : DS} {n2 n3 x0 x1 : Nat} (b_ s_ : Draw Nat) (a_q0 : nx s0 = (x0, s1)) (a_hz0 : x0 % 3 = 0) (a_q1 : nx s1 = (x1, s2)) (a_hv1 : x1 % 6 = 3) (a_q2 : Draw.run nx (b_) s2 = (n2, s3)) (a_q3 : Draw.run nx (dExpr 1) s3 = (n3, s4)) : Draw.run nx (dStmtStep b_ s_) s0 = (n2 + n3 + 1, s4) := by
  simp [dStmtStep, Draw.run, Draw.run_bind, skip, a_q0, a_hz0, a_q1, a_hv1, a_q2, a_q3]
  try omega
theorem rn_stmt2y4 {nx : DS → Nat × DS} {s0 s1 s2 s3 s4 s5 s6 : DS} {n2 n3 n4 n5 x0 x1 : Nat} (b_ s_ : Draw Nat) (a_q0 : nx s0 = (x0, s1)) (a_hz0 : x0 % 3 = 0) (a_q1 : nx s1 = (x1, s2)) (a_hv1 : x1 % 6 = 4) (a_q2 : Draw.run nx (dMaybe (dExpr 2)) s2 = (n2, s3)) (a_q3 : Draw.run nx (dMaybe (dExpr 1)) s3 = (n3, s4)) (a_q4 : Draw.run nx (dMaybe (dExpr 1)) s4 = (n4, s5)) (a_q5 : Draw.run nx (b_) s5 = (n5, s6)) : Draw.run nx (dStmtStep b_ s_) s0 = (n2 + n3 + n4 + n5 + 1, s6) := by
  simp [dStmtStep, Draw.run, Draw.run_bind, skip, a_q0, a_hz0, a_q1, a_hv1, a_q2, a_q3, a_q4, a_q5]
  try omega
theorem rn_stmt2y5y {nx : DS → Nat × DS} {s0 s1 s2 s3 : DS} {x0 x1 x2 : Nat} (b_ s_ : Draw Nat) (a_q0 : nx s0 = (x0, s1)) (a_hz0 : x0 % 3 = 0) (a_q1 : nx s1 = (x1, s2)) (a_hv1 : x1 % 6 = 5) (a_q2 : nx s2 = (x2, s3)) (a_hz2 : x2 % 2 = 0) : Draw.run nx (dStmtStep b_ s_) s0 = Draw.run nx (b_) s3 := by
  simp [dStmtStep, Draw.run, Draw.run_bind, skip, a_q0, a_hz0, a_q1, a_hv1, a_q2, a_hz2]
  try omega
theorem rn_stmt2y5n {nx : DS → Nat × DS} {s0 s1 s2 s3 s4 s5 s6 : DS} {n5 x0 x1 x2 x3 x4 : Nat} (b_ s_ : Draw Nat) (a_q0 : nx s0 = (x0, s1)) (a_hz0 : x0 % 3 = 0) (a_q1 : nx s1 = (x1, s2)) (a_hv1 : x1 % 6 = 5) (a_q2 : nx s2 = (x2, s3)) (a_hz2 : ¬ x2 % 2 = 0) (a_q3 : nx s3 = (x3, s4)) (a_q4 : nx s4 = (x4, s5)) (a_q5 : Draw.run nx (b_) s5 = (n5, s6)) : Draw.run nx (dStmtStep b_ s_) s0 = (n5 + 1, s6) := by
  simp [dStmtStep, Draw.run, Draw.run_bind, skip, a_q0, a_hz0, a_q1, a_hv1, a_q2, a_hz2, a_q3, a_q4, a_q5]
  try omega
set_option maxRecDepth 100000 in
set_option maxHeartbeats 6400000 in
theorem stmt_step2 {b_ s_ : Draw Nat} {mb bb : Nat} (hb : Draws 134 [.int .i64 1] b_) (hs : Draws 133 [.int .i64 2] s_) (lb : b_.Lt mb bb) (hmb : mb ≤ 1300) : Draws 109 [.int .i64 2] (dStmtStep b_ s_) := by
  have he := expr_at 1 1 (by omega) rfl
  have le : (dExpr 1).Lt 4 13 := lt_expr 1
  have hm1 := maybe_draws 1 he
  have lm1 : (dMaybe (dExpr 1)).Lt 4 14 := lt_maybe le (by omega)
  have hm2 := maybe_draws 2 (expr_at 2 2 (by omega) rfl)
  have lm2 : (dMaybe (dExpr 2)).Lt 13 44 := lt_maybe (lt_expr 2) (by decide)
  intro w0 w p bv bs s0 hc
  have g0 := hid (GX.start hc)
  clear hc
  show Calls Tryz.prog 109 #[.pointer (some ⟨p, 0, none⟩), .int .i64 2] w _
  go_enter Tryz.func109, Tryz.ntmps109
  obtain ⟨x0, s1, q0⟩ := ex_next bs s0
  go_wp2_with fail
  refine (onceY g0.out q0 _ 3 rfl (by omega) (by omega)).mono ?_
  rintro e w1 ⟨rfl, gx⟩
  have g1 := hid gx
  clear gx g0
  by_cases hz0 : x0 % 3 = 0
  · have hb0 : (x0 % 3 == 0) = true := by simpa using hz0
    rw [hb0]
    clear hb0
    replace hz0 := hid hz0
    obtain ⟨x1, s2, q1⟩ := ex_next bs s1
    go_wp2_with fail
    refine (belowY g1.out q1 _ 6 rfl (by omega) (by omega)).mono ?_
    rintro e w2 ⟨rfl, gx⟩
    have g2 := hid gx
    clear gx g1
    have hy1 := Nat.mod_lt x1 (show 0 < 6 by omega)
    generalize hv1 : x1 % 6 = y1 at hy1 ⊢
    replace hv1 := hid hv1
    obtain rfl | rfl | rfl | rfl | rfl | rfl : y1 = 0 ∨ y1 = 1 ∨ y1 = 2 ∨ y1 = 3 ∨ y1 = 4 ∨ y1 = 5 := by omega
    · obtain ⟨n2, s3, q2⟩ : ∃ n s', Hid (Draw.run (dNext bs) (dExpr 1) s2 = (n, s')) := ⟨_, _, hid rfl⟩
      go_wp2_with fail
      refine (drawY he g2.out q2 le (by omega)).mono ?_
      rintro e w3 ⟨a2, b2, c2, l2, rfl, gx, hl2⟩
      have g3 := hid gx
      clear gx g2
      obtain ⟨n3, s4, q3⟩ : ∃ n s', Hid (Draw.run (dNext bs) (b_) s3 = (n, s')) := ⟨_, _, hid rfl⟩
      go_wp2_with fail
      refine (drawY hb g3.out q3 lb (by omega)).mono ?_
      rintro e w4 ⟨a3, b3, c3, l3, rfl, gx, hl3⟩
      have g4 := hid gx
      clear gx g3
      go_wp2_with fail
      refine (make_any (g4.out.lit #[.slice a2 b2 c2, .slice a3 b3 c3] rfl 2 rfl (by omega)) (by simp) ⟨_, _, _, _, []⟩ ⟨⟨by first | assumption | (show 0 ≤ 16; omega), by first | assumption | (show 0 ≤ 16; omega)⟩, by first | (simp; done) | (simp; omega), by first | (simp; done) | (simp; omega)⟩).mono ?_
      rintro e w9 ⟨v, l, rfl, h1, h2, h3, h4, h5⟩
      go_wp2
      go_ret
      have hmod := rn_stmt2y0 (nx := dNext bs) b_ s_ q0.out hz0.out q1.out hv1.out q2.out q3.out
      exact ⟨v, l, rfl, h1, by rw [hmod]; exact h2, h3, h4, by rw [hmod, h5]; simp [hl2, hl3]; try omega⟩
    · obtain ⟨n2, s3, q2⟩ : ∃ n s', Hid (Draw.run (dNext bs) (dExpr 1) s2 = (n, s')) := ⟨_, _, hid rfl⟩
      go_wp2_with fail
      refine (drawY he g2.out q2 le (by omega)).mono ?_
      rintro e w3 ⟨a2, b2, c2, l2, rfl, gx, hl2⟩
      have g3 := hid gx
      clear gx g2
      obtain ⟨n3, s4, q3⟩ : ∃ n s', Hid (Draw.run (dNext bs) (b_) s3 = (n, s')) := ⟨_, _, hid rfl⟩
      go_wp2_with fail
      refine (drawY hb g3.out q3 lb (by omega)).mono ?_
      rintro e w4 ⟨a3, b3, c3, l3, rfl, gx, hl3⟩
      have g4 := hid gx
      clear gx g3
      obtain ⟨n4, s5, q4⟩ : ∃ n s', Hid (Draw.run (dNext bs) (b_) s4 = (n, s')) := ⟨_, _, hid rfl⟩
      go_wp2_with fail
      refine (drawY hb g4.out q4 lb (by omega)).mono ?_
      rintro e w5 ⟨a4, b4, c4, l4, rfl, gx, hl4⟩
      have g5 := hid gx
      clear gx g4
      go_wp2_with fail
      refine (make_any (g5.out.lit #[.slice a2 b2 c2, .slice a3 b3 c3, .slice a4 b4 c4] rfl 3 rfl (by omega)) (by simp) ⟨_, _, _, _, []⟩ ⟨⟨by first | assumption | (show 0 ≤ 16; omega), by first | assumption | (show 0 ≤ 16; omega)⟩, by first | (simp; done) | (simp; omega), by first | (simp; done) | (simp; omega)⟩).mono ?_
      rintro e w9 ⟨v, l, rfl, h1, h2, h3, h4, h5⟩
      go_wp2
      go_ret
      have hmod := rn_stmt2y1 (nx := dNext bs) b_ s_ q0.out hz0.out q1.out hv1.out q2.out q3.out q4.out
      exact ⟨v, l, rfl, h1, by rw [hmod]; exact h2, h3, h4, by rw [hmod, h5]; simp [hl2, hl3, hl4]; try omega⟩
    · obtain ⟨n2, s3, q2⟩ : ∃ n s', Hid (Draw.run (dNext bs) (dExpr 1) s2 = (n, s')) := ⟨_, _, hid rfl⟩
      go_wp2_with fail
      refine (drawY he g2.out q2 le (by omega)).mono ?_
      rintro e w3 ⟨a2, b2, c2, l2, rfl, gx, hl2⟩
      have g3 := hid gx
      clear gx g2
      obtain ⟨n3, s4, q3⟩ : ∃ n s', Hid (Draw.run (dNext bs) (b_) s3 = (n, s')) := ⟨_, _, hid rfl⟩
      go_wp2_with fail
      refine (drawY hb g3.out q3 lb (by omega)).mono ?_
      rintro e w4 ⟨a3, b3, c3, l3, rfl, gx, hl3⟩
      have g4 := hid gx
      clear gx g3
      go_wp2_with fail
      refine (make_any (g4.out.lit #[.slice a2 b2 c2, .slice a3 b3 c3] rfl 2 rfl (by omega)) (by simp) ⟨_, _, _, _, []⟩ ⟨⟨by first | assumption | (show 0 ≤ 16; omega), by first | assumption | (show 0 ≤ 16; omega)⟩, by first | (simp; done) | (simp; omega), by first | (simp; done) | (simp; omega)⟩).mono ?_
      rintro e w9 ⟨v, l, rfl, h1, h2, h3, h4, h5⟩
      go_wp2
      go_ret
      have hmod := rn_stmt2y2 (nx := dNext bs) b_ s_ q0.out hz0.out q1.out hv1.out q2.out q3.out
      exact ⟨v, l, rfl, h1, by rw [hmod]; exact h2, h3, h4, by rw [hmod, h5]; simp [hl2, hl3]; try omega⟩
    · obtain ⟨n2, s3, q2⟩ : ∃ n s', Hid (Draw.run (dNext bs) (b_) s2 = (n, s')) := ⟨_, _, hid rfl⟩
      go_wp2_with fail
      refine (drawY hb g2.out q2 lb (by omega)).mono ?_
      rintro e w3 ⟨a2, b2, c2, l2, rfl, gx, hl2⟩
      have g3 := hid gx
      clear gx g2
      obtain ⟨n3, s4, q3⟩ : ∃ n s', Hid (Draw.run (dNext bs) (dExpr 1) s3 = (n, s')) := ⟨_, _, hid rfl⟩
      go_wp2_with fail
      refine (drawY he g3.out q3 le (by omega)).mono ?_
      rintro e w4 ⟨a3, b3, c3, l3, rfl, gx, hl3⟩
      have g4 := hid gx
      clear gx g3
      go_wp2_with fail
      refine (make_any (g4.out.lit #[.slice a2 b2 c2, .slice a3 b3 c3] rfl 2 rfl (by omega)) (by simp) ⟨_, _, _, _, []⟩ ⟨⟨by first | assumption | (show 0 ≤ 16; omega), by first | assumption | (show 0 ≤ 16; omega)⟩, by first | (simp; done) | (simp; omega), by first | (simp; done) | (simp; omega)⟩).mono ?_
      rintro e w9 ⟨v, l, rfl, h1, h2, h3, h4, h5⟩
      go_wp2
      go_ret
      have hmod := rn_stmt2y3 (nx := dNext bs) b_ s_ q0.out hz0.out q1.out hv1.out q2.out q3.out
      exact ⟨v, l, rfl, h1, by rw [hmod]; exact h2, h3, h4, by rw [hmod, h5]; simp [hl2, hl3]; try omega⟩
    · obtain ⟨n2, s3, q2⟩ : ∃ n s', Hid (Draw.run (dNext bs) (dMaybe (dExpr 2)) s2 = (n, s')) := ⟨_, _, hid rfl⟩
      go_wp2_with fail
      refine (drawY hm2 g2.out q2 lm2 (by omega)).mono ?_
      rintro e w3 ⟨a2, b2, c2, l2, rfl, gx, hl2⟩
      have g3 := hid gx
      clear gx g2
      obtain ⟨n3, s4, q3⟩ : ∃ n s', Hid (Draw.run (dNext bs) (dMaybe (dExpr 1)) s3 = (n, s')) := ⟨_, _, hid rfl⟩
      go_wp2_with fail
      refine (drawY hm1 g3.out q3 lm1 (by omega)).mono ?_
      rintro e w4 ⟨a3, b3, c3, l3, rfl, gx, hl3⟩
      have g4 := hid gx
      clear gx g3
      obtain ⟨n4, s5, q4⟩ : ∃ n s', Hid (Draw.run (dNext bs) (dMaybe (dExpr 1)) s4 = (n, s')) := ⟨_, _, hid rfl⟩
      go_wp2_with fail
      refine (drawY hm1 g4.out q4 lm1 (by omega)).mono ?_
      rintro e w5 ⟨a4, b4, c4, l4, rfl, gx, hl4⟩
      have g5 := hid gx
      clear gx g4
      obtain ⟨n5, s6, q5⟩ : ∃ n s', Hid (Draw.run (dNext bs) (b_) s5 = (n, s')) := ⟨_, _, hid rfl⟩
      go_wp2_with fail
      refine (drawY hb g5.out q5 lb (by omega)).mono ?_
      rintro e w6 ⟨a5, b5, c5, l5, rfl, gx, hl5⟩
      have g6 := hid gx
      clear gx g5
      go_wp2_with fail
      refine (make_any (g6.out.lit #[.slice a2 b2 c2, .slice a3 b3 c3, .slice a4 b4 c4, .slice a5 b5 c5] rfl 4 rfl (by omega)) (by simp) ⟨_, _, _, _, []⟩ ⟨⟨by first | assumption | (show 0 ≤ 16; omega), by first | assumption | (show 0 ≤ 16; omega)⟩, by first | (simp; done) | (simp; omega), by first | (simp; done) | (simp; omega)⟩).mono ?_
      rintro e w9 ⟨v, l, rfl, h1, h2, h3, h4, h5⟩
      go_wp2
      go_ret
      have hmod := rn_stmt2y4 (nx := dNext bs) b_ s_ q0.out hz0.out q1.out hv1.out q2.out q3.out q4.out q5.out
      exact ⟨v, l, rfl, h1, by rw [hmod]; exact h2, h3, h4, by rw [hmod, h5]; simp [hl2, hl3, hl4, hl5]; try omega⟩
    · obtain ⟨x2, s3, q2⟩ := ex_next bs s2
      go_wp2_with fail
      refine (onceY g2.out q2 _ 2 rfl (by omega) (by omega)).mono ?_
      rintro e w3 ⟨rfl, gx⟩
      have g3 := hid gx
      clear gx g2
      by_cases hz2 : x2 % 2 = 0
      · have hb2 : (x2 % 2 == 0) = true := by simpa using hz2
        rw [hb2]
        clear hb2
        replace hz2 := hid hz2
        go_wp2_with fail
        refine (hb w0 w3 p bv bs s3 g3.out.cur).mono ?_
        rintro e w9 ⟨v, l, rfl, h1, h2, h3, h4, h5⟩
        go_wp2
        go_ret
        have hmod := rn_stmt2y5y (nx := dNext bs) b_ s_ q0.out hz0.out q1.out hv1.out q2.out hz2.out
        exact ⟨v, l, rfl, grown_trans g3.out.gr h1, by rw [hmod]; exact h2, h3.lowX g3.out.gr.size, h4, by rw [hmod]; exact h5⟩
      · have hb2 : (x2 % 2 == 0) = false := by simpa using hz2
        rw [hb2]
        clear hb2
        replace hz2 := hid hz2
        obtain ⟨x3, s4, q3⟩ := ex_next bs s3
        go_wp2_with fail
        refine (wordY g3.out q3).mono ?_
        rintro e w4 ⟨t3, ht3, rfl, gx⟩
        have g4 := hid gx
        clear gx g3
        obtain ⟨x4, s5, q4⟩ := ex_next bs s4
        go_wp2_with fail
        refine (wordY g4.out q4).mono ?_
        rintro e w5 ⟨t4, ht4, rfl, gx⟩
        have g5 := hid gx
        clear gx g4
        obtain ⟨n5, s6, q5⟩ : ∃ n s', Hid (Draw.run (dNext bs) (b_) s5 = (n, s')) := ⟨_, _, hid rfl⟩
        go_wp2_with fail
        refine (drawY hb g5.out q5 lb (by omega)).mono ?_
        rintro e w6 ⟨a5, b5, c5, l5, rfl, gx, hl5⟩
        have g6 := hid gx
        clear gx g5
        go_wp2_with fail
        refine (make_any (g6.out.lit #[.slice a5 b5 c5] rfl 1 rfl (by omega)) (by simp) ⟨_, _, _, _, []⟩ ⟨⟨by first | assumption | (show 0 ≤ 16; omega), by first | assumption | (show 0 ≤ 16; omega)⟩, by first | (simp; done) | (simp; omega), by first | (simp; done) | (simp; omega)⟩).mono ?_
        rintro e w9 ⟨v, l, rfl, h1, h2, h3, h4, h5⟩
        go_wp2
        go_ret
        have hmod := rn_stmt2y5n (nx := dNext bs) b_ s_ q0.out hz0.out q1.out hv1.out q2.out hz2.out q3.out q4.out q5.out
        exact ⟨v, l, rfl, h1, by rw [hmod]; exact h2, h3, h4, by rw [hmod, h5]; simp [hl5]; try omega⟩
  · have hb0 : (x0 % 3 == 0) = false := by simpa using hz0
    rw [hb0]
    clear hb0
    replace hz0 := hid hz0
    go_wp2_with fail
    refine (hs w0 w1 p bv bs s1 g1.out.cur).mono ?_
    rintro e w9 ⟨v, l, rfl, h1, h2, h3, h4, h5⟩
    go_wp2
    go_ret
    have hmod := rn_stmt2n (nx := dNext bs) b_ s_ q0.out hz0.out
    exact ⟨v, l, rfl, grown_trans g1.out.gr h1, by rw [hmod]; exact h2, h3.lowX g1.out.gr.size, h4, by rw [hmod]; exact h5⟩
theorem block_at0 : Draws 134 [.int .i64 0] (dBlock (dStmt 0)) := block_draws 0 (by omega) stmt_zero lt_stmt.1 (by omega)
theorem stmt_one : Draws 109 [.int .i64 1] (dStmt 1) := stmt_step1 block_at0 simple_at1 (lt_block lt_stmt.1) (by omega)
theorem block_at1 : Draws 134 [.int .i64 1] (dBlock (dStmt 1)) := block_draws 1 (by omega) stmt_one lt_stmt.2.1 (by omega)
theorem stmt_two : Draws 109 [.int .i64 2] (dStmt 2) := stmt_step2 block_at1 simple_at2 (lt_block lt_stmt.2.1) (by omega)
theorem block_at2 : Draws 134 [.int .i64 2] (dBlock (dStmt 2)) := block_draws 2 (by omega) stmt_two lt_stmt.2.2 (by omega)
end Go.Proofs.YtkelhmgdajiocaaGreatDoor
