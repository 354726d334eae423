/- Walks and lemmas of this seat (FFunc24): what each theorem says of the functions that it names. Conditions: those that each theorem states. -/
import Derived.Test.YtgmciglaapnahaaGreatDoorGBD
import Derived.Test.YtgmciglaapnahaaGreatDoorGV
import Derived.Test.YtgmciglaapnahaaGreatDoorGA
namespace Go.Proofs.YtgmciglaapnahaaGreatDoor
set_option linter.unusedVariables false
set_option linter.unusedSimpArgs false
open Go.RowKit

/-! A drawn program, and a place in it. -/
def prm24 : List ByteArray := [⟨#[120]⟩, ⟨#[121]⟩, ⟨#[110]⟩]
theorem funcs_in (L : List Node) : ∀ i ∈ funcsOf 0 L, 0 ≤ i ∧ i < (L.length : Int) := by
  have h : ∀ (l : List Node) (k : Nat), ∀ i ∈ funcsOf k l, 0 ≤ i ∧ i < ((k + l.length : Nat) : Int) := by
    intro l
    induction l with
    | nil => intro k i hi; simp [funcsOf] at hi
    | cons x l ih =>
      intro k i hi
      rw [funcsOf] at hi
      split at hi
      · rcases List.mem_cons.1 hi with rfl | hi
        · exact ⟨by omega, by simp only [List.length_cons]; omega⟩
        · have := ih (k + 1) i hi; simp only [List.length_cons]; omega
      · have := ih (k + 1) i hi; simp only [List.length_cons]; omega
  intro i hi
  simpa using h L 0 i hi
theorem sum_ones {ps : List (List Node × Value)} (h : ∀ q ∈ ps, q.1.length = 1) : ((ps.map Prod.fst).map List.length).sum = ps.length := by
  induction ps with
  | nil => rfl
  | cons q ps ih => simp only [List.map_cons, List.sum_cons, List.length_cons, ih fun r hr => h r (by simp [hr]), h q (by simp)]; omega

set_option maxRecDepth 100000 in
set_option maxHeartbeats 12800000 in
theorem specl24Func_any (w0 w : World) (p : Nat) (bv : Value) (bs : List UInt8) (hc : Cur w0 w p bv bs) :
    Calls Tryz.prog 98 #[.pointer (some ⟨p, 0, none⟩)] w fun e w' => WhereN w0 w p bv bs e w' := by
  have hpw := hc.box.lt
  have hb := block_at1
  have lb := lt_blocks 1 (by omega)
  have hcall := hid (prog_drawn w0 w p bv bs hc)
  clear hc
  obtain ⟨i0, hi, hz0, hz1, hz2⟩ := info_parts infoNSlice
  go_enter Tryz.func98, Tryz.ntmps98
  go_wp2_with fail
  refine hcall.out.mono ?_; rintro e w1 ⟨v, l, rfl, hg1, hc1, ho1, hs1, hn1⟩
  have hf1 := hid (hs1.fineN hn1)
  have hx1 := hid (NodeSlcX.of_own ho1)
  obtain ⟨a, cap, rfl⟩ := hx1.out.vshape
  have hcall := hid (specl1Once_any w0 w1 p bv bs 10 (by unfold I64; omega) hc1)
  replace hg1 := hid hg1
  clear hc1 ho1 hs1 hn1
  go_wp2_with fail
  refine hcall.out.mono ?_; rintro e w2 ⟨sp, rfl, hg2, hc2⟩
  have hx2 := hid (hx1.out.grown hg2 hpw)
  have hg2 := hid (grown_trans hg1.out hg2)
  clear hcall hx1 hg1
  cases sp with
  | true =>
    have hcall := hid (specl7Spoilt_any w0 w2 p bv bs hc2)
    clear hc2 hx2 hf1
    go_wp2_with fail
    refine hcall.out.mono ?_; rintro e w4 h
    have h := h.up hg2.out
    obtain ⟨v', l, rfl, h1, h2, h3, h4⟩ := h
    have hg4 := hid h1
    have hc4 := hid h2
    have ho4 := hid h3
    have hfl := hid h4
    obtain ⟨a', cap', rfl⟩ := h3.vshape
    clear hcall h1 h2 h3 h4 hg2
    have hll := hfl.out.1
    have hfo := hid (specFuncsOf_any l _ w4 hfl.out.fine.1 (by have := hfl.out.fine.2; omega) ho4.out.slc)
    have hFin := hid (funcs_in l)
    have hFl := funcsOf_len l 0
    generalize funcsOf 0 l = F at *
    go_wp2_with fail
    refine hfo.out.mono ?_; rintro e w5 ⟨fv, rfl, hbx, hof⟩
    obtain ⟨fa, fc, rfl, _⟩ := own_slice hof
    have hg5 := hid (grown_blw hg4.out hbx)
    have hc5 := hid (hc4.out.below hbx)
    have ho5 := hid (ho4.out.keep fun b hS hl => ⟨hbx.block b hl, hS⟩)
    have hof5 := hid (own_base hof hg4.out.size)
    clear hfo hbx hof hg4 hc4 ho4
    by_cases hF : F.length = 0
    · have hF2 : ((F.length : Int) == 0) = true := by simp [hF]
      obtain ⟨s0, hx⟩ := hc5.out.x
      have g0 := hid (GX.start hx)
      have hpL := hx.lt
      have hx9 := hx
      clear hx
      obtain ⟨x2, s3, q2⟩ := ex_next bs s0
      have hbc := hid (fun o => specl1BelowX w0 (w5.alloc o) p bv bs s0 4 4 rfl (by omega) (by omega) (g0.out.alloc o).cur)
      rw [q2.out] at hbc
      have hy := Nat.mod_lt x2 (show 0 < 4 by omega)
      simp only at hbc
      generalize x2 % 4 = y at *
      go_wp2_with fail
      refine (hbc.out _).mono ?_
      rintro e w13 ⟨rfl, hga, hca⟩
      have hp0 := hid (PartsX.start g0.out hga hca)
      clear hga hca hbc g0
      go_wp2
      go_loopw [6, 7] (fun v i wr => ∃ (ps : List (List Node × Value)) (j : Nat) (sj : DS) (v' : Value), v = v' ∧ i = .int .i64 j ∧ ps.length + j ≤ 4 ∧ Hid (∀ q ∈ ps, q.1.length = 1) ∧ Hid (PartsX w0 w5 p bv bs sj v' ps wr)) (fun _ i _ => (intOf i).toNat)
      case atStart => exact ⟨[], y, s3, _, rfl, rfl, by simp; omega, hid (by simp), hp0⟩
      clear hp0
      obtain ⟨ps, j, sj, v0, rfl, rfl, hm0, hone, hpd⟩ := hrel
      rename World => wo
      by_cases hj : 0 < j
      · obtain ⟨j', rfl⟩ : ∃ j', j = j' + 1 := ⟨j - 1, by omega⟩
        obtain ⟨xj, sk, qj⟩ := ex_next bs sj
        have hpk := hid (fun o => specl1PickX w0 (wo.alloc (.cells (prm24.flatMap str1).toArray o)) p bv bs sj prm24 wo.heap.size 3 (by decide) (by decide) (by decide) (by have := hpd.out.cur.lt; omega) (rowAt_lit _ _ _) (hpd.out.alloc _).cur)
        go_wp2_with fail
        refine (hpk.out _).mono ?_
        rintro e w14 ⟨t, ht, rfl, hg4, hc4⟩
        rw [qj.out] at hc4
        have hts : t.size ≤ 16 := by
          have : ∀ y ∈ prm24, y.size ≤ 16 := by decide
          exact this t ht
        have px := hid ((hpd.out.alloc _).keep hg4 hc4)
        have hown := hid px.out.own
        have hsz := px.out.gr.size
        have hsz5 := hid (hid (GX.start px.out.cur))
        have hlf := hid (own_leafN w14 ⟨1, 0, t, ⟨#[]⟩, []⟩ rfl)
        have hsl := hid (leaf_small ⟨1, 0, t, ⟨#[]⟩, []⟩ rfl ⟨⟨hts, by show 0 ≤ 16; omega⟩, by simp, by simp⟩)
        have hone2 : Hid (∀ q ∈ ps ++ [([(⟨1, 0, t, ⟨#[]⟩, []⟩ : Node)], Value.slice (some ⟨w14.heap.size, 0, none⟩) 1 1)], q.1.length = 1) := hid fun q hq => by
          rcases List.mem_append.1 hq with hq | hq
          · exact hone.out q hq
          · rw [List.mem_singleton.1 hq]; rfl
        clear hpk hg4 hc4 ht
        go_wp2_with (at_builtin; refine Hid.out ?_)
        refine hid ?_
        refine wpList_append_lies _ (by rfl) _ _ _ (by rfl) w5.heap.size 24 i0 _ 1 24 Tryz.underlying140 hi hz0 hz1 hz2 rfl (by omega) _ ps.length (ps.flatMap part1) (by rfl) ((hown.out.alloc _).alloc _) ⟨w14.heap.size + 1, 0, none⟩ 1 1 [.slice (some ⟨w14.heap.size, 0, none⟩) 1 1] (by rfl) (by rfl) (new_cells_at _ _ _ _ _ (by rfl) (by simp)) (by simp [Value.oneCell']) (by omega) (by unfold maxLen; omega) (by omega) (by simp; omega) (w14.heap.size + 1 + 1) (by simp) ?_
        intro gg cap6 w16 hown6 hg6 hat hlt6
        have hpd2 := hid (px.out.step (World.grownBy_alloc _ _ _) (hsz5.out.out.alloc _).cur hlf.out hsl.out (by simp) hown6 hg6 (by simpa using hat))
        clear hpd px hown6 hg6 hat hown hlf hsl
        go_wp2
        all_goals go_roundw
        all_goals first
          | (simp only [intOf]; omega)
          | exact ⟨_, j', _, _, rfl, by first | rfl | (congr 1; omega), by simp; omega, hone2, hpd2⟩
      · obtain rfl : j = 0 := by omega
        obtain ⟨va, vc, rfl, _⟩ := own_slice hpd.out.own
        have hsum := hid (sum_ones hone.out)
        clear hone
        go_wp2_with fail
        refine (hb w0 wo p bv bs sj hpd.out.cur).mono ?_
        rintro e w15 ⟨v1, l1', rfl, hg5, hc5, ho5, hs5, hl5⟩
        have hlb : l1'.length ≤ 1200 := by have := (lb.run (dNext bs) sj).1; omega
        have hlb2 : l1'.length ≤ 1300 := by omega
        have hown := hpd.out.own.kept hg5 (ownBlock_ne hpd.out.own hpL)
        have hsz := hpd.out.gr.size
        have hsz5 := hg5.size
        obtain ⟨a1, n1, c1, rfl⟩ := own_vslice ho5
        replace hown := hid hown
        replace ho5 := hid ho5
        replace hg5 := hid hg5
        replace hc5 := hid hc5
        clear hl5
        go_wp2_with (at_builtin; refine Hid.out ?_)
        refine hid ?_
        refine wpList_append_lies _ (by rfl) _ _ _ (by rfl) w5.heap.size 24 i0 _ 1 24 Tryz.underlying140 hi hz0 hz1 hz2 rfl (by omega) _ ps.length (ps.flatMap part1) (by rfl) (hown.out.alloc _) ⟨w15.heap.size, 0, none⟩ 1 1 [.slice a1 n1 c1] (by rfl) (by rfl) (World.news_of_block (cs := #[.slice a1 n1 c1]) (t := 24) (fr := (0, 0)) (heap_alloc_new w15 _)) (by simp [Value.oneCell']) (by omega) (by unfold maxLen; omega) (by omega) (by simp; omega) (w15.heap.size + 1) (by simp) ?_
        intro gg cap6 w16 hown6 hg6 hat hlt6
        have hpd2 := hid (hpd.out.step hg5.out hc5.out ho5.out hs5 hlb2 hown6 hg6 hat)
        clear hpd hown6 hg6 hat hown hg5 hc5 ho5
        go_wp2_with fail
        refine (make_any hpd2.out (by simp; omega) ⟨44, 0, ⟨#[103]⟩, ⟨#[]⟩, []⟩ ⟨⟨by decide, by decide⟩, by simp, by simp⟩).mono ?_
        rintro e w9 ⟨v2, l2, rfl, h1, h2, h3, h4, h5⟩
        have hl2 : l2.length ≤ 1250 := by
          rw [h5]
          simp only [List.map_append, List.map_cons, List.map_nil, List.sum_append, List.sum_cons, List.sum_nil]
          rw [hsum.out]
          omega
        have hl2p := List.length_pos_iff.2 h4.1
        obtain ⟨a2, n2, c2, rfl⟩ := own_vslice h3
        obtain ⟨a2', c2', e2, _⟩ := h3.slc.shape
        simp only [Value.slice.injEq] at e2
        obtain ⟨rfl, rfl, rfl⟩ := e2
        have hgx := hid ((GX.start hx9).push h1 h2 h3 h4 (by omega))
        clear hpd2 h1 h3 h5 hsum
        have hwr := wrap_in ((l2.length : Int) - 1) (by unfold I64; omega)
        go_wp2_with fail
        refine (make_any (hgx.out.lit #[.slice a2 l2.length c2] rfl 1 rfl (by omega)) (by simp) ⟨45, 0, ⟨#[]⟩, ⟨#[]⟩, []⟩ ⟨⟨by decide, by decide⟩, by simp, by simp⟩).mono ?_
        rintro e w10 ⟨v3, l3, rfl, k1, k2, k3, k4, k5⟩
        have hl3 : l3.length = l2.length + 1 := by rw [k5]; simp
        have hfin := hid (show WhereN w0 w p bv bs (.returned (.tuple #[v3, .int .i64 ((l2.length : Int) - 1)])) w10 from ⟨v3, l3, _, rfl, grown_trans hg5.out k1, k2.cur, (NodeSlcX.of_own k3).keep fun b hS _ => ⟨rfl, by have hS : w5.heap.size ≤ b := hS; have := hg5.out.size; omega⟩, k4.fineN (by omega), by omega, by omega⟩)
        clear k1 k2 k3 k4 k5 hgx
        go_wp2
        go_ret2
        exact hfin.out

    · have hF2 : ((F.length : Int) == 0) = false := by rw [beq_eq_false_iff_ne]; omega
      have hcall := hid (specl1Once_any w0 w5 p bv bs 8 (by unfold I64; omega) hc5.out)
      go_wp2_with fail
      refine hcall.out.mono ?_; rintro e w6 ⟨b1, rfl, hg6, hc6⟩
      have ho6 := hid (ho5.out.grown hg6 hpw)
      have hof6 := hid (hof5.out.kept hg6 (ownBlock_ne hof5.out hpw))
      have hg6 := hid (grown_trans hg5.out hg6)
      replace hc6 := hid hc6
      clear hcall ho5 hof5 hg5 hc5
      cases b1 with
      | true =>
        obtain ⟨s0, hx⟩ := hc6.out.x
        have g0 := hid (GX.start hx)
        have hpL := hx.lt
        have hx9 := hx
        clear hx
        obtain ⟨x2, s3, q2⟩ := ex_next bs s0
        have hbc := hid (fun o => specl1BelowX w0 (w6.alloc o) p bv bs s0 4 4 rfl (by omega) (by omega) (g0.out.alloc o).cur)
        rw [q2.out] at hbc
        have hy := Nat.mod_lt x2 (show 0 < 4 by omega)
        simp only at hbc
        generalize x2 % 4 = y at *
        go_wp2_with fail
        refine (hbc.out _).mono ?_
        rintro e w13 ⟨rfl, hga, hca⟩
        have hp0 := hid (PartsX.start g0.out hga hca)
        clear hga hca hbc g0
        go_wp2
        go_loopw [6, 7] (fun v i wr => ∃ (ps : List (List Node × Value)) (j : Nat) (sj : DS) (v' : Value), v = v' ∧ i = .int .i64 j ∧ ps.length + j ≤ 4 ∧ Hid (∀ q ∈ ps, q.1.length = 1) ∧ Hid (PartsX w0 w6 p bv bs sj v' ps wr)) (fun _ i _ => (intOf i).toNat)
        case atStart => exact ⟨[], y, s3, _, rfl, rfl, by simp; omega, hid (by simp), hp0⟩
        clear hp0
        obtain ⟨ps, j, sj, v0, rfl, rfl, hm0, hone, hpd⟩ := hrel
        rename World => wo
        by_cases hj : 0 < j
        · obtain ⟨j', rfl⟩ : ∃ j', j = j' + 1 := ⟨j - 1, by omega⟩
          obtain ⟨xj, sk, qj⟩ := ex_next bs sj
          have hpk := hid (fun o => specl1PickX w0 (wo.alloc (.cells (prm24.flatMap str1).toArray o)) p bv bs sj prm24 wo.heap.size 3 (by decide) (by decide) (by decide) (by have := hpd.out.cur.lt; omega) (rowAt_lit _ _ _) (hpd.out.alloc _).cur)
          go_wp2_with fail
          refine (hpk.out _).mono ?_
          rintro e w14 ⟨t, ht, rfl, hg4, hc4⟩
          rw [qj.out] at hc4
          have hts : t.size ≤ 16 := by
            have : ∀ y ∈ prm24, y.size ≤ 16 := by decide
            exact this t ht
          have px := hid ((hpd.out.alloc _).keep hg4 hc4)
          have hown := hid px.out.own
          have hsz := px.out.gr.size
          have hsz5 := hid (hid (GX.start px.out.cur))
          have hlf := hid (own_leafN w14 ⟨1, 0, t, ⟨#[]⟩, []⟩ rfl)
          have hsl := hid (leaf_small ⟨1, 0, t, ⟨#[]⟩, []⟩ rfl ⟨⟨hts, by show 0 ≤ 16; omega⟩, by simp, by simp⟩)
          have hone2 : Hid (∀ q ∈ ps ++ [([(⟨1, 0, t, ⟨#[]⟩, []⟩ : Node)], Value.slice (some ⟨w14.heap.size, 0, none⟩) 1 1)], q.1.length = 1) := hid fun q hq => by
            rcases List.mem_append.1 hq with hq | hq
            · exact hone.out q hq
            · rw [List.mem_singleton.1 hq]; rfl
          clear hpk hg4 hc4 ht
          go_wp2_with (at_builtin; refine Hid.out ?_)
          refine hid ?_
          refine wpList_append_lies _ (by rfl) _ _ _ (by rfl) w6.heap.size 24 i0 _ 1 24 Tryz.underlying140 hi hz0 hz1 hz2 rfl (by omega) _ ps.length (ps.flatMap part1) (by rfl) ((hown.out.alloc _).alloc _) ⟨w14.heap.size + 1, 0, none⟩ 1 1 [.slice (some ⟨w14.heap.size, 0, none⟩) 1 1] (by rfl) (by rfl) (new_cells_at _ _ _ _ _ (by rfl) (by simp)) (by simp [Value.oneCell']) (by omega) (by unfold maxLen; omega) (by omega) (by simp; omega) (w14.heap.size + 1 + 1) (by simp) ?_
          intro gg cap6 w16 hown6 hg6 hat hlt6
          have hpd2 := hid (px.out.step (World.grownBy_alloc _ _ _) (hsz5.out.out.alloc _).cur hlf.out hsl.out (by simp) hown6 hg6 (by simpa using hat))
          clear hpd px hown6 hg6 hat hown hlf hsl
          go_wp2
          all_goals go_roundw
          all_goals first
            | (simp only [intOf]; omega)
            | exact ⟨_, j', _, _, rfl, by first | rfl | (congr 1; omega), by simp; omega, hone2, hpd2⟩
        · obtain rfl : j = 0 := by omega
          obtain ⟨va, vc, rfl, _⟩ := own_slice hpd.out.own
          have hsum := hid (sum_ones hone.out)
          clear hone
          go_wp2_with fail
          refine (hb w0 wo p bv bs sj hpd.out.cur).mono ?_
          rintro e w15 ⟨v1, l1', rfl, hg5, hc5, ho5, hs5, hl5⟩
          have hlb : l1'.length ≤ 1200 := by have := (lb.run (dNext bs) sj).1; omega
          have hlb2 : l1'.length ≤ 1300 := by omega
          have hown := hpd.out.own.kept hg5 (ownBlock_ne hpd.out.own hpL)
          have hsz := hpd.out.gr.size
          have hsz5 := hg5.size
          obtain ⟨a1, n1, c1, rfl⟩ := own_vslice ho5
          replace hown := hid hown
          replace ho5 := hid ho5
          replace hg5 := hid hg5
          replace hc5 := hid hc5
          clear hl5
          go_wp2_with (at_builtin; refine Hid.out ?_)
          refine hid ?_
          refine wpList_append_lies _ (by rfl) _ _ _ (by rfl) w6.heap.size 24 i0 _ 1 24 Tryz.underlying140 hi hz0 hz1 hz2 rfl (by omega) _ ps.length (ps.flatMap part1) (by rfl) (hown.out.alloc _) ⟨w15.heap.size, 0, none⟩ 1 1 [.slice a1 n1 c1] (by rfl) (by rfl) (World.news_of_block (cs := #[.slice a1 n1 c1]) (t := 24) (fr := (0, 0)) (heap_alloc_new w15 _)) (by simp [Value.oneCell']) (by omega) (by unfold maxLen; omega) (by omega) (by simp; omega) (w15.heap.size + 1) (by simp) ?_
          intro gg cap6 w16 hown6 hg6 hat hlt6
          have hpd2 := hid (hpd.out.step hg5.out hc5.out ho5.out hs5 hlb2 hown6 hg6 hat)
          clear hpd hown6 hg6 hat hown hg5 hc5 ho5
          go_wp2_with fail
          refine (make_any hpd2.out (by simp; omega) ⟨44, 0, ⟨#[103]⟩, ⟨#[]⟩, []⟩ ⟨⟨by decide, by decide⟩, by simp, by simp⟩).mono ?_
          rintro e w9 ⟨v2, l2, rfl, h1, h2, h3, h4, h5⟩
          have hl2 : l2.length ≤ 1250 := by
            rw [h5]
            simp only [List.map_append, List.map_cons, List.map_nil, List.sum_append, List.sum_cons, List.sum_nil]
            rw [hsum.out]
            omega
          have hl2p := List.length_pos_iff.2 h4.1
          obtain ⟨a2, n2, c2, rfl⟩ := own_vslice h3
          obtain ⟨a2', c2', e2, _⟩ := h3.slc.shape
          simp only [Value.slice.injEq] at e2
          obtain ⟨rfl, rfl, rfl⟩ := e2
          have hgx := hid ((GX.start hx9).push h1 h2 h3 h4 (by omega))
          clear hpd2 h1 h3 h5 hsum
          have hwr := wrap_in ((l2.length : Int) - 1) (by unfold I64; omega)
          go_wp2_with fail
          refine (make_any (hgx.out.lit #[.slice a2 l2.length c2] rfl 1 rfl (by omega)) (by simp) ⟨45, 0, ⟨#[]⟩, ⟨#[]⟩, []⟩ ⟨⟨by decide, by decide⟩, by simp, by simp⟩).mono ?_
          rintro e w10 ⟨v3, l3, rfl, k1, k2, k3, k4, k5⟩
          have hl3 : l3.length = l2.length + 1 := by rw [k5]; simp
          have hfin := hid (show WhereN w0 w p bv bs (.returned (.tuple #[v3, .int .i64 ((l2.length : Int) - 1)])) w10 from ⟨v3, l3, _, rfl, grown_trans hg6.out k1, k2.cur, (NodeSlcX.of_own k3).keep fun b hS _ => ⟨rfl, by have hS : w6.heap.size ≤ b := hS; have := hg6.out.size; omega⟩, k4.fineN (by omega), by omega, by omega⟩)
          clear k1 k2 k3 k4 k5 hgx
          go_wp2
          go_ret2
          exact hfin.out

      | false =>
        have hcall := hid (specl1Once_any w0 w6 p bv bs 8 (by unfold I64; omega) hc6.out)
        go_wp2_with fail
        refine hcall.out.mono ?_; rintro e w7 ⟨b2, rfl, hg7, hc7⟩
        have ho7 := hid (ho6.out.grown hg7 hpw)
        have hof7 := hid (hof6.out.kept hg7 (ownBlock_ne hof6.out hpw))
        have hg7 := hid (grown_trans hg6.out hg7)
        clear hcall ho6 hof6 hg6 hc6
        cases b2 with
        | true =>
          have hcall := hid (specl1Below_any w0 w7 p bv bs ((l.length : Int) + 2) (by unfold I64; omega) hc7)
          have hwk := wrap_in ((l.length : Int) + 2) (by unfold I64; omega)
          clear hc7
          go_wp2_with fail
          refine hcall.out.mono ?_; rintro e w8 ⟨z, rfl, hz3, hz4, _, hg8, hc8⟩
          have hz5 := hz4 (by omega)
          have hwr := wrap_in (z - 1) (by unfold I64; omega)
          have ho8 := hid (ho7.out.grown hg8 hpw)
          have hg8 := hid (grown_trans hg7.out hg8)
          replace hc8 := hid hc8
          clear hcall hz4
          go_wp2
          go_ret2
          exact ⟨_, l, z - 1, rfl, hg8.out, hc8.out, ho8.out, hfl.out, by omega, by omega⟩
        | false =>
          have hcall := hid (specl1Below_any w0 w7.drew p bv bs (F.length : Int) (by unfold I64; omega) (hc7.below ((Below.refl _ _).drew)))
          clear hc7
          obtain ⟨gf, rfl⟩ := own_some hof7.out (by omega)
          go_wp2_with fail
          go_region_law (first
            | (go_simp; go_at_call 145; refine hcall.out.mono ?_; rintro e w8 ⟨z, rfl, hz3, hz4, hz5, hg8, hc8⟩
               have hz6 := hz4 (by omega)
               obtain ⟨zn, rfl⟩ : ∃ zn : Nat, z = (zn : Int) := ⟨z.toNat, by omega⟩
               have hzl : zn < F.length := by omega
               obtain ⟨u, hu⟩ := get_of_lt hzl
               have hof8 := (show w7.drew.ownsRow w.heap.size 3 1 (.slice (some ⟨gf, 0, none⟩) F.length fc) F.length (F.flatMap int1) from hof7.out).kept hg8 (ownBlock_ne hof7.out hpw)
               have q8 : w8.cell? ⟨gf, zn, none⟩ = some (.int .i64 u) := own_read hof8 (by simpa using flat_get int1 1 int1_len F zn 0 u (.int .i64 u) hu rfl)
               have hui := hid (hFin.out u (List.mem_of_getElem? hu))
               have ho8 := hid ((show NodeSlcX (fun b => w.heap.size ≤ b) w7.drew (.slice a' l.length cap') l from ho7.out).grown hg8 hpw)
               have hg8 := hid (grown_trans (grown_trans hg7.out (grown_drew1 _ _)) hg8)
               replace hc8 := hid hc8
               clear hz4 hz5 hu hof8))
          all_goals go_wp2
          all_goals go_ret2
          all_goals exact ⟨_, l, u, rfl, hg8.out, hc8.out, ho8.out, hfl.out, by have := hui.out; omega, by have := hui.out; omega⟩

  | false =>
    obtain ⟨w4, hw4⟩ : ∃ w4, w4 = w2 := ⟨_, rfl⟩
    obtain ⟨a', ha'⟩ : ∃ a', a' = a := ⟨_, rfl⟩
    obtain ⟨cap', hcap'⟩ : ∃ cap', cap' = cap := ⟨_, rfl⟩
    rw [← hw4]
    have hg4 := hid (show w.grownBy w4 (some p) by rw [hw4]; exact hg2.out)
    have hc4 := hid (show Cur w0 w4 p bv bs by rw [hw4]; exact hc2)
    have ho4 := hid (show NodeSlcX (fun b => w.heap.size ≤ b) w4 (.slice a' l.length cap') l by rw [hw4, ha', hcap']; exact hx2.out)
    have hfl := hf1
    rw [← ha', ← hcap']
    clear hw4 hc2 hx2 hg2 ha' hcap' hf1
    have hll := hfl.out.1
    have hfo := hid (specFuncsOf_any l _ w4 hfl.out.fine.1 (by have := hfl.out.fine.2; omega) ho4.out.slc)
    have hFin := hid (funcs_in l)
    have hFl := funcsOf_len l 0
    generalize funcsOf 0 l = F at *
    go_wp2_with fail
    refine hfo.out.mono ?_; rintro e w5 ⟨fv, rfl, hbx, hof⟩
    obtain ⟨fa, fc, rfl, _⟩ := own_slice hof
    have hg5 := hid (grown_blw hg4.out hbx)
    have hc5 := hid (hc4.out.below hbx)
    have ho5 := hid (ho4.out.keep fun b hS hl => ⟨hbx.block b hl, hS⟩)
    have hof5 := hid (own_base hof hg4.out.size)
    clear hfo hbx hof hg4 hc4 ho4
    by_cases hF : F.length = 0
    · have hF2 : ((F.length : Int) == 0) = true := by simp [hF]
      obtain ⟨s0, hx⟩ := hc5.out.x
      have g0 := hid (GX.start hx)
      have hpL := hx.lt
      have hx9 := hx
      clear hx
      obtain ⟨x2, s3, q2⟩ := ex_next bs s0
      have hbc := hid (fun o => specl1BelowX w0 (w5.alloc o) p bv bs s0 4 4 rfl (by omega) (by omega) (g0.out.alloc o).cur)
      rw [q2.out] at hbc
      have hy := Nat.mod_lt x2 (show 0 < 4 by omega)
      simp only at hbc
      generalize x2 % 4 = y at *
      go_wp2_with fail
      refine (hbc.out _).mono ?_
      rintro e w13 ⟨rfl, hga, hca⟩
      have hp0 := hid (PartsX.start g0.out hga hca)
      clear hga hca hbc g0
      go_wp2
      go_loopw [6, 7] (fun v i wr => ∃ (ps : List (List Node × Value)) (j : Nat) (sj : DS) (v' : Value), v = v' ∧ i = .int .i64 j ∧ ps.length + j ≤ 4 ∧ Hid (∀ q ∈ ps, q.1.length = 1) ∧ Hid (PartsX w0 w5 p bv bs sj v' ps wr)) (fun _ i _ => (intOf i).toNat)
      case atStart => exact ⟨[], y, s3, _, rfl, rfl, by simp; omega, hid (by simp), hp0⟩
      clear hp0
      obtain ⟨ps, j, sj, v0, rfl, rfl, hm0, hone, hpd⟩ := hrel
      rename World => wo
      by_cases hj : 0 < j
      · obtain ⟨j', rfl⟩ : ∃ j', j = j' + 1 := ⟨j - 1, by omega⟩
        obtain ⟨xj, sk, qj⟩ := ex_next bs sj
        have hpk := hid (fun o => specl1PickX w0 (wo.alloc (.cells (prm24.flatMap str1).toArray o)) p bv bs sj prm24 wo.heap.size 3 (by decide) (by decide) (by decide) (by have := hpd.out.cur.lt; omega) (rowAt_lit _ _ _) (hpd.out.alloc _).cur)
        go_wp2_with fail
        refine (hpk.out _).mono ?_
        rintro e w14 ⟨t, ht, rfl, hg4, hc4⟩
        rw [qj.out] at hc4
        have hts : t.size ≤ 16 := by
          have : ∀ y ∈ prm24, y.size ≤ 16 := by decide
          exact this t ht
        have px := hid ((hpd.out.alloc _).keep hg4 hc4)
        have hown := hid px.out.own
        have hsz := px.out.gr.size
        have hsz5 := hid (hid (GX.start px.out.cur))
        have hlf := hid (own_leafN w14 ⟨1, 0, t, ⟨#[]⟩, []⟩ rfl)
        have hsl := hid (leaf_small ⟨1, 0, t, ⟨#[]⟩, []⟩ rfl ⟨⟨hts, by show 0 ≤ 16; omega⟩, by simp, by simp⟩)
        have hone2 : Hid (∀ q ∈ ps ++ [([(⟨1, 0, t, ⟨#[]⟩, []⟩ : Node)], Value.slice (some ⟨w14.heap.size, 0, none⟩) 1 1)], q.1.length = 1) := hid fun q hq => by
          rcases List.mem_append.1 hq with hq | hq
          · exact hone.out q hq
          · rw [List.mem_singleton.1 hq]; rfl
        clear hpk hg4 hc4 ht
        go_wp2_with (at_builtin; refine Hid.out ?_)
        refine hid ?_
        refine wpList_append_lies _ (by rfl) _ _ _ (by rfl) w5.heap.size 24 i0 _ 1 24 Tryz.underlying140 hi hz0 hz1 hz2 rfl (by omega) _ ps.length (ps.flatMap part1) (by rfl) ((hown.out.alloc _).alloc _) ⟨w14.heap.size + 1, 0, none⟩ 1 1 [.slice (some ⟨w14.heap.size, 0, none⟩) 1 1] (by rfl) (by rfl) (new_cells_at _ _ _ _ _ (by rfl) (by simp)) (by simp [Value.oneCell']) (by omega) (by unfold maxLen; omega) (by omega) (by simp; omega) (w14.heap.size + 1 + 1) (by simp) ?_
        intro gg cap6 w16 hown6 hg6 hat hlt6
        have hpd2 := hid (px.out.step (World.grownBy_alloc _ _ _) (hsz5.out.out.alloc _).cur hlf.out hsl.out (by simp) hown6 hg6 (by simpa using hat))
        clear hpd px hown6 hg6 hat hown hlf hsl
        go_wp2
        all_goals go_roundw
        all_goals first
          | (simp only [intOf]; omega)
          | exact ⟨_, j', _, _, rfl, by first | rfl | (congr 1; omega), by simp; omega, hone2, hpd2⟩
      · obtain rfl : j = 0 := by omega
        obtain ⟨va, vc, rfl, _⟩ := own_slice hpd.out.own
        have hsum := hid (sum_ones hone.out)
        clear hone
        go_wp2_with fail
        refine (hb w0 wo p bv bs sj hpd.out.cur).mono ?_
        rintro e w15 ⟨v1, l1', rfl, hg5, hc5, ho5, hs5, hl5⟩
        have hlb : l1'.length ≤ 1200 := by have := (lb.run (dNext bs) sj).1; omega
        have hlb2 : l1'.length ≤ 1300 := by omega
        have hown := hpd.out.own.kept hg5 (ownBlock_ne hpd.out.own hpL)
        have hsz := hpd.out.gr.size
        have hsz5 := hg5.size
        obtain ⟨a1, n1, c1, rfl⟩ := own_vslice ho5
        replace hown := hid hown
        replace ho5 := hid ho5
        replace hg5 := hid hg5
        replace hc5 := hid hc5
        clear hl5
        go_wp2_with (at_builtin; refine Hid.out ?_)
        refine hid ?_
        refine wpList_append_lies _ (by rfl) _ _ _ (by rfl) w5.heap.size 24 i0 _ 1 24 Tryz.underlying140 hi hz0 hz1 hz2 rfl (by omega) _ ps.length (ps.flatMap part1) (by rfl) (hown.out.alloc _) ⟨w15.heap.size, 0, none⟩ 1 1 [.slice a1 n1 c1] (by rfl) (by rfl) (World.news_of_block (cs := #[.slice a1 n1 c1]) (t := 24) (fr := (0, 0)) (heap_alloc_new w15 _)) (by simp [Value.oneCell']) (by omega) (by unfold maxLen; omega) (by omega) (by simp; omega) (w15.heap.size + 1) (by simp) ?_
        intro gg cap6 w16 hown6 hg6 hat hlt6
        have hpd2 := hid (hpd.out.step hg5.out hc5.out ho5.out hs5 hlb2 hown6 hg6 hat)
        clear hpd hown6 hg6 hat hown hg5 hc5 ho5
        go_wp2_with fail
        refine (make_any hpd2.out (by simp; omega) ⟨44, 0, ⟨#[103]⟩, ⟨#[]⟩, []⟩ ⟨⟨by decide, by decide⟩, by simp, by simp⟩).mono ?_
        rintro e w9 ⟨v2, l2, rfl, h1, h2, h3, h4, h5⟩
        have hl2 : l2.length ≤ 1250 := by
          rw [h5]
          simp only [List.map_append, List.map_cons, List.map_nil, List.sum_append, List.sum_cons, List.sum_nil]
          rw [hsum.out]
          omega
        have hl2p := List.length_pos_iff.2 h4.1
        obtain ⟨a2, n2, c2, rfl⟩ := own_vslice h3
        obtain ⟨a2', c2', e2, _⟩ := h3.slc.shape
        simp only [Value.slice.injEq] at e2
        obtain ⟨rfl, rfl, rfl⟩ := e2
        have hgx := hid ((GX.start hx9).push h1 h2 h3 h4 (by omega))
        clear hpd2 h1 h3 h5 hsum
        have hwr := wrap_in ((l2.length : Int) - 1) (by unfold I64; omega)
        go_wp2_with fail
        refine (make_any (hgx.out.lit #[.slice a2 l2.length c2] rfl 1 rfl (by omega)) (by simp) ⟨45, 0, ⟨#[]⟩, ⟨#[]⟩, []⟩ ⟨⟨by decide, by decide⟩, by simp, by simp⟩).mono ?_
        rintro e w10 ⟨v3, l3, rfl, k1, k2, k3, k4, k5⟩
        have hl3 : l3.length = l2.length + 1 := by rw [k5]; simp
        have hfin := hid (show WhereN w0 w p bv bs (.returned (.tuple #[v3, .int .i64 ((l2.length : Int) - 1)])) w10 from ⟨v3, l3, _, rfl, grown_trans hg5.out k1, k2.cur, (NodeSlcX.of_own k3).keep fun b hS _ => ⟨rfl, by have hS : w5.heap.size ≤ b := hS; have := hg5.out.size; omega⟩, k4.fineN (by omega), by omega, by omega⟩)
        clear k1 k2 k3 k4 k5 hgx
        go_wp2
        go_ret2
        exact hfin.out

    · have hF2 : ((F.length : Int) == 0) = false := by rw [beq_eq_false_iff_ne]; omega
      have hcall := hid (specl1Once_any w0 w5 p bv bs 8 (by unfold I64; omega) hc5.out)
      go_wp2_with fail
      refine hcall.out.mono ?_; rintro e w6 ⟨b1, rfl, hg6, hc6⟩
      have ho6 := hid (ho5.out.grown hg6 hpw)
      have hof6 := hid (hof5.out.kept hg6 (ownBlock_ne hof5.out hpw))
      have hg6 := hid (grown_trans hg5.out hg6)
      replace hc6 := hid hc6
      clear hcall ho5 hof5 hg5 hc5
      cases b1 with
      | true =>
        obtain ⟨s0, hx⟩ := hc6.out.x
        have g0 := hid (GX.start hx)
        have hpL := hx.lt
        have hx9 := hx
        clear hx
        obtain ⟨x2, s3, q2⟩ := ex_next bs s0
        have hbc := hid (fun o => specl1BelowX w0 (w6.alloc o) p bv bs s0 4 4 rfl (by omega) (by omega) (g0.out.alloc o).cur)
        rw [q2.out] at hbc
        have hy := Nat.mod_lt x2 (show 0 < 4 by omega)
        simp only at hbc
        generalize x2 % 4 = y at *
        go_wp2_with fail
        refine (hbc.out _).mono ?_
        rintro e w13 ⟨rfl, hga, hca⟩
        have hp0 := hid (PartsX.start g0.out hga hca)
        clear hga hca hbc g0
        go_wp2
        go_loopw [6, 7] (fun v i wr => ∃ (ps : List (List Node × Value)) (j : Nat) (sj : DS) (v' : Value), v = v' ∧ i = .int .i64 j ∧ ps.length + j ≤ 4 ∧ Hid (∀ q ∈ ps, q.1.length = 1) ∧ Hid (PartsX w0 w6 p bv bs sj v' ps wr)) (fun _ i _ => (intOf i).toNat)
        case atStart => exact ⟨[], y, s3, _, rfl, rfl, by simp; omega, hid (by simp), hp0⟩
        clear hp0
        obtain ⟨ps, j, sj, v0, rfl, rfl, hm0, hone, hpd⟩ := hrel
        rename World => wo
        by_cases hj : 0 < j
        · obtain ⟨j', rfl⟩ : ∃ j', j = j' + 1 := ⟨j - 1, by omega⟩
          obtain ⟨xj, sk, qj⟩ := ex_next bs sj
          have hpk := hid (fun o => specl1PickX w0 (wo.alloc (.cells (prm24.flatMap str1).toArray o)) p bv bs sj prm24 wo.heap.size 3 (by decide) (by decide) (by decide) (by have := hpd.out.cur.lt; omega) (rowAt_lit _ _ _) (hpd.out.alloc _).cur)
          go_wp2_with fail
          refine (hpk.out _).mono ?_
          rintro e w14 ⟨t, ht, rfl, hg4, hc4⟩
          rw [qj.out] at hc4
          have hts : t.size ≤ 16 := by
            have : ∀ y ∈ prm24, y.size ≤ 16 := by decide
            exact this t ht
          have px := hid ((hpd.out.alloc _).keep hg4 hc4)
          have hown := hid px.out.own
          have hsz := px.out.gr.size
          have hsz5 := hid (hid (GX.start px.out.cur))
          have hlf := hid (own_leafN w14 ⟨1, 0, t, ⟨#[]⟩, []⟩ rfl)
          have hsl := hid (leaf_small ⟨1, 0, t, ⟨#[]⟩, []⟩ rfl ⟨⟨hts, by show 0 ≤ 16; omega⟩, by simp, by simp⟩)
          have hone2 : Hid (∀ q ∈ ps ++ [([(⟨1, 0, t, ⟨#[]⟩, []⟩ : Node)], Value.slice (some ⟨w14.heap.size, 0, none⟩) 1 1)], q.1.length = 1) := hid fun q hq => by
            rcases List.mem_append.1 hq with hq | hq
            · exact hone.out q hq
            · rw [List.mem_singleton.1 hq]; rfl
          clear hpk hg4 hc4 ht
          go_wp2_with (at_builtin; refine Hid.out ?_)
          refine hid ?_
          refine wpList_append_lies _ (by rfl) _ _ _ (by rfl) w6.heap.size 24 i0 _ 1 24 Tryz.underlying140 hi hz0 hz1 hz2 rfl (by omega) _ ps.length (ps.flatMap part1) (by rfl) ((hown.out.alloc _).alloc _) ⟨w14.heap.size + 1, 0, none⟩ 1 1 [.slice (some ⟨w14.heap.size, 0, none⟩) 1 1] (by rfl) (by rfl) (new_cells_at _ _ _ _ _ (by rfl) (by simp)) (by simp [Value.oneCell']) (by omega) (by unfold maxLen; omega) (by omega) (by simp; omega) (w14.heap.size + 1 + 1) (by simp) ?_
          intro gg cap6 w16 hown6 hg6 hat hlt6
          have hpd2 := hid (px.out.step (World.grownBy_alloc _ _ _) (hsz5.out.out.alloc _).cur hlf.out hsl.out (by simp) hown6 hg6 (by simpa using hat))
          clear hpd px hown6 hg6 hat hown hlf hsl
          go_wp2
          all_goals go_roundw
          all_goals first
            | (simp only [intOf]; omega)
            | exact ⟨_, j', _, _, rfl, by first | rfl | (congr 1; omega), by simp; omega, hone2, hpd2⟩
        · obtain rfl : j = 0 := by omega
          obtain ⟨va, vc, rfl, _⟩ := own_slice hpd.out.own
          have hsum := hid (sum_ones hone.out)
          clear hone
          go_wp2_with fail
          refine (hb w0 wo p bv bs sj hpd.out.cur).mono ?_
          rintro e w15 ⟨v1, l1', rfl, hg5, hc5, ho5, hs5, hl5⟩
          have hlb : l1'.length ≤ 1200 := by have := (lb.run (dNext bs) sj).1; omega
          have hlb2 : l1'.length ≤ 1300 := by omega
          have hown := hpd.out.own.kept hg5 (ownBlock_ne hpd.out.own hpL)
          have hsz := hpd.out.gr.size
          have hsz5 := hg5.size
          obtain ⟨a1, n1, c1, rfl⟩ := own_vslice ho5
          replace hown := hid hown
          replace ho5 := hid ho5
          replace hg5 := hid hg5
          replace hc5 := hid hc5
          clear hl5
          go_wp2_with (at_builtin; refine Hid.out ?_)
          refine hid ?_
          refine wpList_append_lies _ (by rfl) _ _ _ (by rfl) w6.heap.size 24 i0 _ 1 24 Tryz.underlying140 hi hz0 hz1 hz2 rfl (by omega) _ ps.length (ps.flatMap part1) (by rfl) (hown.out.alloc _) ⟨w15.heap.size, 0, none⟩ 1 1 [.slice a1 n1 c1] (by rfl) (by rfl) (World.news_of_block (cs := #[.slice a1 n1 c1]) (t := 24) (fr := (0, 0)) (heap_alloc_new w15 _)) (by simp [Value.oneCell']) (by omega) (by unfold maxLen; omega) (by omega) (by simp; omega) (w15.heap.size + 1) (by simp) ?_
          intro gg cap6 w16 hown6 hg6 hat hlt6
          have hpd2 := hid (hpd.out.step hg5.out hc5.out ho5.out hs5 hlb2 hown6 hg6 hat)
          clear hpd hown6 hg6 hat hown hg5 hc5 ho5
          go_wp2_with fail
          refine (make_any hpd2.out (by simp; omega) ⟨44, 0, ⟨#[103]⟩, ⟨#[]⟩, []⟩ ⟨⟨by decide, by decide⟩, by simp, by simp⟩).mono ?_
          rintro e w9 ⟨v2, l2, rfl, h1, h2, h3, h4, h5⟩
          have hl2 : l2.length ≤ 1250 := by
            rw [h5]
            simp only [List.map_append, List.map_cons, List.map_nil, List.sum_append, List.sum_cons, List.sum_nil]
            rw [hsum.out]
            omega
          have hl2p := List.length_pos_iff.2 h4.1
          obtain ⟨a2, n2, c2, rfl⟩ := own_vslice h3
          obtain ⟨a2', c2', e2, _⟩ := h3.slc.shape
          simp only [Value.slice.injEq] at e2
          obtain ⟨rfl, rfl, rfl⟩ := e2
          have hgx := hid ((GX.start hx9).push h1 h2 h3 h4 (by omega))
          clear hpd2 h1 h3 h5 hsum
          have hwr := wrap_in ((l2.length : Int) - 1) (by unfold I64; omega)
          go_wp2_with fail
          refine (make_any (hgx.out.lit #[.slice a2 l2.length c2] rfl 1 rfl (by omega)) (by simp) ⟨45, 0, ⟨#[]⟩, ⟨#[]⟩, []⟩ ⟨⟨by decide, by decide⟩, by simp, by simp⟩).mono ?_
          rintro e w10 ⟨v3, l3, rfl, k1, k2, k3, k4, k5⟩
          have hl3 : l3.length = l2.length + 1 := by rw [k5]; simp
          have hfin := hid (show WhereN w0 w p bv bs (.returned (.tuple #[v3, .int .i64 ((l2.length : Int) - 1)])) w10 from ⟨v3, l3, _, rfl, grown_trans hg6.out k1, k2.cur, (NodeSlcX.of_own k3).keep fun b hS _ => ⟨rfl, by have hS : w6.heap.size ≤ b := hS; have := hg6.out.size; omega⟩, k4.fineN (by omega), by omega, by omega⟩)
          clear k1 k2 k3 k4 k5 hgx
          go_wp2
          go_ret2
          exact hfin.out

      | false =>
        have hcall := hid (specl1Once_any w0 w6 p bv bs 8 (by unfold I64; omega) hc6.out)
        go_wp2_with fail
        refine hcall.out.mono ?_; rintro e w7 ⟨b2, rfl, hg7, hc7⟩
        have ho7 := hid (ho6.out.grown hg7 hpw)
        have hof7 := hid (hof6.out.kept hg7 (ownBlock_ne hof6.out hpw))
        have hg7 := hid (grown_trans hg6.out hg7)
        clear hcall ho6 hof6 hg6 hc6
        cases b2 with
        | true =>
          have hcall := hid (specl1Below_any w0 w7 p bv bs ((l.length : Int) + 2) (by unfold I64; omega) hc7)
          have hwk := wrap_in ((l.length : Int) + 2) (by unfold I64; omega)
          clear hc7
          go_wp2_with fail
          refine hcall.out.mono ?_; rintro e w8 ⟨z, rfl, hz3, hz4, _, hg8, hc8⟩
          have hz5 := hz4 (by omega)
          have hwr := wrap_in (z - 1) (by unfold I64; omega)
          have ho8 := hid (ho7.out.grown hg8 hpw)
          have hg8 := hid (grown_trans hg7.out hg8)
          replace hc8 := hid hc8
          clear hcall hz4
          go_wp2
          go_ret2
          exact ⟨_, l, z - 1, rfl, hg8.out, hc8.out, ho8.out, hfl.out, by omega, by omega⟩
        | false =>
          have hcall := hid (specl1Below_any w0 w7.drew p bv bs (F.length : Int) (by unfold I64; omega) (hc7.below ((Below.refl _ _).drew)))
          clear hc7
          obtain ⟨gf, rfl⟩ := own_some hof7.out (by omega)
          go_wp2_with fail
          go_region_law (first
            | (go_simp; go_at_call 145; refine hcall.out.mono ?_; rintro e w8 ⟨z, rfl, hz3, hz4, hz5, hg8, hc8⟩
               have hz6 := hz4 (by omega)
               obtain ⟨zn, rfl⟩ : ∃ zn : Nat, z = (zn : Int) := ⟨z.toNat, by omega⟩
               have hzl : zn < F.length := by omega
               obtain ⟨u, hu⟩ := get_of_lt hzl
               have hof8 := (show w7.drew.ownsRow w.heap.size 3 1 (.slice (some ⟨gf, 0, none⟩) F.length fc) F.length (F.flatMap int1) from hof7.out).kept hg8 (ownBlock_ne hof7.out hpw)
               have q8 : w8.cell? ⟨gf, zn, none⟩ = some (.int .i64 u) := own_read hof8 (by simpa using flat_get int1 1 int1_len F zn 0 u (.int .i64 u) hu rfl)
               have hui := hid (hFin.out u (List.mem_of_getElem? hu))
               have ho8 := hid ((show NodeSlcX (fun b => w.heap.size ≤ b) w7.drew (.slice a' l.length cap') l from ho7.out).grown hg8 hpw)
               have hg8 := hid (grown_trans (grown_trans hg7.out (grown_drew1 _ _)) hg8)
               replace hc8 := hid hc8
               clear hz4 hz5 hu hof8))
          all_goals go_wp2
          all_goals go_ret2
          all_goals exact ⟨_, l, u, rfl, hg8.out, hc8.out, ho8.out, hfl.out, by have := hui.out; omega, by have := hui.out; omega⟩

end Go.Proofs.YtgmciglaapnahaaGreatDoor
