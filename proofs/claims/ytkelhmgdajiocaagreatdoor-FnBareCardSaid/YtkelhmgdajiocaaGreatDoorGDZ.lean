/- Walks and lemmas of this seat (FDrawNG): what each theorem says of the functions that it names. Conditions: those that each theorem states. -/
import Derived.Test.YtkelhmgdajiocaaGreatDoorFDrawNF
namespace Go.Proofs.YtkelhmgdajiocaaGreatDoor
set_option linter.unusedVariables false
set_option linter.unusedSimpArgs false
open Go.RowKit
theorem rn_prog {nx : DS → Nat × DS} {s0 s1 s2 : DS} {x0 n : Nat} (a0 : nx s0 = (x0, s1)) (a1 : Draw.run nx (dTimes dItem (x0 % 4) 0) s1 = (n, s2)) : Draw.run nx dProg s0 = (n + 1, s2) := by
  simp [dProg, Draw.run, Draw.run_bind, a0, a1]
theorem rn_some {nx : DS → Nat × DS} {s0 s1 : DS} {x0 d : Nat} (a0 : nx s0 = (x0, s1)) (h : 1 + x0 % 4 = d) : Draw.run nx dSome s0 = Draw.run nx (dExpr d) s1 := by
  subst h
  simp [dSome, Draw.run, a0]
/-- What the drawer hands back: nodes of the call's own, few. -/
def DrawnN (w0 w : World) (p : Nat) (bv : Value) (bs : List UInt8) (e : Ending) (w' : World) : Prop :=
  ∃ (v : Value) (l : List Node), e = .returned v ∧ w.grownBy w' (some p) ∧ Cur w0 w' p bv bs ∧ OwnNode w' w.heap.size w'.heap.size v l ∧ SmallN l ∧ l.length ≤ 1300
/-- Where the cursor of a world stands. -/
def dsAt (w : World) (p : Nat) : DS := ⟨match w.cell? ⟨p, 2, none⟩ with | some (.int _ h) => hOf h | _ => 0, match w.cell? ⟨p, 1, none⟩ with | some (.int _ i) => i.toNat | _ => 0⟩
theorem dsAt_eq {w0 w : World} {p : Nat} {bv : Value} {bs : List UInt8} {s : DS} (h : CurX w0 w p bv bs s) : dsAt w p = s := by
  obtain ⟨k, hk, hb⟩ := h.box
  have c1 : w.cell? ⟨p, 1, none⟩ = some (.int .i64 s.i) := box_cell hb rfl
  have c2 : w.cell? ⟨p, 2, none⟩ = some (.int .i64 k) := box_cell hb rfl
  unfold dsAt
  rw [c1, c2]
  show (⟨hOf k, (s.i : Int).toNat⟩ : DS) = s
  rw [hk]
  cases s
  simp
set_option maxRecDepth 100000 in
set_option maxHeartbeats 6400000 in
theorem some_drawn (w0 w : World) (p : Nat) (bv : Value) (bs : List UInt8) (hc : Cur w0 w p bv bs) : Calls Tryz.prog 65 #[.pointer (some ⟨p, 0, none⟩)] w fun e w' => DrawnN w0 w p bv bs e w' := by
  obtain ⟨s, hx⟩ := hc.x
  have hpw := hx.lt
  have hends := some_ends bs s hx.le hx.hlt
  replace hx := hid hx
  clear hc
  go_enter Tryz.func65, Tryz.ntmps65
  go_wp2
  go_loopw [] (fun wr => ∃ sj : DS, Hid (CurX w0 wr p bv bs sj) ∧ Hid (w.grownBy wr (some p)) ∧ Hid (∃ n, Done bs dSome 60 (iter (att bs dSome) n sj))) (fun wr => tries bs dSome 60 (dsAt wr p))
  case atStart => exact ⟨s, hx, hid (grown_below (Below.refl _ _)), hid hends⟩
  clear hx hends
  obtain ⟨sj, hx, hg, hends⟩ := hrel
  rename World => wo
  obtain ⟨x0, s1, q0⟩ := ex_next bs sj
  have hrn := hid (rn_some q0.out rfl)
  have hy := Nat.mod_lt x0 (show 0 < 4 by omega)
  go_wp2_with fail
  refine (belowY (GX.start hx.out) q0 _ 4 rfl (by omega) (by omega)).mono ?_
  rintro e w1 ⟨rfl, gx⟩
  replace gx := hid gx
  generalize x0 % 4 = y at *
  go_wp2_with fail
  refine ((expr_at (1 + y) (1 + (y : Int)) (by omega) (by omega)) w0 w1 p bv bs s1 gx.out.cur).mono ?_
  rintro e w2 ⟨v, l, rfl, h1, h2, h3, h4, h5⟩
  obtain ⟨va, vc, rfl, _, _, _⟩ := h3.slc.shape
  have hg2 := hid (grown_trans hg.out (grown_trans gx.out.gr h1))
  have hlow : w.heap.size ≤ w1.heap.size := (grown_trans hg.out gx.out.gr).size
  have hatt : Hid (att bs dSome sj = (Draw.run (dNext bs) (dExpr (1 + y)) s1).2) := hid (by unfold att; rw [hrn.out])
  rw [← hatt.out] at h2
  by_cases hl : l.length ≤ 60
  · replace h2 := hid h2
    replace h3 := hid h3
    replace h4 := hid h4
    clear h5 h1
    go_wp2
    go_ret
    exact ⟨_, l, rfl, hg2.out, h2.out.cur, h3.out.lowX hlow, h4.out, by omega⟩
  · have hnd : ¬ Done bs dSome 60 sj := by
      unfold Done
      rw [hrn.out, ← h5]
      exact hl
    have hnx := tries_next hends.out hnd
    have hmeas : tries bs dSome 60 (dsAt w2 p) < tries bs dSome 60 (dsAt wo p) := by
      rw [dsAt_eq h2, dsAt_eq hx.out]
      exact hnx.2
    replace hmeas := hid hmeas
    replace hnx := hid hnx
    replace h2 := hid h2
    clear h1 h3 h4 h5 hnd gx hx hends hrn hatt
    go_wp2
    all_goals go_roundw
    all_goals first
      | exact hmeas.out
      | exact ⟨_, h2, hg2, hid hnx.out.1⟩
set_option maxRecDepth 100000 in
set_option maxHeartbeats 6400000 in
theorem prog_drawn (w0 w : World) (p : Nat) (bv : Value) (bs : List UInt8) (hc : Cur w0 w p bv bs) : Calls Tryz.prog 110 #[.pointer (some ⟨p, 0, none⟩)] w fun e w' => DrawnN w0 w p bv bs e w' := by
  obtain ⟨s, hx⟩ := hc.x
  have hpw := hx.lt
  have hends := prog_ends bs s hx.le hx.hlt
  obtain ⟨i0, hi, hz0, hz1, hz2⟩ := info_parts infoNSlice
  replace hx := hid hx
  clear hc
  go_enter Tryz.func110, Tryz.ntmps110
  go_wp2
  go_loopw [] (fun wr => ∃ sj : DS, Hid (CurX w0 wr p bv bs sj) ∧ Hid (w.grownBy wr (some p)) ∧ Hid (∃ n, Done bs dProg 220 (iter (att bs dProg) n sj))) (fun wr => tries bs dProg 220 (dsAt wr p))
  case atStart => exact ⟨s, hx, hid (grown_below (Below.refl _ _)), hid hends⟩
  clear hx hends
  obtain ⟨sj, hx, hg, hends⟩ := hrel
  rename World => wo
  obtain ⟨x0, s1, q0⟩ := ex_next bs sj
  obtain ⟨n9, s9, q9⟩ : ∃ n s', Hid (Draw.run (dNext bs) (dTimes dItem (x0 % 4) 0) s1 = (n, s')) := ⟨_, _, hid rfl⟩
  have hrn := hid (rn_prog q0.out q9.out)
  have hpo := hx.out.lt
  have hbc := specl1BelowX w0 (wo.alloc (.cells #[] 26)) p bv bs sj 4 4 rfl (by omega) (by omega) ((GX.start hx.out).alloc _).cur
  rw [q0.out] at hbc
  have hy := Nat.mod_lt x0 (show 0 < 4 by omega)
  simp only at hbc
  generalize x0 % 4 = y at *
  replace hbc := hid hbc
  go_wp2_with fail
  refine hbc.out.mono ?_
  rintro e w1 ⟨rfl, hg1, hc1⟩
  have hp0 := hid (PartsX.start (GX.start hx.out) hg1 hc1)
  clear hg1 hc1 hbc
  go_wp2
  go_loopw [3, 4] (fun v i wr => ∃ (ps : List (List Node × Value)) (j : Nat) (sk : DS) (v' : Value), v = v' ∧ i = .int .i64 j ∧ ps.length + j ≤ 4 ∧ Hid ((dTimes dItem j ((ps.map Prod.fst).map List.length).sum).run (dNext bs) sk = (n9, s9)) ∧ Hid (PartsX w0 wo p bv bs sk v' ps wr)) (fun _ i _ => (intOf i).toNat)
  case atStart => exact ⟨[], y, s1, _, rfl, rfl, by simp; omega, q9, hp0⟩
  clear hp0 q9
  obtain ⟨ps, j, sk, v0, rfl, rfl, hm0, hrun, hpd⟩ := hrel
  rename World => wp
  by_cases hj : 0 < j
  · obtain ⟨j', rfl⟩ : ∃ j', j = j' + 1 := ⟨j - 1, by omega⟩
    go_wp2_with fail
    refine (item_draws w0 wp p bv bs sk hpd.out.cur).mono ?_
    rintro e w5 ⟨v1, l1, rfl, hg5, hc5, ho5, hs5, hl5⟩
    have hlb : l1.length ≤ 1300 := by have := (lt_item.run (dNext bs) sk).1; omega
    have hrun2 : Hid ((dTimes dItem j' (((ps ++ [(l1, v1)]).map Prod.fst).map List.length).sum).run (dNext bs) (Draw.run (dNext bs) dItem sk).2 = (n9, s9)) := hid (by
      have := rn_times dItem hrun.out
      simp only [List.map_append, List.map_cons, List.map_nil, List.sum_append, List.sum_cons, List.sum_nil, Nat.add_zero, hl5]
      exact this)
    have hown := hpd.out.own.kept hg5 (ownBlock_ne hpd.out.own hpo)
    have hsz := hpd.out.gr.size
    have hsz5 := hg5.size
    obtain ⟨a1, n1, c1, rfl⟩ := own_vslice ho5
    replace hown := hid hown
    replace ho5 := hid ho5
    replace hg5 := hid hg5
    replace hc5 := hid hc5
    clear hrun hl5
    go_wp2_with (at_builtin; refine Hid.out ?_)
    refine hid ?_
    refine wpList_append_lies _ (by rfl) _ _ _ (by rfl) wo.heap.size 26 i0 _ 1 24 Tryz.underlying127 hi hz0 hz1 hz2 rfl (by omega) _ ps.length (ps.flatMap part1) (by rfl) (hown.out.alloc _) ⟨w5.heap.size, 0, none⟩ 1 1 [.slice a1 n1 c1] (by rfl) (by rfl) (World.news_of_block (cs := #[.slice a1 n1 c1]) (t := 26) (fr := (0, 0)) (heap_alloc_new w5 _)) (by simp [Value.oneCell']) (by omega) (by unfold maxLen; omega) (by omega) (by simp; omega) (w5.heap.size + 1) (by simp) ?_
    intro gg cap w6 hown6 hg6 hat hlt6
    have hpd2 := hid (hpd.out.step hg5.out hc5.out ho5.out hs5 hlb hown6 hg6 hat)
    clear hpd hown6 hg6 hat hown hg5 hc5 ho5
    go_wp2
    all_goals go_roundw
    all_goals first
      | (simp only [intOf]; omega)
      | exact ⟨_, j', _, _, rfl, by first | rfl | (congr 1; omega), by simp; omega, hrun2, hpd2⟩
  · obtain rfl : j = 0 := by omega
    obtain ⟨va, vc, rfl, _⟩ := own_slice hpd.out.own
    have hfin := rn_times0 dItem hrun.out
    obtain ⟨hf1, rfl⟩ := hfin
    replace hf1 := hid hf1
    clear hrun
    go_wp2_with fail
    refine (make_any hpd.out (by omega) ⟨45, 0, ⟨#[]⟩, ⟨#[]⟩, []⟩ ⟨⟨by show 0 ≤ 16; omega, by show 0 ≤ 16; omega⟩, by simp, by simp⟩).mono ?_
    rintro e w9 ⟨v, l, rfl, h1, h2, h3, h4, h5⟩
    obtain ⟨va2, vc2, rfl, _, _, _⟩ := h3.slc.shape
    rw [hf1.out] at h5
    have hg2 := hid (grown_trans hg.out h1)
    have hlow := hg.out.size
    have hatt : Hid (att bs dProg sj = sk) := hid (by unfold att; rw [hrn.out])
    rw [← hatt.out] at h2
    by_cases hl : l.length ≤ 220
    · replace h2 := hid h2
      replace h3 := hid h3
      replace h4 := hid h4
      clear h5 h1
      go_wp2
      go_ret
      exact ⟨_, l, rfl, hg2.out, h2.out.cur, h3.out.lowX hlow, h4.out, by omega⟩
    · have hnd : ¬ Done bs dProg 220 sj := by
        unfold Done
        rw [hrn.out]
        show ¬ n9 + 1 ≤ 220
        omega
      have hnx := tries_next hends.out hnd
      have hmeas : tries bs dProg 220 (dsAt w9 p) < tries bs dProg 220 (dsAt wo p) := by
        rw [dsAt_eq h2, dsAt_eq hx.out]
        exact hnx.2
      replace hmeas := hid hmeas
      replace hnx := hid hnx
      replace h2 := hid h2
      clear h1 h3 h4 h5 hnd hx hends hrn hatt hpd hf1
      go_wp2
      all_goals go_roundw
      all_goals first
        | exact hmeas.out
        | exact ⟨_, h2, hg2, hid hnx.out.1⟩
end Go.Proofs.YtkelhmgdajiocaaGreatDoor
/- Walks and lemmas of this seat (FDrawNH): what each theorem says of the functions that it names. Conditions: those that each theorem states. -/
namespace Go.Proofs.YtkelhmgdajiocaaGreatDoor
set_option linter.unusedVariables false
set_option linter.unusedSimpArgs false
open Go.RowKit

theorem drawn_of {w0 w w1 : World} {p : Nat} {bv : Value} {bs : List UInt8} {f : FuncId} {args : List Value} {t : Draw Nat} {m b : Nat} (hd : Draws f args t) (ht : t.Lt m b) (hm : m ≤ 1300) (hg : w.grownBy w1 (some p)) (hc : Cur w0 w1 p bv bs) :
    Calls Tryz.prog f (.pointer (some ⟨p, 0, none⟩) :: args).toArray w1 fun e w' => DrawnN w0 w p bv bs e w' := by
  obtain ⟨s, hx⟩ := hc.x
  refine (hd w0 w1 p bv bs s hx).mono ?_
  rintro e w' ⟨v, l, rfl, h1, h2, h3, h4, h5⟩
  have hb := (ht.run (dNext bs) s).1
  exact ⟨v, l, rfl, grown_trans hg h1, h2.cur, h3.lowX hg.size, h4, by omega⟩
theorem DrawnN.up {w0 w w1 w2 : World} {p : Nat} {bv : Value} {bs : List UInt8} {e : Ending} (hg : w.grownBy w1 (some p)) (h : DrawnN w0 w1 p bv bs e w2) : DrawnN w0 w p bv bs e w2 := by
  obtain ⟨v, l, rfl, h1, h2, h3, h4, h5⟩ := h
  exact ⟨v, l, rfl, grown_trans hg h1, h2, h3.lowX hg.size, h4, h5⟩

set_option maxRecDepth 100000 in
set_option maxHeartbeats 3200000 in
theorem any_drawn (w0 w : World) (p : Nat) (bv : Value) (bs : List UInt8) (hc : Cur w0 w p bv bs) : Calls Tryz.prog 81 #[.pointer (some ⟨p, 0, none⟩)] w fun e w' => DrawnN w0 w p bv bs e w' := by
  have hcall := hid (specl1Below_any w0 w p bv bs 5 (by unfold I64; omega) hc)
  clear hc
  go_enter Tryz.func81, Tryz.ntmps81
  go_wp2_with fail
  refine hcall.out.mono ?_; rintro e w1 ⟨x, rfl, hx0, hx1, _, hg1, hc1⟩
  replace hx1 := hx1 (by omega)
  clear hcall
  have hsome := hid (some_drawn w0 w1 p bv bs hc1)
  have hprog := hid (prog_drawn w0 w1 p bv bs hc1)
  have hstmt := hid (drawn_of stmt_two lt_stmt.2.2 (by omega) hg1 hc1)
  replace hg1 := hid hg1
  clear hc1
  obtain rfl | rfl | rfl | rfl | rfl : x = 0 ∨ x = 1 ∨ x = 2 ∨ x = 3 ∨ x = 4 := by omega
  · go_wp2_with fail
    refine hsome.out.mono ?_; rintro e w2 h
    have h := h.up hg1.out
    obtain ⟨v, l, rfl, h2⟩ := h
    go_wp2
    go_ret
    exact ⟨v, l, rfl, h2⟩
  · go_wp2_with fail
    refine hsome.out.mono ?_; rintro e w2 h
    have h := h.up hg1.out
    obtain ⟨v, l, rfl, h2⟩ := h
    go_wp2
    go_ret
    exact ⟨v, l, rfl, h2⟩
  · go_wp2_with fail
    refine hstmt.out.mono ?_; rintro e w2 ⟨v, l, rfl, h2⟩
    go_wp2
    go_ret
    exact ⟨v, l, rfl, h2⟩
  · go_wp2_with fail
    refine hprog.out.mono ?_; rintro e w2 h
    have h := h.up hg1.out
    obtain ⟨v, l, rfl, h2⟩ := h
    go_wp2
    go_ret
    exact ⟨v, l, rfl, h2⟩
  · go_wp2_with fail
    refine hprog.out.mono ?_; rintro e w2 h
    have h := h.up hg1.out
    obtain ⟨v, l, rfl, h2⟩ := h
    go_wp2
    go_ret
    exact ⟨v, l, rfl, h2⟩

end Go.Proofs.YtkelhmgdajiocaaGreatDoor
