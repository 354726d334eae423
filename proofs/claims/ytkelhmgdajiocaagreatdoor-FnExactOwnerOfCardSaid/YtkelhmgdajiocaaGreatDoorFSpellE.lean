/- Walks and lemmas of this seat (FSpellE): what each theorem says of the functions that it names. Conditions: those that each theorem states. -/
import Derived.Test.YtkelhmgdajiocaaGreatDoorFSpellB
import Derived.Test.YtkelhmgdajiocaaGreatDoorGSF
import Derived.Test.YtkelhmgdajiocaaGreatDoorGB
import Derived.Deep.RegionLaw
namespace Go.Proofs.YtkelhmgdajiocaaGreatDoor
set_option linter.unusedVariables false
set_option linter.unusedSimpArgs false
open Go.RowKit

/-! expr: an expression, in parentheses if it needs them. -/
set_option maxRecDepth 100000 in
set_option maxHeartbeats 3200000 in
theorem implexpr_false (t : Tree) (hb : BareC false t) (hlv : levelB t.kind t.op ≠ 0) : ExprC false t := by
  intro p ka kn kc w g B S L M tv sv hp hpre hl hm
  obtain rfl := hpre.kn
  have hLen : Hid (L.length + 8 * t.post.length ≤ 1000000 ∧ M.length + t.post.length ≤ 1000000 ∧ (Tree.tkb false t posTop).length + 4 ≤ 8 * t.post.length) := hid ⟨hl, hm, t.tkb_len _ _⟩
  have hn : t.kids.length ≤ 1000000 := by have := t.all_len false p; omega
  clear hl hm
  have hgB := hpre.hgB
  have hBw := hpre.hB
  have hP := hid (hpre.below (((Below.refl w.heap.size w).alloc (Nat.le_refl _) (.cells #[.int .i64 t.kind, .int .i64 t.op, .string t.text, .string t.other, .slice ka t.kids.length kc] 99)).alloc (by simp) (.cells #[.int .i64 p.level, .bool p.dollar, .bool p.noIn, .bool p.noGt, .bool p.noSign] 36)))
  have hbt := hid (alloc2_at0 w (.cells #[.int .i64 t.kind, .int .i64 t.op, .string t.text, .string t.other, .slice ka t.kids.length kc] 99) (.cells #[.int .i64 p.level, .bool p.dollar, .bool p.noIn, .bool p.noGt, .bool p.noSign] 36))
  have hbp := hid (alloc2_at1 w (.cells #[.int .i64 t.kind, .int .i64 t.op, .string t.text, .string t.other, .slice ka t.kids.length kc] 99) (.cells #[.int .i64 p.level, .bool p.dollar, .bool p.noIn, .bool p.noGt, .bool p.noSign] 36))
  have hK : Hid (Sk g B w ((w.alloc (.cells #[.int .i64 t.kind, .int .i64 t.op, .string t.text, .string t.other, .slice ka t.kids.length kc] 99)).alloc (.cells #[.int .i64 p.level, .bool p.dollar, .bool p.noIn, .bool p.noGt, .bool p.noSign] 36))) := hid (Sk.of_below (((Below.refl w.heap.size w).alloc (Nat.le_refl _) (.cells #[.int .i64 t.kind, .int .i64 t.op, .string t.text, .string t.other, .slice ka t.kids.length kc] 99)).alloc (by simp) (.cells #[.int .i64 p.level, .bool p.dollar, .bool p.noIn, .bool p.noGt, .bool p.noSign] 36)))
  have hws : Hid (((w.alloc (.cells #[.int .i64 t.kind, .int .i64 t.op, .string t.text, .string t.other, .slice ka t.kids.length kc] 99)).alloc (.cells #[.int .i64 p.level, .bool p.dollar, .bool p.noIn, .bool p.noGt, .bool p.noSign] 36)).heap.size = w.heap.size + 1 + 1) := hid (by simp)
  clear hpre
  go_enter Tryz.func70, Tryz.ntmps70
  go_wp2_with fail
  generalize (w.alloc (.cells #[.int .i64 t.kind, .int .i64 t.op, .string t.text, .string t.other, .slice ka t.kids.length kc] 99)).alloc (.cells #[.int .i64 p.level, .bool p.dollar, .bool p.noIn, .bool p.noGt, .bool p.noSign] 36) = w1 at hP hbt hbp hK hws ⊢
  obtain ⟨c0, c1, c2, c3, c4⟩ := box_cells hbt.out
  obtain ⟨d0, d1, d2, d3, d4⟩ := box_cells hbp.out
  refine (implnode_any t.kind t.op t.text t.other ka t.kids.length kc w1 hn).mono ?_; rintro e w2 ⟨na, nc, rfl, hb2⟩
  clear c0 c1 c2 c3 c4 d0 d1 d2 d3 d4
  have hP := hid (hP.out.below hb2)
  have hbt := hid (box_below hbt.out hb2)
  have hbp := hid (box_below hbp.out hb2)
  have hK := hid (hK.out.below hb2)
  clear hb2
  obtain ⟨c0, c1, c2, c3, c4⟩ := box_cells hbt.out
  obtain ⟨d0, d1, d2, d3, d4⟩ := box_cells hbp.out
  have ya := fun o => box_below hbp.out ((Below.refl w2.heap.size w2).alloc (Nat.le_refl _) o)
  have y0 := fun o => (box_cells (ya o)).1
  have y1 := fun o => (box_cells (ya o)).2.1
  have y2 := fun o => (box_cells (ya o)).2.2.1
  have y3 := fun o => (box_cells (ya o)).2.2.2.1
  have y4 := fun o => (box_cells (ya o)).2.2.2.2
  clear ya
  go_wp2_with fail
  clear y0 y1 y2 y3 y4
  have hb3 : Below w2.heap.size w2 (w2.alloc (.cells #[.int .i64 t.kind, .int .i64 t.op, .string t.text, .string t.other, .slice na t.kids.length nc] 58)) := (Below.refl _ _).alloc (Nat.le_refl _) _
  have hbn := hid (heap_alloc_new w2 (.cells #[.int .i64 t.kind, .int .i64 t.op, .string t.text, .string t.other, .slice na t.kids.length nc] 58))
  obtain ⟨nb, hnb⟩ : ∃ nb, nb = w2.heap.size := ⟨_, rfl⟩
  have hng : nb ≠ g := by have := hP.out.st.box.lt; omega
  have hB3 := hid hb3
  rw [← hnb] at hbn hb3 ⊢
  generalize w2.alloc (.cells #[.int .i64 t.kind, .int .i64 t.op, .string t.text, .string t.other, .slice na t.kids.length nc] 58) = w3 at hbn hb3 hB3 ⊢
  clear c0 c1 c2 c3 c4 d0 d1 d2 d3 d4
  have hP := hid (hP.out.below hB3.out)
  have hbt := hid (box_below hbt.out hB3.out)
  have hbp := hid (box_below hbp.out hB3.out)
  have hK := hid (hK.out.below hB3.out)
  clear hb3 hB3 hnb
  obtain ⟨c0, c1, c2, c3, c4⟩ := box_cells hbt.out
  obtain ⟨d0, d1, d2, d3, d4⟩ := box_cells hbp.out
  obtain ⟨e0, e1, e2, e3, e4⟩ := box_cells hbn.out
  refine (implFits_any t.kind t.op t.text t.other na t.kids.length nc p w3 hp hlv).mono ?_; rintro e w4 ⟨rfl, hb4⟩
  clear c0 c1 c2 c3 c4 d0 d1 d2 d3 d4 e0 e1 e2 e3 e4
  have hP := hid (hP.out.below hb4)
  have hbt := hid (box_below hbt.out hb4)
  have hbp := hid (box_below hbp.out hb4)
  have hbn := hid (box_below hbn.out hb4)
  have hK := hid (hK.out.below hb4)
  clear hb4
  obtain ⟨c0, c1, c2, c3, c4⟩ := box_cells hbt.out
  obtain ⟨d0, d1, d2, d3, d4⟩ := box_cells hbp.out
  obtain ⟨e0, e1, e2, e3, e4⟩ := box_cells hbn.out
  have t2 := hP.out.st.box.c2
  have hpar : parB false t.kind t.op p = !fitsB t.kind t.op p := rfl
  generalize fitsB t.kind t.op p = fb at *
  cases fb with
  | true =>
    rw [show (!true) = false from rfl] at hpar
    replace hpar := hid hpar
    go_wp2_with fail
    refine (hb p ka _ kc w4 g B S L M _ _ hp hP.out (by have h1 := hLen.out; omega) (by have h1 := hLen.out; omega)).mono ?_; rintro e wz ⟨rfl, tvz, svz, hst, hsk⟩
    have hfin : SpSt wz g B false (L ++ Tree.tks false t p) (M ++ Tree.spS false t p L.length) tvz svz := by unfold Tree.tks Tree.spS; rw [hpar.out]; exact hst
    have hK := hid (hK.out.trans hsk)
    replace hfin := hid hfin
    clear hst hsk
    go_wp2
    go_end0
    exact ⟨rfl, _, _, hfin.out, hK.out⟩
  | false =>
    rw [show (!false) = true from rfl] at hpar
    replace hpar := hid hpar
    go_wp2_with fail
    refine (implsign_any 32 w4 hP.out.low.env).mono ?_; rintro e w5 ⟨rfl, hbs⟩
    clear c0 c1 c2 c3 c4 d0 d1 d2 d3 d4 e0 e1 e2 e3 e4
    have hP := hid (hP.out.below hbs)
    have hbt := hid (box_below hbt.out hbs)
    have hbp := hid (box_below hbp.out hbs)
    have hbn := hid (box_below hbn.out hbs)
    have hK := hid (hK.out.below hbs)
    clear hbs
    obtain ⟨c0, c1, c2, c3, c4⟩ := box_cells hbt.out
    obtain ⟨d0, d1, d2, d3, d4⟩ := box_cells hbp.out
    obtain ⟨e0, e1, e2, e3, e4⟩ := box_cells hbn.out
    go_wp2_with fail
    refine (implput1 g B false L M _ _ w5 32 (spellB 32) hP.out.st hgB hP.out.hB (by have h1 := hLen.out; (try simp only [List.length_append, List.length_cons, List.length_nil]); omega)).mono ?_; rintro e w6 ⟨rfl, tv6, hst, hsk⟩
    clear c0 c1 c2 c3 c4 d0 d1 d2 d3 d4 e0 e1 e2 e3 e4
    have hP := hid (hP.out.next hsk hst)
    have hbt := hid (hsk.box hbt.out (by decide) (by decide) (by omega))
    have hbp := hid (hsk.box hbp.out (by decide) (by decide) (by omega))
    have hbn := hid (hsk.box hbn.out (by decide) (by decide) (by omega))
    have hK := hid (hK.out.trans hsk)
    clear hst hsk
    obtain ⟨c0, c1, c2, c3, c4⟩ := box_cells hbt.out
    obtain ⟨d0, d1, d2, d3, d4⟩ := box_cells hbp.out
    obtain ⟨e0, e1, e2, e3, e4⟩ := box_cells hbn.out
    go_wp2_with fail
    have htop := hid (show ∀ W, Below w6.heap.size w6 W → Calls Tryz.prog 91 #[.pointer (some ⟨g, 0, none⟩), .agg #[.int .i64 t.kind, .int .i64 t.op, .string t.text, .string t.other, .slice ka t.kids.length kc], posTop.val] W fun e w' => SpPost W g B false ((L ++ [(⟨32, (spellB 32), 0⟩ : Token)]) ++ Tree.tkb false t posTop) (M ++ Tree.spB false t posTop (L.length + 1)) e w' from fun W hW => by
      have h2 := hb posTop ka _ kc W g B S (L ++ [(⟨32, (spellB 32), 0⟩ : Token)]) M _ _ posOk_top (hP.out.below hW) (by have h1 := hLen.out; simp only [List.length_append, List.length_cons, List.length_nil]; omega) (by have h1 := hLen.out; omega)
      rw [show (L ++ [(⟨32, (spellB 32), 0⟩ : Token)]).length = L.length + 1 by simp] at h2
      exact h2)
    go_region_law (first
      | (go_simp; go_at_call 36; refine (implTop_any _).mono ?_; rintro e wt ⟨rfl, hbt0⟩; have hbW : Below w6.heap.size w6 wt := ((Below.refl w6.heap.size w6).drew).trans (hbt0.mono (Nat.le_refl _)); have zb := box_below hbt.out hbW; obtain ⟨x0, x1, x2, x3, x4⟩ := box_cells zb; clear zb hbt0)
      | (go_simp; go_at_call 91; refine (htop.out _ hbW).mono ?_; rintro e wb ⟨rfl, tvb, svb, hst, hsk0⟩; have hsk : Sk g B w6 wb := (Sk.of_below hbW).trans hsk0; clear hsk0))
    all_goals
      clear htop hbW x0 x1 x2 x3 x4
      clear c0 c1 c2 c3 c4 d0 d1 d2 d3 d4 e0 e1 e2 e3 e4
      have hP := hid (hP.out.next hsk hst)
      have hbt := hid (hsk.box hbt.out (by decide) (by decide) (by omega))
      have hbp := hid (hsk.box hbp.out (by decide) (by decide) (by omega))
      have hbn := hid (hsk.box hbn.out (by decide) (by decide) (by omega))
      have hK := hid (hK.out.trans hsk)
      clear hst hsk
      obtain ⟨c0, c1, c2, c3, c4⟩ := box_cells hbt.out
      obtain ⟨d0, d1, d2, d3, d4⟩ := box_cells hbp.out
      obtain ⟨e0, e1, e2, e3, e4⟩ := box_cells hbn.out
      skip
      go_wp2_with fail
      refine (implsign_any 33 wb hP.out.low.env).mono ?_; rintro e ws ⟨rfl, hbs⟩
      clear c0 c1 c2 c3 c4 d0 d1 d2 d3 d4 e0 e1 e2 e3 e4
      have hP := hid (hP.out.below hbs)
      have hbt := hid (box_below hbt.out hbs)
      have hbp := hid (box_below hbp.out hbs)
      have hbn := hid (box_below hbn.out hbs)
      have hK := hid (hK.out.below hbs)
      clear hbs
      obtain ⟨c0, c1, c2, c3, c4⟩ := box_cells hbt.out
      obtain ⟨d0, d1, d2, d3, d4⟩ := box_cells hbp.out
      obtain ⟨e0, e1, e2, e3, e4⟩ := box_cells hbn.out
      go_wp2_with fail
      refine (implput1 g B false ((L ++ [(⟨32, (spellB 32), 0⟩ : Token)]) ++ Tree.tkb false t posTop) (M ++ Tree.spB false t posTop (L.length + 1)) _ _ ws 33 (spellB 33) hP.out.st hgB hP.out.hB (by have h1 := hLen.out; (try simp only [List.length_append, List.length_cons, List.length_nil]); omega)).mono ?_; rintro e wz ⟨rfl, tvz, hst, hsk⟩
      have hfin : SpSt wz g B false (L ++ Tree.tks false t p) (M ++ Tree.spS false t p L.length) tvz svb := by
        have q1 : (((L ++ [(⟨32, (spellB 32), 0⟩ : Token)]) ++ Tree.tkb false t posTop) ++ [(⟨33, (spellB 33), 0⟩ : Token)]) = L ++ Tree.tks false t p := by unfold Tree.tks inPar; rw [hpar.out]; simp [sgn]
        have q2 : (M ++ Tree.spB false t posTop (L.length + 1)) = M ++ Tree.spS false t p L.length := by unfold Tree.spS; rw [hpar.out]; simp
        rw [← q1, ← q2]
        exact hst
      have hK := hid (hK.out.trans hsk)
      replace hfin := hid hfin
      clear hst hsk
      go_wp2
      go_end0
      exact ⟨rfl, _, _, hfin.out, hK.out⟩
set_option maxRecDepth 100000 in
set_option maxHeartbeats 3200000 in
theorem implexpr_true (t : Tree) (hb : BareC true t) (hlv : levelB t.kind t.op ≠ 0) : ExprC true t := by
  intro p ka kn kc w g B S L M tv sv hp hpre hl hm
  obtain rfl := hpre.kn
  have hLen : Hid (L.length + 8 * t.post.length ≤ 1000000 ∧ M.length + t.post.length ≤ 1000000 ∧ (Tree.tkb true t posTop).length + 4 ≤ 8 * t.post.length) := hid ⟨hl, hm, t.tkb_len _ _⟩
  have hn : t.kids.length ≤ 1000000 := by have := t.all_len true p; omega
  clear hl hm
  have hgB := hpre.hgB
  have hBw := hpre.hB
  have hP := hid (hpre.below (((Below.refl w.heap.size w).alloc (Nat.le_refl _) (.cells #[.int .i64 t.kind, .int .i64 t.op, .string t.text, .string t.other, .slice ka t.kids.length kc] 99)).alloc (by simp) (.cells #[.int .i64 p.level, .bool p.dollar, .bool p.noIn, .bool p.noGt, .bool p.noSign] 36)))
  have hbt := hid (alloc2_at0 w (.cells #[.int .i64 t.kind, .int .i64 t.op, .string t.text, .string t.other, .slice ka t.kids.length kc] 99) (.cells #[.int .i64 p.level, .bool p.dollar, .bool p.noIn, .bool p.noGt, .bool p.noSign] 36))
  have hbp := hid (alloc2_at1 w (.cells #[.int .i64 t.kind, .int .i64 t.op, .string t.text, .string t.other, .slice ka t.kids.length kc] 99) (.cells #[.int .i64 p.level, .bool p.dollar, .bool p.noIn, .bool p.noGt, .bool p.noSign] 36))
  have hK : Hid (Sk g B w ((w.alloc (.cells #[.int .i64 t.kind, .int .i64 t.op, .string t.text, .string t.other, .slice ka t.kids.length kc] 99)).alloc (.cells #[.int .i64 p.level, .bool p.dollar, .bool p.noIn, .bool p.noGt, .bool p.noSign] 36))) := hid (Sk.of_below (((Below.refl w.heap.size w).alloc (Nat.le_refl _) (.cells #[.int .i64 t.kind, .int .i64 t.op, .string t.text, .string t.other, .slice ka t.kids.length kc] 99)).alloc (by simp) (.cells #[.int .i64 p.level, .bool p.dollar, .bool p.noIn, .bool p.noGt, .bool p.noSign] 36)))
  have hws : Hid (((w.alloc (.cells #[.int .i64 t.kind, .int .i64 t.op, .string t.text, .string t.other, .slice ka t.kids.length kc] 99)).alloc (.cells #[.int .i64 p.level, .bool p.dollar, .bool p.noIn, .bool p.noGt, .bool p.noSign] 36)).heap.size = w.heap.size + 1 + 1) := hid (by simp)
  clear hpre
  go_enter Tryz.func70, Tryz.ntmps70
  go_wp2_with fail
  generalize (w.alloc (.cells #[.int .i64 t.kind, .int .i64 t.op, .string t.text, .string t.other, .slice ka t.kids.length kc] 99)).alloc (.cells #[.int .i64 p.level, .bool p.dollar, .bool p.noIn, .bool p.noGt, .bool p.noSign] 36) = w1 at hP hbt hbp hK hws ⊢
  obtain ⟨c0, c1, c2, c3, c4⟩ := box_cells hbt.out
  obtain ⟨d0, d1, d2, d3, d4⟩ := box_cells hbp.out
  refine (implnode_any t.kind t.op t.text t.other ka t.kids.length kc w1 hn).mono ?_; rintro e w2 ⟨na, nc, rfl, hb2⟩
  clear c0 c1 c2 c3 c4 d0 d1 d2 d3 d4
  have hP := hid (hP.out.below hb2)
  have hbt := hid (box_below hbt.out hb2)
  have hbp := hid (box_below hbp.out hb2)
  have hK := hid (hK.out.below hb2)
  clear hb2
  obtain ⟨c0, c1, c2, c3, c4⟩ := box_cells hbt.out
  obtain ⟨d0, d1, d2, d3, d4⟩ := box_cells hbp.out
  have ya := fun o => box_below hbp.out ((Below.refl w2.heap.size w2).alloc (Nat.le_refl _) o)
  have y0 := fun o => (box_cells (ya o)).1
  have y1 := fun o => (box_cells (ya o)).2.1
  have y2 := fun o => (box_cells (ya o)).2.2.1
  have y3 := fun o => (box_cells (ya o)).2.2.2.1
  have y4 := fun o => (box_cells (ya o)).2.2.2.2
  clear ya
  go_wp2_with fail
  clear y0 y1 y2 y3 y4
  have hb3 : Below w2.heap.size w2 (w2.alloc (.cells #[.int .i64 t.kind, .int .i64 t.op, .string t.text, .string t.other, .slice na t.kids.length nc] 58)) := (Below.refl _ _).alloc (Nat.le_refl _) _
  have hbn := hid (heap_alloc_new w2 (.cells #[.int .i64 t.kind, .int .i64 t.op, .string t.text, .string t.other, .slice na t.kids.length nc] 58))
  obtain ⟨nb, hnb⟩ : ∃ nb, nb = w2.heap.size := ⟨_, rfl⟩
  have hng : nb ≠ g := by have := hP.out.st.box.lt; omega
  have hB3 := hid hb3
  rw [← hnb] at hbn hb3 ⊢
  generalize w2.alloc (.cells #[.int .i64 t.kind, .int .i64 t.op, .string t.text, .string t.other, .slice na t.kids.length nc] 58) = w3 at hbn hb3 hB3 ⊢
  clear c0 c1 c2 c3 c4 d0 d1 d2 d3 d4
  have hP := hid (hP.out.below hB3.out)
  have hbt := hid (box_below hbt.out hB3.out)
  have hbp := hid (box_below hbp.out hB3.out)
  have hK := hid (hK.out.below hB3.out)
  clear hb3 hB3 hnb
  obtain ⟨c0, c1, c2, c3, c4⟩ := box_cells hbt.out
  obtain ⟨d0, d1, d2, d3, d4⟩ := box_cells hbp.out
  obtain ⟨e0, e1, e2, e3, e4⟩ := box_cells hbn.out
  refine (implFits_any t.kind t.op t.text t.other na t.kids.length nc p w3 hp hlv).mono ?_; rintro e w4 ⟨rfl, hb4⟩
  clear c0 c1 c2 c3 c4 d0 d1 d2 d3 d4 e0 e1 e2 e3 e4
  have hP := hid (hP.out.below hb4)
  have hbt := hid (box_below hbt.out hb4)
  have hbp := hid (box_below hbp.out hb4)
  have hbn := hid (box_below hbn.out hb4)
  have hK := hid (hK.out.below hb4)
  clear hb4
  obtain ⟨c0, c1, c2, c3, c4⟩ := box_cells hbt.out
  obtain ⟨d0, d1, d2, d3, d4⟩ := box_cells hbp.out
  obtain ⟨e0, e1, e2, e3, e4⟩ := box_cells hbn.out
  have t2 := hP.out.st.box.c2
  have hpar : parB true t.kind t.op p = (levelB t.kind t.op != 15 || t.kind == 4) := rfl
  go_wp2_with fail
  refine (implLevelOf_any t.kind t.op t.text t.other na t.kids.length nc w4).mono ?_; rintro e w5 ⟨rfl, hw5⟩; have hb5 : Below w4.heap.size w4 w5 := by rw [hw5]; exact (Below.refl _ _).alloc (Nat.le_refl _) _
  clear hw5
  clear c0 c1 c2 c3 c4 d0 d1 d2 d3 d4 e0 e1 e2 e3 e4
  have hP := hid (hP.out.below hb5)
  have hbt := hid (box_below hbt.out hb5)
  have hbp := hid (box_below hbp.out hb5)
  have hbn := hid (box_below hbn.out hb5)
  have hK := hid (hK.out.below hb5)
  clear hb5
  obtain ⟨c0, c1, c2, c3, c4⟩ := box_cells hbt.out
  obtain ⟨d0, d1, d2, d3, d4⟩ := box_cells hbp.out
  obtain ⟨e0, e1, e2, e3, e4⟩ := box_cells hbn.out
  generalize levelB t.kind t.op = lv at *
  generalize fitsB t.kind t.op p = fb at *
  obtain ⟨pb, hpb⟩ : ∃ pb, pb = (lv != 15 || t.kind == 4) := ⟨_, rfl⟩
  rw [← hpb] at hpar
  replace hpb := hid hpb.symm
  clear t2
  cases pb with
  | false =>
    have h15 : (lv != 15) = false ∧ (t.kind == 4) = false := by have := hpb.out; rw [Bool.or_eq_false_iff] at this; exact this
    obtain ⟨h15a, h15b⟩ := h15
    replace hpar := hid hpar
    go_wp2_with fail
    refine (hb p ka _ kc w5 g B S L M _ _ hp hP.out (by have h1 := hLen.out; omega) (by have h1 := hLen.out; omega)).mono ?_; rintro e wz ⟨rfl, tvz, svz, hst, hsk⟩
    have hfin : SpSt wz g B true (L ++ Tree.tks true t p) (M ++ Tree.spS true t p L.length) tvz svz := by unfold Tree.tks Tree.spS; rw [hpar.out]; exact hst
    have hK := hid (hK.out.trans hsk)
    replace hfin := hid hfin
    clear hst hsk
    go_wp2
    go_end0
    exact ⟨rfl, _, _, hfin.out, hK.out⟩
  | true =>
    replace hpar := hid hpar
    rcases (show (lv != 15) = true ∨ ((lv != 15) = false ∧ (t.kind == 4) = true) from by
      have h9 := hpb.out
      cases h8 : (lv != 15) with
      | true => exact .inl rfl
      | false => rw [h8] at h9; exact .inr ⟨rfl, by simpa using h9⟩) with h15 | ⟨h15, h4⟩
    · go_wp2_with fail
      refine (implsign_any 32 w5 hP.out.low.env).mono ?_; rintro e w6 ⟨rfl, hbs⟩
      clear c0 c1 c2 c3 c4 d0 d1 d2 d3 d4 e0 e1 e2 e3 e4
      have hP := hid (hP.out.below hbs)
      have hbt := hid (box_below hbt.out hbs)
      have hbp := hid (box_below hbp.out hbs)
      have hbn := hid (box_below hbn.out hbs)
      have hK := hid (hK.out.below hbs)
      clear hbs
      obtain ⟨c0, c1, c2, c3, c4⟩ := box_cells hbt.out
      obtain ⟨d0, d1, d2, d3, d4⟩ := box_cells hbp.out
      obtain ⟨e0, e1, e2, e3, e4⟩ := box_cells hbn.out
      go_wp2_with fail
      refine (implput1 g B true L M _ _ w6 32 (spellB 32) hP.out.st hgB hP.out.hB (by have h1 := hLen.out; (try simp only [List.length_append, List.length_cons, List.length_nil]); omega)).mono ?_; rintro e w7 ⟨rfl, tv7, hst, hsk⟩
      clear c0 c1 c2 c3 c4 d0 d1 d2 d3 d4 e0 e1 e2 e3 e4
      have hP := hid (hP.out.next hsk hst)
      have hbt := hid (hsk.box hbt.out (by decide) (by decide) (by omega))
      have hbp := hid (hsk.box hbp.out (by decide) (by decide) (by omega))
      have hbn := hid (hsk.box hbn.out (by decide) (by decide) (by omega))
      have hK := hid (hK.out.trans hsk)
      clear hst hsk
      obtain ⟨c0, c1, c2, c3, c4⟩ := box_cells hbt.out
      obtain ⟨d0, d1, d2, d3, d4⟩ := box_cells hbp.out
      obtain ⟨e0, e1, e2, e3, e4⟩ := box_cells hbn.out
      go_wp2_with fail
      have htop := hid (show ∀ W, Below w7.heap.size w7 W → Calls Tryz.prog 91 #[.pointer (some ⟨g, 0, none⟩), .agg #[.int .i64 t.kind, .int .i64 t.op, .string t.text, .string t.other, .slice ka t.kids.length kc], posTop.val] W fun e w' => SpPost W g B true ((L ++ [(⟨32, (spellB 32), 0⟩ : Token)]) ++ Tree.tkb true t posTop) (M ++ Tree.spB true t posTop (L.length + 1)) e w' from fun W hW => by
        have h2 := hb posTop ka _ kc W g B S (L ++ [(⟨32, (spellB 32), 0⟩ : Token)]) M _ _ posOk_top (hP.out.below hW) (by have h1 := hLen.out; simp only [List.length_append, List.length_cons, List.length_nil]; omega) (by have h1 := hLen.out; omega)
        rw [show (L ++ [(⟨32, (spellB 32), 0⟩ : Token)]).length = L.length + 1 by simp] at h2
        exact h2)
      go_region_law (first
        | (go_simp; go_at_call 36; refine (implTop_any _).mono ?_; rintro e wt ⟨rfl, hbt0⟩; have hbW : Below w7.heap.size w7 wt := ((Below.refl w7.heap.size w7).drew).trans (hbt0.mono (Nat.le_refl _)); have zb := box_below hbt.out hbW; obtain ⟨x0, x1, x2, x3, x4⟩ := box_cells zb; clear zb hbt0)
        | (go_simp; go_at_call 91; refine (htop.out _ hbW).mono ?_; rintro e wb ⟨rfl, tvb, svb, hst, hsk0⟩; have hsk : Sk g B w7 wb := (Sk.of_below hbW).trans hsk0; clear hsk0))
      all_goals
        clear htop hbW x0 x1 x2 x3 x4
        clear c0 c1 c2 c3 c4 d0 d1 d2 d3 d4 e0 e1 e2 e3 e4
        have hP := hid (hP.out.next hsk hst)
        have hbt := hid (hsk.box hbt.out (by decide) (by decide) (by omega))
        have hbp := hid (hsk.box hbp.out (by decide) (by decide) (by omega))
        have hbn := hid (hsk.box hbn.out (by decide) (by decide) (by omega))
        have hK := hid (hK.out.trans hsk)
        clear hst hsk
        obtain ⟨c0, c1, c2, c3, c4⟩ := box_cells hbt.out
        obtain ⟨d0, d1, d2, d3, d4⟩ := box_cells hbp.out
        obtain ⟨e0, e1, e2, e3, e4⟩ := box_cells hbn.out
        skip
        go_wp2_with fail
        refine (implsign_any 33 wb hP.out.low.env).mono ?_; rintro e ws ⟨rfl, hbs⟩
        clear c0 c1 c2 c3 c4 d0 d1 d2 d3 d4 e0 e1 e2 e3 e4
        have hP := hid (hP.out.below hbs)
        have hbt := hid (box_below hbt.out hbs)
        have hbp := hid (box_below hbp.out hbs)
        have hbn := hid (box_below hbn.out hbs)
        have hK := hid (hK.out.below hbs)
        clear hbs
        obtain ⟨c0, c1, c2, c3, c4⟩ := box_cells hbt.out
        obtain ⟨d0, d1, d2, d3, d4⟩ := box_cells hbp.out
        obtain ⟨e0, e1, e2, e3, e4⟩ := box_cells hbn.out
        go_wp2_with fail
        refine (implput1 g B true ((L ++ [(⟨32, (spellB 32), 0⟩ : Token)]) ++ Tree.tkb true t posTop) (M ++ Tree.spB true t posTop (L.length + 1)) _ _ ws 33 (spellB 33) hP.out.st hgB hP.out.hB (by have h1 := hLen.out; (try simp only [List.length_append, List.length_cons, List.length_nil]); omega)).mono ?_; rintro e wz ⟨rfl, tvz, hst, hsk⟩
        have hfin : SpSt wz g B true (L ++ Tree.tks true t p) (M ++ Tree.spS true t p L.length) tvz svb := by
          have q1 : (((L ++ [(⟨32, (spellB 32), 0⟩ : Token)]) ++ Tree.tkb true t posTop) ++ [(⟨33, (spellB 33), 0⟩ : Token)]) = L ++ Tree.tks true t p := by unfold Tree.tks inPar; rw [hpar.out]; simp [sgn]
          have q2 : (M ++ Tree.spB true t posTop (L.length + 1)) = M ++ Tree.spS true t p L.length := by unfold Tree.spS; rw [hpar.out]; simp
          rw [← q1, ← q2]
          exact hst
        have hK := hid (hK.out.trans hsk)
        replace hfin := hid hfin
        clear hst hsk
        go_wp2
        go_end0
        exact ⟨rfl, _, _, hfin.out, hK.out⟩
    · go_wp2_with fail
      refine (implsign_any 32 w5 hP.out.low.env).mono ?_; rintro e w6 ⟨rfl, hbs⟩
      clear c0 c1 c2 c3 c4 d0 d1 d2 d3 d4 e0 e1 e2 e3 e4
      have hP := hid (hP.out.below hbs)
      have hbt := hid (box_below hbt.out hbs)
      have hbp := hid (box_below hbp.out hbs)
      have hbn := hid (box_below hbn.out hbs)
      have hK := hid (hK.out.below hbs)
      clear hbs
      obtain ⟨c0, c1, c2, c3, c4⟩ := box_cells hbt.out
      obtain ⟨d0, d1, d2, d3, d4⟩ := box_cells hbp.out
      obtain ⟨e0, e1, e2, e3, e4⟩ := box_cells hbn.out
      go_wp2_with fail
      refine (implput1 g B true L M _ _ w6 32 (spellB 32) hP.out.st hgB hP.out.hB (by have h1 := hLen.out; (try simp only [List.length_append, List.length_cons, List.length_nil]); omega)).mono ?_; rintro e w7 ⟨rfl, tv7, hst, hsk⟩
      clear c0 c1 c2 c3 c4 d0 d1 d2 d3 d4 e0 e1 e2 e3 e4
      have hP := hid (hP.out.next hsk hst)
      have hbt := hid (hsk.box hbt.out (by decide) (by decide) (by omega))
      have hbp := hid (hsk.box hbp.out (by decide) (by decide) (by omega))
      have hbn := hid (hsk.box hbn.out (by decide) (by decide) (by omega))
      have hK := hid (hK.out.trans hsk)
      clear hst hsk
      obtain ⟨c0, c1, c2, c3, c4⟩ := box_cells hbt.out
      obtain ⟨d0, d1, d2, d3, d4⟩ := box_cells hbp.out
      obtain ⟨e0, e1, e2, e3, e4⟩ := box_cells hbn.out
      go_wp2_with fail
      have htop := hid (show ∀ W, Below w7.heap.size w7 W → Calls Tryz.prog 91 #[.pointer (some ⟨g, 0, none⟩), .agg #[.int .i64 t.kind, .int .i64 t.op, .string t.text, .string t.other, .slice ka t.kids.length kc], posTop.val] W fun e w' => SpPost W g B true ((L ++ [(⟨32, (spellB 32), 0⟩ : Token)]) ++ Tree.tkb true t posTop) (M ++ Tree.spB true t posTop (L.length + 1)) e w' from fun W hW => by
        have h2 := hb posTop ka _ kc W g B S (L ++ [(⟨32, (spellB 32), 0⟩ : Token)]) M _ _ posOk_top (hP.out.below hW) (by have h1 := hLen.out; simp only [List.length_append, List.length_cons, List.length_nil]; omega) (by have h1 := hLen.out; omega)
        rw [show (L ++ [(⟨32, (spellB 32), 0⟩ : Token)]).length = L.length + 1 by simp] at h2
        exact h2)
      go_region_law (first
        | (go_simp; go_at_call 36; refine (implTop_any _).mono ?_; rintro e wt ⟨rfl, hbt0⟩; have hbW : Below w7.heap.size w7 wt := ((Below.refl w7.heap.size w7).drew).trans (hbt0.mono (Nat.le_refl _)); have zb := box_below hbt.out hbW; obtain ⟨x0, x1, x2, x3, x4⟩ := box_cells zb; clear zb hbt0)
        | (go_simp; go_at_call 91; refine (htop.out _ hbW).mono ?_; rintro e wb ⟨rfl, tvb, svb, hst, hsk0⟩; have hsk : Sk g B w7 wb := (Sk.of_below hbW).trans hsk0; clear hsk0))
      all_goals
        clear htop hbW x0 x1 x2 x3 x4
        clear c0 c1 c2 c3 c4 d0 d1 d2 d3 d4 e0 e1 e2 e3 e4
        have hP := hid (hP.out.next hsk hst)
        have hbt := hid (hsk.box hbt.out (by decide) (by decide) (by omega))
        have hbp := hid (hsk.box hbp.out (by decide) (by decide) (by omega))
        have hbn := hid (hsk.box hbn.out (by decide) (by decide) (by omega))
        have hK := hid (hK.out.trans hsk)
        clear hst hsk
        obtain ⟨c0, c1, c2, c3, c4⟩ := box_cells hbt.out
        obtain ⟨d0, d1, d2, d3, d4⟩ := box_cells hbp.out
        obtain ⟨e0, e1, e2, e3, e4⟩ := box_cells hbn.out
        skip
        go_wp2_with fail
        refine (implsign_any 33 wb hP.out.low.env).mono ?_; rintro e ws ⟨rfl, hbs⟩
        clear c0 c1 c2 c3 c4 d0 d1 d2 d3 d4 e0 e1 e2 e3 e4
        have hP := hid (hP.out.below hbs)
        have hbt := hid (box_below hbt.out hbs)
        have hbp := hid (box_below hbp.out hbs)
        have hbn := hid (box_below hbn.out hbs)
        have hK := hid (hK.out.below hbs)
        clear hbs
        obtain ⟨c0, c1, c2, c3, c4⟩ := box_cells hbt.out
        obtain ⟨d0, d1, d2, d3, d4⟩ := box_cells hbp.out
        obtain ⟨e0, e1, e2, e3, e4⟩ := box_cells hbn.out
        go_wp2_with fail
        refine (implput1 g B true ((L ++ [(⟨32, (spellB 32), 0⟩ : Token)]) ++ Tree.tkb true t posTop) (M ++ Tree.spB true t posTop (L.length + 1)) _ _ ws 33 (spellB 33) hP.out.st hgB hP.out.hB (by have h1 := hLen.out; (try simp only [List.length_append, List.length_cons, List.length_nil]); omega)).mono ?_; rintro e wz ⟨rfl, tvz, hst, hsk⟩
        have hfin : SpSt wz g B true (L ++ Tree.tks true t p) (M ++ Tree.spS true t p L.length) tvz svb := by
          have q1 : (((L ++ [(⟨32, (spellB 32), 0⟩ : Token)]) ++ Tree.tkb true t posTop) ++ [(⟨33, (spellB 33), 0⟩ : Token)]) = L ++ Tree.tks true t p := by unfold Tree.tks inPar; rw [hpar.out]; simp [sgn]
          have q2 : (M ++ Tree.spB true t posTop (L.length + 1)) = M ++ Tree.spS true t p L.length := by unfold Tree.spS; rw [hpar.out]; simp
          rw [← q1, ← q2]
          exact hst
        have hK := hid (hK.out.trans hsk)
        replace hfin := hid hfin
        clear hst hsk
        go_wp2
        go_end0
        exact ⟨rfl, _, _, hfin.out, hK.out⟩
theorem implexpr_of (full : Bool) (t : Tree) (hb : BareC full t) (hlv : levelB t.kind t.op ≠ 0) : ExprC full t := by
  cases full
  · exact implexpr_false t hb hlv
  · exact implexpr_true t hb hlv
end Go.Proofs.YtkelhmgdajiocaaGreatDoor
