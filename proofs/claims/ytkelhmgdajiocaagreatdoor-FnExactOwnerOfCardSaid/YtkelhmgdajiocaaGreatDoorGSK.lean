/- Walks and lemmas of this seat (FSpellK): what each theorem says of the functions that it names. Conditions: those that each theorem states. -/
import Derived.Test.YtkelhmgdajiocaaGreatDoorFSpellB
import Derived.Test.YtkelhmgdajiocaaGreatDoorFKidPosI
import Derived.Test.YtkelhmgdajiocaaGreatDoorGB
import Derived.Deep.RegionHeld3
import Derived.Deep.CutRange
import Derived.Test.YtkelhmgdajiocaaGreatDoorFSpellO
import Derived.Test.YtkelhmgdajiocaaGreatDoorFSpellL
import Derived.Test.YtkelhmgdajiocaaGreatDoorGSR
import Derived.Test.YtkelhmgdajiocaaGreatDoorGSS
import Derived.Test.YtkelhmgdajiocaaGreatDoorFSpellE
import Derived.Test.YtkelhmgdajiocaaGreatDoorPSpecT
import Derived.Test.YtkelhmgdajiocaaGreatDoorFTokApp
import Derived.BigQuiet
namespace Go.Proofs.YtkelhmgdajiocaaGreatDoor
set_option linter.unusedVariables false
set_option linter.unusedSimpArgs false
open Go.RowKit

/-! kid: a kid of a node at a position. -/
theorem keep_al {w W : World} (h : Below w.heap.size w W) (o : Obj) : Below w.heap.size w (W.alloc o) := h.alloc h.size o
theorem keep_st {w W : World} {b : Nat} (h : Below w.heap.size w W) (hb : w.heap.size ≤ b) (j : Nat) (u : Value) : Below w.heap.size w (W.setCell ⟨b, j, none⟩ u) := h.setCell (p := ⟨b, j, none⟩) hb u
theorem back1 {w w2 : World} {o : Obj} (h : Below (w.alloc o).drew.heap.size (w.alloc o).drew w2) : w2.heap[w.heap.size]? = some o := (h.block _ (by simp)).trans (heap_alloc_new w o)
theorem back2 {w w2 : World} {o o' : Obj} (h : Below ((w.alloc o).alloc o').drew.heap.size ((w.alloc o).alloc o').drew w2) : w2.heap[w.heap.size]? = some o ∧ w2.heap[w.heap.size + 1]? = some o' :=
  ⟨(h.block _ (by simp; omega)).trans (alloc2_at0 w o o'), (h.block _ (by simp)).trans (alloc2_at1 w o o')⟩
theorem ne_s (n : Nat) : n ≠ n + 1 := by omega
theorem s_ne (n : Nat) : n + 1 ≠ n := by omega
theorem kfive_other {W : World} {b c : Nat} (u0 u1 u2 u3 u4 : Value) (h : c ≠ b) : (((((W.setCell ⟨b, 0, none⟩ u0).setCell ⟨b, 1, none⟩ u1).setCell ⟨b, 2, none⟩ u2).setCell ⟨b, 3, none⟩ u3).setCell ⟨b, 4, none⟩ u4).heap[c]? = W.heap[c]? :=
  (heap_setCell_other _ ⟨b, 4, none⟩ c u4 h).trans ((heap_setCell_other _ ⟨b, 3, none⟩ c u3 h).trans ((heap_setCell_other _ ⟨b, 2, none⟩ c u2 h).trans ((heap_setCell_other _ ⟨b, 1, none⟩ c u1 h).trans (heap_setCell_other _ ⟨b, 0, none⟩ c u0 h))))
theorem kfive_new {W : World} {b : Nat} (u0 u1 u2 u3 u4 : Value) (o : Obj) : ((((((W.setCell ⟨b, 0, none⟩ u0).setCell ⟨b, 1, none⟩ u1).setCell ⟨b, 2, none⟩ u2).setCell ⟨b, 3, none⟩ u3).setCell ⟨b, 4, none⟩ u4).alloc o).heap[W.heap.size]? = some o := by
  have h := heap_alloc_new (((((W.setCell ⟨b, 0, none⟩ u0).setCell ⟨b, 1, none⟩ u1).setCell ⟨b, 2, none⟩ u2).setCell ⟨b, 3, none⟩ u3).setCell ⟨b, 4, none⟩ u4) o
  simpa using h
theorem far_cells {w : World} {b : Nat} {v0 v1 v2 v3 v4 : Value} {T : TypeId} (h : w.heap[b]? = some (.cells #[v0, v1, v2, v3, v4] T (0, 0))) (o : Obj) : (w.alloc o).heap[b]? = some (.cells #[v0, v1, v2, v3, v4] T (0, 0)) := (Below.heap_alloc _ _ _ (heap_lt h)).trans h
set_option maxRecDepth 100000 in
set_option maxHeartbeats 3200000 in
theorem implkid_of (full : Bool) (t : Tree) (hex : t.Ex) (hB : ∀ u ∈ t.kids, BareC full u ∧ ExprC full u) : KidC full t := by
  intro p ka kn kc w g B S L M tv sv j ji u hp hpre hji hu hl hm
  subst hji
  obtain rfl := hpre.kn
  obtain ⟨b, off, ua, un, uc, rfl, hc, hm2, hj, hpu, k0, k1, k2, k3, k4⟩ := hpre.kid hu
  have hLen : Hid (L.length + 8 * u.post.length ≤ 1000000 ∧ M.length + u.post.length ≤ 1000000) := hid ⟨hl, hm⟩
  have hlv : levelB t.kind t.op ≠ 0 := levelB_pos ((t.ex_eq).1 hex).1.1 ((t.ex_eq).1 hex).2.1.2.2.1
  have hcb := hid (hB u (List.mem_of_getElem? hu)).1
  have hce := hid (hB u (List.mem_of_getElem? hu)).2
  have hjn : (j : Int) < (t.kids.length : Int) := by omega
  have hn : t.kids.length ≤ 1000000 := by
    have ha := ((t.ex_eq).1 hex).1
    have hb : 1 ≤ t.kind ∧ t.kind ≤ 15 := by have := ha.1; unfold isExprB inB at this; simp at this; omega
    obtain ⟨_, h1, h2, h3, h4, h5, h6⟩ := ha
    have hk : t.kind = 1 ∨ t.kind = 2 ∨ t.kind = 3 ∨ t.kind = 4 ∨ t.kind = 5 ∨ t.kind = 13 ∨ t.kind = 7 ∨ t.kind = 8 ∨ t.kind = 6 ∨ t.kind = 9 ∨ t.kind = 10 ∨ t.kind = 11 ∨ t.kind = 12 ∨ t.kind = 15 ∨ t.kind = 14 := by omega
    rcases hk with h | h | h | h | h | h | h | h | h | h | h | h | h | h | h <;> omega
  have hex2 := hid hex
  have hgB := hpre.hgB
  have hBw := hpre.hB
  have hu2 := hid hu
  have hP := hid (hpu.below (((Below.refl w.heap.size w).alloc (Nat.le_refl _) (.cells #[.int .i64 t.kind, .int .i64 t.op, .string t.text, .string t.other, .slice (some ⟨b, off, none⟩) t.kids.length kc] 99)).alloc (by simp) (.cells #[.int .i64 p.level, .bool p.dollar, .bool p.noIn, .bool p.noGt, .bool p.noSign] 36)))
  have hbl : b < w.heap.size := World.block_lt_of_cell? w _ k0
  have hB1 : Below w.heap.size w ((w.alloc (.cells #[.int .i64 t.kind, .int .i64 t.op, .string t.text, .string t.other, .slice (some ⟨b, off, none⟩) t.kids.length kc] 99)).alloc (.cells #[.int .i64 p.level, .bool p.dollar, .bool p.noIn, .bool p.noGt, .bool p.noSign] 36)) := ((Below.refl w.heap.size w).alloc (Nat.le_refl _) (.cells #[.int .i64 t.kind, .int .i64 t.op, .string t.text, .string t.other, .slice (some ⟨b, off, none⟩) t.kids.length kc] 99)).alloc (by simp) (.cells #[.int .i64 p.level, .bool p.dollar, .bool p.noIn, .bool p.noGt, .bool p.noSign] 36)
  have hbt := hid (alloc2_at0 w (.cells #[.int .i64 t.kind, .int .i64 t.op, .string t.text, .string t.other, .slice (some ⟨b, off, none⟩) t.kids.length kc] 99) (.cells #[.int .i64 p.level, .bool p.dollar, .bool p.noIn, .bool p.noGt, .bool p.noSign] 36))
  have hbp := hid (alloc2_at1 w (.cells #[.int .i64 t.kind, .int .i64 t.op, .string t.text, .string t.other, .slice (some ⟨b, off, none⟩) t.kids.length kc] 99) (.cells #[.int .i64 p.level, .bool p.dollar, .bool p.noIn, .bool p.noGt, .bool p.noSign] 36))
  replace hB1 := hid hB1
  clear hpre hpu hB hex hu hl hm
  go_enter Tryz.func148, Tryz.ntmps148
  go_upto_region 1 with fail
  generalize (w.alloc (.cells #[.int .i64 t.kind, .int .i64 t.op, .string t.text, .string t.other, .slice (some ⟨b, off, none⟩) t.kids.length kc] 99)).alloc (.cells #[.int .i64 p.level, .bool p.dollar, .bool p.noIn, .bool p.noGt, .bool p.noSign] 36) = w1 at hP hbt hbp hB1 ⊢
  obtain ⟨c0, c1, c2, c3, c4⟩ := box_cells hbt.out
  have hS := hid (show ∀ W, Below w1.heap.size w1 W → Below w1.heap.size w1 W ∧ W.cell? ⟨w.heap.size, 0, none⟩ = some (.int .i64 t.kind) ∧ W.cell? ⟨w.heap.size, 1, none⟩ = some (.int .i64 t.op) ∧ W.cell? ⟨w.heap.size, 2, none⟩ = some (.string t.text) ∧ W.cell? ⟨w.heap.size, 3, none⟩ = some (.string t.other) ∧ W.cell? ⟨w.heap.size, 4, none⟩ = some (.slice (some ⟨b, off, none⟩) t.kids.length kc) ∧
      W.cell? ⟨b, off + j * 5, none⟩ = some (.int .i64 u.kind) ∧ W.cell? ⟨b, off + j * 5 + 1, none⟩ = some (.int .i64 u.op) ∧ W.cell? ⟨b, off + j * 5 + 2, none⟩ = some (.string u.text) ∧ W.cell? ⟨b, off + j * 5 + 3, none⟩ = some (.string u.other) ∧ W.cell? ⟨b, off + j * 5 + 4, none⟩ = some (.slice ua un uc) from fun W hW => by
    obtain ⟨x0, x1, x2, x3, x4⟩ := box_cells (box_below hbt.out hW)
    have hWw := hB1.out.trans (hW.mono hB1.out.size)
    exact ⟨hW, x0, x1, x2, x3, x4, (hWw.cell (p := ⟨b, off + j * 5, none⟩) hbl).trans k0, (hWw.cell (p := ⟨b, off + j * 5 + 1, none⟩) hbl).trans k1, (hWw.cell (p := ⟨b, off + j * 5 + 2, none⟩) hbl).trans k2, (hWw.cell (p := ⟨b, off + j * 5 + 3, none⟩) hbl).trans k3, (hWw.cell (p := ⟨b, off + j * 5 + 4, none⟩) hbl).trans k4⟩)
  clear c0 c1 c2 c3 c4 k0 k1 k2 k3 k4
  go_cut [8, 9] from 11 to 17 (fun nv kv wx => ∃ (na : Option Addr) (nc nb kb : Nat), nv = .pointer (some ⟨nb, 0, none⟩) ∧ kv = .pointer (some ⟨kb, 0, none⟩) ∧ Hid (Below w1.heap.size w1 wx) ∧ Hid (w1.heap.size ≤ nb ∧ w1.heap.size ≤ kb) ∧ Hid (wx.heap[nb]? = some (.cells #[.int .i64 t.kind, .int .i64 t.op, .string t.text, .string t.other, .slice na t.kids.length nc] 58 (0, 0))) ∧ Hid (wx.heap[kb]? = some (.cells #[.int .i64 u.kind, .int .i64 u.op, .string u.text, .string u.other, .slice ua un uc] 99 (0, 0))))
  case first =>
    go_region_held3 (fun W => Below w1.heap.size w1 W ∧ W.cell? ⟨w.heap.size, 0, none⟩ = some (.int .i64 t.kind) ∧ W.cell? ⟨w.heap.size, 1, none⟩ = some (.int .i64 t.op) ∧ W.cell? ⟨w.heap.size, 2, none⟩ = some (.string t.text) ∧ W.cell? ⟨w.heap.size, 3, none⟩ = some (.string t.other) ∧ W.cell? ⟨w.heap.size, 4, none⟩ = some (.slice (some ⟨b, off, none⟩) t.kids.length kc) ∧
      W.cell? ⟨b, off + j * 5, none⟩ = some (.int .i64 u.kind) ∧ W.cell? ⟨b, off + j * 5 + 1, none⟩ = some (.int .i64 u.op) ∧ W.cell? ⟨b, off + j * 5 + 2, none⟩ = some (.string u.text) ∧ W.cell? ⟨b, off + j * 5 + 3, none⟩ = some (.string u.other) ∧ W.cell? ⟨b, off + j * 5 + 4, none⟩ = some (.slice ua un uc))
      (first
        | (refine hS.out _ ?_
           with_reducible (
             repeat (first | refine Below.drew ?_ | refine keep_al ?_ _ | refine keep_st ?_ (by first | exact Nat.le_refl _ | exact Nat.le_succ _ | exact hBn2.size | exact Nat.le_trans hBn2.size (Nat.le_succ _)) _ _)
             first
               | exact hBn2
               | exact Below.refl _ _)))
      (first
        | (go_at_call 88; refine (implnode_any t.kind t.op t.text t.other (some ⟨b, off, none⟩) t.kids.length kc _ hn).mono ?_; rintro e w2 ⟨na, nc, rfl, hb2⟩; have hBn2 : Below w1.heap.size w1 w2 := keep_b2 (by assumption) hb2;
           first
             | (obtain ⟨hk1, hk2⟩ := back2 hb2; have hf1 : ∀ j, w2.frozen? ⟨w1.heap.size, j, none⟩ = false := fun j => box_froz hk1; have hf2 : ∀ j, w2.frozen? ⟨w1.heap.size + 1, j, none⟩ = false := fun j => box_froz hk2; obtain ⟨q0, q1, q2, q3, q4⟩ := box_cells hk1; obtain ⟨r0, r1, r2, r3, r4⟩ := box_cells hk2)
             | (have hk1 := back1 hb2; have hn1 : ¬ w1.heap.size = w2.heap.size := Nat.ne_of_lt (heap_lt hk1); have hn2 : ¬ w2.heap.size = w1.heap.size := fun e => hn1 e.symm; have hn3 : w1.heap.size < w2.heap.size := heap_lt hk1; have hf1 : ∀ j, w2.frozen? ⟨w1.heap.size, j, none⟩ = false := fun j => box_froz hk1; obtain ⟨q0, q1, q2, q3, q4⟩ := box_cells hk1)
             | skip))
    all_goals go_wp2_with fail
    all_goals go_meet
    all_goals
      refine ⟨na, nc, _, _, rfl, rfl, hid ?_, hid ⟨?_, ?_⟩, hid ?_, hid ?_⟩
      · have hsz := hBn2.size
        with_reducible repeat (first | exact hBn2 | refine keep_al ?_ _ | refine keep_st ?_ (by omega) _ _)
      · have hsz := hBn2.size
        omega
      · have hsz := hBn2.size
        omega
      all_goals with_reducible first
        | exact alloc2_at0 _ _ _
        | exact alloc2_at1 _ _ _
        | exact far_cells (five _ _ _ _ _ hk1) _
        | exact kfive_new _ _ _ _ _ _
        | exact (kfive_other _ _ _ _ _ (ne_s _)).trans (five _ _ _ _ _ hk1)
        | exact five _ _ _ _ _ ((kfive_other _ _ _ _ _ (s_ne _)).trans hk2)
        | exact (kfive_other _ _ _ _ _ (s_ne _)).trans (five _ _ _ _ _ hk2)
        | exact five _ _ _ _ _ ((kfive_other _ _ _ _ _ (ne_s _)).trans hk1)
  case rest =>
    obtain ⟨na, nc, nb, kb, rfl, rfl, hbx, hlo, hnx, hkx⟩ := hcut
    have hP := hid (hP.out.below hbx.out)
    have hbp := hid (box_below hbp.out hbx.out)
    have hK : Hid (Sk g B w wc) := hid (Sk.of_below (hB1.out.trans (hbx.out.mono hB1.out.size)))
    have hs1 : w.heap.size ≤ w1.heap.size := hB1.out.size
    have hng : nb ≠ g ∧ kb ≠ g := by have := hlo.out; omega
    have hq := hid (kidPos_ok (k := t.kind) (o := t.op) (n := (t.kids.length : Int)) (j := (j : Int)) hp (by omega) hlv)
    have har := hid ((t.ex_eq).1 hex2.out).1
    have hop := hid ((t.ex_eq).1 hex2.out).2.1.2.2.1
    clear hS hbt hB1 hbx hlo
    obtain ⟨d0, d1, d2, d3, d4⟩ := box_cells hbp.out
    obtain ⟨e0, e1, e2, e3, e4⟩ := box_cells hnx.out
    go_wp2_with fail
    refine (implKidPos_any t.kind t.op t.text t.other na t.kids.length nc j p wc hp hj har.out hop.out).mono ?_; rintro e w2 ⟨rfl, hb2⟩
    unfold Pos.val
    have hR1 : Hid (kidTk full t.kind t.op t.kids.length p j u = if isTargetB t.kind j = true then u.tkb full (kidPosB t.kind t.op t.kids.length j p) else u.tks full (kidPosB t.kind t.op t.kids.length j p)) := hid rfl
    have hR2 : Hid (kidSp full t.kind t.op t.kids.length p j u L.length = if isTargetB t.kind j = true then u.spB full (kidPosB t.kind t.op t.kids.length j p) L.length else u.spS full (kidPosB t.kind t.op t.kids.length j p) L.length) := hid rfl
    generalize kidPosB t.kind t.op t.kids.length j p = q at *
    have hP := hid (hP.out.below hb2)
    have hnx := hid (box_below hnx.out hb2)
    have hkx := hid (box_below hkx.out hb2)
    have hK := hid (hK.out.below hb2)
    clear hb2 d0 d1 d2 d3 d4 e0 e1 e2 e3 e4 hbp
    have ya := fun o => box_below hnx.out ((Below.refl w2.heap.size w2).alloc (Nat.le_refl _) o)
    have y0 := fun o => (box_cells (ya o)).1
    have y1 := fun o => (box_cells (ya o)).2.1
    have y2 := fun o => (box_cells (ya o)).2.2.1
    have y3 := fun o => (box_cells (ya o)).2.2.2.1
    have y4 := fun o => (box_cells (ya o)).2.2.2.2
    clear ya
    go_wp2_with fail
    clear y0 y1 y2 y3 y4
    have hb3 := hid (show Below w2.heap.size w2 (w2.alloc (.cells #[.int .i64 q.level, .bool q.dollar, .bool q.noIn, .bool q.noGt, .bool q.noSign] 36)) from (Below.refl _ _).alloc (Nat.le_refl _) _)
    have hqx := hid (heap_alloc_new w2 (.cells #[.int .i64 q.level, .bool q.dollar, .bool q.noIn, .bool q.noGt, .bool q.noSign] 36))
    obtain ⟨qb, hqb⟩ : ∃ qb, qb = w2.heap.size := ⟨_, rfl⟩
    rw [← hqb] at hqx ⊢
    generalize w2.alloc (.cells #[.int .i64 q.level, .bool q.dollar, .bool q.noIn, .bool q.noGt, .bool q.noSign] 36) = w3 at hb3 hqx ⊢
    have hP := hid (hP.out.below hb3.out)
    have hkx := hid (box_below hkx.out hb3.out)
    have hK := hid (hK.out.below hb3.out)
    clear hb3 hqb hnx
    refine (implisTarget_any t.kind t.op t.text t.other na t.kids.length nc j w3).mono ?_; rintro e w4 ⟨rfl, hb4⟩
    have hP := hid (hP.out.below hb4)
    have hkx := hid (box_below hkx.out hb4)
    have hqx := hid (box_below hqx.out hb4)
    have hK := hid (hK.out.below hb4)
    clear hb4
    obtain ⟨k0, k1, k2, k3, k4⟩ := box_cells hkx.out
    obtain ⟨d0, d1, d2, d3, d4⟩ := box_cells hqx.out
    generalize isTargetB t.kind j = it at *
    cases it with
    | true =>
      rw [if_pos rfl] at hR1 hR2
      go_wp2_with fail
      refine (hcb.out q ua _ uc w4 g B S L M _ _ hq.out hP.out (by have := hLen.out; omega) (by have := hLen.out; omega)).mono ?_; rintro e wz ⟨rfl, tvz, svz, hst, hsk⟩
      have hfin : Hid (SpSt wz g B full (L ++ kidTk full t.kind t.op t.kids.length p j u) (M ++ kidSp full t.kind t.op t.kids.length p j u L.length) tvz svz) := hid (by rw [hR1.out, hR2.out]; exact hst)
      have hK := hid (hK.out.trans hsk)
      clear hst hsk
      go_wp2
      go_end0
      exact ⟨rfl, _, _, hfin.out, hK.out⟩
    | false =>
      rw [if_neg (by simp)] at hR1 hR2
      go_wp2_with fail
      refine (hce.out q ua _ uc w4 g B S L M _ _ hq.out hP.out (by have := hLen.out; omega) (by have := hLen.out; omega)).mono ?_; rintro e wz ⟨rfl, tvz, svz, hst, hsk⟩
      have hfin : Hid (SpSt wz g B full (L ++ kidTk full t.kind t.op t.kids.length p j u) (M ++ kidSp full t.kind t.op t.kids.length p j u L.length) tvz svz) := hid (by rw [hR1.out, hR2.out]; exact hst)
      have hK := hid (hK.out.trans hsk)
      clear hst hsk
      go_wp2
      go_end0
      exact ⟨rfl, _, _, hfin.out, hK.out⟩
end Go.Proofs.YtkelhmgdajiocaaGreatDoor
/- Walks and lemmas of this seat (FSpellC): what each theorem says of the functions that it names. Conditions: those that each theorem states. -/
namespace Go.Proofs.YtkelhmgdajiocaaGreatDoor
set_option linter.unusedVariables false
set_option linter.unusedSimpArgs false
open Go.RowKit

/-! The speller writes every expression as the plain text says. -/
theorem len1 {l : List Tree} (h : l.length = 1) : ∃ u, l = [u] := List.length_eq_one_iff.1 h
theorem len2 {l : List Tree} (h : l.length = 2) : ∃ u v, l = [u, v] := by
  rcases l with _ | ⟨x, _ | ⟨y, _ | ⟨z, l⟩⟩⟩ <;> simp at h
  exact ⟨x, y, rfl⟩
theorem len3 {l : List Tree} (h : l.length = 3) : ∃ u v x, l = [u, v, x] := by
  rcases l with _ | ⟨x, _ | ⟨y, _ | ⟨z, _ | ⟨u, l⟩⟩⟩⟩ <;> simp at h
  exact ⟨x, y, z, rfl⟩
theorem implbareN (full : Bool) (n : Nat) : ∀ (t : Tree), SizeOf.sizeOf t < n → t.Ex → BareC full t := by
  induction n with
  | zero => intro t h; omega
  | succ n ih =>
    intro t h he
    have hex := (t.ex_eq).1 he
    have hkids : ∀ u ∈ t.kids, BareC full u ∧ ExprC full u := fun u hu => by
      have hue := hex.2.2.2 u hu
      have hux := (u.ex_eq).1 hue
      have h1 := ih u (by have := Tree.kid_lt hu; omega) hue
      exact ⟨h1, implexpr_of full u h1 (levelB_pos hux.1.1 hux.2.1.2.2.1)⟩
    have hkid := implkid_of full t he hkids
    have hlist := impllist_of full t hkid
    obtain ⟨⟨h0, h1, h2, h3, h4, h5, h6⟩, hop, _⟩ := hex
    have hb : 1 ≤ t.kind ∧ t.kind ≤ 15 := by unfold isExprB inB at h0; simp at h0; omega
    clear hkids ih he h
    cases t with
    | mk k o a b l =>
      simp only [Tree.kind, Tree.op, Tree.kids] at h0 h1 h2 h3 h4 h5 h6 hop hb
      have hk : k = 1 ∨ k = 2 ∨ k = 3 ∨ k = 4 ∨ k = 5 ∨ k = 6 ∨ k = 7 ∨ k = 8 ∨ k = 9 ∨ k = 10 ∨ k = 11 ∨ k = 12 ∨ k = 13 ∨ k = 14 ∨ k = 15 := by omega
      rcases hk with rfl | rfl | rfl | rfl | rfl | rfl | rfl | rfl | rfl | rfl | rfl | rfl | rfl | rfl | rfl
      · obtain rfl := List.eq_nil_of_length_eq_zero (h1 (by omega)); exact implbare_1 full o a b
      · obtain rfl := List.eq_nil_of_length_eq_zero (h1 (by omega)); exact implbare_2 full o a b
      · obtain rfl := List.eq_nil_of_length_eq_zero (h1 (by omega)); exact implbare_3 full o a b
      · obtain rfl := List.eq_nil_of_length_eq_zero (h1 (by omega)); exact implbare_4 full o a b
      · exact implbare_5 full o a b l hlist
      · obtain ⟨u, rfl⟩ := len1 (h4 (by omega)); exact implbare_6 full o a b [u] (imploper_6 full o a b u hkid)
      · exact implbare_7 full o a b l hlist
      · exact implbare_8 full o a b l hlist
      · obtain ⟨u, rfl⟩ := len1 (h4 (by omega)); exact implbare_9 full o a b [u] (imploper_9 full o a b u hkid)
      · obtain ⟨u, rfl⟩ := len1 (h4 (by omega)); exact implbare_10 full o a b [u] (imploper_10 full o a b u hkid)
      · obtain ⟨u, rfl⟩ := len1 (h4 (by omega)); exact implbare_11 full o a b [u] (imploper_11 full o a b u hkid)
      · obtain ⟨u, v, rfl⟩ := len2 (h5 (by omega))
        by_cases ho : o = 99
        · subst ho; exact implbare_12 full 99 a b [u, v] (imploper_12c full a b u v hkid)
        · exact implbare_12 full o a b [u, v] (imploper_12 full o a b u v ho hkid)
      · have hl := h2 (by omega)
        by_cases hn : 1 < l.length
        · exact implbare_13 full o a b l (imploper_13b full o a b l hn hlist)
        · obtain ⟨u, rfl⟩ := len1 (show l.length = 1 by omega)
          exact implbare_13 full o a b [u] (imploper_13a full o a b u hkid)
      · obtain ⟨u, v, x, rfl⟩ := len3 (h6 rfl); exact implbare_14 full o a b [u, v, x] (imploper_14 full o a b u v x hkid)
      · obtain ⟨u, v, rfl⟩ := len2 (h5 (by omega))
        have ho : ¬ o = 99 := by have := hop.2.2.2.1 rfl; omega
        exact implbare_15 full o a b [u, v] (imploper_15 full o a b u v ho hkid)
theorem implexpr_any (full : Bool) {t : Tree} (he : t.Ex) : ExprC full t := by
  have hux := (t.ex_eq).1 he
  exact implexpr_of full t (implbareN full _ t (Nat.lt_succ_self _) he) (levelB_pos hux.1.1 hux.2.1.2.2.1)
end Go.Proofs.YtkelhmgdajiocaaGreatDoor
/- Walks and lemmas of this seat (FSpelled): what each theorem says of the functions that it names. Conditions: those that each theorem states. -/
namespace Go.Proofs.YtkelhmgdajiocaaGreatDoor
set_option linter.unusedVariables false
set_option linter.unusedSimpArgs false
open Go.RowKit

/-! spelled: tokens and spans of a valid expression. -/
def spelledToks (l : List Node) (p : Pos) (full : Bool) : List Token := if exprOkB l = true ∧ posOkB p = true then (rootTree l).tks full p else []
def spelledSpans (l : List Node) (p : Pos) (full : Bool) : List Span := if exprOkB l = true ∧ posOkB p = true then (rootTree l).spS full p 0 else []
def SpelledPost (w : World) (L : List Token) (M : List Span) (e : Ending) (w' : World) : Prop := ∃ tv sv, e = .returned (.tuple #[tv, sv]) ∧ TokAt w w' tv L ∧ w'.ownsRow w.heap.size 70 2 sv M.length (M.flatMap Span.cells)
theorem SpelledPost.none {w w' : World} (hb : Below w.heap.size w w') : SpelledPost w [] [] (.returned (.tuple #[.slice none 0 0, .slice none 0 0])) w' :=
  ⟨_, _, rfl, ⟨hb, ⟨rfl, .inl ⟨rfl, rfl⟩⟩⟩, ⟨rfl, .inl ⟨rfl, rfl⟩⟩⟩
/-- Out of the speller's last state. -/
theorem SpelledPost.of {w w4 w5 : World} {g B : Nat} {full : Bool} {L : List Token} {M : List Span} {tv sv : Value} (hst : SpSt w5 g B full L M tv sv) (hk : Sk g B w4 w5) (hb : Below w.heap.size w w4) (hg : w.heap.size ≤ g) (hgB : g < B) (hB : B ≤ w4.heap.size) (n : Nat) : SpelledPost w L M (.returned (.tuple #[tv, sv])) (w5.drewN n) := by
  have hb5 : Below w.heap.size w w5 := ⟨hk.os.trans hb.os, hk.tape.trans hb.tape, hk.output.trans hb.output, Nat.le_trans hb.size hk.size, fun b hlt => (hk.low (by omega) hB (by omega)).trans (hb.block b hlt)⟩
  refine ⟨tv, sv, rfl, ⟨⟨hb5.os, hb5.tape, hb5.output, hb5.size, hb5.block⟩, ?_⟩, ?_⟩
  · exact own_base hst.tok (by omega)
  · exact own_base hst.spn (by omega)
theorem spelled_box {w w' : World} {o : Obj} (hb : Below (w.alloc o).heap.size (w.alloc o) w') : w'.heap[w.heap.size]? = some o := (hb.block _ (by simp)).trans (heap_alloc_new w o)

theorem spelled_pre {w w3 w4 : World} {g : Nat} {full : Bool} {t : Tree} {kv : Value} (hE : WordEnv w) (hgw : w.heap.size < g) (hgx : w4.heap[g]? = some (.cells #[.slice none 0 0, .slice none 0 0, .bool full] 95 (0, 0))) (hb : Below w.heap.size w w4) (hg3 : g < w3.heap.size) (ht : TreeIs (fun b => w3.heap.size ≤ b) w4 t kv) : SpPre g w4.heap.size full [] [] t kv (fun b => g < b ∧ b < w4.heap.size) (.slice none 0 0) (.slice none 0 0) w4 where
  st := ⟨hgx, ⟨rfl, .inl ⟨rfl, rfl⟩⟩, ⟨rfl, .inl ⟨rfl, rfl⟩⟩⟩
  hgB := heap_lt hgx
  hB := Nat.le_refl _
  low := ⟨w, hE, by omega, hb⟩
  tree := ht.keep fun b hS hlt => ⟨rfl, Nat.lt_of_lt_of_le hg3 hS, hlt⟩
  hS := fun b h => ⟨h.2, by have := h.1; omega⟩
set_option maxRecDepth 100000 in
set_option maxHeartbeats 3200000 in
theorem implspelled_any (l0 : List Node) (v0 : Value) (p : Pos) (full : Bool) (w : World) (hx0 : ∀ x ∈ l0, x.Ok) (hn0 : bulk Node.sizes l0 ≤ 1048576) (hv0 : NodeSlc w v0 l0) (hE : WordEnv w) :
    Calls Tryz.prog 49 #[v0, .agg #[.int .i64 p.level, .bool p.dollar, .bool p.noIn, .bool p.noGt, .bool p.noSign], .bool full] w fun e w' => SpelledPost w (spelledToks l0 p full) (spelledSpans l0 p full) e w' := by
  have hv := hv0
  obtain ⟨a, cap, rfl, hm, hc, hsl⟩ := hv0.shape
  have hb0 : Below w.heap.size w (w.alloc (.cells #[.int .i64 p.level, .bool p.dollar, .bool p.noIn, .bool p.noGt, .bool p.noSign] 36)) := (Below.refl _ _).alloc (Nat.le_refl _) _
  have hok := hid (implExprOk_any l0 _ _ hx0 hn0 (hv.mono hb0 (Nat.le_refl _)) (hE.below hb0))
  have hpos := hid (fun W => implPosOk_any p W)
  unfold Pos.val at hpos
  cases he : exprOkB l0 with
  | false =>
    have hR1 : spelledToks l0 p full = [] := by unfold spelledToks; rw [he]; simp
    have hR2 : spelledSpans l0 p full = [] := by unfold spelledSpans; rw [he]; simp
    rw [hR1, hR2]
    rw [he] at hok
    clear hR1 hR2 he hsl hpos
    go_enter Tryz.func49, Tryz.ntmps49
    go_wp2_with (go_at_call 68; refine hok.out.mono ?_; rintro e w1 ⟨rfl, hb1⟩)
    go_ret2
    exact SpelledPost.none (hb0.trans (hb1.mono hb0.size))
  | true =>
  cases hpp : posOkB p with
  | false =>
    have hR1 : spelledToks l0 p full = [] := by unfold spelledToks; rw [hpp]; simp
    have hR2 : spelledSpans l0 p full = [] := by unfold spelledSpans; rw [hpp]; simp
    rw [hR1, hR2]
    rw [he] at hok
    rw [hpp] at hpos
    clear hR1 hR2 he hsl hpp
    go_enter Tryz.func49, Tryz.ntmps49
    go_wp2_with (first
      | (go_at_call 68; refine hok.out.mono ?_; rintro e w1 ⟨rfl, hb1⟩; have z := spelled_box hb1; obtain ⟨z0, z1, z2, z3, z4⟩ := box_cells z; clear z)
      | (go_at_call 69; refine (hpos.out _).mono ?_; rintro e w2 ⟨rfl, hw2⟩; subst hw2))
    go_ret2
    exact SpelledPost.none ((hb0.trans (hb1.mono hb0.size)).alloc (Nat.le_trans hb0.size hb1.size) _)
  | true =>
    obtain ⟨hto, hex, hpl, hl1, hl4, _⟩ := exprOk_facts he
    have hR1 : Hid (spelledToks l0 p full = (rootTree l0).tks full p) := hid (by unfold spelledToks; rw [if_pos ⟨he, hpp⟩])
    have hR2 : Hid (spelledSpans l0 p full = (rootTree l0).spS full p 0) := hid (by unfold spelledSpans; rw [if_pos ⟨he, hpp⟩])
    have hroot := hid (fun W (hb : Below w.heap.size w W) => implrootOf_any l0 _ W hx0 hn0 (hv.mono hb (Nat.le_refl _)) (treeOk_shape hto))
    have hexpr := hid (implexpr_any full hex)
    have hpl2 := hid (show (rootTree l0).post.length ≤ 400 by omega)
    have hp2 := hid hpp
    have hE2 := hid hE
    generalize spelledToks l0 p full = RT at *
    generalize spelledSpans l0 p full = RS at *
    generalize rootTree l0 = t at *
    rw [he] at hok
    rw [hpp] at hpos
    clear he hsl hpp hto hex hpl
    go_enter Tryz.func49, Tryz.ntmps49
    go_wp2_with (first
      | (go_at_call 68; refine hok.out.mono ?_; rintro e w1 ⟨rfl, hb1⟩; have z := spelled_box hb1; obtain ⟨z0, z1, z2, z3, z4⟩ := box_cells z; clear z)
      | (go_at_call 69; refine (hpos.out _).mono ?_; rintro e w2 ⟨rfl, hw2⟩; subst hw2))
    have hpb := hid (spelled_box hb1)
    clear z0 z1 z2 z3 z4
    have hb2 := hid (hb0.trans (hb1.mono hb0.size))
    have hlt : w.heap.size < w1.heap.size := heap_lt hpb.out
    have hb3 := hid ((hb2.out.alloc hb2.out.size (.cells #[.int .i64 p.level, .bool p.dollar, .bool p.noIn, .bool p.noGt, .bool p.noSign] 36)).alloc (by have := hb2.out.size; simp; omega) (.cells #[.slice none 0 0, .slice none 0 0, .bool full] 95))
    have hpb3 := hid ((Below.heap_alloc (w1.alloc (.cells #[.int .i64 p.level, .bool p.dollar, .bool p.noIn, .bool p.noGt, .bool p.noSign] 36)) (.cells #[.slice none 0 0, .slice none 0 0, .bool full] 95) w.heap.size (by simp; omega)).trans ((Below.heap_alloc w1 (.cells #[.int .i64 p.level, .bool p.dollar, .bool p.noIn, .bool p.noGt, .bool p.noSign] 36) w.heap.size hlt).trans hpb.out))
    have hgx := hid (alloc2_at1 w1 (.cells #[.int .i64 p.level, .bool p.dollar, .bool p.noIn, .bool p.noGt, .bool p.noSign] 36) (.cells #[.slice none 0 0, .slice none 0 0, .bool full] 95))
    have hgw : Hid (w.heap.size < w1.heap.size + 1) := hid (by omega)
    clear hb1 hok hpos hlt hpb
    generalize (w1.alloc (.cells #[.int .i64 p.level, .bool p.dollar, .bool p.noIn, .bool p.noGt, .bool p.noSign] 36)).alloc (.cells #[.slice none 0 0, .slice none 0 0, .bool full] 95) = w3 at hb3 hpb3 hgx ⊢
    obtain ⟨g, hg⟩ : ∃ g, g = w1.heap.size + 1 := ⟨_, rfl⟩
    rw [← hg] at hgx hgw ⊢
    clear hg hb2
    have hS := hid (show ∀ W, Below w3.heap.size w3 W → W.cell? ⟨w.heap.size, 0, none⟩ = some (.int .i64 p.level) ∧ W.cell? ⟨w.heap.size, 1, none⟩ = some (.bool p.dollar) ∧ W.cell? ⟨w.heap.size, 2, none⟩ = some (.bool p.noIn) ∧ W.cell? ⟨w.heap.size, 3, none⟩ = some (.bool p.noGt) ∧ W.cell? ⟨w.heap.size, 4, none⟩ = some (.bool p.noSign) from fun W hW => box_cells (box_below hpb3.out hW))
    first
    | go_region_held3 (fun W => W.cell? ⟨w.heap.size, 0, none⟩ = some (.int .i64 p.level) ∧ W.cell? ⟨w.heap.size, 1, none⟩ = some (.bool p.dollar) ∧ W.cell? ⟨w.heap.size, 2, none⟩ = some (.bool p.noIn) ∧ W.cell? ⟨w.heap.size, 3, none⟩ = some (.bool p.noGt) ∧ W.cell? ⟨w.heap.size, 4, none⟩ = some (.bool p.noSign))
      (first
        | (refine hS.out _ ?_
           with_reducible (first
             | exact (Below.refl _ _).drew
             | exact hBr))
        | exact box_cells hx5)
      (first
        | (go_at_call 71; refine (hroot.out _ hb3.out.drew).mono ?_; rintro e w4 ⟨ka, kn, kc, rfl, hb4, ht4⟩; have hBr : Below w3.heap.size w3 w4 := ((Below.refl w3.heap.size w3).drew).trans (hb4.mono (Nat.le_refl _)); have hgx4 := hid (box_below hgx.out hBr); have hpb4 := hid (box_below hpb3.out hBr); have hpre := hid (show SpPre g w4.heap.size full [] [] t (.slice ka kn kc) (fun b => g < b ∧ b < w4.heap.size) (.slice none 0 0) (.slice none 0 0) w4 from spelled_pre hE2.out hgw.out hgx4.out (hb3.out.trans (hBr.mono hb3.out.size)) (heap_lt hgx.out) ht4))
        | (go_at_call 70; refine (hexpr.out p ka kn kc w4 g w4.heap.size (fun b => g < b ∧ b < w4.heap.size) [] [] _ _ hp2.out hpre.out (by have h := hpl2.out; simp; omega) (by have h := hpl2.out; simp; omega)).mono ?_; rintro e w5 ⟨rfl, tv, sv, hst, hsk⟩; have hx5 := hsk.box hpb4.out (by decide) (by decide) (Nat.ne_of_lt hgw.out)))
    | fail "x"
    all_goals
      have hst2 := hid hst
      have hsk2 := hid hsk
      have hb4w := hid (hb3.out.trans (hBr.mono hb3.out.size))
      have hgB := hid (heap_lt hgx4.out)
      have k0 := hst.box.c0
      have k1 := hst.box.c1
      clear hst hsk hx5 hpre hS hb4 ht4 hBr
      go_wp2_with fail
      go_quiet (fail)
      go_wp2
      go_ret2
      have h := SpelledPost.of hst2.out hsk2.out hb4w.out (Nat.le_of_lt hgw.out) hgB.out (Nat.le_refl _)
      rw [List.nil_append, List.nil_append, List.length_nil] at h
      rw [hR1.out, hR2.out]
      exact h _
end Go.Proofs.YtkelhmgdajiocaaGreatDoor
/- Walks and lemmas of this seat (FSpelled2): what each theorem says of the functions that it names. Conditions: those that each theorem states. -/
namespace Go.Proofs.YtkelhmgdajiocaaGreatDoor
set_option linter.unusedVariables false
set_option linter.unusedSimpArgs false
open Go.RowKit

/-! The program's ExprTokens and FullTokens. -/
set_option maxRecDepth 100000 in
set_option maxHeartbeats 3200000 in
theorem implExprTokens_any (l0 : List Node) (v0 : Value) (p : Pos) (w : World) (hx0 : ∀ x ∈ l0, x.Ok) (hn0 : bulk Node.sizes l0 ≤ 1048576) (hv0 : NodeSlc w v0 l0) (hap : p.Ok) (hE : WordEnv w) :
    Calls Tryz.prog 23 #[v0, .agg #[.int .i64 p.level, .bool p.dollar, .bool p.noIn, .bool p.noGt, .bool p.noSign]] w fun e w' => ∃ v', e = .returned v' ∧ Below w.heap.size w w' ∧ w'.ownsRow w.heap.size 50 3 v' (exprToks l0 p).length ((exprToks l0 p).flatMap Token.cells) := by
  have hb0 : Below w.heap.size w (w.alloc (.cells #[.int .i64 p.level, .bool p.dollar, .bool p.noIn, .bool p.noGt, .bool p.noSign] 36)) := (Below.refl _ _).alloc (Nat.le_refl _) _
  have hcall := hid (implspelled_any l0 v0 p false _ hx0 hn0 (hv0.mono hb0 (Nat.le_refl _)) (hE.below hb0))
  have hR : Hid (spelledToks l0 p false = exprToks l0 p) := hid rfl
  generalize exprToks l0 p = RT at *
  generalize spelledToks l0 p false = R at *
  generalize spelledSpans l0 p false = M at *
  obtain ⟨a, cap, rfl, hm, hc, hsl⟩ := hv0.shape
  clear hsl
  go_enter Tryz.func23, Tryz.ntmps23
  go_wp2_with (go_at_call 49; refine hcall.out.mono ?_; rintro e w1 ⟨tv, sv, rfl, hT, hs⟩)
  have hT2 := hid (hT.elder hb0)
  obtain ⟨va, vc, rfl, _⟩ := hT.shape
  go_ret
  exact ⟨_, rfl, hT2.out.hb, by rw [← hR.out]; exact hT2.out.own⟩
set_option maxRecDepth 100000 in
set_option maxHeartbeats 3200000 in
theorem implFullTokens_any (l0 : List Node) (v0 : Value) (w : World) (hx0 : ∀ x ∈ l0, x.Ok) (hn0 : bulk Node.sizes l0 ≤ 1048576) (hv0 : NodeSlc w v0 l0) (hE : WordEnv w) :
    Calls Tryz.prog 30 #[v0] w fun e w' => ∃ v', e = .returned v' ∧ Below w.heap.size w w' ∧ w'.ownsRow w.heap.size 50 3 v' (fullToks l0).length ((fullToks l0).flatMap Token.cells) := by
  have hb0 : Below w.heap.size w (w.alloc (.cells #[.int .i64 1, .bool false, .bool false, .bool false, .bool false] 36)) := (Below.refl _ _).alloc (Nat.le_refl _) _
  have hcall := hid (implspelled_any l0 v0 posTop true _ hx0 hn0 (hv0.mono hb0 (Nat.le_refl _)) (hE.below hb0))
  have hR : Hid (spelledToks l0 posTop true = fullToks l0) := hid (by unfold spelledToks fullToks; simp [posOk_top])
  replace hcall : Hid (Calls Tryz.prog 49 #[v0, .agg #[.int .i64 1, .bool false, .bool false, .bool false, .bool false], .bool true] (w.alloc (.cells #[.int .i64 1, .bool false, .bool false, .bool false, .bool false] 36)) fun e w' => SpelledPost (w.alloc (.cells #[.int .i64 1, .bool false, .bool false, .bool false, .bool false] 36)) (spelledToks l0 posTop true) (spelledSpans l0 posTop true) e w') := hcall
  generalize fullToks l0 = RT at *
  generalize spelledToks l0 posTop true = R at *
  generalize spelledSpans l0 posTop true = M at *
  obtain ⟨a, cap, rfl, hm, hc, hsl⟩ := hv0.shape
  clear hsl
  go_enter Tryz.func30, Tryz.ntmps30
  go_wp2_with (first
    | (go_at_call 36; refine (implTop_x _).mono ?_; rintro e w2 ⟨rfl, hw2⟩; subst hw2)
    | (go_at_call 49; refine hcall.out.mono ?_; rintro e w1 ⟨tv, sv, rfl, hT, hs⟩))
  have hT2 := hid (hT.elder hb0)
  obtain ⟨va, vc, rfl, _⟩ := hT.shape
  go_ret
  exact ⟨_, rfl, hT2.out.hb, by rw [← hR.out]; exact hT2.out.own⟩
end Go.Proofs.YtkelhmgdajiocaaGreatDoor
