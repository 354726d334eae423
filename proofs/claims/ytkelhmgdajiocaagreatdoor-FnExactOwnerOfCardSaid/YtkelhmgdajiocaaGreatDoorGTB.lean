/- Walks and lemmas of this seat (FSpanM): what each theorem says of the functions that it names. Conditions: those that each theorem states. -/
import Derived.Test.YtkelhmgdajiocaaGreatDoorGTA
import Derived.Test.YtkelhmgdajiocaaGreatDoorFKidPosS
namespace Go.Proofs.YtkelhmgdajiocaaGreatDoor
set_option linter.unusedVariables false
set_option linter.unusedSimpArgs false
open Go.RowKit Go.Lib

set_option maxRecDepth 100000 in
set_option maxHeartbeats 6400000 in
theorem specl30Node_12 {w0 : World} {l0 : List Node} {a0 : Option Addr} {cap sb g oc i : Nat} {s : List Nat} {k0 k1 : Nat} {o : Int} {a b2 : ByteArray} (hv : NodeSlc w0 (.slice a0 l0.length cap) l0) (hx : l0[i]? = some ⟨12, o, a, b2, [(k0 : Int), (k1 : Int)]⟩) (hbi : s.getD i 0 ≤ i) (ho : o ≠ 99) (har : arity 12 2) (hop : ((12 : Nat) : Int) = 12 → opLevelB o ≠ 0) (hat0 : LAtC w0 l0 a0 cap sb g oc s k0) (hat1 : LAtC w0 l0 a0 cap sb g oc s k1) (hs0 : s.getD k0 0 = s.getD i 0) (hs1 : s.getD k1 0 = k0 + 1) (hgn0 : s.getD k0 0 + (treeIx l0 k0).post.length = k0 + 1) (hgn1 : s.getD k1 0 + (treeIx l0 k1).post.length = k1 + 1) (hgi : s.getD i 0 + (treeIx l0 i).post.length = i + 1) (hpi : (treeIx l0 i).post.length = (treeIx l0 k0).post.length + (treeIx l0 k1).post.length + 1) (hk0 : k0 < l0.length) (hk1 : k1 < l0.length) (hT : ∀ (p : Pos) (at_ : Nat), posOkB p = true → (treeIx l0 i).spB false p at_ = (Tree.spS false (treeIx l0 k0) (kidPosB 12 o 2 0 p) (at_) ++ Tree.spS false (treeIx l0 k1) (kidPosB 12 o 2 1 p) (at_ + (Tree.tks false (treeIx l0 k0) (kidPosB 12 o 2 0 p)).length + 1)) ++ [⟨at_, ((at_ + ((Tree.tks false (treeIx l0 k0) (kidPosB 12 o 2 0 p)).length + 1 + (Tree.tks false (treeIx l0 k1) (kidPosB 12 o 2 1 p)).length) : Nat) : Int)⟩] ∧ ((treeIx l0 i).tkb false p).length = (Tree.tks false (treeIx l0 k0) (kidPosB 12 o 2 0 p)).length + 1 + (Tree.tks false (treeIx l0 k1) (kidPosB 12 o 2 1 p)).length) : LNodeC w0 l0 a0 cap sb g oc s i := by
  intro p W O at_ hp hO hat
  obtain ⟨a1, cap1, he1, hm1, hc1, hsl⟩ := hv.shape
  injection he1 with e1 _ e3
  subst e1; subst e3
  have hi := (List.getElem?_eq_some_iff.1 hx).1
  obtain ⟨x, ka, kc, b, off, hx2, he2, c0, c1, c2, c3, c4, hkd⟩ := hsl.at (Below.refl _ _) (Nat.le_refl _) hi
  obtain rfl : x = ⟨12, o, a, b2, [(k0 : Int), (k1 : Int)]⟩ := Option.some.inj (hx2.symm.trans hx)
  subst he2
  obtain ⟨_, _, _, hkv, hkc, hkm, hkrow⟩ := hkd
  simp at hkv
  obtain ⟨rfl, rfl⟩ := hkv
  have hbl : b < w0.heap.size := World.block_lt_of_cell? w0 _ c0
  obtain ⟨hT1, hT2⟩ := hT p at_ hp
  replace hT1 := hid hT1
  replace hT2 := hid hT2
  obtain ⟨z, hz⟩ := get_of_lt (show i < O.length by rw [hO.len]; exact hi)
  replace c0 := keepc hO.hb c0
  replace c1 := keepc hO.hb c1
  replace c2 := keepc hO.hb c2
  replace c3 := keepc hO.hb c3
  replace c4 := keepc hO.hb c4
  have hii : (i : Int) < (l0.length : Int) := by omega
  have hOl := hid hO.len
  unfold maxLen at hkm
  obtain ⟨kb, koff, rfl, hkro⟩ := slc_some hkrow (by simp)
  have kc0 : w0.cell? ⟨kb, koff, none⟩ = some (.int .i64 (k0 : Nat)) := by
    have := hkro.one int1_len (show [(k0 : Int), (k1 : Int)][0]? = some (k0 : Int) from rfl) rfl
    simpa using this
  have kc1 : w0.cell? ⟨kb, koff + 1, none⟩ = some (.int .i64 (k1 : Nat)) := by
    have := hkro.one int1_len (show [(k0 : Int), (k1 : Int)][1]? = some (k1 : Int) from rfl) rfl
    simpa using this
  have hkbg : kb ≠ g := by have := World.block_lt_of_cell? w0 _ kc0; have h2 := hO.hg; simp only at this; omega
  have hq0 := hid (kidPos_ok (k := 12) (o := o) (n := 2) (j := 0) hp (by omega) (levelB_pos har.1 hop))
  have hkp0 := hid (fun W' => show Calls Tryz.prog 103 #[.agg #[.int .i64 12, .int .i64 o, .string a, .string b2, .slice (some ⟨kb, koff, none⟩) 2 kc], .int .i64 0, .agg #[.int .i64 p.level, .bool p.dollar, .bool p.noIn, .bool p.noGt, .bool p.noSign]] W' fun e w' => e = .returned (.agg #[.int .i64 (kidPosB 12 o 2 0 p).level, .bool (kidPosB 12 o 2 0 p).dollar, .bool (kidPosB 12 o 2 0 p).noIn, .bool (kidPosB 12 o 2 0 p).noGt, .bool (kidPosB 12 o 2 0 p).noSign]) ∧ Below W'.heap.size W' w' from specKidPos_any 12 o a b2 (some ⟨kb, koff, none⟩) 2 kc 0 p W' hp (by omega) har hop)
  have hatt0 := hid (fun W' O' a' (hO' : OSt w0 W' sb g oc (some ⟨b, off, none⟩) l0.length cap O') h => hat0 (kidPosB 12 o 2 0 p) W' O' a' hq0.out hO' h)
  have hsl0 := fun a' => (treeIx l0 k0).spS_len false (kidPosB 12 o 2 0 p) a'
  have htl0 := (treeIx l0 k0).tks_len false (kidPosB 12 o 2 0 p)
  unfold SpanPost at hatt0
  generalize Tree.spS false (treeIx l0 k0) (kidPosB 12 o 2 0 p) = S0 at *
  generalize Tree.tks false (treeIx l0 k0) (kidPosB 12 o 2 0 p) = T0 at *
  generalize kidPosB 12 o 2 0 p = p0 at *
  have hq1 := hid (kidPos_ok (k := 12) (o := o) (n := 2) (j := 1) hp (by omega) (levelB_pos har.1 hop))
  have hkp1 := hid (fun W' => show Calls Tryz.prog 103 #[.agg #[.int .i64 12, .int .i64 o, .string a, .string b2, .slice (some ⟨kb, koff, none⟩) 2 kc], .int .i64 1, .agg #[.int .i64 p.level, .bool p.dollar, .bool p.noIn, .bool p.noGt, .bool p.noSign]] W' fun e w' => e = .returned (.agg #[.int .i64 (kidPosB 12 o 2 1 p).level, .bool (kidPosB 12 o 2 1 p).dollar, .bool (kidPosB 12 o 2 1 p).noIn, .bool (kidPosB 12 o 2 1 p).noGt, .bool (kidPosB 12 o 2 1 p).noSign]) ∧ Below W'.heap.size W' w' from specKidPos_any 12 o a b2 (some ⟨kb, koff, none⟩) 2 kc 1 p W' hp (by omega) har hop)
  have hatt1 := hid (fun W' O' a' (hO' : OSt w0 W' sb g oc (some ⟨b, off, none⟩) l0.length cap O') h => hat1 (kidPosB 12 o 2 1 p) W' O' a' hq1.out hO' h)
  have hsl1 := fun a' => (treeIx l0 k1).spS_len false (kidPosB 12 o 2 1 p) a'
  have htl1 := (treeIx l0 k1).tks_len false (kidPosB 12 o 2 1 p)
  unfold SpanPost at hatt1
  generalize Tree.spS false (treeIx l0 k1) (kidPosB 12 o 2 1 p) = S1 at *
  generalize Tree.tks false (treeIx l0 k1) (kidPosB 12 o 2 1 p) = T1 at *
  generalize kidPosB 12 o 2 1 p = p1 at *
  obtain ⟨v0, hv0⟩ : ∃ x, x = at_ + T0.length := ⟨_, rfl⟩
  obtain ⟨a1', ha1'⟩ : ∃ x, x = v0 + 1 := ⟨_, rfl⟩
  obtain ⟨v1, hv1⟩ : ∃ x, x = a1' + T1.length := ⟨_, rfl⟩
  generalize (treeIx l0 k0).post.length = P0 at *
  generalize (treeIx l0 k1).post.length = P1 at *
  generalize (treeIx l0 i).post.length = PI at *
  have hblw : b < W.heap.size := Nat.lt_of_lt_of_le hbl hO.hb.size
  have gl := hO.ltg
  have bx := hO.box
  have s0 : W.cell? ⟨sb, 0, none⟩ = some (.slice (some ⟨b, off, none⟩) l0.length cap) := box_cell bx rfl
  have s2 : W.cell? ⟨sb, 2, none⟩ = some (.slice (some ⟨g, 0, none⟩) l0.length oc) := box_cell bx rfl
  have g0 := own_read hO.row (span_get hz 0 rfl)
  have gf := sp_froz hO.row (i * 2)
  simp only [Nat.add_zero] at g0
  have hsl2 : sb < W.heap.size := heap_lt bx
  have hnsg := hO.hne
  have hwa1 : IntKind.wrap .i64 ((at_ : Int) + 1) = ((at_ + 1 : Nat) : Int) := by rw [wrap_in _ (by unfold I64; omega)]; omega
  have hws0 : IntKind.wrap .i64 ((v0 : Int) + 1) = (a1' : Int) := by rw [wrap_in _ (by unfold I64; omega)]; omega
  have hTx := hid (show Tree.spB false (treeIx l0 i) p at_ = (S0 (at_) ++ S1 (a1')) ++ [⟨(at_ : Nat), (v1 : Nat)⟩] from by
    have hE : at_ + ((T0).length + 1 + (T1).length) = v1 := by omega
    rw [hT1.out, hE]
    first | done | simp only [hv1, hv1, ha1', hv0])
  have hend : Hid (v1 = at_ + ((T0).length + 1 + (T1).length)) := hid (by omega)
  have hO1 := hid (((((hO.set (i * 2) (.int .i64 (at_ : Nat)) (span_set0 hz (at_ : Nat))).below ((Below.refl _ _).alloc (Nat.le_refl _) (.cells #[.int .i64 p.level, .bool p.dollar, .bool p.noIn, .bool p.noGt, .bool p.noSign] 36))).below ((Below.refl _ _).alloc (Nat.le_refl _) (.cells #[.int .i64 12, .int .i64 o, .string a, .string b2, .slice (some ⟨kb, koff, none⟩) 2 kc] 58))).below ((Below.refl _ _).alloc (Nat.le_refl _) (.cells #[.int .i64 14, .bool false, .bool false, .bool false, .bool false] 36))))
  have hg1 := hid (show W.grownBy ((((W.setCell ⟨g, i * 2, none⟩ (.int .i64 (at_ : Nat))).alloc (.cells #[.int .i64 p.level, .bool p.dollar, .bool p.noIn, .bool p.noGt, .bool p.noSign] 36)).alloc (.cells #[.int .i64 12, .int .i64 o, .string a, .string b2, .slice (some ⟨kb, koff, none⟩) 2 kc] 58)).alloc (.cells #[.int .i64 14, .bool false, .bool false, .bool false, .bool false] 36)) (some g) from grown_trans (grown_trans (grown_trans (grown_set W g (i * 2) _) (World.grownBy_alloc _ _ _)) (World.grownBy_alloc _ _ _)) (World.grownBy_alloc _ _ _))
  obtain ⟨hx1, hx3, hxl⟩ := sp_alloc3 (W.setCell ⟨g, i * 2, none⟩ (.int .i64 (at_ : Nat))) (.cells #[.int .i64 p.level, .bool p.dollar, .bool p.noIn, .bool p.noGt, .bool p.noSign] 36) (.cells #[.int .i64 12, .int .i64 o, .string a, .string b2, .slice (some ⟨kb, koff, none⟩) 2 kc] 58) (.cells #[.int .i64 14, .bool false, .bool false, .bool false, .bool false] 36)
  rw [show (W.setCell ⟨g, i * 2, none⟩ (.int .i64 (at_ : Nat))).heap.size = W.heap.size by simp] at hx1 hx3 hxl
  replace hx1 := hid hx1
  replace hx3 := hid hx3
  replace hxl := hid hxl
  have hgw := hid gl
  have hz2 := hid hz
  replace hO := hid hO
  clear hT hz bx hx hx2
  generalize s.getD i 0 = bi at *
  generalize s.getD k0 0 = bk0 at *
  generalize s.getD k1 0 = bk1 at *
  replace hs0 := hid hs0
  replace hs1 := hid hs1
  replace hgn0 := hid hgn0
  replace hgn1 := hid hgn1
  replace hgi := hid hgi
  replace hpi := hid hpi
  replace hbi := hid hbi
  replace hat := hid hat
  replace hk0 := hid hk0
  replace hk1 := hid hk1
  replace hsl0 := hid hsl0
  replace hsl1 := hid hsl1
  replace htl0 := hid htl0
  replace htl1 := hid htl1
  replace ha1' := hid ha1'
  replace hv0 := hid hv0
  replace hv1 := hid hv1
  go_enter Tryz.func80, Tryz.ntmps80
  go_upto_region 4 with fail
  generalize (((W.setCell ⟨g, i * 2, none⟩ (.int .i64 (at_ : Nat))).alloc (.cells #[.int .i64 p.level, .bool p.dollar, .bool p.noIn, .bool p.noGt, .bool p.noSign] 36)).alloc (.cells #[.int .i64 12, .int .i64 o, .string a, .string b2, .slice (some ⟨kb, koff, none⟩) 2 kc] 58)).alloc (.cells #[.int .i64 14, .bool false, .bool false, .bool false, .bool false] 36) = W1 at hO1 hg1 hx1 hx3 hxl ⊢
  have hnb := hid (show W.heap.size ≠ g ∧ W.heap.size + 1 ≠ g ∧ W.heap.size + 1 + 1 ≠ g from by have := hgw.out; omega)
  clear s0 s2 g0 gf c0 c1 c2 c3 c4 hsl2 hblw gl hnsg
  have kd0 := keepc hO1.out.hb kc0
  have kd1 := keepc hO1.out.hb kc1
  clear kc0 kc1 hkro hkrow
  have hS := hid (show ∀ W', W1.grownBy W' (some g) → W'.cell? ⟨W.heap.size, 0, none⟩ = some (.int .i64 p.level) ∧ W'.cell? ⟨W.heap.size, 1, none⟩ = some (.bool p.dollar) ∧ W'.cell? ⟨W.heap.size, 2, none⟩ = some (.bool p.noIn) ∧ W'.cell? ⟨W.heap.size, 3, none⟩ = some (.bool p.noGt) ∧ W'.cell? ⟨W.heap.size, 4, none⟩ = some (.bool p.noSign) ∧ W'.cell? ⟨W.heap.size + 1, 0, none⟩ = some (.int .i64 12) ∧ W'.cell? ⟨W.heap.size + 1, 1, none⟩ = some (.int .i64 o) ∧ W'.cell? ⟨W.heap.size + 1, 2, none⟩ = some (.string a) ∧ W'.cell? ⟨W.heap.size + 1, 3, none⟩ = some (.string b2) ∧ W'.cell? ⟨W.heap.size + 1, 4, none⟩ = some (.slice (some ⟨kb, koff, none⟩) 2 kc) ∧ W'.cell? ⟨W.heap.size + 1 + 1, 0, none⟩ = some (.int .i64 14) ∧ W'.cell? ⟨W.heap.size + 1 + 1, 1, none⟩ = some (.bool false) ∧ W'.cell? ⟨W.heap.size + 1 + 1, 2, none⟩ = some (.bool false) ∧ W'.cell? ⟨W.heap.size + 1 + 1, 3, none⟩ = some (.bool false) ∧ W'.cell? ⟨W.heap.size + 1 + 1, 4, none⟩ = some (.bool false) ∧ W'.cell? ⟨kb, koff, none⟩ = some (.int .i64 (k0 : Nat)) ∧ W'.cell? ⟨kb, koff + 1, none⟩ = some (.int .i64 (k1 : Nat)) from fun W' hW => ⟨box_cell (grow_block hW hx1.out hnb.out.1) rfl, box_cell (grow_block hW hx1.out hnb.out.1) rfl, box_cell (grow_block hW hx1.out hnb.out.1) rfl, box_cell (grow_block hW hx1.out hnb.out.1) rfl, box_cell (grow_block hW hx1.out hnb.out.1) rfl, box_cell (grow_block hW hx3.out hnb.out.2.1) rfl, box_cell (grow_block hW hx3.out hnb.out.2.1) rfl, box_cell (grow_block hW hx3.out hnb.out.2.1) rfl, box_cell (grow_block hW hx3.out hnb.out.2.1) rfl, box_cell (grow_block hW hx3.out hnb.out.2.1) rfl, box_cell (grow_block hW hxl.out hnb.out.2.2) rfl, box_cell (grow_block hW hxl.out hnb.out.2.2) rfl, box_cell (grow_block hW hxl.out hnb.out.2.2) rfl, box_cell (grow_block hW hxl.out hnb.out.2.2) rfl, box_cell (grow_block hW hxl.out hnb.out.2.2) rfl, grow_cell hW kd0 hkbg, grow_cell hW kd1 hkbg⟩)
  have hGn := hid (grown_refl W1 (some g))
  have hOn := hO1
  all_goals
    obtain ⟨y0, y1, y2, y3, y4, y5, y6, y7, y8, y9, y10, y11, y12, y13, y14, y15, y16⟩ := hS.out _ hGn.out
    go_wp2_with fail
    clear y0 y1 y2 y3 y4 y5 y6 y7 y8 y9 y10 y11 y12 y13 y14 y15 y16
  all_goals
    have hGd : W1.grownBy W1.drew (some g) := grown_trans hGn.out (below_gr (Below.refl _ _).drew g)
    go_region_held3 (fun W' => W'.cell? ⟨W.heap.size, 0, none⟩ = some (.int .i64 p.level) ∧ W'.cell? ⟨W.heap.size, 1, none⟩ = some (.bool p.dollar) ∧ W'.cell? ⟨W.heap.size, 2, none⟩ = some (.bool p.noIn) ∧ W'.cell? ⟨W.heap.size, 3, none⟩ = some (.bool p.noGt) ∧ W'.cell? ⟨W.heap.size, 4, none⟩ = some (.bool p.noSign) ∧ W'.cell? ⟨W.heap.size + 1, 0, none⟩ = some (.int .i64 12) ∧ W'.cell? ⟨W.heap.size + 1, 1, none⟩ = some (.int .i64 o) ∧ W'.cell? ⟨W.heap.size + 1, 2, none⟩ = some (.string a) ∧ W'.cell? ⟨W.heap.size + 1, 3, none⟩ = some (.string b2) ∧ W'.cell? ⟨W.heap.size + 1, 4, none⟩ = some (.slice (some ⟨kb, koff, none⟩) 2 kc) ∧ W'.cell? ⟨W.heap.size + 1 + 1, 0, none⟩ = some (.int .i64 14) ∧ W'.cell? ⟨W.heap.size + 1 + 1, 1, none⟩ = some (.bool false) ∧ W'.cell? ⟨W.heap.size + 1 + 1, 2, none⟩ = some (.bool false) ∧ W'.cell? ⟨W.heap.size + 1 + 1, 3, none⟩ = some (.bool false) ∧ W'.cell? ⟨W.heap.size + 1 + 1, 4, none⟩ = some (.bool false) ∧ W'.cell? ⟨kb, koff, none⟩ = some (.int .i64 (k0 : Nat)) ∧ W'.cell? ⟨kb, koff + 1, none⟩ = some (.int .i64 (k1 : Nat)))
      (first
        | (refine hS.out _ ?_
           with_reducible (first
             | exact hGd
             | exact hGk
             | exact hGl0)))
      (first
        | (go_at_call 103; refine (hkp0.out _).mono ?_; rintro e wk ⟨rfl, hbk0⟩; have hbk : Below W1.heap.size W1 wk := ((Below.refl W1.heap.size W1).drew).trans (hbk0.mono (Nat.le_refl _)); have hGk := grown_trans hGn.out (below_gr hbk g); have hOk := hOn.out.below hbk; clear hbk0)
        | (go_at_call 62; refine (hatt0.out _ _ (at_) hOk (by have hs0 := hs0.out; have hs1 := hs1.out; have hgn0 := hgn0.out; have hgn1 := hgn1.out; have hgi := hgi.out; have hpi := hpi.out; have hbi := hbi.out; have hat := hat.out; have hk0 := hk0.out; have hk1 := hk1.out; have hsl0 := hsl0.out; have hsl1 := hsl1.out; have htl0 := htl0.out; have htl1 := htl1.out; have ha1' := ha1'.out; have hv0 := hv0.out; have hv1 := hv1.out; omega)).mono ?_; rintro e wn0 ⟨he, hgl0, hOl0⟩; rw [← hv0.out] at he; subst he; have hGl0 := grown_trans hGk hgl0))
  all_goals
    have hOn : Hid (OSt w0 wn0 sb g oc (some ⟨b, off, none⟩) l0.length cap (putS (O.set i ⟨(at_ : Nat), z.hi⟩) bi (S0 (at_)))) := hid (by rw [← hs0.out]; exact hOl0)
    have hGn := hid hGl0
    clear hOl0 hgl0 hGl0 hGd hGk hbk hOk
  all_goals
    obtain ⟨y0, y1, y2, y3, y4, y5, y6, y7, y8, y9, y10, y11, y12, y13, y14, y15, y16⟩ := hS.out _ hGn.out
    go_wp2_with fail
    clear y0 y1 y2 y3 y4 y5 y6 y7 y8 y9 y10 y11 y12 y13 y14 y15 y16
  all_goals
    have hGd : W1.grownBy wn0.drew (some g) := grown_trans hGn.out (below_gr (Below.refl _ _).drew g)
    go_region_held3 (fun W' => W'.cell? ⟨W.heap.size, 0, none⟩ = some (.int .i64 p.level) ∧ W'.cell? ⟨W.heap.size, 1, none⟩ = some (.bool p.dollar) ∧ W'.cell? ⟨W.heap.size, 2, none⟩ = some (.bool p.noIn) ∧ W'.cell? ⟨W.heap.size, 3, none⟩ = some (.bool p.noGt) ∧ W'.cell? ⟨W.heap.size, 4, none⟩ = some (.bool p.noSign) ∧ W'.cell? ⟨W.heap.size + 1, 0, none⟩ = some (.int .i64 12) ∧ W'.cell? ⟨W.heap.size + 1, 1, none⟩ = some (.int .i64 o) ∧ W'.cell? ⟨W.heap.size + 1, 2, none⟩ = some (.string a) ∧ W'.cell? ⟨W.heap.size + 1, 3, none⟩ = some (.string b2) ∧ W'.cell? ⟨W.heap.size + 1, 4, none⟩ = some (.slice (some ⟨kb, koff, none⟩) 2 kc) ∧ W'.cell? ⟨W.heap.size + 1 + 1, 0, none⟩ = some (.int .i64 14) ∧ W'.cell? ⟨W.heap.size + 1 + 1, 1, none⟩ = some (.bool false) ∧ W'.cell? ⟨W.heap.size + 1 + 1, 2, none⟩ = some (.bool false) ∧ W'.cell? ⟨W.heap.size + 1 + 1, 3, none⟩ = some (.bool false) ∧ W'.cell? ⟨W.heap.size + 1 + 1, 4, none⟩ = some (.bool false) ∧ W'.cell? ⟨kb, koff, none⟩ = some (.int .i64 (k0 : Nat)) ∧ W'.cell? ⟨kb, koff + 1, none⟩ = some (.int .i64 (k1 : Nat)))
      (first
        | (refine hS.out _ ?_
           with_reducible (first
             | exact hGd
             | exact hGk
             | exact hGl1)))
      (first
        | (go_at_call 103; refine (hkp1.out _).mono ?_; rintro e wk ⟨rfl, hbk0⟩; have hbk : Below wn0.heap.size wn0 wk := ((Below.refl wn0.heap.size wn0).drew).trans (hbk0.mono (Nat.le_refl _)); have hGk := grown_trans hGn.out (below_gr hbk g); have hOk := hOn.out.below hbk; clear hbk0)
        | (go_at_call 62; refine (hatt1.out _ _ (a1') hOk (by have hs0 := hs0.out; have hs1 := hs1.out; have hgn0 := hgn0.out; have hgn1 := hgn1.out; have hgi := hgi.out; have hpi := hpi.out; have hbi := hbi.out; have hat := hat.out; have hk0 := hk0.out; have hk1 := hk1.out; have hsl0 := hsl0.out; have hsl1 := hsl1.out; have htl0 := htl0.out; have htl1 := htl1.out; have ha1' := ha1'.out; have hv0 := hv0.out; have hv1 := hv1.out; omega)).mono ?_; rintro e wn1 ⟨he, hgl1, hOl1⟩; rw [← hv1.out] at he; subst he; have hGl1 := grown_trans hGk hgl1))
  all_goals
    have hOn : Hid (OSt w0 wn1 sb g oc (some ⟨b, off, none⟩) l0.length cap (putS (O.set i ⟨(at_ : Nat), z.hi⟩) bi (S0 (at_) ++ S1 (a1')))) := hid (by rw [← putS_app (O := O.set i ⟨(at_ : Nat), z.hi⟩) (S := S0 (at_)) (T := S1 (a1')) (b := bi) (c := bk1) (by have hs0 := hs0.out; have hs1 := hs1.out; have hgn0 := hgn0.out; have hgn1 := hgn1.out; have hgi := hgi.out; have hpi := hpi.out; have hbi := hbi.out; have hat := hat.out; have hk0 := hk0.out; have hk1 := hk1.out; have hsl0 := hsl0.out; have hsl1 := hsl1.out; have htl0 := htl0.out; have htl1 := htl1.out; have ha1' := ha1'.out; have hv0 := hv0.out; have hv1 := hv1.out; simp only [List.length_append, hsl0, hsl1]; omega) (by have hs0 := hs0.out; have hs1 := hs1.out; have hgn0 := hgn0.out; have hgn1 := hgn1.out; have hgi := hgi.out; have hpi := hpi.out; have hbi := hbi.out; have hat := hat.out; have hk0 := hk0.out; have hk1 := hk1.out; have hsl0 := hsl0.out; have hsl1 := hsl1.out; have htl0 := htl0.out; have htl1 := htl1.out; have ha1' := ha1'.out; have hv0 := hv0.out; have hv1 := hv1.out; rw [List.length_set, hOl.out, hsl1]; omega)]; exact hOl1)
    have hGn := hid hGl1
    clear hOl1 hgl1 hGl1 hGd hGk hbk hOk
  all_goals
    have hzn := hid (span_mid (O := O) (S := S0 (at_) ++ S1 (a1')) (b := bi) (i := i) (x := ⟨(at_ : Nat), z.hi⟩) (by have hs0 := hs0.out; have hs1 := hs1.out; have hgn0 := hgn0.out; have hgn1 := hgn1.out; have hgi := hgi.out; have hpi := hpi.out; have hbi := hbi.out; have hat := hat.out; have hk0 := hk0.out; have hk1 := hk1.out; have hsl0 := hsl0.out; have hsl1 := hsl1.out; have htl0 := htl0.out; have htl1 := htl1.out; have ha1' := ha1'.out; have hv0 := hv0.out; have hv1 := hv1.out; simp only [List.length_append, List.length_nil, hsl0, hsl1]; omega) (by rw [hOl.out]; exact hi))
    have hdone := hid (span_done (O := O) (S := S0 (at_) ++ S1 (a1')) (b := bi) (i := i) (x := ⟨(at_ : Nat), z.hi⟩) (y := ⟨(at_ : Nat), (v1 : Nat)⟩) (by have hs0 := hs0.out; have hs1 := hs1.out; have hgn0 := hgn0.out; have hgn1 := hgn1.out; have hgi := hgi.out; have hpi := hpi.out; have hbi := hbi.out; have hat := hat.out; have hk0 := hk0.out; have hk1 := hk1.out; have hsl0 := hsl0.out; have hsl1 := hsl1.out; have htl0 := htl0.out; have htl1 := htl1.out; have ha1' := ha1'.out; have hv0 := hv0.out; have hv1 := hv1.out; simp only [List.length_append, List.length_nil, hsl0, hsl1]; omega) (by rw [hOl.out]; exact hi))
    have q2 : wn1.cell? ⟨sb, 2, none⟩ = some (.slice (some ⟨g, 0, none⟩) l0.length oc) := box_cell hOn.out.box rfl
    have q1 := own_read hOn.out.row (span_get hzn.out 1 rfl)
    have qf := sp_froz hOn.out.row (i * 2 + 1)
    have hfin := hid (hOn.out.set (i * 2 + 1) (.int .i64 (v1 : Nat)) (span_set1 hzn.out (v1 : Nat)))
    have hgf := hid (grown_trans (grown_trans hg1.out hGn.out) (grown_set wn1 g (i * 2 + 1) (.int .i64 (v1 : Nat))))
    clear hzn hOn hGn
    go_wp2
    go_ret
    exact ⟨ret_int (by rw [hT2.out, hend.out]), hgf.out, by rw [hTx.out, ← hdone.out]; exact hfin.out⟩
set_option maxRecDepth 100000 in
set_option maxHeartbeats 6400000 in
theorem specl30Node_99 {w0 : World} {l0 : List Node} {a0 : Option Addr} {cap sb g oc i : Nat} {s : List Nat} {k0 k1 : Nat}  {a b2 : ByteArray} (hv : NodeSlc w0 (.slice a0 l0.length cap) l0) (hx : l0[i]? = some ⟨12, 99, a, b2, [(k0 : Int), (k1 : Int)]⟩) (hbi : s.getD i 0 ≤ i) (har : arity 12 2) (hop : ((12 : Nat) : Int) = 12 → opLevelB 99 ≠ 0) (hat0 : LAtC w0 l0 a0 cap sb g oc s k0) (hat1 : LAtC w0 l0 a0 cap sb g oc s k1) (hs0 : s.getD k0 0 = s.getD i 0) (hs1 : s.getD k1 0 = k0 + 1) (hgn0 : s.getD k0 0 + (treeIx l0 k0).post.length = k0 + 1) (hgn1 : s.getD k1 0 + (treeIx l0 k1).post.length = k1 + 1) (hgi : s.getD i 0 + (treeIx l0 i).post.length = i + 1) (hpi : (treeIx l0 i).post.length = (treeIx l0 k0).post.length + (treeIx l0 k1).post.length + 1) (hk0 : k0 < l0.length) (hk1 : k1 < l0.length) (hT : ∀ (p : Pos) (at_ : Nat), posOkB p = true → (treeIx l0 i).spB false p at_ = (Tree.spS false (treeIx l0 k0) (kidPosB 12 99 2 0 p) (at_) ++ Tree.spS false (treeIx l0 k1) (kidPosB 12 99 2 1 p) (at_ + (Tree.tks false (treeIx l0 k0) (kidPosB 12 99 2 0 p)).length)) ++ [⟨at_, ((at_ + ((Tree.tks false (treeIx l0 k0) (kidPosB 12 99 2 0 p)).length + (Tree.tks false (treeIx l0 k1) (kidPosB 12 99 2 1 p)).length) : Nat) : Int)⟩] ∧ ((treeIx l0 i).tkb false p).length = (Tree.tks false (treeIx l0 k0) (kidPosB 12 99 2 0 p)).length + (Tree.tks false (treeIx l0 k1) (kidPosB 12 99 2 1 p)).length) : LNodeC w0 l0 a0 cap sb g oc s i := by
  intro p W O at_ hp hO hat
  obtain ⟨a1, cap1, he1, hm1, hc1, hsl⟩ := hv.shape
  injection he1 with e1 _ e3
  subst e1; subst e3
  have hi := (List.getElem?_eq_some_iff.1 hx).1
  obtain ⟨x, ka, kc, b, off, hx2, he2, c0, c1, c2, c3, c4, hkd⟩ := hsl.at (Below.refl _ _) (Nat.le_refl _) hi
  obtain rfl : x = ⟨12, 99, a, b2, [(k0 : Int), (k1 : Int)]⟩ := Option.some.inj (hx2.symm.trans hx)
  subst he2
  obtain ⟨_, _, _, hkv, hkc, hkm, hkrow⟩ := hkd
  simp at hkv
  obtain ⟨rfl, rfl⟩ := hkv
  have hbl : b < w0.heap.size := World.block_lt_of_cell? w0 _ c0
  obtain ⟨hT1, hT2⟩ := hT p at_ hp
  replace hT1 := hid hT1
  replace hT2 := hid hT2
  obtain ⟨z, hz⟩ := get_of_lt (show i < O.length by rw [hO.len]; exact hi)
  replace c0 := keepc hO.hb c0
  replace c1 := keepc hO.hb c1
  replace c2 := keepc hO.hb c2
  replace c3 := keepc hO.hb c3
  replace c4 := keepc hO.hb c4
  have hii : (i : Int) < (l0.length : Int) := by omega
  have hOl := hid hO.len
  unfold maxLen at hkm
  obtain ⟨kb, koff, rfl, hkro⟩ := slc_some hkrow (by simp)
  have kc0 : w0.cell? ⟨kb, koff, none⟩ = some (.int .i64 (k0 : Nat)) := by
    have := hkro.one int1_len (show [(k0 : Int), (k1 : Int)][0]? = some (k0 : Int) from rfl) rfl
    simpa using this
  have kc1 : w0.cell? ⟨kb, koff + 1, none⟩ = some (.int .i64 (k1 : Nat)) := by
    have := hkro.one int1_len (show [(k0 : Int), (k1 : Int)][1]? = some (k1 : Int) from rfl) rfl
    simpa using this
  have hkbg : kb ≠ g := by have := World.block_lt_of_cell? w0 _ kc0; have h2 := hO.hg; simp only at this; omega
  have hq0 := hid (kidPos_ok (k := 12) (o := 99) (n := 2) (j := 0) hp (by omega) (levelB_pos har.1 hop))
  have hkp0 := hid (fun W' => show Calls Tryz.prog 103 #[.agg #[.int .i64 12, .int .i64 99, .string a, .string b2, .slice (some ⟨kb, koff, none⟩) 2 kc], .int .i64 0, .agg #[.int .i64 p.level, .bool p.dollar, .bool p.noIn, .bool p.noGt, .bool p.noSign]] W' fun e w' => e = .returned (.agg #[.int .i64 (kidPosB 12 99 2 0 p).level, .bool (kidPosB 12 99 2 0 p).dollar, .bool (kidPosB 12 99 2 0 p).noIn, .bool (kidPosB 12 99 2 0 p).noGt, .bool (kidPosB 12 99 2 0 p).noSign]) ∧ Below W'.heap.size W' w' from specKidPos_any 12 99 a b2 (some ⟨kb, koff, none⟩) 2 kc 0 p W' hp (by omega) har hop)
  have hatt0 := hid (fun W' O' a' (hO' : OSt w0 W' sb g oc (some ⟨b, off, none⟩) l0.length cap O') h => hat0 (kidPosB 12 99 2 0 p) W' O' a' hq0.out hO' h)
  have hsl0 := fun a' => (treeIx l0 k0).spS_len false (kidPosB 12 99 2 0 p) a'
  have htl0 := (treeIx l0 k0).tks_len false (kidPosB 12 99 2 0 p)
  unfold SpanPost at hatt0
  generalize Tree.spS false (treeIx l0 k0) (kidPosB 12 99 2 0 p) = S0 at *
  generalize Tree.tks false (treeIx l0 k0) (kidPosB 12 99 2 0 p) = T0 at *
  generalize kidPosB 12 99 2 0 p = p0 at *
  have hq1 := hid (kidPos_ok (k := 12) (o := 99) (n := 2) (j := 1) hp (by omega) (levelB_pos har.1 hop))
  have hkp1 := hid (fun W' => show Calls Tryz.prog 103 #[.agg #[.int .i64 12, .int .i64 99, .string a, .string b2, .slice (some ⟨kb, koff, none⟩) 2 kc], .int .i64 1, .agg #[.int .i64 p.level, .bool p.dollar, .bool p.noIn, .bool p.noGt, .bool p.noSign]] W' fun e w' => e = .returned (.agg #[.int .i64 (kidPosB 12 99 2 1 p).level, .bool (kidPosB 12 99 2 1 p).dollar, .bool (kidPosB 12 99 2 1 p).noIn, .bool (kidPosB 12 99 2 1 p).noGt, .bool (kidPosB 12 99 2 1 p).noSign]) ∧ Below W'.heap.size W' w' from specKidPos_any 12 99 a b2 (some ⟨kb, koff, none⟩) 2 kc 1 p W' hp (by omega) har hop)
  have hatt1 := hid (fun W' O' a' (hO' : OSt w0 W' sb g oc (some ⟨b, off, none⟩) l0.length cap O') h => hat1 (kidPosB 12 99 2 1 p) W' O' a' hq1.out hO' h)
  have hsl1 := fun a' => (treeIx l0 k1).spS_len false (kidPosB 12 99 2 1 p) a'
  have htl1 := (treeIx l0 k1).tks_len false (kidPosB 12 99 2 1 p)
  unfold SpanPost at hatt1
  generalize Tree.spS false (treeIx l0 k1) (kidPosB 12 99 2 1 p) = S1 at *
  generalize Tree.tks false (treeIx l0 k1) (kidPosB 12 99 2 1 p) = T1 at *
  generalize kidPosB 12 99 2 1 p = p1 at *
  obtain ⟨v0, hv0⟩ : ∃ x, x = at_ + T0.length := ⟨_, rfl⟩
  obtain ⟨v1, hv1⟩ : ∃ x, x = v0 + T1.length := ⟨_, rfl⟩
  generalize (treeIx l0 k0).post.length = P0 at *
  generalize (treeIx l0 k1).post.length = P1 at *
  generalize (treeIx l0 i).post.length = PI at *
  have hblw : b < W.heap.size := Nat.lt_of_lt_of_le hbl hO.hb.size
  have gl := hO.ltg
  have bx := hO.box
  have s0 : W.cell? ⟨sb, 0, none⟩ = some (.slice (some ⟨b, off, none⟩) l0.length cap) := box_cell bx rfl
  have s2 : W.cell? ⟨sb, 2, none⟩ = some (.slice (some ⟨g, 0, none⟩) l0.length oc) := box_cell bx rfl
  have g0 := own_read hO.row (span_get hz 0 rfl)
  have gf := sp_froz hO.row (i * 2)
  simp only [Nat.add_zero] at g0
  have hsl2 : sb < W.heap.size := heap_lt bx
  have hnsg := hO.hne
  have hwa1 : IntKind.wrap .i64 ((at_ : Int) + 1) = ((at_ + 1 : Nat) : Int) := by rw [wrap_in _ (by unfold I64; omega)]; omega
  have hTx := hid (show Tree.spB false (treeIx l0 i) p at_ = (S0 (at_) ++ S1 (v0)) ++ [⟨(at_ : Nat), (v1 : Nat)⟩] from by
    have hE : at_ + ((T0).length + (T1).length) = v1 := by omega
    rw [hT1.out, hE]
    first | done | simp only [hv1, hv1, hv0, hv0])
  have hend : Hid (v1 = at_ + ((T0).length + (T1).length)) := hid (by omega)
  have hO1 := hid (((((hO.set (i * 2) (.int .i64 (at_ : Nat)) (span_set0 hz (at_ : Nat))).below ((Below.refl _ _).alloc (Nat.le_refl _) (.cells #[.int .i64 p.level, .bool p.dollar, .bool p.noIn, .bool p.noGt, .bool p.noSign] 36))).below ((Below.refl _ _).alloc (Nat.le_refl _) (.cells #[.int .i64 12, .int .i64 99, .string a, .string b2, .slice (some ⟨kb, koff, none⟩) 2 kc] 58))).below ((Below.refl _ _).alloc (Nat.le_refl _) (.cells #[.int .i64 14, .bool false, .bool false, .bool false, .bool false] 36))))
  have hg1 := hid (show W.grownBy ((((W.setCell ⟨g, i * 2, none⟩ (.int .i64 (at_ : Nat))).alloc (.cells #[.int .i64 p.level, .bool p.dollar, .bool p.noIn, .bool p.noGt, .bool p.noSign] 36)).alloc (.cells #[.int .i64 12, .int .i64 99, .string a, .string b2, .slice (some ⟨kb, koff, none⟩) 2 kc] 58)).alloc (.cells #[.int .i64 14, .bool false, .bool false, .bool false, .bool false] 36)) (some g) from grown_trans (grown_trans (grown_trans (grown_set W g (i * 2) _) (World.grownBy_alloc _ _ _)) (World.grownBy_alloc _ _ _)) (World.grownBy_alloc _ _ _))
  obtain ⟨hx1, hx3, hxl⟩ := sp_alloc3 (W.setCell ⟨g, i * 2, none⟩ (.int .i64 (at_ : Nat))) (.cells #[.int .i64 p.level, .bool p.dollar, .bool p.noIn, .bool p.noGt, .bool p.noSign] 36) (.cells #[.int .i64 12, .int .i64 99, .string a, .string b2, .slice (some ⟨kb, koff, none⟩) 2 kc] 58) (.cells #[.int .i64 14, .bool false, .bool false, .bool false, .bool false] 36)
  rw [show (W.setCell ⟨g, i * 2, none⟩ (.int .i64 (at_ : Nat))).heap.size = W.heap.size by simp] at hx1 hx3 hxl
  replace hx1 := hid hx1
  replace hx3 := hid hx3
  replace hxl := hid hxl
  have hgw := hid gl
  have hz2 := hid hz
  replace hO := hid hO
  clear hT hz bx hx hx2
  generalize s.getD i 0 = bi at *
  generalize s.getD k0 0 = bk0 at *
  generalize s.getD k1 0 = bk1 at *
  replace hs0 := hid hs0
  replace hs1 := hid hs1
  replace hgn0 := hid hgn0
  replace hgn1 := hid hgn1
  replace hgi := hid hgi
  replace hpi := hid hpi
  replace hbi := hid hbi
  replace hat := hid hat
  replace hk0 := hid hk0
  replace hk1 := hid hk1
  replace hsl0 := hid hsl0
  replace hsl1 := hid hsl1
  replace htl0 := hid htl0
  replace htl1 := hid htl1
  replace hv0 := hid hv0
  replace hv1 := hid hv1
  go_enter Tryz.func80, Tryz.ntmps80
  go_upto_region 4 with fail
  generalize (((W.setCell ⟨g, i * 2, none⟩ (.int .i64 (at_ : Nat))).alloc (.cells #[.int .i64 p.level, .bool p.dollar, .bool p.noIn, .bool p.noGt, .bool p.noSign] 36)).alloc (.cells #[.int .i64 12, .int .i64 99, .string a, .string b2, .slice (some ⟨kb, koff, none⟩) 2 kc] 58)).alloc (.cells #[.int .i64 14, .bool false, .bool false, .bool false, .bool false] 36) = W1 at hO1 hg1 hx1 hx3 hxl ⊢
  have hnb := hid (show W.heap.size ≠ g ∧ W.heap.size + 1 ≠ g ∧ W.heap.size + 1 + 1 ≠ g from by have := hgw.out; omega)
  clear s0 s2 g0 gf c0 c1 c2 c3 c4 hsl2 hblw gl hnsg
  have kd0 := keepc hO1.out.hb kc0
  have kd1 := keepc hO1.out.hb kc1
  clear kc0 kc1 hkro hkrow
  have hS := hid (show ∀ W', W1.grownBy W' (some g) → W'.cell? ⟨W.heap.size, 0, none⟩ = some (.int .i64 p.level) ∧ W'.cell? ⟨W.heap.size, 1, none⟩ = some (.bool p.dollar) ∧ W'.cell? ⟨W.heap.size, 2, none⟩ = some (.bool p.noIn) ∧ W'.cell? ⟨W.heap.size, 3, none⟩ = some (.bool p.noGt) ∧ W'.cell? ⟨W.heap.size, 4, none⟩ = some (.bool p.noSign) ∧ W'.cell? ⟨W.heap.size + 1, 0, none⟩ = some (.int .i64 12) ∧ W'.cell? ⟨W.heap.size + 1, 1, none⟩ = some (.int .i64 99) ∧ W'.cell? ⟨W.heap.size + 1, 2, none⟩ = some (.string a) ∧ W'.cell? ⟨W.heap.size + 1, 3, none⟩ = some (.string b2) ∧ W'.cell? ⟨W.heap.size + 1, 4, none⟩ = some (.slice (some ⟨kb, koff, none⟩) 2 kc) ∧ W'.cell? ⟨W.heap.size + 1 + 1, 0, none⟩ = some (.int .i64 14) ∧ W'.cell? ⟨W.heap.size + 1 + 1, 1, none⟩ = some (.bool false) ∧ W'.cell? ⟨W.heap.size + 1 + 1, 2, none⟩ = some (.bool false) ∧ W'.cell? ⟨W.heap.size + 1 + 1, 3, none⟩ = some (.bool false) ∧ W'.cell? ⟨W.heap.size + 1 + 1, 4, none⟩ = some (.bool false) ∧ W'.cell? ⟨kb, koff, none⟩ = some (.int .i64 (k0 : Nat)) ∧ W'.cell? ⟨kb, koff + 1, none⟩ = some (.int .i64 (k1 : Nat)) from fun W' hW => ⟨box_cell (grow_block hW hx1.out hnb.out.1) rfl, box_cell (grow_block hW hx1.out hnb.out.1) rfl, box_cell (grow_block hW hx1.out hnb.out.1) rfl, box_cell (grow_block hW hx1.out hnb.out.1) rfl, box_cell (grow_block hW hx1.out hnb.out.1) rfl, box_cell (grow_block hW hx3.out hnb.out.2.1) rfl, box_cell (grow_block hW hx3.out hnb.out.2.1) rfl, box_cell (grow_block hW hx3.out hnb.out.2.1) rfl, box_cell (grow_block hW hx3.out hnb.out.2.1) rfl, box_cell (grow_block hW hx3.out hnb.out.2.1) rfl, box_cell (grow_block hW hxl.out hnb.out.2.2) rfl, box_cell (grow_block hW hxl.out hnb.out.2.2) rfl, box_cell (grow_block hW hxl.out hnb.out.2.2) rfl, box_cell (grow_block hW hxl.out hnb.out.2.2) rfl, box_cell (grow_block hW hxl.out hnb.out.2.2) rfl, grow_cell hW kd0 hkbg, grow_cell hW kd1 hkbg⟩)
  have hGn := hid (grown_refl W1 (some g))
  have hOn := hO1
  all_goals
    obtain ⟨y0, y1, y2, y3, y4, y5, y6, y7, y8, y9, y10, y11, y12, y13, y14, y15, y16⟩ := hS.out _ hGn.out
    go_wp2_with fail
    clear y0 y1 y2 y3 y4 y5 y6 y7 y8 y9 y10 y11 y12 y13 y14 y15 y16
  all_goals
    have hGd : W1.grownBy W1.drew (some g) := grown_trans hGn.out (below_gr (Below.refl _ _).drew g)
    go_region_held3 (fun W' => W'.cell? ⟨W.heap.size, 0, none⟩ = some (.int .i64 p.level) ∧ W'.cell? ⟨W.heap.size, 1, none⟩ = some (.bool p.dollar) ∧ W'.cell? ⟨W.heap.size, 2, none⟩ = some (.bool p.noIn) ∧ W'.cell? ⟨W.heap.size, 3, none⟩ = some (.bool p.noGt) ∧ W'.cell? ⟨W.heap.size, 4, none⟩ = some (.bool p.noSign) ∧ W'.cell? ⟨W.heap.size + 1, 0, none⟩ = some (.int .i64 12) ∧ W'.cell? ⟨W.heap.size + 1, 1, none⟩ = some (.int .i64 99) ∧ W'.cell? ⟨W.heap.size + 1, 2, none⟩ = some (.string a) ∧ W'.cell? ⟨W.heap.size + 1, 3, none⟩ = some (.string b2) ∧ W'.cell? ⟨W.heap.size + 1, 4, none⟩ = some (.slice (some ⟨kb, koff, none⟩) 2 kc) ∧ W'.cell? ⟨W.heap.size + 1 + 1, 0, none⟩ = some (.int .i64 14) ∧ W'.cell? ⟨W.heap.size + 1 + 1, 1, none⟩ = some (.bool false) ∧ W'.cell? ⟨W.heap.size + 1 + 1, 2, none⟩ = some (.bool false) ∧ W'.cell? ⟨W.heap.size + 1 + 1, 3, none⟩ = some (.bool false) ∧ W'.cell? ⟨W.heap.size + 1 + 1, 4, none⟩ = some (.bool false) ∧ W'.cell? ⟨kb, koff, none⟩ = some (.int .i64 (k0 : Nat)) ∧ W'.cell? ⟨kb, koff + 1, none⟩ = some (.int .i64 (k1 : Nat)))
      (first
        | (refine hS.out _ ?_
           with_reducible (first
             | exact hGd
             | exact hGk
             | exact hGl0)))
      (first
        | (go_at_call 103; refine (hkp0.out _).mono ?_; rintro e wk ⟨rfl, hbk0⟩; have hbk : Below W1.heap.size W1 wk := ((Below.refl W1.heap.size W1).drew).trans (hbk0.mono (Nat.le_refl _)); have hGk := grown_trans hGn.out (below_gr hbk g); have hOk := hOn.out.below hbk; clear hbk0)
        | (go_at_call 62; refine (hatt0.out _ _ (at_) hOk (by have hs0 := hs0.out; have hs1 := hs1.out; have hgn0 := hgn0.out; have hgn1 := hgn1.out; have hgi := hgi.out; have hpi := hpi.out; have hbi := hbi.out; have hat := hat.out; have hk0 := hk0.out; have hk1 := hk1.out; have hsl0 := hsl0.out; have hsl1 := hsl1.out; have htl0 := htl0.out; have htl1 := htl1.out; have hv0 := hv0.out; have hv1 := hv1.out; omega)).mono ?_; rintro e wn0 ⟨he, hgl0, hOl0⟩; rw [← hv0.out] at he; subst he; have hGl0 := grown_trans hGk hgl0))
  all_goals
    have hOn : Hid (OSt w0 wn0 sb g oc (some ⟨b, off, none⟩) l0.length cap (putS (O.set i ⟨(at_ : Nat), z.hi⟩) bi (S0 (at_)))) := hid (by rw [← hs0.out]; exact hOl0)
    have hGn := hid hGl0
    clear hOl0 hgl0 hGl0 hGd hGk hbk hOk
  all_goals
    obtain ⟨y0, y1, y2, y3, y4, y5, y6, y7, y8, y9, y10, y11, y12, y13, y14, y15, y16⟩ := hS.out _ hGn.out
    go_wp2_with fail
    clear y0 y1 y2 y3 y4 y5 y6 y7 y8 y9 y10 y11 y12 y13 y14 y15 y16
  all_goals
    have hGd : W1.grownBy wn0.drew (some g) := grown_trans hGn.out (below_gr (Below.refl _ _).drew g)
    go_region_held3 (fun W' => W'.cell? ⟨W.heap.size, 0, none⟩ = some (.int .i64 p.level) ∧ W'.cell? ⟨W.heap.size, 1, none⟩ = some (.bool p.dollar) ∧ W'.cell? ⟨W.heap.size, 2, none⟩ = some (.bool p.noIn) ∧ W'.cell? ⟨W.heap.size, 3, none⟩ = some (.bool p.noGt) ∧ W'.cell? ⟨W.heap.size, 4, none⟩ = some (.bool p.noSign) ∧ W'.cell? ⟨W.heap.size + 1, 0, none⟩ = some (.int .i64 12) ∧ W'.cell? ⟨W.heap.size + 1, 1, none⟩ = some (.int .i64 99) ∧ W'.cell? ⟨W.heap.size + 1, 2, none⟩ = some (.string a) ∧ W'.cell? ⟨W.heap.size + 1, 3, none⟩ = some (.string b2) ∧ W'.cell? ⟨W.heap.size + 1, 4, none⟩ = some (.slice (some ⟨kb, koff, none⟩) 2 kc) ∧ W'.cell? ⟨W.heap.size + 1 + 1, 0, none⟩ = some (.int .i64 14) ∧ W'.cell? ⟨W.heap.size + 1 + 1, 1, none⟩ = some (.bool false) ∧ W'.cell? ⟨W.heap.size + 1 + 1, 2, none⟩ = some (.bool false) ∧ W'.cell? ⟨W.heap.size + 1 + 1, 3, none⟩ = some (.bool false) ∧ W'.cell? ⟨W.heap.size + 1 + 1, 4, none⟩ = some (.bool false) ∧ W'.cell? ⟨kb, koff, none⟩ = some (.int .i64 (k0 : Nat)) ∧ W'.cell? ⟨kb, koff + 1, none⟩ = some (.int .i64 (k1 : Nat)))
      (first
        | (refine hS.out _ ?_
           with_reducible (first
             | exact hGd
             | exact hGk
             | exact hGl1)))
      (first
        | (go_at_call 103; refine (hkp1.out _).mono ?_; rintro e wk ⟨rfl, hbk0⟩; have hbk : Below wn0.heap.size wn0 wk := ((Below.refl wn0.heap.size wn0).drew).trans (hbk0.mono (Nat.le_refl _)); have hGk := grown_trans hGn.out (below_gr hbk g); have hOk := hOn.out.below hbk; clear hbk0)
        | (go_at_call 62; refine (hatt1.out _ _ (v0) hOk (by have hs0 := hs0.out; have hs1 := hs1.out; have hgn0 := hgn0.out; have hgn1 := hgn1.out; have hgi := hgi.out; have hpi := hpi.out; have hbi := hbi.out; have hat := hat.out; have hk0 := hk0.out; have hk1 := hk1.out; have hsl0 := hsl0.out; have hsl1 := hsl1.out; have htl0 := htl0.out; have htl1 := htl1.out; have hv0 := hv0.out; have hv1 := hv1.out; omega)).mono ?_; rintro e wn1 ⟨he, hgl1, hOl1⟩; rw [← hv1.out] at he; subst he; have hGl1 := grown_trans hGk hgl1))
  all_goals
    have hOn : Hid (OSt w0 wn1 sb g oc (some ⟨b, off, none⟩) l0.length cap (putS (O.set i ⟨(at_ : Nat), z.hi⟩) bi (S0 (at_) ++ S1 (v0)))) := hid (by rw [← putS_app (O := O.set i ⟨(at_ : Nat), z.hi⟩) (S := S0 (at_)) (T := S1 (v0)) (b := bi) (c := bk1) (by have hs0 := hs0.out; have hs1 := hs1.out; have hgn0 := hgn0.out; have hgn1 := hgn1.out; have hgi := hgi.out; have hpi := hpi.out; have hbi := hbi.out; have hat := hat.out; have hk0 := hk0.out; have hk1 := hk1.out; have hsl0 := hsl0.out; have hsl1 := hsl1.out; have htl0 := htl0.out; have htl1 := htl1.out; have hv0 := hv0.out; have hv1 := hv1.out; simp only [List.length_append, hsl0, hsl1]; omega) (by have hs0 := hs0.out; have hs1 := hs1.out; have hgn0 := hgn0.out; have hgn1 := hgn1.out; have hgi := hgi.out; have hpi := hpi.out; have hbi := hbi.out; have hat := hat.out; have hk0 := hk0.out; have hk1 := hk1.out; have hsl0 := hsl0.out; have hsl1 := hsl1.out; have htl0 := htl0.out; have htl1 := htl1.out; have hv0 := hv0.out; have hv1 := hv1.out; rw [List.length_set, hOl.out, hsl1]; omega)]; exact hOl1)
    have hGn := hid hGl1
    clear hOl1 hgl1 hGl1 hGd hGk hbk hOk
  all_goals
    have hzn := hid (span_mid (O := O) (S := S0 (at_) ++ S1 (v0)) (b := bi) (i := i) (x := ⟨(at_ : Nat), z.hi⟩) (by have hs0 := hs0.out; have hs1 := hs1.out; have hgn0 := hgn0.out; have hgn1 := hgn1.out; have hgi := hgi.out; have hpi := hpi.out; have hbi := hbi.out; have hat := hat.out; have hk0 := hk0.out; have hk1 := hk1.out; have hsl0 := hsl0.out; have hsl1 := hsl1.out; have htl0 := htl0.out; have htl1 := htl1.out; have hv0 := hv0.out; have hv1 := hv1.out; simp only [List.length_append, List.length_nil, hsl0, hsl1]; omega) (by rw [hOl.out]; exact hi))
    have hdone := hid (span_done (O := O) (S := S0 (at_) ++ S1 (v0)) (b := bi) (i := i) (x := ⟨(at_ : Nat), z.hi⟩) (y := ⟨(at_ : Nat), (v1 : Nat)⟩) (by have hs0 := hs0.out; have hs1 := hs1.out; have hgn0 := hgn0.out; have hgn1 := hgn1.out; have hgi := hgi.out; have hpi := hpi.out; have hbi := hbi.out; have hat := hat.out; have hk0 := hk0.out; have hk1 := hk1.out; have hsl0 := hsl0.out; have hsl1 := hsl1.out; have htl0 := htl0.out; have htl1 := htl1.out; have hv0 := hv0.out; have hv1 := hv1.out; simp only [List.length_append, List.length_nil, hsl0, hsl1]; omega) (by rw [hOl.out]; exact hi))
    have q2 : wn1.cell? ⟨sb, 2, none⟩ = some (.slice (some ⟨g, 0, none⟩) l0.length oc) := box_cell hOn.out.box rfl
    have q1 := own_read hOn.out.row (span_get hzn.out 1 rfl)
    have qf := sp_froz hOn.out.row (i * 2 + 1)
    have hfin := hid (hOn.out.set (i * 2 + 1) (.int .i64 (v1 : Nat)) (span_set1 hzn.out (v1 : Nat)))
    have hgf := hid (grown_trans (grown_trans hg1.out hGn.out) (grown_set wn1 g (i * 2 + 1) (.int .i64 (v1 : Nat))))
    clear hzn hOn hGn
    go_wp2
    go_ret
    exact ⟨ret_int (by rw [hT2.out, hend.out]), hgf.out, by rw [hTx.out, ← hdone.out]; exact hfin.out⟩
end Go.Proofs.YtkelhmgdajiocaaGreatDoor
/- Walks and lemmas of this seat (FSpanQ): what each theorem says of the functions that it names. Conditions: those that each theorem states. -/
namespace Go.Proofs.YtkelhmgdajiocaaGreatDoor
set_option linter.unusedVariables false
set_option linter.unusedSimpArgs false
open Go.RowKit Go.Lib

set_option maxRecDepth 100000 in
set_option maxHeartbeats 6400000 in
theorem specl30Node_15 {w0 : World} {l0 : List Node} {a0 : Option Addr} {cap sb g oc i : Nat} {s : List Nat} {k0 k1 : Nat} {o : Int} {a b2 : ByteArray} (hv : NodeSlc w0 (.slice a0 l0.length cap) l0) (hx : l0[i]? = some ⟨15, o, a, b2, [(k0 : Int), (k1 : Int)]⟩) (hbi : s.getD i 0 ≤ i) (har : arity 15 2) (hop : ((15 : Nat) : Int) = 12 → opLevelB o ≠ 0) (hlv : LNodeC w0 l0 a0 cap sb g oc s k0) (hat1 : LAtC w0 l0 a0 cap sb g oc s k1) (hs0 : s.getD k0 0 = s.getD i 0) (hs1 : s.getD k1 0 = k0 + 1) (hgn0 : s.getD k0 0 + (treeIx l0 k0).post.length = k0 + 1) (hgn1 : s.getD k1 0 + (treeIx l0 k1).post.length = k1 + 1) (hgi : s.getD i 0 + (treeIx l0 i).post.length = i + 1) (hpi : (treeIx l0 i).post.length = (treeIx l0 k0).post.length + (treeIx l0 k1).post.length + 1) (hk0 : k0 < l0.length) (hk1 : k1 < l0.length) (hT : ∀ (p : Pos) (at_ : Nat), posOkB p = true → (treeIx l0 i).spB false p at_ = (Tree.spB false (treeIx l0 k0) posLv (at_) ++ Tree.spS false (treeIx l0 k1) (kidPosB 15 o 2 1 p) (at_ + (Tree.tkb false (treeIx l0 k0) posLv).length + 1)) ++ [⟨at_, ((at_ + ((Tree.tkb false (treeIx l0 k0) posLv).length + 1 + (Tree.tks false (treeIx l0 k1) (kidPosB 15 o 2 1 p)).length) : Nat) : Int)⟩] ∧ ((treeIx l0 i).tkb false p).length = (Tree.tkb false (treeIx l0 k0) posLv).length + 1 + (Tree.tks false (treeIx l0 k1) (kidPosB 15 o 2 1 p)).length) : LNodeC w0 l0 a0 cap sb g oc s i := by
  intro p W O at_ hp hO hat
  obtain ⟨a1, cap1, he1, hm1, hc1, hsl⟩ := hv.shape
  injection he1 with e1 _ e3
  subst e1; subst e3
  have hi := (List.getElem?_eq_some_iff.1 hx).1
  obtain ⟨x, ka, kc, b, off, hx2, he2, c0, c1, c2, c3, c4, hkd⟩ := hsl.at (Below.refl _ _) (Nat.le_refl _) hi
  obtain rfl : x = ⟨15, o, a, b2, [(k0 : Int), (k1 : Int)]⟩ := Option.some.inj (hx2.symm.trans hx)
  subst he2
  obtain ⟨_, _, _, hkv, hkc, hkm, hkrow⟩ := hkd
  simp at hkv
  obtain ⟨rfl, rfl⟩ := hkv
  have hbl : b < w0.heap.size := World.block_lt_of_cell? w0 _ c0
  obtain ⟨hT1, hT2⟩ := hT p at_ hp
  replace hT1 := hid hT1
  replace hT2 := hid hT2
  obtain ⟨z, hz⟩ := get_of_lt (show i < O.length by rw [hO.len]; exact hi)
  replace c0 := keepc hO.hb c0
  replace c1 := keepc hO.hb c1
  replace c2 := keepc hO.hb c2
  replace c3 := keepc hO.hb c3
  replace c4 := keepc hO.hb c4
  have hii : (i : Int) < (l0.length : Int) := by omega
  have hOl := hid hO.len
  unfold maxLen at hkm
  obtain ⟨kb, koff, rfl, hkro⟩ := slc_some hkrow (by simp)
  have kc0 : w0.cell? ⟨kb, koff, none⟩ = some (.int .i64 (k0 : Nat)) := by
    have := hkro.one int1_len (show [(k0 : Int), (k1 : Int)][0]? = some (k0 : Int) from rfl) rfl
    simpa using this
  have kc1 : w0.cell? ⟨kb, koff + 1, none⟩ = some (.int .i64 (k1 : Nat)) := by
    have := hkro.one int1_len (show [(k0 : Int), (k1 : Int)][1]? = some (k1 : Int) from rfl) rfl
    simpa using this
  have hkbg : kb ≠ g := by have := World.block_lt_of_cell? w0 _ kc0; have h2 := hO.hg; simp only at this; omega
  have hatt0 := hid (fun W' O' a' (hO' : OSt w0 W' sb g oc (some ⟨b, off, none⟩) l0.length cap O') h => show Calls Tryz.prog 80 #[.pointer (some ⟨sb, 0, none⟩), .int .i64 (k0 : Nat), .agg #[.int .i64 14, .bool false, .bool false, .bool false, .bool false], .int .i64 (a' : Nat)] W' fun e w' => SpanPost w0 W' sb g oc (some ⟨b, off, none⟩) l0.length cap (putS O' (s.getD k0 0) (Tree.spB false (treeIx l0 k0) posLv a')) (a' + (Tree.tkb false (treeIx l0 k0) posLv).length) e w' from hlv posLv W' O' a' posOk_lv hO' h)
  have hsl0 := fun a' => (treeIx l0 k0).sp_len false posLv a'
  have htl0 := (treeIx l0 k0).tkb_len false posLv
  unfold SpanPost at hatt0
  generalize Tree.spB false (treeIx l0 k0) posLv = S0 at *
  generalize Tree.tkb false (treeIx l0 k0) posLv = T0 at *
  have hq1 := hid (kidPos_ok (k := 15) (o := o) (n := 2) (j := 1) hp (by omega) (levelB_pos har.1 hop))
  have hkp1 := hid (fun W' => show Calls Tryz.prog 103 #[.agg #[.int .i64 15, .int .i64 o, .string a, .string b2, .slice (some ⟨kb, koff, none⟩) 2 kc], .int .i64 1, .agg #[.int .i64 p.level, .bool p.dollar, .bool p.noIn, .bool p.noGt, .bool p.noSign]] W' fun e w' => e = .returned (.agg #[.int .i64 (kidPosB 15 o 2 1 p).level, .bool (kidPosB 15 o 2 1 p).dollar, .bool (kidPosB 15 o 2 1 p).noIn, .bool (kidPosB 15 o 2 1 p).noGt, .bool (kidPosB 15 o 2 1 p).noSign]) ∧ Below W'.heap.size W' w' from specKidPos_any 15 o a b2 (some ⟨kb, koff, none⟩) 2 kc 1 p W' hp (by omega) har hop)
  have hatt1 := hid (fun W' O' a' (hO' : OSt w0 W' sb g oc (some ⟨b, off, none⟩) l0.length cap O') h => hat1 (kidPosB 15 o 2 1 p) W' O' a' hq1.out hO' h)
  have hsl1 := fun a' => (treeIx l0 k1).spS_len false (kidPosB 15 o 2 1 p) a'
  have htl1 := (treeIx l0 k1).tks_len false (kidPosB 15 o 2 1 p)
  unfold SpanPost at hatt1
  generalize Tree.spS false (treeIx l0 k1) (kidPosB 15 o 2 1 p) = S1 at *
  generalize Tree.tks false (treeIx l0 k1) (kidPosB 15 o 2 1 p) = T1 at *
  generalize kidPosB 15 o 2 1 p = p1 at *
  obtain ⟨v0, hv0⟩ : ∃ x, x = at_ + T0.length := ⟨_, rfl⟩
  obtain ⟨a1', ha1'⟩ : ∃ x, x = v0 + 1 := ⟨_, rfl⟩
  obtain ⟨v1, hv1⟩ : ∃ x, x = a1' + T1.length := ⟨_, rfl⟩
  generalize (treeIx l0 k0).post.length = P0 at *
  generalize (treeIx l0 k1).post.length = P1 at *
  generalize (treeIx l0 i).post.length = PI at *
  have hblw : b < W.heap.size := Nat.lt_of_lt_of_le hbl hO.hb.size
  have gl := hO.ltg
  have bx := hO.box
  have s0 : W.cell? ⟨sb, 0, none⟩ = some (.slice (some ⟨b, off, none⟩) l0.length cap) := box_cell bx rfl
  have s2 : W.cell? ⟨sb, 2, none⟩ = some (.slice (some ⟨g, 0, none⟩) l0.length oc) := box_cell bx rfl
  have g0 := own_read hO.row (span_get hz 0 rfl)
  have gf := sp_froz hO.row (i * 2)
  simp only [Nat.add_zero] at g0
  have hsl2 : sb < W.heap.size := heap_lt bx
  have hnsg := hO.hne
  have hwa1 : IntKind.wrap .i64 ((at_ : Int) + 1) = ((at_ + 1 : Nat) : Int) := by rw [wrap_in _ (by unfold I64; omega)]; omega
  have hws0 : IntKind.wrap .i64 ((v0 : Int) + 1) = (a1' : Int) := by rw [wrap_in _ (by unfold I64; omega)]; omega
  have hTx := hid (show Tree.spB false (treeIx l0 i) p at_ = (S0 (at_) ++ S1 (a1')) ++ [⟨(at_ : Nat), (v1 : Nat)⟩] from by
    have hE : at_ + ((T0).length + 1 + (T1).length) = v1 := by omega
    rw [hT1.out, hE]
    first | done | simp only [hv1, hv1, ha1', hv0])
  have hend : Hid (v1 = at_ + ((T0).length + 1 + (T1).length)) := hid (by omega)
  have hO1 := hid (((((hO.set (i * 2) (.int .i64 (at_ : Nat)) (span_set0 hz (at_ : Nat))).below ((Below.refl _ _).alloc (Nat.le_refl _) (.cells #[.int .i64 p.level, .bool p.dollar, .bool p.noIn, .bool p.noGt, .bool p.noSign] 36))).below ((Below.refl _ _).alloc (Nat.le_refl _) (.cells #[.int .i64 15, .int .i64 o, .string a, .string b2, .slice (some ⟨kb, koff, none⟩) 2 kc] 58))).below ((Below.refl _ _).alloc (Nat.le_refl _) (.cells #[.int .i64 14, .bool false, .bool false, .bool false, .bool false] 36))))
  have hg1 := hid (show W.grownBy ((((W.setCell ⟨g, i * 2, none⟩ (.int .i64 (at_ : Nat))).alloc (.cells #[.int .i64 p.level, .bool p.dollar, .bool p.noIn, .bool p.noGt, .bool p.noSign] 36)).alloc (.cells #[.int .i64 15, .int .i64 o, .string a, .string b2, .slice (some ⟨kb, koff, none⟩) 2 kc] 58)).alloc (.cells #[.int .i64 14, .bool false, .bool false, .bool false, .bool false] 36)) (some g) from grown_trans (grown_trans (grown_trans (grown_set W g (i * 2) _) (World.grownBy_alloc _ _ _)) (World.grownBy_alloc _ _ _)) (World.grownBy_alloc _ _ _))
  obtain ⟨hx1, hx3, hxl⟩ := sp_alloc3 (W.setCell ⟨g, i * 2, none⟩ (.int .i64 (at_ : Nat))) (.cells #[.int .i64 p.level, .bool p.dollar, .bool p.noIn, .bool p.noGt, .bool p.noSign] 36) (.cells #[.int .i64 15, .int .i64 o, .string a, .string b2, .slice (some ⟨kb, koff, none⟩) 2 kc] 58) (.cells #[.int .i64 14, .bool false, .bool false, .bool false, .bool false] 36)
  rw [show (W.setCell ⟨g, i * 2, none⟩ (.int .i64 (at_ : Nat))).heap.size = W.heap.size by simp] at hx1 hx3 hxl
  replace hx1 := hid hx1
  replace hx3 := hid hx3
  replace hxl := hid hxl
  have hgw := hid gl
  have hz2 := hid hz
  replace hO := hid hO
  clear hT hz bx hx hx2
  generalize s.getD i 0 = bi at *
  generalize s.getD k0 0 = bk0 at *
  generalize s.getD k1 0 = bk1 at *
  replace hs0 := hid hs0
  replace hs1 := hid hs1
  replace hgn0 := hid hgn0
  replace hgn1 := hid hgn1
  replace hgi := hid hgi
  replace hpi := hid hpi
  replace hbi := hid hbi
  replace hat := hid hat
  replace hk0 := hid hk0
  replace hk1 := hid hk1
  replace hsl0 := hid hsl0
  replace hsl1 := hid hsl1
  replace htl0 := hid htl0
  replace htl1 := hid htl1
  replace ha1' := hid ha1'
  replace hv0 := hid hv0
  replace hv1 := hid hv1
  go_enter Tryz.func80, Tryz.ntmps80
  go_upto_region 4 with fail
  generalize (((W.setCell ⟨g, i * 2, none⟩ (.int .i64 (at_ : Nat))).alloc (.cells #[.int .i64 p.level, .bool p.dollar, .bool p.noIn, .bool p.noGt, .bool p.noSign] 36)).alloc (.cells #[.int .i64 15, .int .i64 o, .string a, .string b2, .slice (some ⟨kb, koff, none⟩) 2 kc] 58)).alloc (.cells #[.int .i64 14, .bool false, .bool false, .bool false, .bool false] 36) = W1 at hO1 hg1 hx1 hx3 hxl ⊢
  have hnb := hid (show W.heap.size ≠ g ∧ W.heap.size + 1 ≠ g ∧ W.heap.size + 1 + 1 ≠ g from by have := hgw.out; omega)
  clear s0 s2 g0 gf c0 c1 c2 c3 c4 hsl2 hblw gl hnsg
  have kd0 := keepc hO1.out.hb kc0
  have kd1 := keepc hO1.out.hb kc1
  clear kc0 kc1 hkro hkrow
  have hS := hid (show ∀ W', W1.grownBy W' (some g) → W'.cell? ⟨W.heap.size, 0, none⟩ = some (.int .i64 p.level) ∧ W'.cell? ⟨W.heap.size, 1, none⟩ = some (.bool p.dollar) ∧ W'.cell? ⟨W.heap.size, 2, none⟩ = some (.bool p.noIn) ∧ W'.cell? ⟨W.heap.size, 3, none⟩ = some (.bool p.noGt) ∧ W'.cell? ⟨W.heap.size, 4, none⟩ = some (.bool p.noSign) ∧ W'.cell? ⟨W.heap.size + 1, 0, none⟩ = some (.int .i64 15) ∧ W'.cell? ⟨W.heap.size + 1, 1, none⟩ = some (.int .i64 o) ∧ W'.cell? ⟨W.heap.size + 1, 2, none⟩ = some (.string a) ∧ W'.cell? ⟨W.heap.size + 1, 3, none⟩ = some (.string b2) ∧ W'.cell? ⟨W.heap.size + 1, 4, none⟩ = some (.slice (some ⟨kb, koff, none⟩) 2 kc) ∧ W'.cell? ⟨W.heap.size + 1 + 1, 0, none⟩ = some (.int .i64 14) ∧ W'.cell? ⟨W.heap.size + 1 + 1, 1, none⟩ = some (.bool false) ∧ W'.cell? ⟨W.heap.size + 1 + 1, 2, none⟩ = some (.bool false) ∧ W'.cell? ⟨W.heap.size + 1 + 1, 3, none⟩ = some (.bool false) ∧ W'.cell? ⟨W.heap.size + 1 + 1, 4, none⟩ = some (.bool false) ∧ W'.cell? ⟨kb, koff, none⟩ = some (.int .i64 (k0 : Nat)) ∧ W'.cell? ⟨kb, koff + 1, none⟩ = some (.int .i64 (k1 : Nat)) from fun W' hW => ⟨box_cell (grow_block hW hx1.out hnb.out.1) rfl, box_cell (grow_block hW hx1.out hnb.out.1) rfl, box_cell (grow_block hW hx1.out hnb.out.1) rfl, box_cell (grow_block hW hx1.out hnb.out.1) rfl, box_cell (grow_block hW hx1.out hnb.out.1) rfl, box_cell (grow_block hW hx3.out hnb.out.2.1) rfl, box_cell (grow_block hW hx3.out hnb.out.2.1) rfl, box_cell (grow_block hW hx3.out hnb.out.2.1) rfl, box_cell (grow_block hW hx3.out hnb.out.2.1) rfl, box_cell (grow_block hW hx3.out hnb.out.2.1) rfl, box_cell (grow_block hW hxl.out hnb.out.2.2) rfl, box_cell (grow_block hW hxl.out hnb.out.2.2) rfl, box_cell (grow_block hW hxl.out hnb.out.2.2) rfl, box_cell (grow_block hW hxl.out hnb.out.2.2) rfl, box_cell (grow_block hW hxl.out hnb.out.2.2) rfl, grow_cell hW kd0 hkbg, grow_cell hW kd1 hkbg⟩)
  have hGn := hid (grown_refl W1 (some g))
  have hOn := hO1
  all_goals
    obtain ⟨y0, y1, y2, y3, y4, y5, y6, y7, y8, y9, y10, y11, y12, y13, y14, y15, y16⟩ := hS.out _ hGn.out
    go_wp2_with fail
    clear y0 y1 y2 y3 y4 y5 y6 y7 y8 y9 y10 y11 y12 y13 y14 y15 y16
  all_goals
    have hGd : W1.grownBy W1.drew (some g) := grown_trans hGn.out (below_gr (Below.refl _ _).drew g)
    go_region_held3 (fun W' => W'.cell? ⟨W.heap.size, 0, none⟩ = some (.int .i64 p.level) ∧ W'.cell? ⟨W.heap.size, 1, none⟩ = some (.bool p.dollar) ∧ W'.cell? ⟨W.heap.size, 2, none⟩ = some (.bool p.noIn) ∧ W'.cell? ⟨W.heap.size, 3, none⟩ = some (.bool p.noGt) ∧ W'.cell? ⟨W.heap.size, 4, none⟩ = some (.bool p.noSign) ∧ W'.cell? ⟨W.heap.size + 1, 0, none⟩ = some (.int .i64 15) ∧ W'.cell? ⟨W.heap.size + 1, 1, none⟩ = some (.int .i64 o) ∧ W'.cell? ⟨W.heap.size + 1, 2, none⟩ = some (.string a) ∧ W'.cell? ⟨W.heap.size + 1, 3, none⟩ = some (.string b2) ∧ W'.cell? ⟨W.heap.size + 1, 4, none⟩ = some (.slice (some ⟨kb, koff, none⟩) 2 kc) ∧ W'.cell? ⟨W.heap.size + 1 + 1, 0, none⟩ = some (.int .i64 14) ∧ W'.cell? ⟨W.heap.size + 1 + 1, 1, none⟩ = some (.bool false) ∧ W'.cell? ⟨W.heap.size + 1 + 1, 2, none⟩ = some (.bool false) ∧ W'.cell? ⟨W.heap.size + 1 + 1, 3, none⟩ = some (.bool false) ∧ W'.cell? ⟨W.heap.size + 1 + 1, 4, none⟩ = some (.bool false) ∧ W'.cell? ⟨kb, koff, none⟩ = some (.int .i64 (k0 : Nat)) ∧ W'.cell? ⟨kb, koff + 1, none⟩ = some (.int .i64 (k1 : Nat)))
      (first
        | (refine hS.out _ ?_
           with_reducible (first
             | exact hGd
             | exact hGk
             | exact hGl0
             | exact hGl1)))
      (first
        | (go_at_call 103; refine (hkp1.out _).mono ?_; rintro e wk ⟨rfl, hbk0⟩; have hbk : Below W1.heap.size W1 wk := ((Below.refl W1.heap.size W1).drew).trans (hbk0.mono (Nat.le_refl _)); have hGk := grown_trans hGn.out (below_gr hbk g); have hOk := hOn.out.below hbk; clear hbk0)
        | (go_at_call 80; refine (hatt0.out _ _ (at_) hOk (by have hs0 := hs0.out; have hs1 := hs1.out; have hgn0 := hgn0.out; have hgn1 := hgn1.out; have hgi := hgi.out; have hpi := hpi.out; have hbi := hbi.out; have hat := hat.out; have hk0 := hk0.out; have hk1 := hk1.out; have hsl0 := hsl0.out; have hsl1 := hsl1.out; have htl0 := htl0.out; have htl1 := htl1.out; have ha1' := ha1'.out; have hv0 := hv0.out; have hv1 := hv1.out; omega)).mono ?_; rintro e wn0 ⟨he, hgl0, hOl0⟩; rw [← hv0.out] at he; subst he; have hGl0 := grown_trans hGk hgl0; have hOm : OSt w0 wn0 sb g oc (some ⟨b, off, none⟩) l0.length cap (putS (O.set i ⟨(at_ : Nat), z.hi⟩) bi (S0 (at_))) := (by rw [← hs0.out]; exact hOl0))
        | (go_at_call 62; refine (hatt1.out _ _ (a1') hOm (by have hs0 := hs0.out; have hs1 := hs1.out; have hgn0 := hgn0.out; have hgn1 := hgn1.out; have hgi := hgi.out; have hpi := hpi.out; have hbi := hbi.out; have hat := hat.out; have hk0 := hk0.out; have hk1 := hk1.out; have hsl0 := hsl0.out; have hsl1 := hsl1.out; have htl0 := htl0.out; have htl1 := htl1.out; have ha1' := ha1'.out; have hv0 := hv0.out; have hv1 := hv1.out; omega)).mono ?_; rintro e wn1 ⟨he, hgl1, hOl1⟩; rw [← hv1.out] at he; subst he; have hGl1 := grown_trans hGl0 hgl1))
  all_goals
    have hOn : Hid (OSt w0 wn1 sb g oc (some ⟨b, off, none⟩) l0.length cap (putS (O.set i ⟨(at_ : Nat), z.hi⟩) bi (S0 (at_) ++ S1 (a1')))) := hid (by rw [← putS_app (O := O.set i ⟨(at_ : Nat), z.hi⟩) (S := S0 (at_)) (T := S1 (a1')) (b := bi) (c := bk1) (by have hs0 := hs0.out; have hs1 := hs1.out; have hgn0 := hgn0.out; have hgn1 := hgn1.out; have hgi := hgi.out; have hpi := hpi.out; have hbi := hbi.out; have hat := hat.out; have hk0 := hk0.out; have hk1 := hk1.out; have hsl0 := hsl0.out; have hsl1 := hsl1.out; have htl0 := htl0.out; have htl1 := htl1.out; have ha1' := ha1'.out; have hv0 := hv0.out; have hv1 := hv1.out; simp only [List.length_append, hsl0, hsl1]; omega) (by have hs0 := hs0.out; have hs1 := hs1.out; have hgn0 := hgn0.out; have hgn1 := hgn1.out; have hgi := hgi.out; have hpi := hpi.out; have hbi := hbi.out; have hat := hat.out; have hk0 := hk0.out; have hk1 := hk1.out; have hsl0 := hsl0.out; have hsl1 := hsl1.out; have htl0 := htl0.out; have htl1 := htl1.out; have ha1' := ha1'.out; have hv0 := hv0.out; have hv1 := hv1.out; rw [List.length_set, hOl.out, hsl1]; omega)]; exact hOl1)
    have hGn := hid hGl1
    clear hOl1 hgl1 hGl1 hOl0 hgl0 hGl0 hGd hGk hbk hOk hOm
  all_goals
    have hzn := hid (span_mid (O := O) (S := S0 (at_) ++ S1 (a1')) (b := bi) (i := i) (x := ⟨(at_ : Nat), z.hi⟩) (by have hs0 := hs0.out; have hs1 := hs1.out; have hgn0 := hgn0.out; have hgn1 := hgn1.out; have hgi := hgi.out; have hpi := hpi.out; have hbi := hbi.out; have hat := hat.out; have hk0 := hk0.out; have hk1 := hk1.out; have hsl0 := hsl0.out; have hsl1 := hsl1.out; have htl0 := htl0.out; have htl1 := htl1.out; have ha1' := ha1'.out; have hv0 := hv0.out; have hv1 := hv1.out; simp only [List.length_append, List.length_nil, hsl0, hsl1]; omega) (by rw [hOl.out]; exact hi))
    have hdone := hid (span_done (O := O) (S := S0 (at_) ++ S1 (a1')) (b := bi) (i := i) (x := ⟨(at_ : Nat), z.hi⟩) (y := ⟨(at_ : Nat), (v1 : Nat)⟩) (by have hs0 := hs0.out; have hs1 := hs1.out; have hgn0 := hgn0.out; have hgn1 := hgn1.out; have hgi := hgi.out; have hpi := hpi.out; have hbi := hbi.out; have hat := hat.out; have hk0 := hk0.out; have hk1 := hk1.out; have hsl0 := hsl0.out; have hsl1 := hsl1.out; have htl0 := htl0.out; have htl1 := htl1.out; have ha1' := ha1'.out; have hv0 := hv0.out; have hv1 := hv1.out; simp only [List.length_append, List.length_nil, hsl0, hsl1]; omega) (by rw [hOl.out]; exact hi))
    have q2 : wn1.cell? ⟨sb, 2, none⟩ = some (.slice (some ⟨g, 0, none⟩) l0.length oc) := box_cell hOn.out.box rfl
    have q1 := own_read hOn.out.row (span_get hzn.out 1 rfl)
    have qf := sp_froz hOn.out.row (i * 2 + 1)
    have hfin := hid (hOn.out.set (i * 2 + 1) (.int .i64 (v1 : Nat)) (span_set1 hzn.out (v1 : Nat)))
    have hgf := hid (grown_trans (grown_trans hg1.out hGn.out) (grown_set wn1 g (i * 2 + 1) (.int .i64 (v1 : Nat))))
    clear hzn hOn hGn
    go_wp2
    go_ret
    exact ⟨ret_int (by rw [hT2.out, hend.out]), hgf.out, by rw [hTx.out, ← hdone.out]; exact hfin.out⟩
end Go.Proofs.YtkelhmgdajiocaaGreatDoor
/- Walks and lemmas of this seat (FSpanR): what each theorem says of the functions that it names. Conditions: those that each theorem states. -/
namespace Go.Proofs.YtkelhmgdajiocaaGreatDoor
set_option linter.unusedVariables false
set_option linter.unusedSimpArgs false
open Go.RowKit Go.Lib

set_option maxRecDepth 100000 in
set_option maxHeartbeats 6400000 in
theorem specl30Node_14 {w0 : World} {l0 : List Node} {a0 : Option Addr} {cap sb g oc i : Nat} {s : List Nat} {k0 k1 k2 : Nat} {o : Int} {a b2 : ByteArray} (hv : NodeSlc w0 (.slice a0 l0.length cap) l0) (hx : l0[i]? = some ⟨14, o, a, b2, [(k0 : Int), (k1 : Int), (k2 : Int)]⟩) (hbi : s.getD i 0 ≤ i) (har : arity 14 3) (hop : ((14 : Nat) : Int) = 12 → opLevelB o ≠ 0) (hat0 : LAtC w0 l0 a0 cap sb g oc s k0) (hat1 : LAtC w0 l0 a0 cap sb g oc s k1) (hat2 : LAtC w0 l0 a0 cap sb g oc s k2) (hs0 : s.getD k0 0 = s.getD i 0) (hs1 : s.getD k1 0 = k0 + 1) (hs2 : s.getD k2 0 = k1 + 1) (hgn0 : s.getD k0 0 + (treeIx l0 k0).post.length = k0 + 1) (hgn1 : s.getD k1 0 + (treeIx l0 k1).post.length = k1 + 1) (hgn2 : s.getD k2 0 + (treeIx l0 k2).post.length = k2 + 1) (hgi : s.getD i 0 + (treeIx l0 i).post.length = i + 1) (hpi : (treeIx l0 i).post.length = (treeIx l0 k0).post.length + (treeIx l0 k1).post.length + (treeIx l0 k2).post.length + 1) (hk0 : k0 < l0.length) (hk1 : k1 < l0.length) (hk2 : k2 < l0.length) (hT : ∀ (p : Pos) (at_ : Nat), posOkB p = true → (treeIx l0 i).spB false p at_ = ((Tree.spS false (treeIx l0 k0) (kidPosB 14 o 3 0 p) (at_) ++ Tree.spS false (treeIx l0 k1) (kidPosB 14 o 3 1 p) (at_ + (Tree.tks false (treeIx l0 k0) (kidPosB 14 o 3 0 p)).length + 1)) ++ Tree.spS false (treeIx l0 k2) (kidPosB 14 o 3 2 p) (at_ + (Tree.tks false (treeIx l0 k0) (kidPosB 14 o 3 0 p)).length + 1 + (Tree.tks false (treeIx l0 k1) (kidPosB 14 o 3 1 p)).length + 1)) ++ [⟨at_, ((at_ + ((Tree.tks false (treeIx l0 k0) (kidPosB 14 o 3 0 p)).length + 1 + (Tree.tks false (treeIx l0 k1) (kidPosB 14 o 3 1 p)).length + 1 + (Tree.tks false (treeIx l0 k2) (kidPosB 14 o 3 2 p)).length) : Nat) : Int)⟩] ∧ ((treeIx l0 i).tkb false p).length = (Tree.tks false (treeIx l0 k0) (kidPosB 14 o 3 0 p)).length + 1 + (Tree.tks false (treeIx l0 k1) (kidPosB 14 o 3 1 p)).length + 1 + (Tree.tks false (treeIx l0 k2) (kidPosB 14 o 3 2 p)).length) : LNodeC w0 l0 a0 cap sb g oc s i := by
  intro p W O at_ hp hO hat
  obtain ⟨a1, cap1, he1, hm1, hc1, hsl⟩ := hv.shape
  injection he1 with e1 _ e3
  subst e1; subst e3
  have hi := (List.getElem?_eq_some_iff.1 hx).1
  obtain ⟨x, ka, kc, b, off, hx2, he2, c0, c1, c2, c3, c4, hkd⟩ := hsl.at (Below.refl _ _) (Nat.le_refl _) hi
  obtain rfl : x = ⟨14, o, a, b2, [(k0 : Int), (k1 : Int), (k2 : Int)]⟩ := Option.some.inj (hx2.symm.trans hx)
  subst he2
  obtain ⟨_, _, _, hkv, hkc, hkm, hkrow⟩ := hkd
  simp at hkv
  obtain ⟨rfl, rfl⟩ := hkv
  have hbl : b < w0.heap.size := World.block_lt_of_cell? w0 _ c0
  obtain ⟨hT1, hT2⟩ := hT p at_ hp
  replace hT1 := hid hT1
  replace hT2 := hid hT2
  obtain ⟨z, hz⟩ := get_of_lt (show i < O.length by rw [hO.len]; exact hi)
  replace c0 := keepc hO.hb c0
  replace c1 := keepc hO.hb c1
  replace c2 := keepc hO.hb c2
  replace c3 := keepc hO.hb c3
  replace c4 := keepc hO.hb c4
  have hii : (i : Int) < (l0.length : Int) := by omega
  have hOl := hid hO.len
  unfold maxLen at hkm
  obtain ⟨kb, koff, rfl, hkro⟩ := slc_some hkrow (by simp)
  have kc0 : w0.cell? ⟨kb, koff, none⟩ = some (.int .i64 (k0 : Nat)) := by
    have := hkro.one int1_len (show [(k0 : Int), (k1 : Int), (k2 : Int)][0]? = some (k0 : Int) from rfl) rfl
    simpa using this
  have kc1 : w0.cell? ⟨kb, koff + 1, none⟩ = some (.int .i64 (k1 : Nat)) := by
    have := hkro.one int1_len (show [(k0 : Int), (k1 : Int), (k2 : Int)][1]? = some (k1 : Int) from rfl) rfl
    simpa using this
  have kc2 : w0.cell? ⟨kb, koff + 2, none⟩ = some (.int .i64 (k2 : Nat)) := by
    have := hkro.one int1_len (show [(k0 : Int), (k1 : Int), (k2 : Int)][2]? = some (k2 : Int) from rfl) rfl
    simpa using this
  have hkbg : kb ≠ g := by have := World.block_lt_of_cell? w0 _ kc0; have h2 := hO.hg; simp only at this; omega
  have hq0 := hid (kidPos_ok (k := 14) (o := o) (n := 3) (j := 0) hp (by omega) (levelB_pos har.1 hop))
  have hkp0 := hid (fun W' => show Calls Tryz.prog 103 #[.agg #[.int .i64 14, .int .i64 o, .string a, .string b2, .slice (some ⟨kb, koff, none⟩) 3 kc], .int .i64 0, .agg #[.int .i64 p.level, .bool p.dollar, .bool p.noIn, .bool p.noGt, .bool p.noSign]] W' fun e w' => e = .returned (.agg #[.int .i64 (kidPosB 14 o 3 0 p).level, .bool (kidPosB 14 o 3 0 p).dollar, .bool (kidPosB 14 o 3 0 p).noIn, .bool (kidPosB 14 o 3 0 p).noGt, .bool (kidPosB 14 o 3 0 p).noSign]) ∧ Below W'.heap.size W' w' from specKidPos_any 14 o a b2 (some ⟨kb, koff, none⟩) 3 kc 0 p W' hp (by omega) har hop)
  have hatt0 := hid (fun W' O' a' (hO' : OSt w0 W' sb g oc (some ⟨b, off, none⟩) l0.length cap O') h => hat0 (kidPosB 14 o 3 0 p) W' O' a' hq0.out hO' h)
  have hsl0 := fun a' => (treeIx l0 k0).spS_len false (kidPosB 14 o 3 0 p) a'
  have htl0 := (treeIx l0 k0).tks_len false (kidPosB 14 o 3 0 p)
  unfold SpanPost at hatt0
  generalize Tree.spS false (treeIx l0 k0) (kidPosB 14 o 3 0 p) = S0 at *
  generalize Tree.tks false (treeIx l0 k0) (kidPosB 14 o 3 0 p) = T0 at *
  generalize kidPosB 14 o 3 0 p = p0 at *
  have hq1 := hid (kidPos_ok (k := 14) (o := o) (n := 3) (j := 1) hp (by omega) (levelB_pos har.1 hop))
  have hkp1 := hid (fun W' => show Calls Tryz.prog 103 #[.agg #[.int .i64 14, .int .i64 o, .string a, .string b2, .slice (some ⟨kb, koff, none⟩) 3 kc], .int .i64 1, .agg #[.int .i64 p.level, .bool p.dollar, .bool p.noIn, .bool p.noGt, .bool p.noSign]] W' fun e w' => e = .returned (.agg #[.int .i64 (kidPosB 14 o 3 1 p).level, .bool (kidPosB 14 o 3 1 p).dollar, .bool (kidPosB 14 o 3 1 p).noIn, .bool (kidPosB 14 o 3 1 p).noGt, .bool (kidPosB 14 o 3 1 p).noSign]) ∧ Below W'.heap.size W' w' from specKidPos_any 14 o a b2 (some ⟨kb, koff, none⟩) 3 kc 1 p W' hp (by omega) har hop)
  have hatt1 := hid (fun W' O' a' (hO' : OSt w0 W' sb g oc (some ⟨b, off, none⟩) l0.length cap O') h => hat1 (kidPosB 14 o 3 1 p) W' O' a' hq1.out hO' h)
  have hsl1 := fun a' => (treeIx l0 k1).spS_len false (kidPosB 14 o 3 1 p) a'
  have htl1 := (treeIx l0 k1).tks_len false (kidPosB 14 o 3 1 p)
  unfold SpanPost at hatt1
  generalize Tree.spS false (treeIx l0 k1) (kidPosB 14 o 3 1 p) = S1 at *
  generalize Tree.tks false (treeIx l0 k1) (kidPosB 14 o 3 1 p) = T1 at *
  generalize kidPosB 14 o 3 1 p = p1 at *
  have hq2 := hid (kidPos_ok (k := 14) (o := o) (n := 3) (j := 2) hp (by omega) (levelB_pos har.1 hop))
  have hkp2 := hid (fun W' => show Calls Tryz.prog 103 #[.agg #[.int .i64 14, .int .i64 o, .string a, .string b2, .slice (some ⟨kb, koff, none⟩) 3 kc], .int .i64 2, .agg #[.int .i64 p.level, .bool p.dollar, .bool p.noIn, .bool p.noGt, .bool p.noSign]] W' fun e w' => e = .returned (.agg #[.int .i64 (kidPosB 14 o 3 2 p).level, .bool (kidPosB 14 o 3 2 p).dollar, .bool (kidPosB 14 o 3 2 p).noIn, .bool (kidPosB 14 o 3 2 p).noGt, .bool (kidPosB 14 o 3 2 p).noSign]) ∧ Below W'.heap.size W' w' from specKidPos_any 14 o a b2 (some ⟨kb, koff, none⟩) 3 kc 2 p W' hp (by omega) har hop)
  have hatt2 := hid (fun W' O' a' (hO' : OSt w0 W' sb g oc (some ⟨b, off, none⟩) l0.length cap O') h => hat2 (kidPosB 14 o 3 2 p) W' O' a' hq2.out hO' h)
  have hsl2 := fun a' => (treeIx l0 k2).spS_len false (kidPosB 14 o 3 2 p) a'
  have htl2 := (treeIx l0 k2).tks_len false (kidPosB 14 o 3 2 p)
  unfold SpanPost at hatt2
  generalize Tree.spS false (treeIx l0 k2) (kidPosB 14 o 3 2 p) = S2 at *
  generalize Tree.tks false (treeIx l0 k2) (kidPosB 14 o 3 2 p) = T2 at *
  generalize kidPosB 14 o 3 2 p = p2 at *
  obtain ⟨v0, hv0⟩ : ∃ x, x = at_ + T0.length := ⟨_, rfl⟩
  obtain ⟨a1', ha1'⟩ : ∃ x, x = v0 + 1 := ⟨_, rfl⟩
  obtain ⟨v1, hv1⟩ : ∃ x, x = a1' + T1.length := ⟨_, rfl⟩
  obtain ⟨a2', ha2'⟩ : ∃ x, x = v1 + 1 := ⟨_, rfl⟩
  obtain ⟨v2, hv2⟩ : ∃ x, x = a2' + T2.length := ⟨_, rfl⟩
  generalize (treeIx l0 k0).post.length = P0 at *
  generalize (treeIx l0 k1).post.length = P1 at *
  generalize (treeIx l0 k2).post.length = P2 at *
  generalize (treeIx l0 i).post.length = PI at *
  have hblw : b < W.heap.size := Nat.lt_of_lt_of_le hbl hO.hb.size
  have gl := hO.ltg
  have bx := hO.box
  have s0 : W.cell? ⟨sb, 0, none⟩ = some (.slice (some ⟨b, off, none⟩) l0.length cap) := box_cell bx rfl
  have s2 : W.cell? ⟨sb, 2, none⟩ = some (.slice (some ⟨g, 0, none⟩) l0.length oc) := box_cell bx rfl
  have g0 := own_read hO.row (span_get hz 0 rfl)
  have gf := sp_froz hO.row (i * 2)
  simp only [Nat.add_zero] at g0
  have hsbw : sb < W.heap.size := heap_lt bx
  have hnsg := hO.hne
  have hwa1 : IntKind.wrap .i64 ((at_ : Int) + 1) = ((at_ + 1 : Nat) : Int) := by rw [wrap_in _ (by unfold I64; omega)]; omega
  have hws0 : IntKind.wrap .i64 ((v0 : Int) + 1) = (a1' : Int) := by rw [wrap_in _ (by unfold I64; omega)]; omega
  have hws1 : IntKind.wrap .i64 ((v1 : Int) + 1) = (a2' : Int) := by rw [wrap_in _ (by unfold I64; omega)]; omega
  have hTx := hid (show Tree.spB false (treeIx l0 i) p at_ = (S0 (at_) ++ S1 (a1') ++ S2 (a2')) ++ [⟨(at_ : Nat), (v2 : Nat)⟩] from by
    have hE : at_ + ((T0).length + 1 + (T1).length + 1 + (T2).length) = v2 := by omega
    rw [hT1.out, hE]
    first | done | simp only [hv2, hv2, ha2', hv1, ha1', hv0])
  have hend : Hid (v2 = at_ + ((T0).length + 1 + (T1).length + 1 + (T2).length)) := hid (by omega)
  have hO1 := hid (((((hO.set (i * 2) (.int .i64 (at_ : Nat)) (span_set0 hz (at_ : Nat))).below ((Below.refl _ _).alloc (Nat.le_refl _) (.cells #[.int .i64 p.level, .bool p.dollar, .bool p.noIn, .bool p.noGt, .bool p.noSign] 36))).below ((Below.refl _ _).alloc (Nat.le_refl _) (.cells #[.int .i64 14, .int .i64 o, .string a, .string b2, .slice (some ⟨kb, koff, none⟩) 3 kc] 58))).below ((Below.refl _ _).alloc (Nat.le_refl _) (.cells #[.int .i64 14, .bool false, .bool false, .bool false, .bool false] 36))))
  have hg1 := hid (show W.grownBy ((((W.setCell ⟨g, i * 2, none⟩ (.int .i64 (at_ : Nat))).alloc (.cells #[.int .i64 p.level, .bool p.dollar, .bool p.noIn, .bool p.noGt, .bool p.noSign] 36)).alloc (.cells #[.int .i64 14, .int .i64 o, .string a, .string b2, .slice (some ⟨kb, koff, none⟩) 3 kc] 58)).alloc (.cells #[.int .i64 14, .bool false, .bool false, .bool false, .bool false] 36)) (some g) from grown_trans (grown_trans (grown_trans (grown_set W g (i * 2) _) (World.grownBy_alloc _ _ _)) (World.grownBy_alloc _ _ _)) (World.grownBy_alloc _ _ _))
  obtain ⟨hx1, hx3, hxl⟩ := sp_alloc3 (W.setCell ⟨g, i * 2, none⟩ (.int .i64 (at_ : Nat))) (.cells #[.int .i64 p.level, .bool p.dollar, .bool p.noIn, .bool p.noGt, .bool p.noSign] 36) (.cells #[.int .i64 14, .int .i64 o, .string a, .string b2, .slice (some ⟨kb, koff, none⟩) 3 kc] 58) (.cells #[.int .i64 14, .bool false, .bool false, .bool false, .bool false] 36)
  rw [show (W.setCell ⟨g, i * 2, none⟩ (.int .i64 (at_ : Nat))).heap.size = W.heap.size by simp] at hx1 hx3 hxl
  replace hx1 := hid hx1
  replace hx3 := hid hx3
  replace hxl := hid hxl
  have hgw := hid gl
  have hz2 := hid hz
  replace hO := hid hO
  clear hT hz bx hx hx2
  generalize s.getD i 0 = bi at *
  generalize s.getD k0 0 = bk0 at *
  generalize s.getD k1 0 = bk1 at *
  generalize s.getD k2 0 = bk2 at *
  replace hs0 := hid hs0
  replace hs1 := hid hs1
  replace hs2 := hid hs2
  replace hgn0 := hid hgn0
  replace hgn1 := hid hgn1
  replace hgn2 := hid hgn2
  replace hgi := hid hgi
  replace hpi := hid hpi
  replace hbi := hid hbi
  replace hat := hid hat
  replace hk0 := hid hk0
  replace hk1 := hid hk1
  replace hk2 := hid hk2
  replace hsl0 := hid hsl0
  replace hsl1 := hid hsl1
  replace hsl2 := hid hsl2
  replace htl0 := hid htl0
  replace htl1 := hid htl1
  replace htl2 := hid htl2
  replace ha1' := hid ha1'
  replace ha2' := hid ha2'
  replace hv0 := hid hv0
  replace hv1 := hid hv1
  replace hv2 := hid hv2
  go_enter Tryz.func80, Tryz.ntmps80
  go_upto_region 4 with fail
  generalize (((W.setCell ⟨g, i * 2, none⟩ (.int .i64 (at_ : Nat))).alloc (.cells #[.int .i64 p.level, .bool p.dollar, .bool p.noIn, .bool p.noGt, .bool p.noSign] 36)).alloc (.cells #[.int .i64 14, .int .i64 o, .string a, .string b2, .slice (some ⟨kb, koff, none⟩) 3 kc] 58)).alloc (.cells #[.int .i64 14, .bool false, .bool false, .bool false, .bool false] 36) = W1 at hO1 hg1 hx1 hx3 hxl ⊢
  have hnb := hid (show W.heap.size ≠ g ∧ W.heap.size + 1 ≠ g ∧ W.heap.size + 1 + 1 ≠ g from by have := hgw.out; omega)
  clear s0 s2 g0 gf c0 c1 c2 c3 c4 hsbw hblw gl hnsg
  have kd0 := keepc hO1.out.hb kc0
  have kd1 := keepc hO1.out.hb kc1
  have kd2 := keepc hO1.out.hb kc2
  clear kc0 kc1 kc2 hkro hkrow
  have hS := hid (show ∀ W', W1.grownBy W' (some g) → W'.cell? ⟨W.heap.size, 0, none⟩ = some (.int .i64 p.level) ∧ W'.cell? ⟨W.heap.size, 1, none⟩ = some (.bool p.dollar) ∧ W'.cell? ⟨W.heap.size, 2, none⟩ = some (.bool p.noIn) ∧ W'.cell? ⟨W.heap.size, 3, none⟩ = some (.bool p.noGt) ∧ W'.cell? ⟨W.heap.size, 4, none⟩ = some (.bool p.noSign) ∧ W'.cell? ⟨W.heap.size + 1, 0, none⟩ = some (.int .i64 14) ∧ W'.cell? ⟨W.heap.size + 1, 1, none⟩ = some (.int .i64 o) ∧ W'.cell? ⟨W.heap.size + 1, 2, none⟩ = some (.string a) ∧ W'.cell? ⟨W.heap.size + 1, 3, none⟩ = some (.string b2) ∧ W'.cell? ⟨W.heap.size + 1, 4, none⟩ = some (.slice (some ⟨kb, koff, none⟩) 3 kc) ∧ W'.cell? ⟨W.heap.size + 1 + 1, 0, none⟩ = some (.int .i64 14) ∧ W'.cell? ⟨W.heap.size + 1 + 1, 1, none⟩ = some (.bool false) ∧ W'.cell? ⟨W.heap.size + 1 + 1, 2, none⟩ = some (.bool false) ∧ W'.cell? ⟨W.heap.size + 1 + 1, 3, none⟩ = some (.bool false) ∧ W'.cell? ⟨W.heap.size + 1 + 1, 4, none⟩ = some (.bool false) ∧ W'.cell? ⟨kb, koff, none⟩ = some (.int .i64 (k0 : Nat)) ∧ W'.cell? ⟨kb, koff + 1, none⟩ = some (.int .i64 (k1 : Nat)) ∧ W'.cell? ⟨kb, koff + 2, none⟩ = some (.int .i64 (k2 : Nat)) from fun W' hW => ⟨box_cell (grow_block hW hx1.out hnb.out.1) rfl, box_cell (grow_block hW hx1.out hnb.out.1) rfl, box_cell (grow_block hW hx1.out hnb.out.1) rfl, box_cell (grow_block hW hx1.out hnb.out.1) rfl, box_cell (grow_block hW hx1.out hnb.out.1) rfl, box_cell (grow_block hW hx3.out hnb.out.2.1) rfl, box_cell (grow_block hW hx3.out hnb.out.2.1) rfl, box_cell (grow_block hW hx3.out hnb.out.2.1) rfl, box_cell (grow_block hW hx3.out hnb.out.2.1) rfl, box_cell (grow_block hW hx3.out hnb.out.2.1) rfl, box_cell (grow_block hW hxl.out hnb.out.2.2) rfl, box_cell (grow_block hW hxl.out hnb.out.2.2) rfl, box_cell (grow_block hW hxl.out hnb.out.2.2) rfl, box_cell (grow_block hW hxl.out hnb.out.2.2) rfl, box_cell (grow_block hW hxl.out hnb.out.2.2) rfl, grow_cell hW kd0 hkbg, grow_cell hW kd1 hkbg, grow_cell hW kd2 hkbg⟩)
  have hGn := hid (grown_refl W1 (some g))
  have hOn := hO1
  all_goals
    obtain ⟨y0, y1, y2, y3, y4, y5, y6, y7, y8, y9, y10, y11, y12, y13, y14, y15, y16, y17⟩ := hS.out _ hGn.out
    go_wp2_with fail
    clear y0 y1 y2 y3 y4 y5 y6 y7 y8 y9 y10 y11 y12 y13 y14 y15 y16 y17
  all_goals
    have hGd : W1.grownBy W1.drew (some g) := grown_trans hGn.out (below_gr (Below.refl _ _).drew g)
    go_region_held3 (fun W' => W'.cell? ⟨W.heap.size, 0, none⟩ = some (.int .i64 p.level) ∧ W'.cell? ⟨W.heap.size, 1, none⟩ = some (.bool p.dollar) ∧ W'.cell? ⟨W.heap.size, 2, none⟩ = some (.bool p.noIn) ∧ W'.cell? ⟨W.heap.size, 3, none⟩ = some (.bool p.noGt) ∧ W'.cell? ⟨W.heap.size, 4, none⟩ = some (.bool p.noSign) ∧ W'.cell? ⟨W.heap.size + 1, 0, none⟩ = some (.int .i64 14) ∧ W'.cell? ⟨W.heap.size + 1, 1, none⟩ = some (.int .i64 o) ∧ W'.cell? ⟨W.heap.size + 1, 2, none⟩ = some (.string a) ∧ W'.cell? ⟨W.heap.size + 1, 3, none⟩ = some (.string b2) ∧ W'.cell? ⟨W.heap.size + 1, 4, none⟩ = some (.slice (some ⟨kb, koff, none⟩) 3 kc) ∧ W'.cell? ⟨W.heap.size + 1 + 1, 0, none⟩ = some (.int .i64 14) ∧ W'.cell? ⟨W.heap.size + 1 + 1, 1, none⟩ = some (.bool false) ∧ W'.cell? ⟨W.heap.size + 1 + 1, 2, none⟩ = some (.bool false) ∧ W'.cell? ⟨W.heap.size + 1 + 1, 3, none⟩ = some (.bool false) ∧ W'.cell? ⟨W.heap.size + 1 + 1, 4, none⟩ = some (.bool false) ∧ W'.cell? ⟨kb, koff, none⟩ = some (.int .i64 (k0 : Nat)) ∧ W'.cell? ⟨kb, koff + 1, none⟩ = some (.int .i64 (k1 : Nat)) ∧ W'.cell? ⟨kb, koff + 2, none⟩ = some (.int .i64 (k2 : Nat)))
      (first
        | (refine hS.out _ ?_
           with_reducible (first
             | exact hGd
             | exact hGk
             | exact hGl0)))
      (first
        | (go_at_call 103; refine (hkp0.out _).mono ?_; rintro e wk ⟨rfl, hbk0⟩; have hbk : Below W1.heap.size W1 wk := ((Below.refl W1.heap.size W1).drew).trans (hbk0.mono (Nat.le_refl _)); have hGk := grown_trans hGn.out (below_gr hbk g); have hOk := hOn.out.below hbk; clear hbk0)
        | (go_at_call 62; refine (hatt0.out _ _ (at_) hOk (by have hs0 := hs0.out; have hs1 := hs1.out; have hs2 := hs2.out; have hgn0 := hgn0.out; have hgn1 := hgn1.out; have hgn2 := hgn2.out; have hgi := hgi.out; have hpi := hpi.out; have hbi := hbi.out; have hat := hat.out; have hk0 := hk0.out; have hk1 := hk1.out; have hk2 := hk2.out; have hsl0 := hsl0.out; have hsl1 := hsl1.out; have hsl2 := hsl2.out; have htl0 := htl0.out; have htl1 := htl1.out; have htl2 := htl2.out; have ha1' := ha1'.out; have ha2' := ha2'.out; have hv0 := hv0.out; have hv1 := hv1.out; have hv2 := hv2.out; omega)).mono ?_; rintro e wn0 ⟨he, hgl0, hOl0⟩; rw [← hv0.out] at he; subst he; have hGl0 := grown_trans hGk hgl0))
  all_goals
    have hOn : Hid (OSt w0 wn0 sb g oc (some ⟨b, off, none⟩) l0.length cap (putS (O.set i ⟨(at_ : Nat), z.hi⟩) bi (S0 (at_)))) := hid (by rw [← hs0.out]; exact hOl0)
    have hGn := hid hGl0
    clear hOl0 hgl0 hGl0 hGd hGk hbk hOk
  all_goals
    obtain ⟨y0, y1, y2, y3, y4, y5, y6, y7, y8, y9, y10, y11, y12, y13, y14, y15, y16, y17⟩ := hS.out _ hGn.out
    go_wp2_with fail
    clear y0 y1 y2 y3 y4 y5 y6 y7 y8 y9 y10 y11 y12 y13 y14 y15 y16 y17
  all_goals
    have hGd : W1.grownBy wn0.drew (some g) := grown_trans hGn.out (below_gr (Below.refl _ _).drew g)
    go_region_held3 (fun W' => W'.cell? ⟨W.heap.size, 0, none⟩ = some (.int .i64 p.level) ∧ W'.cell? ⟨W.heap.size, 1, none⟩ = some (.bool p.dollar) ∧ W'.cell? ⟨W.heap.size, 2, none⟩ = some (.bool p.noIn) ∧ W'.cell? ⟨W.heap.size, 3, none⟩ = some (.bool p.noGt) ∧ W'.cell? ⟨W.heap.size, 4, none⟩ = some (.bool p.noSign) ∧ W'.cell? ⟨W.heap.size + 1, 0, none⟩ = some (.int .i64 14) ∧ W'.cell? ⟨W.heap.size + 1, 1, none⟩ = some (.int .i64 o) ∧ W'.cell? ⟨W.heap.size + 1, 2, none⟩ = some (.string a) ∧ W'.cell? ⟨W.heap.size + 1, 3, none⟩ = some (.string b2) ∧ W'.cell? ⟨W.heap.size + 1, 4, none⟩ = some (.slice (some ⟨kb, koff, none⟩) 3 kc) ∧ W'.cell? ⟨W.heap.size + 1 + 1, 0, none⟩ = some (.int .i64 14) ∧ W'.cell? ⟨W.heap.size + 1 + 1, 1, none⟩ = some (.bool false) ∧ W'.cell? ⟨W.heap.size + 1 + 1, 2, none⟩ = some (.bool false) ∧ W'.cell? ⟨W.heap.size + 1 + 1, 3, none⟩ = some (.bool false) ∧ W'.cell? ⟨W.heap.size + 1 + 1, 4, none⟩ = some (.bool false) ∧ W'.cell? ⟨kb, koff, none⟩ = some (.int .i64 (k0 : Nat)) ∧ W'.cell? ⟨kb, koff + 1, none⟩ = some (.int .i64 (k1 : Nat)) ∧ W'.cell? ⟨kb, koff + 2, none⟩ = some (.int .i64 (k2 : Nat)))
      (first
        | (refine hS.out _ ?_
           with_reducible (first
             | exact hGd
             | exact hGk
             | exact hGl1)))
      (first
        | (go_at_call 103; refine (hkp1.out _).mono ?_; rintro e wk ⟨rfl, hbk0⟩; have hbk : Below wn0.heap.size wn0 wk := ((Below.refl wn0.heap.size wn0).drew).trans (hbk0.mono (Nat.le_refl _)); have hGk := grown_trans hGn.out (below_gr hbk g); have hOk := hOn.out.below hbk; clear hbk0)
        | (go_at_call 62; refine (hatt1.out _ _ (a1') hOk (by have hs0 := hs0.out; have hs1 := hs1.out; have hs2 := hs2.out; have hgn0 := hgn0.out; have hgn1 := hgn1.out; have hgn2 := hgn2.out; have hgi := hgi.out; have hpi := hpi.out; have hbi := hbi.out; have hat := hat.out; have hk0 := hk0.out; have hk1 := hk1.out; have hk2 := hk2.out; have hsl0 := hsl0.out; have hsl1 := hsl1.out; have hsl2 := hsl2.out; have htl0 := htl0.out; have htl1 := htl1.out; have htl2 := htl2.out; have ha1' := ha1'.out; have ha2' := ha2'.out; have hv0 := hv0.out; have hv1 := hv1.out; have hv2 := hv2.out; omega)).mono ?_; rintro e wn1 ⟨he, hgl1, hOl1⟩; rw [← hv1.out] at he; subst he; have hGl1 := grown_trans hGk hgl1))
  all_goals
    have hOn : Hid (OSt w0 wn1 sb g oc (some ⟨b, off, none⟩) l0.length cap (putS (O.set i ⟨(at_ : Nat), z.hi⟩) bi (S0 (at_) ++ S1 (a1')))) := hid (by rw [← putS_app (O := O.set i ⟨(at_ : Nat), z.hi⟩) (S := S0 (at_)) (T := S1 (a1')) (b := bi) (c := bk1) (by have hs0 := hs0.out; have hs1 := hs1.out; have hs2 := hs2.out; have hgn0 := hgn0.out; have hgn1 := hgn1.out; have hgn2 := hgn2.out; have hgi := hgi.out; have hpi := hpi.out; have hbi := hbi.out; have hat := hat.out; have hk0 := hk0.out; have hk1 := hk1.out; have hk2 := hk2.out; have hsl0 := hsl0.out; have hsl1 := hsl1.out; have hsl2 := hsl2.out; have htl0 := htl0.out; have htl1 := htl1.out; have htl2 := htl2.out; have ha1' := ha1'.out; have ha2' := ha2'.out; have hv0 := hv0.out; have hv1 := hv1.out; have hv2 := hv2.out; simp only [List.length_append, hsl0, hsl1, hsl2]; omega) (by have hs0 := hs0.out; have hs1 := hs1.out; have hs2 := hs2.out; have hgn0 := hgn0.out; have hgn1 := hgn1.out; have hgn2 := hgn2.out; have hgi := hgi.out; have hpi := hpi.out; have hbi := hbi.out; have hat := hat.out; have hk0 := hk0.out; have hk1 := hk1.out; have hk2 := hk2.out; have hsl0 := hsl0.out; have hsl1 := hsl1.out; have hsl2 := hsl2.out; have htl0 := htl0.out; have htl1 := htl1.out; have htl2 := htl2.out; have ha1' := ha1'.out; have ha2' := ha2'.out; have hv0 := hv0.out; have hv1 := hv1.out; have hv2 := hv2.out; rw [List.length_set, hOl.out, hsl1]; omega)]; exact hOl1)
    have hGn := hid hGl1
    clear hOl1 hgl1 hGl1 hGd hGk hbk hOk
  all_goals
    obtain ⟨y0, y1, y2, y3, y4, y5, y6, y7, y8, y9, y10, y11, y12, y13, y14, y15, y16, y17⟩ := hS.out _ hGn.out
    go_wp2_with fail
    clear y0 y1 y2 y3 y4 y5 y6 y7 y8 y9 y10 y11 y12 y13 y14 y15 y16 y17
  all_goals
    have hGd : W1.grownBy wn1.drew (some g) := grown_trans hGn.out (below_gr (Below.refl _ _).drew g)
    go_region_held3 (fun W' => W'.cell? ⟨W.heap.size, 0, none⟩ = some (.int .i64 p.level) ∧ W'.cell? ⟨W.heap.size, 1, none⟩ = some (.bool p.dollar) ∧ W'.cell? ⟨W.heap.size, 2, none⟩ = some (.bool p.noIn) ∧ W'.cell? ⟨W.heap.size, 3, none⟩ = some (.bool p.noGt) ∧ W'.cell? ⟨W.heap.size, 4, none⟩ = some (.bool p.noSign) ∧ W'.cell? ⟨W.heap.size + 1, 0, none⟩ = some (.int .i64 14) ∧ W'.cell? ⟨W.heap.size + 1, 1, none⟩ = some (.int .i64 o) ∧ W'.cell? ⟨W.heap.size + 1, 2, none⟩ = some (.string a) ∧ W'.cell? ⟨W.heap.size + 1, 3, none⟩ = some (.string b2) ∧ W'.cell? ⟨W.heap.size + 1, 4, none⟩ = some (.slice (some ⟨kb, koff, none⟩) 3 kc) ∧ W'.cell? ⟨W.heap.size + 1 + 1, 0, none⟩ = some (.int .i64 14) ∧ W'.cell? ⟨W.heap.size + 1 + 1, 1, none⟩ = some (.bool false) ∧ W'.cell? ⟨W.heap.size + 1 + 1, 2, none⟩ = some (.bool false) ∧ W'.cell? ⟨W.heap.size + 1 + 1, 3, none⟩ = some (.bool false) ∧ W'.cell? ⟨W.heap.size + 1 + 1, 4, none⟩ = some (.bool false) ∧ W'.cell? ⟨kb, koff, none⟩ = some (.int .i64 (k0 : Nat)) ∧ W'.cell? ⟨kb, koff + 1, none⟩ = some (.int .i64 (k1 : Nat)) ∧ W'.cell? ⟨kb, koff + 2, none⟩ = some (.int .i64 (k2 : Nat)))
      (first
        | (refine hS.out _ ?_
           with_reducible (first
             | exact hGd
             | exact hGk
             | exact hGl2)))
      (first
        | (go_at_call 103; refine (hkp2.out _).mono ?_; rintro e wk ⟨rfl, hbk0⟩; have hbk : Below wn1.heap.size wn1 wk := ((Below.refl wn1.heap.size wn1).drew).trans (hbk0.mono (Nat.le_refl _)); have hGk := grown_trans hGn.out (below_gr hbk g); have hOk := hOn.out.below hbk; clear hbk0)
        | (go_at_call 62; refine (hatt2.out _ _ (a2') hOk (by have hs0 := hs0.out; have hs1 := hs1.out; have hs2 := hs2.out; have hgn0 := hgn0.out; have hgn1 := hgn1.out; have hgn2 := hgn2.out; have hgi := hgi.out; have hpi := hpi.out; have hbi := hbi.out; have hat := hat.out; have hk0 := hk0.out; have hk1 := hk1.out; have hk2 := hk2.out; have hsl0 := hsl0.out; have hsl1 := hsl1.out; have hsl2 := hsl2.out; have htl0 := htl0.out; have htl1 := htl1.out; have htl2 := htl2.out; have ha1' := ha1'.out; have ha2' := ha2'.out; have hv0 := hv0.out; have hv1 := hv1.out; have hv2 := hv2.out; omega)).mono ?_; rintro e wn2 ⟨he, hgl2, hOl2⟩; rw [← hv2.out] at he; subst he; have hGl2 := grown_trans hGk hgl2))
  all_goals
    have hOn : Hid (OSt w0 wn2 sb g oc (some ⟨b, off, none⟩) l0.length cap (putS (O.set i ⟨(at_ : Nat), z.hi⟩) bi (S0 (at_) ++ S1 (a1') ++ S2 (a2')))) := hid (by rw [← putS_app (O := O.set i ⟨(at_ : Nat), z.hi⟩) (S := S0 (at_) ++ S1 (a1')) (T := S2 (a2')) (b := bi) (c := bk2) (by have hs0 := hs0.out; have hs1 := hs1.out; have hs2 := hs2.out; have hgn0 := hgn0.out; have hgn1 := hgn1.out; have hgn2 := hgn2.out; have hgi := hgi.out; have hpi := hpi.out; have hbi := hbi.out; have hat := hat.out; have hk0 := hk0.out; have hk1 := hk1.out; have hk2 := hk2.out; have hsl0 := hsl0.out; have hsl1 := hsl1.out; have hsl2 := hsl2.out; have htl0 := htl0.out; have htl1 := htl1.out; have htl2 := htl2.out; have ha1' := ha1'.out; have ha2' := ha2'.out; have hv0 := hv0.out; have hv1 := hv1.out; have hv2 := hv2.out; simp only [List.length_append, hsl0, hsl1, hsl2]; omega) (by have hs0 := hs0.out; have hs1 := hs1.out; have hs2 := hs2.out; have hgn0 := hgn0.out; have hgn1 := hgn1.out; have hgn2 := hgn2.out; have hgi := hgi.out; have hpi := hpi.out; have hbi := hbi.out; have hat := hat.out; have hk0 := hk0.out; have hk1 := hk1.out; have hk2 := hk2.out; have hsl0 := hsl0.out; have hsl1 := hsl1.out; have hsl2 := hsl2.out; have htl0 := htl0.out; have htl1 := htl1.out; have htl2 := htl2.out; have ha1' := ha1'.out; have ha2' := ha2'.out; have hv0 := hv0.out; have hv1 := hv1.out; have hv2 := hv2.out; rw [List.length_set, hOl.out, hsl2]; omega)]; exact hOl2)
    have hGn := hid hGl2
    clear hOl2 hgl2 hGl2 hGd hGk hbk hOk
  all_goals
    have hzn := hid (span_mid (O := O) (S := S0 (at_) ++ S1 (a1') ++ S2 (a2')) (b := bi) (i := i) (x := ⟨(at_ : Nat), z.hi⟩) (by have hs0 := hs0.out; have hs1 := hs1.out; have hs2 := hs2.out; have hgn0 := hgn0.out; have hgn1 := hgn1.out; have hgn2 := hgn2.out; have hgi := hgi.out; have hpi := hpi.out; have hbi := hbi.out; have hat := hat.out; have hk0 := hk0.out; have hk1 := hk1.out; have hk2 := hk2.out; have hsl0 := hsl0.out; have hsl1 := hsl1.out; have hsl2 := hsl2.out; have htl0 := htl0.out; have htl1 := htl1.out; have htl2 := htl2.out; have ha1' := ha1'.out; have ha2' := ha2'.out; have hv0 := hv0.out; have hv1 := hv1.out; have hv2 := hv2.out; simp only [List.length_append, List.length_nil, hsl0, hsl1, hsl2]; omega) (by rw [hOl.out]; exact hi))
    have hdone := hid (span_done (O := O) (S := S0 (at_) ++ S1 (a1') ++ S2 (a2')) (b := bi) (i := i) (x := ⟨(at_ : Nat), z.hi⟩) (y := ⟨(at_ : Nat), (v2 : Nat)⟩) (by have hs0 := hs0.out; have hs1 := hs1.out; have hs2 := hs2.out; have hgn0 := hgn0.out; have hgn1 := hgn1.out; have hgn2 := hgn2.out; have hgi := hgi.out; have hpi := hpi.out; have hbi := hbi.out; have hat := hat.out; have hk0 := hk0.out; have hk1 := hk1.out; have hk2 := hk2.out; have hsl0 := hsl0.out; have hsl1 := hsl1.out; have hsl2 := hsl2.out; have htl0 := htl0.out; have htl1 := htl1.out; have htl2 := htl2.out; have ha1' := ha1'.out; have ha2' := ha2'.out; have hv0 := hv0.out; have hv1 := hv1.out; have hv2 := hv2.out; simp only [List.length_append, List.length_nil, hsl0, hsl1, hsl2]; omega) (by rw [hOl.out]; exact hi))
    have q2 : wn2.cell? ⟨sb, 2, none⟩ = some (.slice (some ⟨g, 0, none⟩) l0.length oc) := box_cell hOn.out.box rfl
    have q1 := own_read hOn.out.row (span_get hzn.out 1 rfl)
    have qf := sp_froz hOn.out.row (i * 2 + 1)
    have hfin := hid (hOn.out.set (i * 2 + 1) (.int .i64 (v2 : Nat)) (span_set1 hzn.out (v2 : Nat)))
    have hgf := hid (grown_trans (grown_trans hg1.out hGn.out) (grown_set wn2 g (i * 2 + 1) (.int .i64 (v2 : Nat))))
    clear hzn hOn hGn
    go_wp2
    go_ret
    exact ⟨ret_int (by rw [hT2.out, hend.out]), hgf.out, by rw [hTx.out, ← hdone.out]; exact hfin.out⟩
end Go.Proofs.YtkelhmgdajiocaaGreatDoor
/- Walks and lemmas of this seat (FSpanS): what each theorem says of the functions that it names. Conditions: those that each theorem states. -/
namespace Go.Proofs.YtkelhmgdajiocaaGreatDoor
set_option linter.unusedVariables false
set_option linter.unusedSimpArgs false
open Go.RowKit Go.Lib

set_option maxRecDepth 100000 in
set_option maxHeartbeats 6400000 in
theorem specl30Node_5 {w0 : World} {l0 : List Node} {a0 : Option Addr} {cap sb g oc i : Nat} {s : List Nat} {o : Int} {ks : List Int} {a b2 : ByteArray} (hv : NodeSlc w0 (.slice a0 l0.length cap) l0) (hx : l0[i]? = some ⟨5, o, a, b2, ks⟩) (hbi : s.getD i 0 ≤ i) (hks : ∀ q ∈ ks, 0 ≤ q ∧ LAtC w0 l0 a0 cap sb g oc s q.toNat ∧ s.getD q.toNat 0 + (treeIx l0 q.toNat).post.length = q.toNat + 1 ∧ q.toNat < l0.length) (hn : ks.length ≤ 10) (htile : Tiles s ks (s.getD i 0) i) (hgi : s.getD i 0 + (treeIx l0 i).post.length = i + 1) (hpi : (treeIx l0 i).post.length = (ks.map fun q => (treeIx l0 q.toNat).post.length).sum + 1) (hT : ∀ (p : Pos) (at_ : Nat), posOkB p = true → (treeIx l0 i).spB false p at_ = (lspS 0 (ks.map fun q => treeIx l0 q.toNat) (at_ + 2)) ++ [⟨at_, ((at_ + (2 + (commas ((ks.map fun q => treeIx l0 q.toNat).map fun u => u.tks false posTop)).length + 1) : Nat) : Int)⟩] ∧ ((treeIx l0 i).tkb false p).length = 2 + (commas ((ks.map fun q => treeIx l0 q.toNat).map fun u => u.tks false posTop)).length + 1) : LNodeC w0 l0 a0 cap sb g oc s i := by
  intro p W O at_ hp hO hat
  obtain ⟨a1, cap1, he1, hm1, hc1, hsl⟩ := hv.shape
  injection he1 with e1 _ e3
  subst e1; subst e3
  have hi := (List.getElem?_eq_some_iff.1 hx).1
  obtain ⟨x, ka, kc, b, off, hx2, he2, c0, c1, c2, c3, c4, hkd⟩ := hsl.at (Below.refl _ _) (Nat.le_refl _) hi
  obtain rfl : x = ⟨5, o, a, b2, ks⟩ := Option.some.inj (hx2.symm.trans hx)
  subst he2
  obtain ⟨_, _, _, hkv, hkc, hkm, hkrow⟩ := hkd
  simp at hkv
  obtain ⟨rfl, rfl⟩ := hkv
  have hbl : b < w0.heap.size := World.block_lt_of_cell? w0 _ c0
  obtain ⟨hT1, hT2⟩ := hT p at_ hp
  replace hT1 := hid hT1
  replace hT2 := hid hT2
  obtain ⟨z, hz⟩ := get_of_lt (show i < O.length by rw [hO.len]; exact hi)
  replace c0 := keepc hO.hb c0
  replace c1 := keepc hO.hb c1
  replace c2 := keepc hO.hb c2
  replace c3 := keepc hO.hb c3
  replace c4 := keepc hO.hb c4
  have hii : (i : Int) < (l0.length : Int) := by omega
  have hOl := hid hO.len
  unfold maxLen at hkm
  obtain ⟨a0', ha0'⟩ : ∃ x, x = at_ + 2 := ⟨_, rfl⟩
  have hsum : (ks.map fun q => 8 * (treeIx l0 q.toNat).post.length).sum = 8 * (ks.map fun q => (treeIx l0 q.toNat).post.length).sum := sum_eight _ ks
  have hSl := lspS_len (ks.map fun q => treeIx l0 q.toNat) 0 a0'
  rw [List.map_map] at hSl
  have hEz := lspE_zero (ks.map fun q => treeIx l0 q.toNat) a0'
  have hk0s : Slc w0 (.slice ka ks.length kc) 1 ks.length (ks.flatMap int1) := ⟨flat_len int1 1 int1_len ks, ka, kc, rfl, hkc, by unfold maxLen; omega, hkrow⟩
  have hO1b := hid (fun W' O' (hO' : OSt w0 W' sb g oc (some ⟨b, off, none⟩) l0.length cap O') => specl30List_any ks ka kc (s.getD i 0) i hks hn htile hk0s W' O' a0' hO' (by rw [hsum, ha0']; omega))
  unfold SpanPost at hO1b
  obtain ⟨v0, hv0⟩ : ∃ x, x = lspE 0 (ks.map fun q => treeIx l0 q.toNat) a0' := ⟨_, rfl⟩
  rw [← hv0] at hO1b hEz
  obtain ⟨a1', ha1'⟩ : ∃ x, x = v0 + 1 := ⟨_, rfl⟩
  have hCl : (commas ((ks.map fun q => treeIx l0 q.toNat).map fun u => u.tks false posTop)).length ≤ 100000 := by
    have h9 := lspE_bd ks l0 (fun q hq => (treeIx l0 q.toNat).tks_len false posTop)
    rw [hsum] at h9
    omega
  have hTx := hid (show Tree.spB false (treeIx l0 i) p at_ = lspS 0 (ks.map fun q => treeIx l0 q.toNat) a0' ++ [⟨(at_ : Nat), (a1' : Nat)⟩] from by
    have hE : at_ + (2 + (commas ((ks.map fun q => treeIx l0 q.toNat).map fun u => u.tks false posTop)).length + 1) = a1' := by omega
    rw [hT1.out, hE, ha0'])
  have hend : Hid (a1' = at_ + (2 + (commas ((ks.map fun q => treeIx l0 q.toNat).map fun u => u.tks false posTop)).length + 1)) := hid (by omega)
  have hSL : (lspS 0 (ks.map fun q => treeIx l0 q.toNat) a0').length + 1 = (treeIx l0 i).post.length := by rw [hSl, hpi]; rfl
  generalize lspS 0 (ks.map fun q => treeIx l0 q.toNat) a0' = S0 at *
  generalize (commas ((ks.map fun q => treeIx l0 q.toNat).map fun u => u.tks false posTop)).length = CL at *
  have hn1 : 0 ≤ v0 ∧ v0 ≤ 200000 := by omega
  clear hks htile hk0s hSl hsum hn hEz hv0 hkrow
  generalize (treeIx l0 i).post.length = PI at *
  clear hpi
  have hblw : b < W.heap.size := Nat.lt_of_lt_of_le hbl hO.hb.size
  have gl := hO.ltg
  have bx := hO.box
  have s0 : W.cell? ⟨sb, 0, none⟩ = some (.slice (some ⟨b, off, none⟩) l0.length cap) := box_cell bx rfl
  have s2 : W.cell? ⟨sb, 2, none⟩ = some (.slice (some ⟨g, 0, none⟩) l0.length oc) := box_cell bx rfl
  have g0 := own_read hO.row (span_get hz 0 rfl)
  have gf := sp_froz hO.row (i * 2)
  simp only [Nat.add_zero] at g0
  have hsbw : sb < W.heap.size := heap_lt bx
  have hnsg := hO.hne
  have hwa1 : IntKind.wrap .i64 ((at_ : Int) + 1) = ((at_ + 1 : Nat) : Int) := by rw [wrap_in _ (by unfold I64; omega)]; omega
  have hwl : IntKind.wrap .i64 ((at_ : Int) + 2) = (a0' : Int) := by rw [wrap_in _ (by unfold I64; omega)]; omega
  have hws0 : IntKind.wrap .i64 ((v0 : Int) + 1) = (a1' : Int) := by rw [wrap_in _ (by unfold I64; omega)]; omega
  have hO1 := hid (((((hO.set (i * 2) (.int .i64 (at_ : Nat)) (span_set0 hz (at_ : Nat))).below ((Below.refl _ _).alloc (Nat.le_refl _) (.cells #[.int .i64 p.level, .bool p.dollar, .bool p.noIn, .bool p.noGt, .bool p.noSign] 36))).below ((Below.refl _ _).alloc (Nat.le_refl _) (.cells #[.int .i64 5, .int .i64 o, .string a, .string b2, .slice ka ks.length kc] 58))).below ((Below.refl _ _).alloc (Nat.le_refl _) (.cells #[.int .i64 14, .bool false, .bool false, .bool false, .bool false] 36))))
  have hg1 := hid (show W.grownBy ((((W.setCell ⟨g, i * 2, none⟩ (.int .i64 (at_ : Nat))).alloc (.cells #[.int .i64 p.level, .bool p.dollar, .bool p.noIn, .bool p.noGt, .bool p.noSign] 36)).alloc (.cells #[.int .i64 5, .int .i64 o, .string a, .string b2, .slice ka ks.length kc] 58)).alloc (.cells #[.int .i64 14, .bool false, .bool false, .bool false, .bool false] 36)) (some g) from grown_trans (grown_trans (grown_trans (grown_set W g (i * 2) _) (World.grownBy_alloc _ _ _)) (World.grownBy_alloc _ _ _)) (World.grownBy_alloc _ _ _))
  obtain ⟨hx1, hx3, hxl⟩ := sp_alloc3 (W.setCell ⟨g, i * 2, none⟩ (.int .i64 (at_ : Nat))) (.cells #[.int .i64 p.level, .bool p.dollar, .bool p.noIn, .bool p.noGt, .bool p.noSign] 36) (.cells #[.int .i64 5, .int .i64 o, .string a, .string b2, .slice ka ks.length kc] 58) (.cells #[.int .i64 14, .bool false, .bool false, .bool false, .bool false] 36)
  rw [show (W.setCell ⟨g, i * 2, none⟩ (.int .i64 (at_ : Nat))).heap.size = W.heap.size by simp] at hx1 hx3 hxl
  replace hx1 := hid hx1
  replace hx3 := hid hx3
  replace hxl := hid hxl
  have hgw := hid gl
  have hz2 := hid hz
  replace hO := hid hO
  clear hT hz bx hx hx2
  generalize s.getD i 0 = bi at *
  replace hgi := hid hgi
  replace hbi := hid hbi
  replace hat := hid hat
  replace hSL := hid hSL
  replace ha0' := hid ha0'
  replace ha1' := hid ha1'
  replace hn1 := hid hn1
  replace hCl := hid hCl
  go_enter Tryz.func80, Tryz.ntmps80
  go_upto_region 4 with fail
  generalize (((W.setCell ⟨g, i * 2, none⟩ (.int .i64 (at_ : Nat))).alloc (.cells #[.int .i64 p.level, .bool p.dollar, .bool p.noIn, .bool p.noGt, .bool p.noSign] 36)).alloc (.cells #[.int .i64 5, .int .i64 o, .string a, .string b2, .slice ka ks.length kc] 58)).alloc (.cells #[.int .i64 14, .bool false, .bool false, .bool false, .bool false] 36) = W1 at hO1 hg1 hx1 hx3 hxl ⊢
  have hnb := hid (show W.heap.size ≠ g ∧ W.heap.size + 1 ≠ g ∧ W.heap.size + 1 + 1 ≠ g from by have := hgw.out; omega)
  clear s0 s2 g0 gf c0 c1 c2 c3 c4 hsbw hblw gl hnsg
  have hS := hid (show ∀ W', W1.grownBy W' (some g) → W'.cell? ⟨W.heap.size, 0, none⟩ = some (.int .i64 p.level) ∧ W'.cell? ⟨W.heap.size, 1, none⟩ = some (.bool p.dollar) ∧ W'.cell? ⟨W.heap.size, 2, none⟩ = some (.bool p.noIn) ∧ W'.cell? ⟨W.heap.size, 3, none⟩ = some (.bool p.noGt) ∧ W'.cell? ⟨W.heap.size, 4, none⟩ = some (.bool p.noSign) ∧ W'.cell? ⟨W.heap.size + 1, 0, none⟩ = some (.int .i64 5) ∧ W'.cell? ⟨W.heap.size + 1, 1, none⟩ = some (.int .i64 o) ∧ W'.cell? ⟨W.heap.size + 1, 2, none⟩ = some (.string a) ∧ W'.cell? ⟨W.heap.size + 1, 3, none⟩ = some (.string b2) ∧ W'.cell? ⟨W.heap.size + 1, 4, none⟩ = some (.slice ka ks.length kc) ∧ W'.cell? ⟨W.heap.size + 1 + 1, 0, none⟩ = some (.int .i64 14) ∧ W'.cell? ⟨W.heap.size + 1 + 1, 1, none⟩ = some (.bool false) ∧ W'.cell? ⟨W.heap.size + 1 + 1, 2, none⟩ = some (.bool false) ∧ W'.cell? ⟨W.heap.size + 1 + 1, 3, none⟩ = some (.bool false) ∧ W'.cell? ⟨W.heap.size + 1 + 1, 4, none⟩ = some (.bool false) from fun W' hW => ⟨box_cell (grow_block hW hx1.out hnb.out.1) rfl, box_cell (grow_block hW hx1.out hnb.out.1) rfl, box_cell (grow_block hW hx1.out hnb.out.1) rfl, box_cell (grow_block hW hx1.out hnb.out.1) rfl, box_cell (grow_block hW hx1.out hnb.out.1) rfl, box_cell (grow_block hW hx3.out hnb.out.2.1) rfl, box_cell (grow_block hW hx3.out hnb.out.2.1) rfl, box_cell (grow_block hW hx3.out hnb.out.2.1) rfl, box_cell (grow_block hW hx3.out hnb.out.2.1) rfl, box_cell (grow_block hW hx3.out hnb.out.2.1) rfl, box_cell (grow_block hW hxl.out hnb.out.2.2) rfl, box_cell (grow_block hW hxl.out hnb.out.2.2) rfl, box_cell (grow_block hW hxl.out hnb.out.2.2) rfl, box_cell (grow_block hW hxl.out hnb.out.2.2) rfl, box_cell (grow_block hW hxl.out hnb.out.2.2) rfl⟩)
  have hGn0 := hid (grown_refl W1 (some g))
  obtain ⟨y0, y1, y2, y3, y4, y5, y6, y7, y8, y9, y10, y11, y12, y13, y14⟩ := hS.out _ hGn0.out
  go_wp2_with fail
  refine (hO1b.out _ _ hO1.out).mono ?_; rintro e wn ⟨rfl, hgl, hOl9⟩
  have hOn := hid hOl9
  have hGn := hid hgl
  clear hgl hOl9 hGn0 y0 y1 y2 y3 y4 y5 y6 y7 y8 y9 y10 y11 y12 y13 y14
  all_goals
    have hzn := hid (span_mid (O := O) (S := S0) (b := bi) (i := i) (x := ⟨(at_ : Nat), z.hi⟩) (by have hgi := hgi.out; have hbi := hbi.out; have hat := hat.out; have hSL := hSL.out; have ha0' := ha0'.out; have ha1' := ha1'.out; have hn1 := hn1.out; have hCl := hCl.out; omega) (by rw [hOl.out]; exact hi))
    have hdone := hid (span_done (O := O) (S := S0) (b := bi) (i := i) (x := ⟨(at_ : Nat), z.hi⟩) (y := ⟨(at_ : Nat), (a1' : Nat)⟩) (by have hgi := hgi.out; have hbi := hbi.out; have hat := hat.out; have hSL := hSL.out; have ha0' := ha0'.out; have ha1' := ha1'.out; have hn1 := hn1.out; have hCl := hCl.out; omega) (by rw [hOl.out]; exact hi))
    have q2 : wn.cell? ⟨sb, 2, none⟩ = some (.slice (some ⟨g, 0, none⟩) l0.length oc) := box_cell hOn.out.box rfl
    have q1 := own_read hOn.out.row (span_get hzn.out 1 rfl)
    have qf := sp_froz hOn.out.row (i * 2 + 1)
    have hfin := hid (hOn.out.set (i * 2 + 1) (.int .i64 (a1' : Nat)) (span_set1 hzn.out (a1' : Nat)))
    have hgf := hid (grown_trans (grown_trans hg1.out hGn.out) (grown_set wn g (i * 2 + 1) (.int .i64 (a1' : Nat))))
    clear hzn hOn hGn
    go_wp2
    go_ret
    exact ⟨ret_int (by rw [hT2.out, hend.out]), hgf.out, by rw [hTx.out, ← hdone.out]; exact hfin.out⟩
set_option maxRecDepth 100000 in
set_option maxHeartbeats 6400000 in
theorem specl30Node_7 {w0 : World} {l0 : List Node} {a0 : Option Addr} {cap sb g oc i : Nat} {s : List Nat} {o : Int} {ks : List Int} {a b2 : ByteArray} (hv : NodeSlc w0 (.slice a0 l0.length cap) l0) (hx : l0[i]? = some ⟨7, o, a, b2, ks⟩) (hbi : s.getD i 0 ≤ i) (hks : ∀ q ∈ ks, 0 ≤ q ∧ LAtC w0 l0 a0 cap sb g oc s q.toNat ∧ s.getD q.toNat 0 + (treeIx l0 q.toNat).post.length = q.toNat + 1 ∧ q.toNat < l0.length) (hn : ks.length ≤ 10) (htile : Tiles s ks (s.getD i 0) i) (hgi : s.getD i 0 + (treeIx l0 i).post.length = i + 1) (hpi : (treeIx l0 i).post.length = (ks.map fun q => (treeIx l0 q.toNat).post.length).sum + 1) (hT : ∀ (p : Pos) (at_ : Nat), posOkB p = true → (treeIx l0 i).spB false p at_ = (lspS 0 (ks.map fun q => treeIx l0 q.toNat) (at_ + 2)) ++ [⟨at_, ((at_ + (2 + (commas ((ks.map fun q => treeIx l0 q.toNat).map fun u => u.tks false posTop)).length + 1) : Nat) : Int)⟩] ∧ ((treeIx l0 i).tkb false p).length = 2 + (commas ((ks.map fun q => treeIx l0 q.toNat).map fun u => u.tks false posTop)).length + 1) : LNodeC w0 l0 a0 cap sb g oc s i := by
  intro p W O at_ hp hO hat
  obtain ⟨a1, cap1, he1, hm1, hc1, hsl⟩ := hv.shape
  injection he1 with e1 _ e3
  subst e1; subst e3
  have hi := (List.getElem?_eq_some_iff.1 hx).1
  obtain ⟨x, ka, kc, b, off, hx2, he2, c0, c1, c2, c3, c4, hkd⟩ := hsl.at (Below.refl _ _) (Nat.le_refl _) hi
  obtain rfl : x = ⟨7, o, a, b2, ks⟩ := Option.some.inj (hx2.symm.trans hx)
  subst he2
  obtain ⟨_, _, _, hkv, hkc, hkm, hkrow⟩ := hkd
  simp at hkv
  obtain ⟨rfl, rfl⟩ := hkv
  have hbl : b < w0.heap.size := World.block_lt_of_cell? w0 _ c0
  obtain ⟨hT1, hT2⟩ := hT p at_ hp
  replace hT1 := hid hT1
  replace hT2 := hid hT2
  obtain ⟨z, hz⟩ := get_of_lt (show i < O.length by rw [hO.len]; exact hi)
  replace c0 := keepc hO.hb c0
  replace c1 := keepc hO.hb c1
  replace c2 := keepc hO.hb c2
  replace c3 := keepc hO.hb c3
  replace c4 := keepc hO.hb c4
  have hii : (i : Int) < (l0.length : Int) := by omega
  have hOl := hid hO.len
  unfold maxLen at hkm
  obtain ⟨a0', ha0'⟩ : ∃ x, x = at_ + 2 := ⟨_, rfl⟩
  have hsum : (ks.map fun q => 8 * (treeIx l0 q.toNat).post.length).sum = 8 * (ks.map fun q => (treeIx l0 q.toNat).post.length).sum := sum_eight _ ks
  have hSl := lspS_len (ks.map fun q => treeIx l0 q.toNat) 0 a0'
  rw [List.map_map] at hSl
  have hEz := lspE_zero (ks.map fun q => treeIx l0 q.toNat) a0'
  have hk0s : Slc w0 (.slice ka ks.length kc) 1 ks.length (ks.flatMap int1) := ⟨flat_len int1 1 int1_len ks, ka, kc, rfl, hkc, by unfold maxLen; omega, hkrow⟩
  have hO1b := hid (fun W' O' (hO' : OSt w0 W' sb g oc (some ⟨b, off, none⟩) l0.length cap O') => specl30List_any ks ka kc (s.getD i 0) i hks hn htile hk0s W' O' a0' hO' (by rw [hsum, ha0']; omega))
  unfold SpanPost at hO1b
  obtain ⟨v0, hv0⟩ : ∃ x, x = lspE 0 (ks.map fun q => treeIx l0 q.toNat) a0' := ⟨_, rfl⟩
  rw [← hv0] at hO1b hEz
  obtain ⟨a1', ha1'⟩ : ∃ x, x = v0 + 1 := ⟨_, rfl⟩
  have hCl : (commas ((ks.map fun q => treeIx l0 q.toNat).map fun u => u.tks false posTop)).length ≤ 100000 := by
    have h9 := lspE_bd ks l0 (fun q hq => (treeIx l0 q.toNat).tks_len false posTop)
    rw [hsum] at h9
    omega
  have hTx := hid (show Tree.spB false (treeIx l0 i) p at_ = lspS 0 (ks.map fun q => treeIx l0 q.toNat) a0' ++ [⟨(at_ : Nat), (a1' : Nat)⟩] from by
    have hE : at_ + (2 + (commas ((ks.map fun q => treeIx l0 q.toNat).map fun u => u.tks false posTop)).length + 1) = a1' := by omega
    rw [hT1.out, hE, ha0'])
  have hend : Hid (a1' = at_ + (2 + (commas ((ks.map fun q => treeIx l0 q.toNat).map fun u => u.tks false posTop)).length + 1)) := hid (by omega)
  have hSL : (lspS 0 (ks.map fun q => treeIx l0 q.toNat) a0').length + 1 = (treeIx l0 i).post.length := by rw [hSl, hpi]; rfl
  generalize lspS 0 (ks.map fun q => treeIx l0 q.toNat) a0' = S0 at *
  generalize (commas ((ks.map fun q => treeIx l0 q.toNat).map fun u => u.tks false posTop)).length = CL at *
  have hn1 : 0 ≤ v0 ∧ v0 ≤ 200000 := by omega
  clear hks htile hk0s hSl hsum hn hEz hv0 hkrow
  generalize (treeIx l0 i).post.length = PI at *
  clear hpi
  have hblw : b < W.heap.size := Nat.lt_of_lt_of_le hbl hO.hb.size
  have gl := hO.ltg
  have bx := hO.box
  have s0 : W.cell? ⟨sb, 0, none⟩ = some (.slice (some ⟨b, off, none⟩) l0.length cap) := box_cell bx rfl
  have s2 : W.cell? ⟨sb, 2, none⟩ = some (.slice (some ⟨g, 0, none⟩) l0.length oc) := box_cell bx rfl
  have g0 := own_read hO.row (span_get hz 0 rfl)
  have gf := sp_froz hO.row (i * 2)
  simp only [Nat.add_zero] at g0
  have hsbw : sb < W.heap.size := heap_lt bx
  have hnsg := hO.hne
  have hwa1 : IntKind.wrap .i64 ((at_ : Int) + 1) = ((at_ + 1 : Nat) : Int) := by rw [wrap_in _ (by unfold I64; omega)]; omega
  have hwl : IntKind.wrap .i64 ((at_ : Int) + 2) = (a0' : Int) := by rw [wrap_in _ (by unfold I64; omega)]; omega
  have hws0 : IntKind.wrap .i64 ((v0 : Int) + 1) = (a1' : Int) := by rw [wrap_in _ (by unfold I64; omega)]; omega
  have hO1 := hid (((((hO.set (i * 2) (.int .i64 (at_ : Nat)) (span_set0 hz (at_ : Nat))).below ((Below.refl _ _).alloc (Nat.le_refl _) (.cells #[.int .i64 p.level, .bool p.dollar, .bool p.noIn, .bool p.noGt, .bool p.noSign] 36))).below ((Below.refl _ _).alloc (Nat.le_refl _) (.cells #[.int .i64 7, .int .i64 o, .string a, .string b2, .slice ka ks.length kc] 58))).below ((Below.refl _ _).alloc (Nat.le_refl _) (.cells #[.int .i64 14, .bool false, .bool false, .bool false, .bool false] 36))))
  have hg1 := hid (show W.grownBy ((((W.setCell ⟨g, i * 2, none⟩ (.int .i64 (at_ : Nat))).alloc (.cells #[.int .i64 p.level, .bool p.dollar, .bool p.noIn, .bool p.noGt, .bool p.noSign] 36)).alloc (.cells #[.int .i64 7, .int .i64 o, .string a, .string b2, .slice ka ks.length kc] 58)).alloc (.cells #[.int .i64 14, .bool false, .bool false, .bool false, .bool false] 36)) (some g) from grown_trans (grown_trans (grown_trans (grown_set W g (i * 2) _) (World.grownBy_alloc _ _ _)) (World.grownBy_alloc _ _ _)) (World.grownBy_alloc _ _ _))
  obtain ⟨hx1, hx3, hxl⟩ := sp_alloc3 (W.setCell ⟨g, i * 2, none⟩ (.int .i64 (at_ : Nat))) (.cells #[.int .i64 p.level, .bool p.dollar, .bool p.noIn, .bool p.noGt, .bool p.noSign] 36) (.cells #[.int .i64 7, .int .i64 o, .string a, .string b2, .slice ka ks.length kc] 58) (.cells #[.int .i64 14, .bool false, .bool false, .bool false, .bool false] 36)
  rw [show (W.setCell ⟨g, i * 2, none⟩ (.int .i64 (at_ : Nat))).heap.size = W.heap.size by simp] at hx1 hx3 hxl
  replace hx1 := hid hx1
  replace hx3 := hid hx3
  replace hxl := hid hxl
  have hgw := hid gl
  have hz2 := hid hz
  replace hO := hid hO
  clear hT hz bx hx hx2
  generalize s.getD i 0 = bi at *
  replace hgi := hid hgi
  replace hbi := hid hbi
  replace hat := hid hat
  replace hSL := hid hSL
  replace ha0' := hid ha0'
  replace ha1' := hid ha1'
  replace hn1 := hid hn1
  replace hCl := hid hCl
  go_enter Tryz.func80, Tryz.ntmps80
  go_upto_region 4 with fail
  generalize (((W.setCell ⟨g, i * 2, none⟩ (.int .i64 (at_ : Nat))).alloc (.cells #[.int .i64 p.level, .bool p.dollar, .bool p.noIn, .bool p.noGt, .bool p.noSign] 36)).alloc (.cells #[.int .i64 7, .int .i64 o, .string a, .string b2, .slice ka ks.length kc] 58)).alloc (.cells #[.int .i64 14, .bool false, .bool false, .bool false, .bool false] 36) = W1 at hO1 hg1 hx1 hx3 hxl ⊢
  have hnb := hid (show W.heap.size ≠ g ∧ W.heap.size + 1 ≠ g ∧ W.heap.size + 1 + 1 ≠ g from by have := hgw.out; omega)
  clear s0 s2 g0 gf c0 c1 c2 c3 c4 hsbw hblw gl hnsg
  have hS := hid (show ∀ W', W1.grownBy W' (some g) → W'.cell? ⟨W.heap.size, 0, none⟩ = some (.int .i64 p.level) ∧ W'.cell? ⟨W.heap.size, 1, none⟩ = some (.bool p.dollar) ∧ W'.cell? ⟨W.heap.size, 2, none⟩ = some (.bool p.noIn) ∧ W'.cell? ⟨W.heap.size, 3, none⟩ = some (.bool p.noGt) ∧ W'.cell? ⟨W.heap.size, 4, none⟩ = some (.bool p.noSign) ∧ W'.cell? ⟨W.heap.size + 1, 0, none⟩ = some (.int .i64 7) ∧ W'.cell? ⟨W.heap.size + 1, 1, none⟩ = some (.int .i64 o) ∧ W'.cell? ⟨W.heap.size + 1, 2, none⟩ = some (.string a) ∧ W'.cell? ⟨W.heap.size + 1, 3, none⟩ = some (.string b2) ∧ W'.cell? ⟨W.heap.size + 1, 4, none⟩ = some (.slice ka ks.length kc) ∧ W'.cell? ⟨W.heap.size + 1 + 1, 0, none⟩ = some (.int .i64 14) ∧ W'.cell? ⟨W.heap.size + 1 + 1, 1, none⟩ = some (.bool false) ∧ W'.cell? ⟨W.heap.size + 1 + 1, 2, none⟩ = some (.bool false) ∧ W'.cell? ⟨W.heap.size + 1 + 1, 3, none⟩ = some (.bool false) ∧ W'.cell? ⟨W.heap.size + 1 + 1, 4, none⟩ = some (.bool false) from fun W' hW => ⟨box_cell (grow_block hW hx1.out hnb.out.1) rfl, box_cell (grow_block hW hx1.out hnb.out.1) rfl, box_cell (grow_block hW hx1.out hnb.out.1) rfl, box_cell (grow_block hW hx1.out hnb.out.1) rfl, box_cell (grow_block hW hx1.out hnb.out.1) rfl, box_cell (grow_block hW hx3.out hnb.out.2.1) rfl, box_cell (grow_block hW hx3.out hnb.out.2.1) rfl, box_cell (grow_block hW hx3.out hnb.out.2.1) rfl, box_cell (grow_block hW hx3.out hnb.out.2.1) rfl, box_cell (grow_block hW hx3.out hnb.out.2.1) rfl, box_cell (grow_block hW hxl.out hnb.out.2.2) rfl, box_cell (grow_block hW hxl.out hnb.out.2.2) rfl, box_cell (grow_block hW hxl.out hnb.out.2.2) rfl, box_cell (grow_block hW hxl.out hnb.out.2.2) rfl, box_cell (grow_block hW hxl.out hnb.out.2.2) rfl⟩)
  have hGn0 := hid (grown_refl W1 (some g))
  obtain ⟨y0, y1, y2, y3, y4, y5, y6, y7, y8, y9, y10, y11, y12, y13, y14⟩ := hS.out _ hGn0.out
  go_wp2_with fail
  refine (hO1b.out _ _ hO1.out).mono ?_; rintro e wn ⟨rfl, hgl, hOl9⟩
  have hOn := hid hOl9
  have hGn := hid hgl
  clear hgl hOl9 hGn0 y0 y1 y2 y3 y4 y5 y6 y7 y8 y9 y10 y11 y12 y13 y14
  all_goals
    have hzn := hid (span_mid (O := O) (S := S0) (b := bi) (i := i) (x := ⟨(at_ : Nat), z.hi⟩) (by have hgi := hgi.out; have hbi := hbi.out; have hat := hat.out; have hSL := hSL.out; have ha0' := ha0'.out; have ha1' := ha1'.out; have hn1 := hn1.out; have hCl := hCl.out; omega) (by rw [hOl.out]; exact hi))
    have hdone := hid (span_done (O := O) (S := S0) (b := bi) (i := i) (x := ⟨(at_ : Nat), z.hi⟩) (y := ⟨(at_ : Nat), (a1' : Nat)⟩) (by have hgi := hgi.out; have hbi := hbi.out; have hat := hat.out; have hSL := hSL.out; have ha0' := ha0'.out; have ha1' := ha1'.out; have hn1 := hn1.out; have hCl := hCl.out; omega) (by rw [hOl.out]; exact hi))
    have q2 : wn.cell? ⟨sb, 2, none⟩ = some (.slice (some ⟨g, 0, none⟩) l0.length oc) := box_cell hOn.out.box rfl
    have q1 := own_read hOn.out.row (span_get hzn.out 1 rfl)
    have qf := sp_froz hOn.out.row (i * 2 + 1)
    have hfin := hid (hOn.out.set (i * 2 + 1) (.int .i64 (a1' : Nat)) (span_set1 hzn.out (a1' : Nat)))
    have hgf := hid (grown_trans (grown_trans hg1.out hGn.out) (grown_set wn g (i * 2 + 1) (.int .i64 (a1' : Nat))))
    clear hzn hOn hGn
    go_wp2
    go_ret
    exact ⟨ret_int (by rw [hT2.out, hend.out]), hgf.out, by rw [hTx.out, ← hdone.out]; exact hfin.out⟩
set_option maxRecDepth 100000 in
set_option maxHeartbeats 6400000 in
theorem specl30Node_8 {w0 : World} {l0 : List Node} {a0 : Option Addr} {cap sb g oc i : Nat} {s : List Nat} {o : Int} {ks : List Int} {a b2 : ByteArray} (hv : NodeSlc w0 (.slice a0 l0.length cap) l0) (hx : l0[i]? = some ⟨8, o, a, b2, ks⟩) (hbi : s.getD i 0 ≤ i) (hks : ∀ q ∈ ks, 0 ≤ q ∧ LAtC w0 l0 a0 cap sb g oc s q.toNat ∧ s.getD q.toNat 0 + (treeIx l0 q.toNat).post.length = q.toNat + 1 ∧ q.toNat < l0.length) (hn : ks.length ≤ 10) (htile : Tiles s ks (s.getD i 0) i) (hgi : s.getD i 0 + (treeIx l0 i).post.length = i + 1) (hpi : (treeIx l0 i).post.length = (ks.map fun q => (treeIx l0 q.toNat).post.length).sum + 1) (hT : ∀ (p : Pos) (at_ : Nat), posOkB p = true → (treeIx l0 i).spB false p at_ = (lspS 0 (ks.map fun q => treeIx l0 q.toNat) (at_ + 2)) ++ [⟨at_, ((at_ + (2 + (commas ((ks.map fun q => treeIx l0 q.toNat).map fun u => u.tks false posTop)).length + 1) : Nat) : Int)⟩] ∧ ((treeIx l0 i).tkb false p).length = 2 + (commas ((ks.map fun q => treeIx l0 q.toNat).map fun u => u.tks false posTop)).length + 1) : LNodeC w0 l0 a0 cap sb g oc s i := by
  intro p W O at_ hp hO hat
  obtain ⟨a1, cap1, he1, hm1, hc1, hsl⟩ := hv.shape
  injection he1 with e1 _ e3
  subst e1; subst e3
  have hi := (List.getElem?_eq_some_iff.1 hx).1
  obtain ⟨x, ka, kc, b, off, hx2, he2, c0, c1, c2, c3, c4, hkd⟩ := hsl.at (Below.refl _ _) (Nat.le_refl _) hi
  obtain rfl : x = ⟨8, o, a, b2, ks⟩ := Option.some.inj (hx2.symm.trans hx)
  subst he2
  obtain ⟨_, _, _, hkv, hkc, hkm, hkrow⟩ := hkd
  simp at hkv
  obtain ⟨rfl, rfl⟩ := hkv
  have hbl : b < w0.heap.size := World.block_lt_of_cell? w0 _ c0
  obtain ⟨hT1, hT2⟩ := hT p at_ hp
  replace hT1 := hid hT1
  replace hT2 := hid hT2
  obtain ⟨z, hz⟩ := get_of_lt (show i < O.length by rw [hO.len]; exact hi)
  replace c0 := keepc hO.hb c0
  replace c1 := keepc hO.hb c1
  replace c2 := keepc hO.hb c2
  replace c3 := keepc hO.hb c3
  replace c4 := keepc hO.hb c4
  have hii : (i : Int) < (l0.length : Int) := by omega
  have hOl := hid hO.len
  unfold maxLen at hkm
  obtain ⟨a0', ha0'⟩ : ∃ x, x = at_ + 2 := ⟨_, rfl⟩
  have hsum : (ks.map fun q => 8 * (treeIx l0 q.toNat).post.length).sum = 8 * (ks.map fun q => (treeIx l0 q.toNat).post.length).sum := sum_eight _ ks
  have hSl := lspS_len (ks.map fun q => treeIx l0 q.toNat) 0 a0'
  rw [List.map_map] at hSl
  have hEz := lspE_zero (ks.map fun q => treeIx l0 q.toNat) a0'
  have hk0s : Slc w0 (.slice ka ks.length kc) 1 ks.length (ks.flatMap int1) := ⟨flat_len int1 1 int1_len ks, ka, kc, rfl, hkc, by unfold maxLen; omega, hkrow⟩
  have hO1b := hid (fun W' O' (hO' : OSt w0 W' sb g oc (some ⟨b, off, none⟩) l0.length cap O') => specl30List_any ks ka kc (s.getD i 0) i hks hn htile hk0s W' O' a0' hO' (by rw [hsum, ha0']; omega))
  unfold SpanPost at hO1b
  obtain ⟨v0, hv0⟩ : ∃ x, x = lspE 0 (ks.map fun q => treeIx l0 q.toNat) a0' := ⟨_, rfl⟩
  rw [← hv0] at hO1b hEz
  obtain ⟨a1', ha1'⟩ : ∃ x, x = v0 + 1 := ⟨_, rfl⟩
  have hCl : (commas ((ks.map fun q => treeIx l0 q.toNat).map fun u => u.tks false posTop)).length ≤ 100000 := by
    have h9 := lspE_bd ks l0 (fun q hq => (treeIx l0 q.toNat).tks_len false posTop)
    rw [hsum] at h9
    omega
  have hTx := hid (show Tree.spB false (treeIx l0 i) p at_ = lspS 0 (ks.map fun q => treeIx l0 q.toNat) a0' ++ [⟨(at_ : Nat), (a1' : Nat)⟩] from by
    have hE : at_ + (2 + (commas ((ks.map fun q => treeIx l0 q.toNat).map fun u => u.tks false posTop)).length + 1) = a1' := by omega
    rw [hT1.out, hE, ha0'])
  have hend : Hid (a1' = at_ + (2 + (commas ((ks.map fun q => treeIx l0 q.toNat).map fun u => u.tks false posTop)).length + 1)) := hid (by omega)
  have hSL : (lspS 0 (ks.map fun q => treeIx l0 q.toNat) a0').length + 1 = (treeIx l0 i).post.length := by rw [hSl, hpi]; rfl
  generalize lspS 0 (ks.map fun q => treeIx l0 q.toNat) a0' = S0 at *
  generalize (commas ((ks.map fun q => treeIx l0 q.toNat).map fun u => u.tks false posTop)).length = CL at *
  have hn1 : 0 ≤ v0 ∧ v0 ≤ 200000 := by omega
  clear hks htile hk0s hSl hsum hn hEz hv0 hkrow
  generalize (treeIx l0 i).post.length = PI at *
  clear hpi
  have hblw : b < W.heap.size := Nat.lt_of_lt_of_le hbl hO.hb.size
  have gl := hO.ltg
  have bx := hO.box
  have s0 : W.cell? ⟨sb, 0, none⟩ = some (.slice (some ⟨b, off, none⟩) l0.length cap) := box_cell bx rfl
  have s2 : W.cell? ⟨sb, 2, none⟩ = some (.slice (some ⟨g, 0, none⟩) l0.length oc) := box_cell bx rfl
  have g0 := own_read hO.row (span_get hz 0 rfl)
  have gf := sp_froz hO.row (i * 2)
  simp only [Nat.add_zero] at g0
  have hsbw : sb < W.heap.size := heap_lt bx
  have hnsg := hO.hne
  have hwa1 : IntKind.wrap .i64 ((at_ : Int) + 1) = ((at_ + 1 : Nat) : Int) := by rw [wrap_in _ (by unfold I64; omega)]; omega
  have hwl : IntKind.wrap .i64 ((at_ : Int) + 2) = (a0' : Int) := by rw [wrap_in _ (by unfold I64; omega)]; omega
  have hws0 : IntKind.wrap .i64 ((v0 : Int) + 1) = (a1' : Int) := by rw [wrap_in _ (by unfold I64; omega)]; omega
  have hO1 := hid (((((hO.set (i * 2) (.int .i64 (at_ : Nat)) (span_set0 hz (at_ : Nat))).below ((Below.refl _ _).alloc (Nat.le_refl _) (.cells #[.int .i64 p.level, .bool p.dollar, .bool p.noIn, .bool p.noGt, .bool p.noSign] 36))).below ((Below.refl _ _).alloc (Nat.le_refl _) (.cells #[.int .i64 8, .int .i64 o, .string a, .string b2, .slice ka ks.length kc] 58))).below ((Below.refl _ _).alloc (Nat.le_refl _) (.cells #[.int .i64 14, .bool false, .bool false, .bool false, .bool false] 36))))
  have hg1 := hid (show W.grownBy ((((W.setCell ⟨g, i * 2, none⟩ (.int .i64 (at_ : Nat))).alloc (.cells #[.int .i64 p.level, .bool p.dollar, .bool p.noIn, .bool p.noGt, .bool p.noSign] 36)).alloc (.cells #[.int .i64 8, .int .i64 o, .string a, .string b2, .slice ka ks.length kc] 58)).alloc (.cells #[.int .i64 14, .bool false, .bool false, .bool false, .bool false] 36)) (some g) from grown_trans (grown_trans (grown_trans (grown_set W g (i * 2) _) (World.grownBy_alloc _ _ _)) (World.grownBy_alloc _ _ _)) (World.grownBy_alloc _ _ _))
  obtain ⟨hx1, hx3, hxl⟩ := sp_alloc3 (W.setCell ⟨g, i * 2, none⟩ (.int .i64 (at_ : Nat))) (.cells #[.int .i64 p.level, .bool p.dollar, .bool p.noIn, .bool p.noGt, .bool p.noSign] 36) (.cells #[.int .i64 8, .int .i64 o, .string a, .string b2, .slice ka ks.length kc] 58) (.cells #[.int .i64 14, .bool false, .bool false, .bool false, .bool false] 36)
  rw [show (W.setCell ⟨g, i * 2, none⟩ (.int .i64 (at_ : Nat))).heap.size = W.heap.size by simp] at hx1 hx3 hxl
  replace hx1 := hid hx1
  replace hx3 := hid hx3
  replace hxl := hid hxl
  have hgw := hid gl
  have hz2 := hid hz
  replace hO := hid hO
  clear hT hz bx hx hx2
  generalize s.getD i 0 = bi at *
  replace hgi := hid hgi
  replace hbi := hid hbi
  replace hat := hid hat
  replace hSL := hid hSL
  replace ha0' := hid ha0'
  replace ha1' := hid ha1'
  replace hn1 := hid hn1
  replace hCl := hid hCl
  go_enter Tryz.func80, Tryz.ntmps80
  go_upto_region 4 with fail
  generalize (((W.setCell ⟨g, i * 2, none⟩ (.int .i64 (at_ : Nat))).alloc (.cells #[.int .i64 p.level, .bool p.dollar, .bool p.noIn, .bool p.noGt, .bool p.noSign] 36)).alloc (.cells #[.int .i64 8, .int .i64 o, .string a, .string b2, .slice ka ks.length kc] 58)).alloc (.cells #[.int .i64 14, .bool false, .bool false, .bool false, .bool false] 36) = W1 at hO1 hg1 hx1 hx3 hxl ⊢
  have hnb := hid (show W.heap.size ≠ g ∧ W.heap.size + 1 ≠ g ∧ W.heap.size + 1 + 1 ≠ g from by have := hgw.out; omega)
  clear s0 s2 g0 gf c0 c1 c2 c3 c4 hsbw hblw gl hnsg
  have hS := hid (show ∀ W', W1.grownBy W' (some g) → W'.cell? ⟨W.heap.size, 0, none⟩ = some (.int .i64 p.level) ∧ W'.cell? ⟨W.heap.size, 1, none⟩ = some (.bool p.dollar) ∧ W'.cell? ⟨W.heap.size, 2, none⟩ = some (.bool p.noIn) ∧ W'.cell? ⟨W.heap.size, 3, none⟩ = some (.bool p.noGt) ∧ W'.cell? ⟨W.heap.size, 4, none⟩ = some (.bool p.noSign) ∧ W'.cell? ⟨W.heap.size + 1, 0, none⟩ = some (.int .i64 8) ∧ W'.cell? ⟨W.heap.size + 1, 1, none⟩ = some (.int .i64 o) ∧ W'.cell? ⟨W.heap.size + 1, 2, none⟩ = some (.string a) ∧ W'.cell? ⟨W.heap.size + 1, 3, none⟩ = some (.string b2) ∧ W'.cell? ⟨W.heap.size + 1, 4, none⟩ = some (.slice ka ks.length kc) ∧ W'.cell? ⟨W.heap.size + 1 + 1, 0, none⟩ = some (.int .i64 14) ∧ W'.cell? ⟨W.heap.size + 1 + 1, 1, none⟩ = some (.bool false) ∧ W'.cell? ⟨W.heap.size + 1 + 1, 2, none⟩ = some (.bool false) ∧ W'.cell? ⟨W.heap.size + 1 + 1, 3, none⟩ = some (.bool false) ∧ W'.cell? ⟨W.heap.size + 1 + 1, 4, none⟩ = some (.bool false) from fun W' hW => ⟨box_cell (grow_block hW hx1.out hnb.out.1) rfl, box_cell (grow_block hW hx1.out hnb.out.1) rfl, box_cell (grow_block hW hx1.out hnb.out.1) rfl, box_cell (grow_block hW hx1.out hnb.out.1) rfl, box_cell (grow_block hW hx1.out hnb.out.1) rfl, box_cell (grow_block hW hx3.out hnb.out.2.1) rfl, box_cell (grow_block hW hx3.out hnb.out.2.1) rfl, box_cell (grow_block hW hx3.out hnb.out.2.1) rfl, box_cell (grow_block hW hx3.out hnb.out.2.1) rfl, box_cell (grow_block hW hx3.out hnb.out.2.1) rfl, box_cell (grow_block hW hxl.out hnb.out.2.2) rfl, box_cell (grow_block hW hxl.out hnb.out.2.2) rfl, box_cell (grow_block hW hxl.out hnb.out.2.2) rfl, box_cell (grow_block hW hxl.out hnb.out.2.2) rfl, box_cell (grow_block hW hxl.out hnb.out.2.2) rfl⟩)
  have hGn0 := hid (grown_refl W1 (some g))
  obtain ⟨y0, y1, y2, y3, y4, y5, y6, y7, y8, y9, y10, y11, y12, y13, y14⟩ := hS.out _ hGn0.out
  go_wp2_with fail
  refine (hO1b.out _ _ hO1.out).mono ?_; rintro e wn ⟨rfl, hgl, hOl9⟩
  have hOn := hid hOl9
  have hGn := hid hgl
  clear hgl hOl9 hGn0 y0 y1 y2 y3 y4 y5 y6 y7 y8 y9 y10 y11 y12 y13 y14
  all_goals
    have hzn := hid (span_mid (O := O) (S := S0) (b := bi) (i := i) (x := ⟨(at_ : Nat), z.hi⟩) (by have hgi := hgi.out; have hbi := hbi.out; have hat := hat.out; have hSL := hSL.out; have ha0' := ha0'.out; have ha1' := ha1'.out; have hn1 := hn1.out; have hCl := hCl.out; omega) (by rw [hOl.out]; exact hi))
    have hdone := hid (span_done (O := O) (S := S0) (b := bi) (i := i) (x := ⟨(at_ : Nat), z.hi⟩) (y := ⟨(at_ : Nat), (a1' : Nat)⟩) (by have hgi := hgi.out; have hbi := hbi.out; have hat := hat.out; have hSL := hSL.out; have ha0' := ha0'.out; have ha1' := ha1'.out; have hn1 := hn1.out; have hCl := hCl.out; omega) (by rw [hOl.out]; exact hi))
    have q2 : wn.cell? ⟨sb, 2, none⟩ = some (.slice (some ⟨g, 0, none⟩) l0.length oc) := box_cell hOn.out.box rfl
    have q1 := own_read hOn.out.row (span_get hzn.out 1 rfl)
    have qf := sp_froz hOn.out.row (i * 2 + 1)
    have hfin := hid (hOn.out.set (i * 2 + 1) (.int .i64 (a1' : Nat)) (span_set1 hzn.out (a1' : Nat)))
    have hgf := hid (grown_trans (grown_trans hg1.out hGn.out) (grown_set wn g (i * 2 + 1) (.int .i64 (a1' : Nat))))
    clear hzn hOn hGn
    go_wp2
    go_ret
    exact ⟨ret_int (by rw [hT2.out, hend.out]), hgf.out, by rw [hTx.out, ← hdone.out]; exact hfin.out⟩
set_option maxRecDepth 100000 in
set_option maxHeartbeats 6400000 in
theorem specl30Node_13b {w0 : World} {l0 : List Node} {a0 : Option Addr} {cap sb g oc i : Nat} {s : List Nat} {o : Int} {ks : List Int} {a b2 : ByteArray} (hv : NodeSlc w0 (.slice a0 l0.length cap) l0) (hx : l0[i]? = some ⟨13, o, a, b2, ks⟩) (hbi : s.getD i 0 ≤ i) (hks : ∀ q ∈ ks, 0 ≤ q ∧ LAtC w0 l0 a0 cap sb g oc s q.toNat ∧ s.getD q.toNat 0 + (treeIx l0 q.toNat).post.length = q.toNat + 1 ∧ q.toNat < l0.length) (hn : ks.length ≤ 10) (h1n : 1 < ks.length) (htile : Tiles s ks (s.getD i 0) i) (hgi : s.getD i 0 + (treeIx l0 i).post.length = i + 1) (hpi : (treeIx l0 i).post.length = (ks.map fun q => (treeIx l0 q.toNat).post.length).sum + 1) (hT : ∀ (p : Pos) (at_ : Nat), posOkB p = true → (treeIx l0 i).spB false p at_ = (lspS 0 (ks.map fun q => treeIx l0 q.toNat) (at_ + 1)) ++ [⟨at_, ((at_ + (1 + (commas ((ks.map fun q => treeIx l0 q.toNat).map fun u => u.tks false posTop)).length + 3) : Nat) : Int)⟩] ∧ ((treeIx l0 i).tkb false p).length = 1 + (commas ((ks.map fun q => treeIx l0 q.toNat).map fun u => u.tks false posTop)).length + 3) : LNodeC w0 l0 a0 cap sb g oc s i := by
  intro p W O at_ hp hO hat
  obtain ⟨a1, cap1, he1, hm1, hc1, hsl⟩ := hv.shape
  injection he1 with e1 _ e3
  subst e1; subst e3
  have hi := (List.getElem?_eq_some_iff.1 hx).1
  obtain ⟨x, ka, kc, b, off, hx2, he2, c0, c1, c2, c3, c4, hkd⟩ := hsl.at (Below.refl _ _) (Nat.le_refl _) hi
  obtain rfl : x = ⟨13, o, a, b2, ks⟩ := Option.some.inj (hx2.symm.trans hx)
  subst he2
  obtain ⟨_, _, _, hkv, hkc, hkm, hkrow⟩ := hkd
  simp at hkv
  obtain ⟨rfl, rfl⟩ := hkv
  have hbl : b < w0.heap.size := World.block_lt_of_cell? w0 _ c0
  obtain ⟨hT1, hT2⟩ := hT p at_ hp
  replace hT1 := hid hT1
  replace hT2 := hid hT2
  obtain ⟨z, hz⟩ := get_of_lt (show i < O.length by rw [hO.len]; exact hi)
  replace c0 := keepc hO.hb c0
  replace c1 := keepc hO.hb c1
  replace c2 := keepc hO.hb c2
  replace c3 := keepc hO.hb c3
  replace c4 := keepc hO.hb c4
  have hii : (i : Int) < (l0.length : Int) := by omega
  have hOl := hid hO.len
  unfold maxLen at hkm
  obtain ⟨a0', ha0'⟩ : ∃ x, x = at_ + 1 := ⟨_, rfl⟩
  have hsum : (ks.map fun q => 8 * (treeIx l0 q.toNat).post.length).sum = 8 * (ks.map fun q => (treeIx l0 q.toNat).post.length).sum := sum_eight _ ks
  have hSl := lspS_len (ks.map fun q => treeIx l0 q.toNat) 0 a0'
  rw [List.map_map] at hSl
  have hEz := lspE_zero (ks.map fun q => treeIx l0 q.toNat) a0'
  have hk0s : Slc w0 (.slice ka ks.length kc) 1 ks.length (ks.flatMap int1) := ⟨flat_len int1 1 int1_len ks, ka, kc, rfl, hkc, by unfold maxLen; omega, hkrow⟩
  have hO1b := hid (fun W' O' (hO' : OSt w0 W' sb g oc (some ⟨b, off, none⟩) l0.length cap O') => specl30List_any ks ka kc (s.getD i 0) i hks hn htile hk0s W' O' a0' hO' (by rw [hsum, ha0']; omega))
  unfold SpanPost at hO1b
  obtain ⟨v0, hv0⟩ : ∃ x, x = lspE 0 (ks.map fun q => treeIx l0 q.toNat) a0' := ⟨_, rfl⟩
  rw [← hv0] at hO1b hEz
  obtain ⟨a1', ha1'⟩ : ∃ x, x = v0 + 3 := ⟨_, rfl⟩
  have hCl : (commas ((ks.map fun q => treeIx l0 q.toNat).map fun u => u.tks false posTop)).length ≤ 100000 := by
    have h9 := lspE_bd ks l0 (fun q hq => (treeIx l0 q.toNat).tks_len false posTop)
    rw [hsum] at h9
    omega
  have hTx := hid (show Tree.spB false (treeIx l0 i) p at_ = lspS 0 (ks.map fun q => treeIx l0 q.toNat) a0' ++ [⟨(at_ : Nat), (a1' : Nat)⟩] from by
    have hE : at_ + (1 + (commas ((ks.map fun q => treeIx l0 q.toNat).map fun u => u.tks false posTop)).length + 3) = a1' := by omega
    rw [hT1.out, hE, ha0'])
  have hend : Hid (a1' = at_ + (1 + (commas ((ks.map fun q => treeIx l0 q.toNat).map fun u => u.tks false posTop)).length + 3)) := hid (by omega)
  have hSL : (lspS 0 (ks.map fun q => treeIx l0 q.toNat) a0').length + 1 = (treeIx l0 i).post.length := by rw [hSl, hpi]; rfl
  generalize lspS 0 (ks.map fun q => treeIx l0 q.toNat) a0' = S0 at *
  generalize (commas ((ks.map fun q => treeIx l0 q.toNat).map fun u => u.tks false posTop)).length = CL at *
  have hn1 : 0 ≤ v0 ∧ v0 ≤ 200000 := by omega
  have hn2 : (1 : Int) < (ks.length : Int) := by omega
  clear hks htile hk0s hSl hsum hn hEz hv0 hkrow
  generalize (treeIx l0 i).post.length = PI at *
  clear hpi
  have hblw : b < W.heap.size := Nat.lt_of_lt_of_le hbl hO.hb.size
  have gl := hO.ltg
  have bx := hO.box
  have s0 : W.cell? ⟨sb, 0, none⟩ = some (.slice (some ⟨b, off, none⟩) l0.length cap) := box_cell bx rfl
  have s2 : W.cell? ⟨sb, 2, none⟩ = some (.slice (some ⟨g, 0, none⟩) l0.length oc) := box_cell bx rfl
  have g0 := own_read hO.row (span_get hz 0 rfl)
  have gf := sp_froz hO.row (i * 2)
  simp only [Nat.add_zero] at g0
  have hsbw : sb < W.heap.size := heap_lt bx
  have hnsg := hO.hne
  have hwl : IntKind.wrap .i64 ((at_ : Int) + 1) = (a0' : Int) := by rw [wrap_in _ (by unfold I64; omega)]; omega
  have hws0 : IntKind.wrap .i64 ((v0 : Int) + 3) = (a1' : Int) := by rw [wrap_in _ (by unfold I64; omega)]; omega
  have hO1 := hid (((((hO.set (i * 2) (.int .i64 (at_ : Nat)) (span_set0 hz (at_ : Nat))).below ((Below.refl _ _).alloc (Nat.le_refl _) (.cells #[.int .i64 p.level, .bool p.dollar, .bool p.noIn, .bool p.noGt, .bool p.noSign] 36))).below ((Below.refl _ _).alloc (Nat.le_refl _) (.cells #[.int .i64 13, .int .i64 o, .string a, .string b2, .slice ka ks.length kc] 58))).below ((Below.refl _ _).alloc (Nat.le_refl _) (.cells #[.int .i64 14, .bool false, .bool false, .bool false, .bool false] 36))))
  have hg1 := hid (show W.grownBy ((((W.setCell ⟨g, i * 2, none⟩ (.int .i64 (at_ : Nat))).alloc (.cells #[.int .i64 p.level, .bool p.dollar, .bool p.noIn, .bool p.noGt, .bool p.noSign] 36)).alloc (.cells #[.int .i64 13, .int .i64 o, .string a, .string b2, .slice ka ks.length kc] 58)).alloc (.cells #[.int .i64 14, .bool false, .bool false, .bool false, .bool false] 36)) (some g) from grown_trans (grown_trans (grown_trans (grown_set W g (i * 2) _) (World.grownBy_alloc _ _ _)) (World.grownBy_alloc _ _ _)) (World.grownBy_alloc _ _ _))
  obtain ⟨hx1, hx3, hxl⟩ := sp_alloc3 (W.setCell ⟨g, i * 2, none⟩ (.int .i64 (at_ : Nat))) (.cells #[.int .i64 p.level, .bool p.dollar, .bool p.noIn, .bool p.noGt, .bool p.noSign] 36) (.cells #[.int .i64 13, .int .i64 o, .string a, .string b2, .slice ka ks.length kc] 58) (.cells #[.int .i64 14, .bool false, .bool false, .bool false, .bool false] 36)
  rw [show (W.setCell ⟨g, i * 2, none⟩ (.int .i64 (at_ : Nat))).heap.size = W.heap.size by simp] at hx1 hx3 hxl
  replace hx1 := hid hx1
  replace hx3 := hid hx3
  replace hxl := hid hxl
  have hgw := hid gl
  have hz2 := hid hz
  replace hO := hid hO
  clear hT hz bx hx hx2
  generalize s.getD i 0 = bi at *
  replace hgi := hid hgi
  replace hbi := hid hbi
  replace hat := hid hat
  replace hSL := hid hSL
  replace ha0' := hid ha0'
  replace ha1' := hid ha1'
  replace hn1 := hid hn1
  replace hCl := hid hCl
  go_enter Tryz.func80, Tryz.ntmps80
  go_upto_region 4 with fail
  generalize (((W.setCell ⟨g, i * 2, none⟩ (.int .i64 (at_ : Nat))).alloc (.cells #[.int .i64 p.level, .bool p.dollar, .bool p.noIn, .bool p.noGt, .bool p.noSign] 36)).alloc (.cells #[.int .i64 13, .int .i64 o, .string a, .string b2, .slice ka ks.length kc] 58)).alloc (.cells #[.int .i64 14, .bool false, .bool false, .bool false, .bool false] 36) = W1 at hO1 hg1 hx1 hx3 hxl ⊢
  have hnb := hid (show W.heap.size ≠ g ∧ W.heap.size + 1 ≠ g ∧ W.heap.size + 1 + 1 ≠ g from by have := hgw.out; omega)
  clear s0 s2 g0 gf c0 c1 c2 c3 c4 hsbw hblw gl hnsg
  have hS := hid (show ∀ W', W1.grownBy W' (some g) → W'.cell? ⟨W.heap.size, 0, none⟩ = some (.int .i64 p.level) ∧ W'.cell? ⟨W.heap.size, 1, none⟩ = some (.bool p.dollar) ∧ W'.cell? ⟨W.heap.size, 2, none⟩ = some (.bool p.noIn) ∧ W'.cell? ⟨W.heap.size, 3, none⟩ = some (.bool p.noGt) ∧ W'.cell? ⟨W.heap.size, 4, none⟩ = some (.bool p.noSign) ∧ W'.cell? ⟨W.heap.size + 1, 0, none⟩ = some (.int .i64 13) ∧ W'.cell? ⟨W.heap.size + 1, 1, none⟩ = some (.int .i64 o) ∧ W'.cell? ⟨W.heap.size + 1, 2, none⟩ = some (.string a) ∧ W'.cell? ⟨W.heap.size + 1, 3, none⟩ = some (.string b2) ∧ W'.cell? ⟨W.heap.size + 1, 4, none⟩ = some (.slice ka ks.length kc) ∧ W'.cell? ⟨W.heap.size + 1 + 1, 0, none⟩ = some (.int .i64 14) ∧ W'.cell? ⟨W.heap.size + 1 + 1, 1, none⟩ = some (.bool false) ∧ W'.cell? ⟨W.heap.size + 1 + 1, 2, none⟩ = some (.bool false) ∧ W'.cell? ⟨W.heap.size + 1 + 1, 3, none⟩ = some (.bool false) ∧ W'.cell? ⟨W.heap.size + 1 + 1, 4, none⟩ = some (.bool false) from fun W' hW => ⟨box_cell (grow_block hW hx1.out hnb.out.1) rfl, box_cell (grow_block hW hx1.out hnb.out.1) rfl, box_cell (grow_block hW hx1.out hnb.out.1) rfl, box_cell (grow_block hW hx1.out hnb.out.1) rfl, box_cell (grow_block hW hx1.out hnb.out.1) rfl, box_cell (grow_block hW hx3.out hnb.out.2.1) rfl, box_cell (grow_block hW hx3.out hnb.out.2.1) rfl, box_cell (grow_block hW hx3.out hnb.out.2.1) rfl, box_cell (grow_block hW hx3.out hnb.out.2.1) rfl, box_cell (grow_block hW hx3.out hnb.out.2.1) rfl, box_cell (grow_block hW hxl.out hnb.out.2.2) rfl, box_cell (grow_block hW hxl.out hnb.out.2.2) rfl, box_cell (grow_block hW hxl.out hnb.out.2.2) rfl, box_cell (grow_block hW hxl.out hnb.out.2.2) rfl, box_cell (grow_block hW hxl.out hnb.out.2.2) rfl⟩)
  have hGn0 := hid (grown_refl W1 (some g))
  obtain ⟨y0, y1, y2, y3, y4, y5, y6, y7, y8, y9, y10, y11, y12, y13, y14⟩ := hS.out _ hGn0.out
  go_wp2_with fail
  refine (hO1b.out _ _ hO1.out).mono ?_; rintro e wn ⟨rfl, hgl, hOl9⟩
  have hOn := hid hOl9
  have hGn := hid hgl
  clear hgl hOl9 hGn0 y0 y1 y2 y3 y4 y5 y6 y7 y8 y9 y10 y11 y12 y13 y14
  all_goals
    have hzn := hid (span_mid (O := O) (S := S0) (b := bi) (i := i) (x := ⟨(at_ : Nat), z.hi⟩) (by have hgi := hgi.out; have hbi := hbi.out; have hat := hat.out; have hSL := hSL.out; have ha0' := ha0'.out; have ha1' := ha1'.out; have hn1 := hn1.out; have hCl := hCl.out; omega) (by rw [hOl.out]; exact hi))
    have hdone := hid (span_done (O := O) (S := S0) (b := bi) (i := i) (x := ⟨(at_ : Nat), z.hi⟩) (y := ⟨(at_ : Nat), (a1' : Nat)⟩) (by have hgi := hgi.out; have hbi := hbi.out; have hat := hat.out; have hSL := hSL.out; have ha0' := ha0'.out; have ha1' := ha1'.out; have hn1 := hn1.out; have hCl := hCl.out; omega) (by rw [hOl.out]; exact hi))
    have q2 : wn.cell? ⟨sb, 2, none⟩ = some (.slice (some ⟨g, 0, none⟩) l0.length oc) := box_cell hOn.out.box rfl
    have q1 := own_read hOn.out.row (span_get hzn.out 1 rfl)
    have qf := sp_froz hOn.out.row (i * 2 + 1)
    have hfin := hid (hOn.out.set (i * 2 + 1) (.int .i64 (a1' : Nat)) (span_set1 hzn.out (a1' : Nat)))
    have hgf := hid (grown_trans (grown_trans hg1.out hGn.out) (grown_set wn g (i * 2 + 1) (.int .i64 (a1' : Nat))))
    clear hzn hOn hGn
    go_wp2
    go_ret
    exact ⟨ret_int (by rw [hT2.out, hend.out]), hgf.out, by rw [hTx.out, ← hdone.out]; exact hfin.out⟩
end Go.Proofs.YtkelhmgdajiocaaGreatDoor
