/- Walks and lemmas of this seat (FSpanN): what each theorem says of the functions that it names. Conditions: those that each theorem states. -/
import Derived.Test.YtkelhmgdajiocaaGreatDoorGTA
import Derived.Test.YtkelhmgdajiocaaGreatDoorFKidPosS
namespace Go.Proofs.YtkelhmgdajiocaaGreatDoor
set_option linter.unusedVariables false
set_option linter.unusedSimpArgs false
open Go.RowKit Go.Lib

set_option maxRecDepth 100000 in
set_option maxHeartbeats 6400000 in
theorem specl30Node_1 {w0 : World} {l0 : List Node} {a0 : Option Addr} {cap sb g oc i : Nat} {s : List Nat} {o : Int} {a b2 : ByteArray} (hv : NodeSlc w0 (.slice a0 l0.length cap) l0) (hx : l0[i]? = some ⟨1, o, a, b2, []⟩) (hbi : s.getD i 0 ≤ i) (hb0 : s.getD i 0 = i) (hT : ∀ (p : Pos) (at_ : Nat), posOkB p = true → (treeIx l0 i).spB false p at_ = [] ++ [⟨at_, ((at_ + (1) : Nat) : Int)⟩] ∧ ((treeIx l0 i).tkb false p).length = 1) : LNodeC w0 l0 a0 cap sb g oc s i := by
  intro p W O at_ hp hO hat
  obtain ⟨a1, cap1, he1, hm1, hc1, hsl⟩ := hv.shape
  injection he1 with e1 _ e3
  subst e1; subst e3
  have hi := (List.getElem?_eq_some_iff.1 hx).1
  obtain ⟨x, ka, kc, b, off, hx2, he2, c0, c1, c2, c3, c4, hkd⟩ := hsl.at (Below.refl _ _) (Nat.le_refl _) hi
  obtain rfl : x = ⟨1, o, a, b2, []⟩ := Option.some.inj (hx2.symm.trans hx)
  subst he2
  obtain ⟨_, _, _, hkv, hkc, hkm, hkrow⟩ := hkd
  simp at hkv
  obtain ⟨rfl, rfl⟩ := hkv
  have hbl : b < w0.heap.size := World.block_lt_of_cell? w0 _ c0
  obtain ⟨hT1, hT2⟩ := hT p at_ hp
  replace hT1 := hid hT1
  replace hT2 := hid hT2
  obtain ⟨z, hz⟩ := get_of_lt (show i < O.length by rw [hO.len]; exact hi)
  replace c0 := keepc hO.hb c0
  replace c1 := keepc hO.hb c1
  replace c2 := keepc hO.hb c2
  replace c3 := keepc hO.hb c3
  replace c4 := keepc hO.hb c4
  have hii : (i : Int) < (l0.length : Int) := by omega
  have hOl := hid hO.len
  unfold maxLen at hkm
  obtain ⟨v, hv9⟩ : ∃ x, x = at_ + 1 := ⟨_, rfl⟩
  have hblw : b < W.heap.size := Nat.lt_of_lt_of_le hbl hO.hb.size
  have gl := hO.ltg
  have bx := hO.box
  have s0 : W.cell? ⟨sb, 0, none⟩ = some (.slice (some ⟨b, off, none⟩) l0.length cap) := box_cell bx rfl
  have s2 : W.cell? ⟨sb, 2, none⟩ = some (.slice (some ⟨g, 0, none⟩) l0.length oc) := box_cell bx rfl
  have g0 := own_read hO.row (span_get hz 0 rfl)
  have gf := sp_froz hO.row (i * 2)
  simp only [Nat.add_zero] at g0
  have hsl2 : sb < W.heap.size := heap_lt bx
  have hnsg := hO.hne
  have hwa1 : IntKind.wrap .i64 ((at_ : Int) + 1) = (v : Int) := by rw [wrap_in _ (by unfold I64; omega)]; omega
  have hend : Hid (v = at_ + 1) := hid hv9
  have hTx := hid (show Tree.spB false (treeIx l0 i) p at_ = [] ++ [⟨(at_ : Nat), (v : Nat)⟩] from by rw [hT1.out, hv9])
  clear hv9
  have hO1 := hid (((((hO.set (i * 2) (.int .i64 (at_ : Nat)) (span_set0 hz (at_ : Nat))).below ((Below.refl _ _).alloc (Nat.le_refl _) (.cells #[.int .i64 p.level, .bool p.dollar, .bool p.noIn, .bool p.noGt, .bool p.noSign] 36))).below ((Below.refl _ _).alloc (Nat.le_refl _) (.cells #[.int .i64 1, .int .i64 o, .string a, .string b2, .slice ka 0 kc] 58))).below ((Below.refl _ _).alloc (Nat.le_refl _) (.cells #[.int .i64 14, .bool false, .bool false, .bool false, .bool false] 36))))
  have hg1 := hid (show W.grownBy ((((W.setCell ⟨g, i * 2, none⟩ (.int .i64 (at_ : Nat))).alloc (.cells #[.int .i64 p.level, .bool p.dollar, .bool p.noIn, .bool p.noGt, .bool p.noSign] 36)).alloc (.cells #[.int .i64 1, .int .i64 o, .string a, .string b2, .slice ka 0 kc] 58)).alloc (.cells #[.int .i64 14, .bool false, .bool false, .bool false, .bool false] 36)) (some g) from grown_trans (grown_trans (grown_trans (grown_set W g (i * 2) _) (World.grownBy_alloc _ _ _)) (World.grownBy_alloc _ _ _)) (World.grownBy_alloc _ _ _))
  obtain ⟨hx1, hx3, hxl⟩ := sp_alloc3 (W.setCell ⟨g, i * 2, none⟩ (.int .i64 (at_ : Nat))) (.cells #[.int .i64 p.level, .bool p.dollar, .bool p.noIn, .bool p.noGt, .bool p.noSign] 36) (.cells #[.int .i64 1, .int .i64 o, .string a, .string b2, .slice ka 0 kc] 58) (.cells #[.int .i64 14, .bool false, .bool false, .bool false, .bool false] 36)
  rw [show (W.setCell ⟨g, i * 2, none⟩ (.int .i64 (at_ : Nat))).heap.size = W.heap.size by simp] at hx1 hx3 hxl
  replace hx1 := hid hx1
  replace hx3 := hid hx3
  replace hxl := hid hxl
  have hgw := hid gl
  have hz2 := hid hz
  replace hO := hid hO
  clear hT hz bx hx hx2
  generalize s.getD i 0 = bi at *
  replace hb0 := hid hb0
  go_enter Tryz.func80, Tryz.ntmps80
  go_upto_region 4 with fail
  generalize (((W.setCell ⟨g, i * 2, none⟩ (.int .i64 (at_ : Nat))).alloc (.cells #[.int .i64 p.level, .bool p.dollar, .bool p.noIn, .bool p.noGt, .bool p.noSign] 36)).alloc (.cells #[.int .i64 1, .int .i64 o, .string a, .string b2, .slice ka 0 kc] 58)).alloc (.cells #[.int .i64 14, .bool false, .bool false, .bool false, .bool false] 36) = W1 at hO1 hg1 hx1 hx3 hxl ⊢
  have hnb := hid (show W.heap.size ≠ g ∧ W.heap.size + 1 ≠ g ∧ W.heap.size + 1 + 1 ≠ g from by have := hgw.out; omega)
  clear s0 s2 g0 gf c0 c1 c2 c3 c4 hsl2 hblw gl hnsg
  have hS := hid (show ∀ W', W1.grownBy W' (some g) → W'.cell? ⟨W.heap.size, 0, none⟩ = some (.int .i64 p.level) ∧ W'.cell? ⟨W.heap.size, 1, none⟩ = some (.bool p.dollar) ∧ W'.cell? ⟨W.heap.size, 2, none⟩ = some (.bool p.noIn) ∧ W'.cell? ⟨W.heap.size, 3, none⟩ = some (.bool p.noGt) ∧ W'.cell? ⟨W.heap.size, 4, none⟩ = some (.bool p.noSign) ∧ W'.cell? ⟨W.heap.size + 1, 0, none⟩ = some (.int .i64 1) ∧ W'.cell? ⟨W.heap.size + 1, 1, none⟩ = some (.int .i64 o) ∧ W'.cell? ⟨W.heap.size + 1, 2, none⟩ = some (.string a) ∧ W'.cell? ⟨W.heap.size + 1, 3, none⟩ = some (.string b2) ∧ W'.cell? ⟨W.heap.size + 1, 4, none⟩ = some (.slice ka 0 kc) ∧ W'.cell? ⟨W.heap.size + 1 + 1, 0, none⟩ = some (.int .i64 14) ∧ W'.cell? ⟨W.heap.size + 1 + 1, 1, none⟩ = some (.bool false) ∧ W'.cell? ⟨W.heap.size + 1 + 1, 2, none⟩ = some (.bool false) ∧ W'.cell? ⟨W.heap.size + 1 + 1, 3, none⟩ = some (.bool false) ∧ W'.cell? ⟨W.heap.size + 1 + 1, 4, none⟩ = some (.bool false) from fun W' hW => ⟨box_cell (grow_block hW hx1.out hnb.out.1) rfl, box_cell (grow_block hW hx1.out hnb.out.1) rfl, box_cell (grow_block hW hx1.out hnb.out.1) rfl, box_cell (grow_block hW hx1.out hnb.out.1) rfl, box_cell (grow_block hW hx1.out hnb.out.1) rfl, box_cell (grow_block hW hx3.out hnb.out.2.1) rfl, box_cell (grow_block hW hx3.out hnb.out.2.1) rfl, box_cell (grow_block hW hx3.out hnb.out.2.1) rfl, box_cell (grow_block hW hx3.out hnb.out.2.1) rfl, box_cell (grow_block hW hx3.out hnb.out.2.1) rfl, box_cell (grow_block hW hxl.out hnb.out.2.2) rfl, box_cell (grow_block hW hxl.out hnb.out.2.2) rfl, box_cell (grow_block hW hxl.out hnb.out.2.2) rfl, box_cell (grow_block hW hxl.out hnb.out.2.2) rfl, box_cell (grow_block hW hxl.out hnb.out.2.2) rfl⟩)
  have hGn := hid (grown_refl W1 (some g))
  have hOn : Hid (OSt w0 W1 sb g oc (some ⟨b, off, none⟩) l0.length cap (putS (O.set i ⟨(at_ : Nat), z.hi⟩) bi [])) := hid (by rw [putS_nil]; exact hO1.out)
  obtain ⟨y0, y1, y2, y3, y4, y5, y6, y7, y8, y9, y10, y11, y12, y13, y14⟩ := hS.out _ hGn.out
  all_goals
    have hzn := hid (span_mid (O := O) (S := []) (b := bi) (i := i) (x := ⟨(at_ : Nat), z.hi⟩) (by have hb0 := hb0.out; simp only [List.length_append, List.length_nil, ]; omega) (by rw [hOl.out]; exact hi))
    have hdone := hid (span_done (O := O) (S := []) (b := bi) (i := i) (x := ⟨(at_ : Nat), z.hi⟩) (y := ⟨(at_ : Nat), (v : Nat)⟩) (by have hb0 := hb0.out; simp only [List.length_append, List.length_nil, ]; omega) (by rw [hOl.out]; exact hi))
    have q2 : W1.cell? ⟨sb, 2, none⟩ = some (.slice (some ⟨g, 0, none⟩) l0.length oc) := box_cell hOn.out.box rfl
    have q1 := own_read hOn.out.row (span_get hzn.out 1 rfl)
    have qf := sp_froz hOn.out.row (i * 2 + 1)
    have hfin := hid (hOn.out.set (i * 2 + 1) (.int .i64 (v : Nat)) (span_set1 hzn.out (v : Nat)))
    have hgf := hid (grown_trans (grown_trans hg1.out hGn.out) (grown_set W1 g (i * 2 + 1) (.int .i64 (v : Nat))))
    clear hzn hOn hGn
    go_wp2
    go_ret
    exact ⟨ret_int (by rw [hT2.out, hend.out]), hgf.out, by rw [hTx.out, ← hdone.out]; exact hfin.out⟩
set_option maxRecDepth 100000 in
set_option maxHeartbeats 6400000 in
theorem specl30Node_2 {w0 : World} {l0 : List Node} {a0 : Option Addr} {cap sb g oc i : Nat} {s : List Nat} {o : Int} {a b2 : ByteArray} (hv : NodeSlc w0 (.slice a0 l0.length cap) l0) (hx : l0[i]? = some ⟨2, o, a, b2, []⟩) (hbi : s.getD i 0 ≤ i) (hb0 : s.getD i 0 = i) (hT : ∀ (p : Pos) (at_ : Nat), posOkB p = true → (treeIx l0 i).spB false p at_ = [] ++ [⟨at_, ((at_ + (1) : Nat) : Int)⟩] ∧ ((treeIx l0 i).tkb false p).length = 1) : LNodeC w0 l0 a0 cap sb g oc s i := by
  intro p W O at_ hp hO hat
  obtain ⟨a1, cap1, he1, hm1, hc1, hsl⟩ := hv.shape
  injection he1 with e1 _ e3
  subst e1; subst e3
  have hi := (List.getElem?_eq_some_iff.1 hx).1
  obtain ⟨x, ka, kc, b, off, hx2, he2, c0, c1, c2, c3, c4, hkd⟩ := hsl.at (Below.refl _ _) (Nat.le_refl _) hi
  obtain rfl : x = ⟨2, o, a, b2, []⟩ := Option.some.inj (hx2.symm.trans hx)
  subst he2
  obtain ⟨_, _, _, hkv, hkc, hkm, hkrow⟩ := hkd
  simp at hkv
  obtain ⟨rfl, rfl⟩ := hkv
  have hbl : b < w0.heap.size := World.block_lt_of_cell? w0 _ c0
  obtain ⟨hT1, hT2⟩ := hT p at_ hp
  replace hT1 := hid hT1
  replace hT2 := hid hT2
  obtain ⟨z, hz⟩ := get_of_lt (show i < O.length by rw [hO.len]; exact hi)
  replace c0 := keepc hO.hb c0
  replace c1 := keepc hO.hb c1
  replace c2 := keepc hO.hb c2
  replace c3 := keepc hO.hb c3
  replace c4 := keepc hO.hb c4
  have hii : (i : Int) < (l0.length : Int) := by omega
  have hOl := hid hO.len
  unfold maxLen at hkm
  obtain ⟨v, hv9⟩ : ∃ x, x = at_ + 1 := ⟨_, rfl⟩
  have hblw : b < W.heap.size := Nat.lt_of_lt_of_le hbl hO.hb.size
  have gl := hO.ltg
  have bx := hO.box
  have s0 : W.cell? ⟨sb, 0, none⟩ = some (.slice (some ⟨b, off, none⟩) l0.length cap) := box_cell bx rfl
  have s2 : W.cell? ⟨sb, 2, none⟩ = some (.slice (some ⟨g, 0, none⟩) l0.length oc) := box_cell bx rfl
  have g0 := own_read hO.row (span_get hz 0 rfl)
  have gf := sp_froz hO.row (i * 2)
  simp only [Nat.add_zero] at g0
  have hsl2 : sb < W.heap.size := heap_lt bx
  have hnsg := hO.hne
  have hwa1 : IntKind.wrap .i64 ((at_ : Int) + 1) = (v : Int) := by rw [wrap_in _ (by unfold I64; omega)]; omega
  have hend : Hid (v = at_ + 1) := hid hv9
  have hTx := hid (show Tree.spB false (treeIx l0 i) p at_ = [] ++ [⟨(at_ : Nat), (v : Nat)⟩] from by rw [hT1.out, hv9])
  clear hv9
  have hO1 := hid (((((hO.set (i * 2) (.int .i64 (at_ : Nat)) (span_set0 hz (at_ : Nat))).below ((Below.refl _ _).alloc (Nat.le_refl _) (.cells #[.int .i64 p.level, .bool p.dollar, .bool p.noIn, .bool p.noGt, .bool p.noSign] 36))).below ((Below.refl _ _).alloc (Nat.le_refl _) (.cells #[.int .i64 2, .int .i64 o, .string a, .string b2, .slice ka 0 kc] 58))).below ((Below.refl _ _).alloc (Nat.le_refl _) (.cells #[.int .i64 14, .bool false, .bool false, .bool false, .bool false] 36))))
  have hg1 := hid (show W.grownBy ((((W.setCell ⟨g, i * 2, none⟩ (.int .i64 (at_ : Nat))).alloc (.cells #[.int .i64 p.level, .bool p.dollar, .bool p.noIn, .bool p.noGt, .bool p.noSign] 36)).alloc (.cells #[.int .i64 2, .int .i64 o, .string a, .string b2, .slice ka 0 kc] 58)).alloc (.cells #[.int .i64 14, .bool false, .bool false, .bool false, .bool false] 36)) (some g) from grown_trans (grown_trans (grown_trans (grown_set W g (i * 2) _) (World.grownBy_alloc _ _ _)) (World.grownBy_alloc _ _ _)) (World.grownBy_alloc _ _ _))
  obtain ⟨hx1, hx3, hxl⟩ := sp_alloc3 (W.setCell ⟨g, i * 2, none⟩ (.int .i64 (at_ : Nat))) (.cells #[.int .i64 p.level, .bool p.dollar, .bool p.noIn, .bool p.noGt, .bool p.noSign] 36) (.cells #[.int .i64 2, .int .i64 o, .string a, .string b2, .slice ka 0 kc] 58) (.cells #[.int .i64 14, .bool false, .bool false, .bool false, .bool false] 36)
  rw [show (W.setCell ⟨g, i * 2, none⟩ (.int .i64 (at_ : Nat))).heap.size = W.heap.size by simp] at hx1 hx3 hxl
  replace hx1 := hid hx1
  replace hx3 := hid hx3
  replace hxl := hid hxl
  have hgw := hid gl
  have hz2 := hid hz
  replace hO := hid hO
  clear hT hz bx hx hx2
  generalize s.getD i 0 = bi at *
  replace hb0 := hid hb0
  go_enter Tryz.func80, Tryz.ntmps80
  go_upto_region 4 with fail
  generalize (((W.setCell ⟨g, i * 2, none⟩ (.int .i64 (at_ : Nat))).alloc (.cells #[.int .i64 p.level, .bool p.dollar, .bool p.noIn, .bool p.noGt, .bool p.noSign] 36)).alloc (.cells #[.int .i64 2, .int .i64 o, .string a, .string b2, .slice ka 0 kc] 58)).alloc (.cells #[.int .i64 14, .bool false, .bool false, .bool false, .bool false] 36) = W1 at hO1 hg1 hx1 hx3 hxl ⊢
  have hnb := hid (show W.heap.size ≠ g ∧ W.heap.size + 1 ≠ g ∧ W.heap.size + 1 + 1 ≠ g from by have := hgw.out; omega)
  clear s0 s2 g0 gf c0 c1 c2 c3 c4 hsl2 hblw gl hnsg
  have hS := hid (show ∀ W', W1.grownBy W' (some g) → W'.cell? ⟨W.heap.size, 0, none⟩ = some (.int .i64 p.level) ∧ W'.cell? ⟨W.heap.size, 1, none⟩ = some (.bool p.dollar) ∧ W'.cell? ⟨W.heap.size, 2, none⟩ = some (.bool p.noIn) ∧ W'.cell? ⟨W.heap.size, 3, none⟩ = some (.bool p.noGt) ∧ W'.cell? ⟨W.heap.size, 4, none⟩ = some (.bool p.noSign) ∧ W'.cell? ⟨W.heap.size + 1, 0, none⟩ = some (.int .i64 2) ∧ W'.cell? ⟨W.heap.size + 1, 1, none⟩ = some (.int .i64 o) ∧ W'.cell? ⟨W.heap.size + 1, 2, none⟩ = some (.string a) ∧ W'.cell? ⟨W.heap.size + 1, 3, none⟩ = some (.string b2) ∧ W'.cell? ⟨W.heap.size + 1, 4, none⟩ = some (.slice ka 0 kc) ∧ W'.cell? ⟨W.heap.size + 1 + 1, 0, none⟩ = some (.int .i64 14) ∧ W'.cell? ⟨W.heap.size + 1 + 1, 1, none⟩ = some (.bool false) ∧ W'.cell? ⟨W.heap.size + 1 + 1, 2, none⟩ = some (.bool false) ∧ W'.cell? ⟨W.heap.size + 1 + 1, 3, none⟩ = some (.bool false) ∧ W'.cell? ⟨W.heap.size + 1 + 1, 4, none⟩ = some (.bool false) from fun W' hW => ⟨box_cell (grow_block hW hx1.out hnb.out.1) rfl, box_cell (grow_block hW hx1.out hnb.out.1) rfl, box_cell (grow_block hW hx1.out hnb.out.1) rfl, box_cell (grow_block hW hx1.out hnb.out.1) rfl, box_cell (grow_block hW hx1.out hnb.out.1) rfl, box_cell (grow_block hW hx3.out hnb.out.2.1) rfl, box_cell (grow_block hW hx3.out hnb.out.2.1) rfl, box_cell (grow_block hW hx3.out hnb.out.2.1) rfl, box_cell (grow_block hW hx3.out hnb.out.2.1) rfl, box_cell (grow_block hW hx3.out hnb.out.2.1) rfl, box_cell (grow_block hW hxl.out hnb.out.2.2) rfl, box_cell (grow_block hW hxl.out hnb.out.2.2) rfl, box_cell (grow_block hW hxl.out hnb.out.2.2) rfl, box_cell (grow_block hW hxl.out hnb.out.2.2) rfl, box_cell (grow_block hW hxl.out hnb.out.2.2) rfl⟩)
  have hGn := hid (grown_refl W1 (some g))
  have hOn : Hid (OSt w0 W1 sb g oc (some ⟨b, off, none⟩) l0.length cap (putS (O.set i ⟨(at_ : Nat), z.hi⟩) bi [])) := hid (by rw [putS_nil]; exact hO1.out)
  obtain ⟨y0, y1, y2, y3, y4, y5, y6, y7, y8, y9, y10, y11, y12, y13, y14⟩ := hS.out _ hGn.out
  all_goals
    have hzn := hid (span_mid (O := O) (S := []) (b := bi) (i := i) (x := ⟨(at_ : Nat), z.hi⟩) (by have hb0 := hb0.out; simp only [List.length_append, List.length_nil, ]; omega) (by rw [hOl.out]; exact hi))
    have hdone := hid (span_done (O := O) (S := []) (b := bi) (i := i) (x := ⟨(at_ : Nat), z.hi⟩) (y := ⟨(at_ : Nat), (v : Nat)⟩) (by have hb0 := hb0.out; simp only [List.length_append, List.length_nil, ]; omega) (by rw [hOl.out]; exact hi))
    have q2 : W1.cell? ⟨sb, 2, none⟩ = some (.slice (some ⟨g, 0, none⟩) l0.length oc) := box_cell hOn.out.box rfl
    have q1 := own_read hOn.out.row (span_get hzn.out 1 rfl)
    have qf := sp_froz hOn.out.row (i * 2 + 1)
    have hfin := hid (hOn.out.set (i * 2 + 1) (.int .i64 (v : Nat)) (span_set1 hzn.out (v : Nat)))
    have hgf := hid (grown_trans (grown_trans hg1.out hGn.out) (grown_set W1 g (i * 2 + 1) (.int .i64 (v : Nat))))
    clear hzn hOn hGn
    go_wp2
    go_ret
    exact ⟨ret_int (by rw [hT2.out, hend.out]), hgf.out, by rw [hTx.out, ← hdone.out]; exact hfin.out⟩
set_option maxRecDepth 100000 in
set_option maxHeartbeats 6400000 in
theorem specl30Node_3 {w0 : World} {l0 : List Node} {a0 : Option Addr} {cap sb g oc i : Nat} {s : List Nat} {o : Int} {a b2 : ByteArray} (hv : NodeSlc w0 (.slice a0 l0.length cap) l0) (hx : l0[i]? = some ⟨3, o, a, b2, []⟩) (hbi : s.getD i 0 ≤ i) (hb0 : s.getD i 0 = i) (hT : ∀ (p : Pos) (at_ : Nat), posOkB p = true → (treeIx l0 i).spB false p at_ = [] ++ [⟨at_, ((at_ + (1) : Nat) : Int)⟩] ∧ ((treeIx l0 i).tkb false p).length = 1) : LNodeC w0 l0 a0 cap sb g oc s i := by
  intro p W O at_ hp hO hat
  obtain ⟨a1, cap1, he1, hm1, hc1, hsl⟩ := hv.shape
  injection he1 with e1 _ e3
  subst e1; subst e3
  have hi := (List.getElem?_eq_some_iff.1 hx).1
  obtain ⟨x, ka, kc, b, off, hx2, he2, c0, c1, c2, c3, c4, hkd⟩ := hsl.at (Below.refl _ _) (Nat.le_refl _) hi
  obtain rfl : x = ⟨3, o, a, b2, []⟩ := Option.some.inj (hx2.symm.trans hx)
  subst he2
  obtain ⟨_, _, _, hkv, hkc, hkm, hkrow⟩ := hkd
  simp at hkv
  obtain ⟨rfl, rfl⟩ := hkv
  have hbl : b < w0.heap.size := World.block_lt_of_cell? w0 _ c0
  obtain ⟨hT1, hT2⟩ := hT p at_ hp
  replace hT1 := hid hT1
  replace hT2 := hid hT2
  obtain ⟨z, hz⟩ := get_of_lt (show i < O.length by rw [hO.len]; exact hi)
  replace c0 := keepc hO.hb c0
  replace c1 := keepc hO.hb c1
  replace c2 := keepc hO.hb c2
  replace c3 := keepc hO.hb c3
  replace c4 := keepc hO.hb c4
  have hii : (i : Int) < (l0.length : Int) := by omega
  have hOl := hid hO.len
  unfold maxLen at hkm
  obtain ⟨v, hv9⟩ : ∃ x, x = at_ + 1 := ⟨_, rfl⟩
  have hblw : b < W.heap.size := Nat.lt_of_lt_of_le hbl hO.hb.size
  have gl := hO.ltg
  have bx := hO.box
  have s0 : W.cell? ⟨sb, 0, none⟩ = some (.slice (some ⟨b, off, none⟩) l0.length cap) := box_cell bx rfl
  have s2 : W.cell? ⟨sb, 2, none⟩ = some (.slice (some ⟨g, 0, none⟩) l0.length oc) := box_cell bx rfl
  have g0 := own_read hO.row (span_get hz 0 rfl)
  have gf := sp_froz hO.row (i * 2)
  simp only [Nat.add_zero] at g0
  have hsl2 : sb < W.heap.size := heap_lt bx
  have hnsg := hO.hne
  have hwa1 : IntKind.wrap .i64 ((at_ : Int) + 1) = (v : Int) := by rw [wrap_in _ (by unfold I64; omega)]; omega
  have hend : Hid (v = at_ + 1) := hid hv9
  have hTx := hid (show Tree.spB false (treeIx l0 i) p at_ = [] ++ [⟨(at_ : Nat), (v : Nat)⟩] from by rw [hT1.out, hv9])
  clear hv9
  have hO1 := hid (((((hO.set (i * 2) (.int .i64 (at_ : Nat)) (span_set0 hz (at_ : Nat))).below ((Below.refl _ _).alloc (Nat.le_refl _) (.cells #[.int .i64 p.level, .bool p.dollar, .bool p.noIn, .bool p.noGt, .bool p.noSign] 36))).below ((Below.refl _ _).alloc (Nat.le_refl _) (.cells #[.int .i64 3, .int .i64 o, .string a, .string b2, .slice ka 0 kc] 58))).below ((Below.refl _ _).alloc (Nat.le_refl _) (.cells #[.int .i64 14, .bool false, .bool false, .bool false, .bool false] 36))))
  have hg1 := hid (show W.grownBy ((((W.setCell ⟨g, i * 2, none⟩ (.int .i64 (at_ : Nat))).alloc (.cells #[.int .i64 p.level, .bool p.dollar, .bool p.noIn, .bool p.noGt, .bool p.noSign] 36)).alloc (.cells #[.int .i64 3, .int .i64 o, .string a, .string b2, .slice ka 0 kc] 58)).alloc (.cells #[.int .i64 14, .bool false, .bool false, .bool false, .bool false] 36)) (some g) from grown_trans (grown_trans (grown_trans (grown_set W g (i * 2) _) (World.grownBy_alloc _ _ _)) (World.grownBy_alloc _ _ _)) (World.grownBy_alloc _ _ _))
  obtain ⟨hx1, hx3, hxl⟩ := sp_alloc3 (W.setCell ⟨g, i * 2, none⟩ (.int .i64 (at_ : Nat))) (.cells #[.int .i64 p.level, .bool p.dollar, .bool p.noIn, .bool p.noGt, .bool p.noSign] 36) (.cells #[.int .i64 3, .int .i64 o, .string a, .string b2, .slice ka 0 kc] 58) (.cells #[.int .i64 14, .bool false, .bool false, .bool false, .bool false] 36)
  rw [show (W.setCell ⟨g, i * 2, none⟩ (.int .i64 (at_ : Nat))).heap.size = W.heap.size by simp] at hx1 hx3 hxl
  replace hx1 := hid hx1
  replace hx3 := hid hx3
  replace hxl := hid hxl
  have hgw := hid gl
  have hz2 := hid hz
  replace hO := hid hO
  clear hT hz bx hx hx2
  generalize s.getD i 0 = bi at *
  replace hb0 := hid hb0
  go_enter Tryz.func80, Tryz.ntmps80
  go_upto_region 4 with fail
  generalize (((W.setCell ⟨g, i * 2, none⟩ (.int .i64 (at_ : Nat))).alloc (.cells #[.int .i64 p.level, .bool p.dollar, .bool p.noIn, .bool p.noGt, .bool p.noSign] 36)).alloc (.cells #[.int .i64 3, .int .i64 o, .string a, .string b2, .slice ka 0 kc] 58)).alloc (.cells #[.int .i64 14, .bool false, .bool false, .bool false, .bool false] 36) = W1 at hO1 hg1 hx1 hx3 hxl ⊢
  have hnb := hid (show W.heap.size ≠ g ∧ W.heap.size + 1 ≠ g ∧ W.heap.size + 1 + 1 ≠ g from by have := hgw.out; omega)
  clear s0 s2 g0 gf c0 c1 c2 c3 c4 hsl2 hblw gl hnsg
  have hS := hid (show ∀ W', W1.grownBy W' (some g) → W'.cell? ⟨W.heap.size, 0, none⟩ = some (.int .i64 p.level) ∧ W'.cell? ⟨W.heap.size, 1, none⟩ = some (.bool p.dollar) ∧ W'.cell? ⟨W.heap.size, 2, none⟩ = some (.bool p.noIn) ∧ W'.cell? ⟨W.heap.size, 3, none⟩ = some (.bool p.noGt) ∧ W'.cell? ⟨W.heap.size, 4, none⟩ = some (.bool p.noSign) ∧ W'.cell? ⟨W.heap.size + 1, 0, none⟩ = some (.int .i64 3) ∧ W'.cell? ⟨W.heap.size + 1, 1, none⟩ = some (.int .i64 o) ∧ W'.cell? ⟨W.heap.size + 1, 2, none⟩ = some (.string a) ∧ W'.cell? ⟨W.heap.size + 1, 3, none⟩ = some (.string b2) ∧ W'.cell? ⟨W.heap.size + 1, 4, none⟩ = some (.slice ka 0 kc) ∧ W'.cell? ⟨W.heap.size + 1 + 1, 0, none⟩ = some (.int .i64 14) ∧ W'.cell? ⟨W.heap.size + 1 + 1, 1, none⟩ = some (.bool false) ∧ W'.cell? ⟨W.heap.size + 1 + 1, 2, none⟩ = some (.bool false) ∧ W'.cell? ⟨W.heap.size + 1 + 1, 3, none⟩ = some (.bool false) ∧ W'.cell? ⟨W.heap.size + 1 + 1, 4, none⟩ = some (.bool false) from fun W' hW => ⟨box_cell (grow_block hW hx1.out hnb.out.1) rfl, box_cell (grow_block hW hx1.out hnb.out.1) rfl, box_cell (grow_block hW hx1.out hnb.out.1) rfl, box_cell (grow_block hW hx1.out hnb.out.1) rfl, box_cell (grow_block hW hx1.out hnb.out.1) rfl, box_cell (grow_block hW hx3.out hnb.out.2.1) rfl, box_cell (grow_block hW hx3.out hnb.out.2.1) rfl, box_cell (grow_block hW hx3.out hnb.out.2.1) rfl, box_cell (grow_block hW hx3.out hnb.out.2.1) rfl, box_cell (grow_block hW hx3.out hnb.out.2.1) rfl, box_cell (grow_block hW hxl.out hnb.out.2.2) rfl, box_cell (grow_block hW hxl.out hnb.out.2.2) rfl, box_cell (grow_block hW hxl.out hnb.out.2.2) rfl, box_cell (grow_block hW hxl.out hnb.out.2.2) rfl, box_cell (grow_block hW hxl.out hnb.out.2.2) rfl⟩)
  have hGn := hid (grown_refl W1 (some g))
  have hOn : Hid (OSt w0 W1 sb g oc (some ⟨b, off, none⟩) l0.length cap (putS (O.set i ⟨(at_ : Nat), z.hi⟩) bi [])) := hid (by rw [putS_nil]; exact hO1.out)
  obtain ⟨y0, y1, y2, y3, y4, y5, y6, y7, y8, y9, y10, y11, y12, y13, y14⟩ := hS.out _ hGn.out
  all_goals
    have hzn := hid (span_mid (O := O) (S := []) (b := bi) (i := i) (x := ⟨(at_ : Nat), z.hi⟩) (by have hb0 := hb0.out; simp only [List.length_append, List.length_nil, ]; omega) (by rw [hOl.out]; exact hi))
    have hdone := hid (span_done (O := O) (S := []) (b := bi) (i := i) (x := ⟨(at_ : Nat), z.hi⟩) (y := ⟨(at_ : Nat), (v : Nat)⟩) (by have hb0 := hb0.out; simp only [List.length_append, List.length_nil, ]; omega) (by rw [hOl.out]; exact hi))
    have q2 : W1.cell? ⟨sb, 2, none⟩ = some (.slice (some ⟨g, 0, none⟩) l0.length oc) := box_cell hOn.out.box rfl
    have q1 := own_read hOn.out.row (span_get hzn.out 1 rfl)
    have qf := sp_froz hOn.out.row (i * 2 + 1)
    have hfin := hid (hOn.out.set (i * 2 + 1) (.int .i64 (v : Nat)) (span_set1 hzn.out (v : Nat)))
    have hgf := hid (grown_trans (grown_trans hg1.out hGn.out) (grown_set W1 g (i * 2 + 1) (.int .i64 (v : Nat))))
    clear hzn hOn hGn
    go_wp2
    go_ret
    exact ⟨ret_int (by rw [hT2.out, hend.out]), hgf.out, by rw [hTx.out, ← hdone.out]; exact hfin.out⟩
set_option maxRecDepth 100000 in
set_option maxHeartbeats 6400000 in
theorem specl30Node_4 {w0 : World} {l0 : List Node} {a0 : Option Addr} {cap sb g oc i : Nat} {s : List Nat} {o : Int} {a b2 : ByteArray} (hv : NodeSlc w0 (.slice a0 l0.length cap) l0) (hx : l0[i]? = some ⟨4, o, a, b2, []⟩) (hbi : s.getD i 0 ≤ i) (hb0 : s.getD i 0 = i) (hT : ∀ (p : Pos) (at_ : Nat), posOkB p = true → (treeIx l0 i).spB false p at_ = [] ++ [⟨at_, ((at_ + (1) : Nat) : Int)⟩] ∧ ((treeIx l0 i).tkb false p).length = 1) : LNodeC w0 l0 a0 cap sb g oc s i := by
  intro p W O at_ hp hO hat
  obtain ⟨a1, cap1, he1, hm1, hc1, hsl⟩ := hv.shape
  injection he1 with e1 _ e3
  subst e1; subst e3
  have hi := (List.getElem?_eq_some_iff.1 hx).1
  obtain ⟨x, ka, kc, b, off, hx2, he2, c0, c1, c2, c3, c4, hkd⟩ := hsl.at (Below.refl _ _) (Nat.le_refl _) hi
  obtain rfl : x = ⟨4, o, a, b2, []⟩ := Option.some.inj (hx2.symm.trans hx)
  subst he2
  obtain ⟨_, _, _, hkv, hkc, hkm, hkrow⟩ := hkd
  simp at hkv
  obtain ⟨rfl, rfl⟩ := hkv
  have hbl : b < w0.heap.size := World.block_lt_of_cell? w0 _ c0
  obtain ⟨hT1, hT2⟩ := hT p at_ hp
  replace hT1 := hid hT1
  replace hT2 := hid hT2
  obtain ⟨z, hz⟩ := get_of_lt (show i < O.length by rw [hO.len]; exact hi)
  replace c0 := keepc hO.hb c0
  replace c1 := keepc hO.hb c1
  replace c2 := keepc hO.hb c2
  replace c3 := keepc hO.hb c3
  replace c4 := keepc hO.hb c4
  have hii : (i : Int) < (l0.length : Int) := by omega
  have hOl := hid hO.len
  unfold maxLen at hkm
  obtain ⟨v, hv9⟩ : ∃ x, x = at_ + 1 := ⟨_, rfl⟩
  have hblw : b < W.heap.size := Nat.lt_of_lt_of_le hbl hO.hb.size
  have gl := hO.ltg
  have bx := hO.box
  have s0 : W.cell? ⟨sb, 0, none⟩ = some (.slice (some ⟨b, off, none⟩) l0.length cap) := box_cell bx rfl
  have s2 : W.cell? ⟨sb, 2, none⟩ = some (.slice (some ⟨g, 0, none⟩) l0.length oc) := box_cell bx rfl
  have g0 := own_read hO.row (span_get hz 0 rfl)
  have gf := sp_froz hO.row (i * 2)
  simp only [Nat.add_zero] at g0
  have hsl2 : sb < W.heap.size := heap_lt bx
  have hnsg := hO.hne
  have hwa1 : IntKind.wrap .i64 ((at_ : Int) + 1) = (v : Int) := by rw [wrap_in _ (by unfold I64; omega)]; omega
  have hend : Hid (v = at_ + 1) := hid hv9
  have hTx := hid (show Tree.spB false (treeIx l0 i) p at_ = [] ++ [⟨(at_ : Nat), (v : Nat)⟩] from by rw [hT1.out, hv9])
  clear hv9
  have hO1 := hid (((((hO.set (i * 2) (.int .i64 (at_ : Nat)) (span_set0 hz (at_ : Nat))).below ((Below.refl _ _).alloc (Nat.le_refl _) (.cells #[.int .i64 p.level, .bool p.dollar, .bool p.noIn, .bool p.noGt, .bool p.noSign] 36))).below ((Below.refl _ _).alloc (Nat.le_refl _) (.cells #[.int .i64 4, .int .i64 o, .string a, .string b2, .slice ka 0 kc] 58))).below ((Below.refl _ _).alloc (Nat.le_refl _) (.cells #[.int .i64 14, .bool false, .bool false, .bool false, .bool false] 36))))
  have hg1 := hid (show W.grownBy ((((W.setCell ⟨g, i * 2, none⟩ (.int .i64 (at_ : Nat))).alloc (.cells #[.int .i64 p.level, .bool p.dollar, .bool p.noIn, .bool p.noGt, .bool p.noSign] 36)).alloc (.cells #[.int .i64 4, .int .i64 o, .string a, .string b2, .slice ka 0 kc] 58)).alloc (.cells #[.int .i64 14, .bool false, .bool false, .bool false, .bool false] 36)) (some g) from grown_trans (grown_trans (grown_trans (grown_set W g (i * 2) _) (World.grownBy_alloc _ _ _)) (World.grownBy_alloc _ _ _)) (World.grownBy_alloc _ _ _))
  obtain ⟨hx1, hx3, hxl⟩ := sp_alloc3 (W.setCell ⟨g, i * 2, none⟩ (.int .i64 (at_ : Nat))) (.cells #[.int .i64 p.level, .bool p.dollar, .bool p.noIn, .bool p.noGt, .bool p.noSign] 36) (.cells #[.int .i64 4, .int .i64 o, .string a, .string b2, .slice ka 0 kc] 58) (.cells #[.int .i64 14, .bool false, .bool false, .bool false, .bool false] 36)
  rw [show (W.setCell ⟨g, i * 2, none⟩ (.int .i64 (at_ : Nat))).heap.size = W.heap.size by simp] at hx1 hx3 hxl
  replace hx1 := hid hx1
  replace hx3 := hid hx3
  replace hxl := hid hxl
  have hgw := hid gl
  have hz2 := hid hz
  replace hO := hid hO
  clear hT hz bx hx hx2
  generalize s.getD i 0 = bi at *
  replace hb0 := hid hb0
  go_enter Tryz.func80, Tryz.ntmps80
  go_upto_region 4 with fail
  generalize (((W.setCell ⟨g, i * 2, none⟩ (.int .i64 (at_ : Nat))).alloc (.cells #[.int .i64 p.level, .bool p.dollar, .bool p.noIn, .bool p.noGt, .bool p.noSign] 36)).alloc (.cells #[.int .i64 4, .int .i64 o, .string a, .string b2, .slice ka 0 kc] 58)).alloc (.cells #[.int .i64 14, .bool false, .bool false, .bool false, .bool false] 36) = W1 at hO1 hg1 hx1 hx3 hxl ⊢
  have hnb := hid (show W.heap.size ≠ g ∧ W.heap.size + 1 ≠ g ∧ W.heap.size + 1 + 1 ≠ g from by have := hgw.out; omega)
  clear s0 s2 g0 gf c0 c1 c2 c3 c4 hsl2 hblw gl hnsg
  have hS := hid (show ∀ W', W1.grownBy W' (some g) → W'.cell? ⟨W.heap.size, 0, none⟩ = some (.int .i64 p.level) ∧ W'.cell? ⟨W.heap.size, 1, none⟩ = some (.bool p.dollar) ∧ W'.cell? ⟨W.heap.size, 2, none⟩ = some (.bool p.noIn) ∧ W'.cell? ⟨W.heap.size, 3, none⟩ = some (.bool p.noGt) ∧ W'.cell? ⟨W.heap.size, 4, none⟩ = some (.bool p.noSign) ∧ W'.cell? ⟨W.heap.size + 1, 0, none⟩ = some (.int .i64 4) ∧ W'.cell? ⟨W.heap.size + 1, 1, none⟩ = some (.int .i64 o) ∧ W'.cell? ⟨W.heap.size + 1, 2, none⟩ = some (.string a) ∧ W'.cell? ⟨W.heap.size + 1, 3, none⟩ = some (.string b2) ∧ W'.cell? ⟨W.heap.size + 1, 4, none⟩ = some (.slice ka 0 kc) ∧ W'.cell? ⟨W.heap.size + 1 + 1, 0, none⟩ = some (.int .i64 14) ∧ W'.cell? ⟨W.heap.size + 1 + 1, 1, none⟩ = some (.bool false) ∧ W'.cell? ⟨W.heap.size + 1 + 1, 2, none⟩ = some (.bool false) ∧ W'.cell? ⟨W.heap.size + 1 + 1, 3, none⟩ = some (.bool false) ∧ W'.cell? ⟨W.heap.size + 1 + 1, 4, none⟩ = some (.bool false) from fun W' hW => ⟨box_cell (grow_block hW hx1.out hnb.out.1) rfl, box_cell (grow_block hW hx1.out hnb.out.1) rfl, box_cell (grow_block hW hx1.out hnb.out.1) rfl, box_cell (grow_block hW hx1.out hnb.out.1) rfl, box_cell (grow_block hW hx1.out hnb.out.1) rfl, box_cell (grow_block hW hx3.out hnb.out.2.1) rfl, box_cell (grow_block hW hx3.out hnb.out.2.1) rfl, box_cell (grow_block hW hx3.out hnb.out.2.1) rfl, box_cell (grow_block hW hx3.out hnb.out.2.1) rfl, box_cell (grow_block hW hx3.out hnb.out.2.1) rfl, box_cell (grow_block hW hxl.out hnb.out.2.2) rfl, box_cell (grow_block hW hxl.out hnb.out.2.2) rfl, box_cell (grow_block hW hxl.out hnb.out.2.2) rfl, box_cell (grow_block hW hxl.out hnb.out.2.2) rfl, box_cell (grow_block hW hxl.out hnb.out.2.2) rfl⟩)
  have hGn := hid (grown_refl W1 (some g))
  have hOn : Hid (OSt w0 W1 sb g oc (some ⟨b, off, none⟩) l0.length cap (putS (O.set i ⟨(at_ : Nat), z.hi⟩) bi [])) := hid (by rw [putS_nil]; exact hO1.out)
  obtain ⟨y0, y1, y2, y3, y4, y5, y6, y7, y8, y9, y10, y11, y12, y13, y14⟩ := hS.out _ hGn.out
  all_goals
    have hzn := hid (span_mid (O := O) (S := []) (b := bi) (i := i) (x := ⟨(at_ : Nat), z.hi⟩) (by have hb0 := hb0.out; simp only [List.length_append, List.length_nil, ]; omega) (by rw [hOl.out]; exact hi))
    have hdone := hid (span_done (O := O) (S := []) (b := bi) (i := i) (x := ⟨(at_ : Nat), z.hi⟩) (y := ⟨(at_ : Nat), (v : Nat)⟩) (by have hb0 := hb0.out; simp only [List.length_append, List.length_nil, ]; omega) (by rw [hOl.out]; exact hi))
    have q2 : W1.cell? ⟨sb, 2, none⟩ = some (.slice (some ⟨g, 0, none⟩) l0.length oc) := box_cell hOn.out.box rfl
    have q1 := own_read hOn.out.row (span_get hzn.out 1 rfl)
    have qf := sp_froz hOn.out.row (i * 2 + 1)
    have hfin := hid (hOn.out.set (i * 2 + 1) (.int .i64 (v : Nat)) (span_set1 hzn.out (v : Nat)))
    have hgf := hid (grown_trans (grown_trans hg1.out hGn.out) (grown_set W1 g (i * 2 + 1) (.int .i64 (v : Nat))))
    clear hzn hOn hGn
    go_wp2
    go_ret
    exact ⟨ret_int (by rw [hT2.out, hend.out]), hgf.out, by rw [hTx.out, ← hdone.out]; exact hfin.out⟩
set_option maxRecDepth 100000 in
set_option maxHeartbeats 6400000 in
theorem specl30Node_6 {w0 : World} {l0 : List Node} {a0 : Option Addr} {cap sb g oc i : Nat} {s : List Nat} {k0 : Nat} {o : Int} {a b2 : ByteArray} (hv : NodeSlc w0 (.slice a0 l0.length cap) l0) (hx : l0[i]? = some ⟨6, o, a, b2, [(k0 : Int)]⟩) (hbi : s.getD i 0 ≤ i) (har : arity 6 1) (hop : ((6 : Nat) : Int) = 12 → opLevelB o ≠ 0) (hat0 : LAtC w0 l0 a0 cap sb g oc s k0) (hs0 : s.getD k0 0 = s.getD i 0) (hgn0 : s.getD k0 0 + (treeIx l0 k0).post.length = k0 + 1) (hgi : s.getD i 0 + (treeIx l0 i).post.length = i + 1) (hpi : (treeIx l0 i).post.length = (treeIx l0 k0).post.length + 1) (hk0 : k0 < l0.length) (hT : ∀ (p : Pos) (at_ : Nat), posOkB p = true → (treeIx l0 i).spB false p at_ = (Tree.spS false (treeIx l0 k0) (kidPosB 6 o 1 0 p) (at_ + 1)) ++ [⟨at_, ((at_ + ((Tree.tks false (treeIx l0 k0) (kidPosB 6 o 1 0 p)).length + 1) : Nat) : Int)⟩] ∧ ((treeIx l0 i).tkb false p).length = (Tree.tks false (treeIx l0 k0) (kidPosB 6 o 1 0 p)).length + 1) : LNodeC w0 l0 a0 cap sb g oc s i := by
  intro p W O at_ hp hO hat
  obtain ⟨a1, cap1, he1, hm1, hc1, hsl⟩ := hv.shape
  injection he1 with e1 _ e3
  subst e1; subst e3
  have hi := (List.getElem?_eq_some_iff.1 hx).1
  obtain ⟨x, ka, kc, b, off, hx2, he2, c0, c1, c2, c3, c4, hkd⟩ := hsl.at (Below.refl _ _) (Nat.le_refl _) hi
  obtain rfl : x = ⟨6, o, a, b2, [(k0 : Int)]⟩ := Option.some.inj (hx2.symm.trans hx)
  subst he2
  obtain ⟨_, _, _, hkv, hkc, hkm, hkrow⟩ := hkd
  simp at hkv
  obtain ⟨rfl, rfl⟩ := hkv
  have hbl : b < w0.heap.size := World.block_lt_of_cell? w0 _ c0
  obtain ⟨hT1, hT2⟩ := hT p at_ hp
  replace hT1 := hid hT1
  replace hT2 := hid hT2
  obtain ⟨z, hz⟩ := get_of_lt (show i < O.length by rw [hO.len]; exact hi)
  replace c0 := keepc hO.hb c0
  replace c1 := keepc hO.hb c1
  replace c2 := keepc hO.hb c2
  replace c3 := keepc hO.hb c3
  replace c4 := keepc hO.hb c4
  have hii : (i : Int) < (l0.length : Int) := by omega
  have hOl := hid hO.len
  unfold maxLen at hkm
  obtain ⟨kb, koff, rfl, hkro⟩ := slc_some hkrow (by simp)
  have kc0 : w0.cell? ⟨kb, koff, none⟩ = some (.int .i64 (k0 : Nat)) := by
    have := hkro.one int1_len (show [(k0 : Int)][0]? = some (k0 : Int) from rfl) rfl
    simpa using this
  have hkbg : kb ≠ g := by have := World.block_lt_of_cell? w0 _ kc0; have h2 := hO.hg; simp only at this; omega
  have hq0 := hid (kidPos_ok (k := 6) (o := o) (n := 1) (j := 0) hp (by omega) (levelB_pos har.1 hop))
  have hkp0 := hid (fun W' => show Calls Tryz.prog 103 #[.agg #[.int .i64 6, .int .i64 o, .string a, .string b2, .slice (some ⟨kb, koff, none⟩) 1 kc], .int .i64 0, .agg #[.int .i64 p.level, .bool p.dollar, .bool p.noIn, .bool p.noGt, .bool p.noSign]] W' fun e w' => e = .returned (.agg #[.int .i64 (kidPosB 6 o 1 0 p).level, .bool (kidPosB 6 o 1 0 p).dollar, .bool (kidPosB 6 o 1 0 p).noIn, .bool (kidPosB 6 o 1 0 p).noGt, .bool (kidPosB 6 o 1 0 p).noSign]) ∧ Below W'.heap.size W' w' from specKidPos_any 6 o a b2 (some ⟨kb, koff, none⟩) 1 kc 0 p W' hp (by omega) har hop)
  have hatt0 := hid (fun W' O' a' (hO' : OSt w0 W' sb g oc (some ⟨b, off, none⟩) l0.length cap O') h => hat0 (kidPosB 6 o 1 0 p) W' O' a' hq0.out hO' h)
  have hsl0 := fun a' => (treeIx l0 k0).spS_len false (kidPosB 6 o 1 0 p) a'
  have htl0 := (treeIx l0 k0).tks_len false (kidPosB 6 o 1 0 p)
  unfold SpanPost at hatt0
  generalize Tree.spS false (treeIx l0 k0) (kidPosB 6 o 1 0 p) = S0 at *
  generalize Tree.tks false (treeIx l0 k0) (kidPosB 6 o 1 0 p) = T0 at *
  generalize kidPosB 6 o 1 0 p = p0 at *
  obtain ⟨a0', ha0'⟩ : ∃ x, x = at_ + 1 := ⟨_, rfl⟩
  obtain ⟨v0, hv0⟩ : ∃ x, x = a0' + T0.length := ⟨_, rfl⟩
  generalize (treeIx l0 k0).post.length = P0 at *
  generalize (treeIx l0 i).post.length = PI at *
  have hblw : b < W.heap.size := Nat.lt_of_lt_of_le hbl hO.hb.size
  have gl := hO.ltg
  have bx := hO.box
  have s0 : W.cell? ⟨sb, 0, none⟩ = some (.slice (some ⟨b, off, none⟩) l0.length cap) := box_cell bx rfl
  have s2 : W.cell? ⟨sb, 2, none⟩ = some (.slice (some ⟨g, 0, none⟩) l0.length oc) := box_cell bx rfl
  have g0 := own_read hO.row (span_get hz 0 rfl)
  have gf := sp_froz hO.row (i * 2)
  simp only [Nat.add_zero] at g0
  have hsl2 : sb < W.heap.size := heap_lt bx
  have hnsg := hO.hne
  have hwl : IntKind.wrap .i64 ((at_ : Int) + 1) = (a0' : Int) := by rw [wrap_in _ (by unfold I64; omega)]; omega
  have hTx := hid (show Tree.spB false (treeIx l0 i) p at_ = (S0 (a0')) ++ [⟨(at_ : Nat), (v0 : Nat)⟩] from by
    have hE : at_ + ((T0).length + 1) = v0 := by omega
    rw [hT1.out, hE]
    first | done | simp only [hv0, hv0, ha0'])
  have hend : Hid (v0 = at_ + ((T0).length + 1)) := hid (by omega)
  have hO1 := hid (((((hO.set (i * 2) (.int .i64 (at_ : Nat)) (span_set0 hz (at_ : Nat))).below ((Below.refl _ _).alloc (Nat.le_refl _) (.cells #[.int .i64 p.level, .bool p.dollar, .bool p.noIn, .bool p.noGt, .bool p.noSign] 36))).below ((Below.refl _ _).alloc (Nat.le_refl _) (.cells #[.int .i64 6, .int .i64 o, .string a, .string b2, .slice (some ⟨kb, koff, none⟩) 1 kc] 58))).below ((Below.refl _ _).alloc (Nat.le_refl _) (.cells #[.int .i64 14, .bool false, .bool false, .bool false, .bool false] 36))))
  have hg1 := hid (show W.grownBy ((((W.setCell ⟨g, i * 2, none⟩ (.int .i64 (at_ : Nat))).alloc (.cells #[.int .i64 p.level, .bool p.dollar, .bool p.noIn, .bool p.noGt, .bool p.noSign] 36)).alloc (.cells #[.int .i64 6, .int .i64 o, .string a, .string b2, .slice (some ⟨kb, koff, none⟩) 1 kc] 58)).alloc (.cells #[.int .i64 14, .bool false, .bool false, .bool false, .bool false] 36)) (some g) from grown_trans (grown_trans (grown_trans (grown_set W g (i * 2) _) (World.grownBy_alloc _ _ _)) (World.grownBy_alloc _ _ _)) (World.grownBy_alloc _ _ _))
  obtain ⟨hx1, hx3, hxl⟩ := sp_alloc3 (W.setCell ⟨g, i * 2, none⟩ (.int .i64 (at_ : Nat))) (.cells #[.int .i64 p.level, .bool p.dollar, .bool p.noIn, .bool p.noGt, .bool p.noSign] 36) (.cells #[.int .i64 6, .int .i64 o, .string a, .string b2, .slice (some ⟨kb, koff, none⟩) 1 kc] 58) (.cells #[.int .i64 14, .bool false, .bool false, .bool false, .bool false] 36)
  rw [show (W.setCell ⟨g, i * 2, none⟩ (.int .i64 (at_ : Nat))).heap.size = W.heap.size by simp] at hx1 hx3 hxl
  replace hx1 := hid hx1
  replace hx3 := hid hx3
  replace hxl := hid hxl
  have hgw := hid gl
  have hz2 := hid hz
  replace hO := hid hO
  clear hT hz bx hx hx2
  generalize s.getD i 0 = bi at *
  generalize s.getD k0 0 = bk0 at *
  replace hs0 := hid hs0
  replace hgn0 := hid hgn0
  replace hgi := hid hgi
  replace hpi := hid hpi
  replace hbi := hid hbi
  replace hat := hid hat
  replace hk0 := hid hk0
  replace hsl0 := hid hsl0
  replace htl0 := hid htl0
  replace ha0' := hid ha0'
  replace hv0 := hid hv0
  go_enter Tryz.func80, Tryz.ntmps80
  go_upto_region 4 with fail
  generalize (((W.setCell ⟨g, i * 2, none⟩ (.int .i64 (at_ : Nat))).alloc (.cells #[.int .i64 p.level, .bool p.dollar, .bool p.noIn, .bool p.noGt, .bool p.noSign] 36)).alloc (.cells #[.int .i64 6, .int .i64 o, .string a, .string b2, .slice (some ⟨kb, koff, none⟩) 1 kc] 58)).alloc (.cells #[.int .i64 14, .bool false, .bool false, .bool false, .bool false] 36) = W1 at hO1 hg1 hx1 hx3 hxl ⊢
  have hnb := hid (show W.heap.size ≠ g ∧ W.heap.size + 1 ≠ g ∧ W.heap.size + 1 + 1 ≠ g from by have := hgw.out; omega)
  clear s0 s2 g0 gf c0 c1 c2 c3 c4 hsl2 hblw gl hnsg
  have kd0 := keepc hO1.out.hb kc0
  clear kc0 hkro hkrow
  have hS := hid (show ∀ W', W1.grownBy W' (some g) → W'.cell? ⟨W.heap.size, 0, none⟩ = some (.int .i64 p.level) ∧ W'.cell? ⟨W.heap.size, 1, none⟩ = some (.bool p.dollar) ∧ W'.cell? ⟨W.heap.size, 2, none⟩ = some (.bool p.noIn) ∧ W'.cell? ⟨W.heap.size, 3, none⟩ = some (.bool p.noGt) ∧ W'.cell? ⟨W.heap.size, 4, none⟩ = some (.bool p.noSign) ∧ W'.cell? ⟨W.heap.size + 1, 0, none⟩ = some (.int .i64 6) ∧ W'.cell? ⟨W.heap.size + 1, 1, none⟩ = some (.int .i64 o) ∧ W'.cell? ⟨W.heap.size + 1, 2, none⟩ = some (.string a) ∧ W'.cell? ⟨W.heap.size + 1, 3, none⟩ = some (.string b2) ∧ W'.cell? ⟨W.heap.size + 1, 4, none⟩ = some (.slice (some ⟨kb, koff, none⟩) 1 kc) ∧ W'.cell? ⟨W.heap.size + 1 + 1, 0, none⟩ = some (.int .i64 14) ∧ W'.cell? ⟨W.heap.size + 1 + 1, 1, none⟩ = some (.bool false) ∧ W'.cell? ⟨W.heap.size + 1 + 1, 2, none⟩ = some (.bool false) ∧ W'.cell? ⟨W.heap.size + 1 + 1, 3, none⟩ = some (.bool false) ∧ W'.cell? ⟨W.heap.size + 1 + 1, 4, none⟩ = some (.bool false) ∧ W'.cell? ⟨kb, koff, none⟩ = some (.int .i64 (k0 : Nat)) from fun W' hW => ⟨box_cell (grow_block hW hx1.out hnb.out.1) rfl, box_cell (grow_block hW hx1.out hnb.out.1) rfl, box_cell (grow_block hW hx1.out hnb.out.1) rfl, box_cell (grow_block hW hx1.out hnb.out.1) rfl, box_cell (grow_block hW hx1.out hnb.out.1) rfl, box_cell (grow_block hW hx3.out hnb.out.2.1) rfl, box_cell (grow_block hW hx3.out hnb.out.2.1) rfl, box_cell (grow_block hW hx3.out hnb.out.2.1) rfl, box_cell (grow_block hW hx3.out hnb.out.2.1) rfl, box_cell (grow_block hW hx3.out hnb.out.2.1) rfl, box_cell (grow_block hW hxl.out hnb.out.2.2) rfl, box_cell (grow_block hW hxl.out hnb.out.2.2) rfl, box_cell (grow_block hW hxl.out hnb.out.2.2) rfl, box_cell (grow_block hW hxl.out hnb.out.2.2) rfl, box_cell (grow_block hW hxl.out hnb.out.2.2) rfl, grow_cell hW kd0 hkbg⟩)
  have hGn := hid (grown_refl W1 (some g))
  have hOn := hO1
  all_goals
    obtain ⟨y0, y1, y2, y3, y4, y5, y6, y7, y8, y9, y10, y11, y12, y13, y14, y15⟩ := hS.out _ hGn.out
    go_wp2_with fail
    clear y0 y1 y2 y3 y4 y5 y6 y7 y8 y9 y10 y11 y12 y13 y14 y15
  all_goals
    have hGd : W1.grownBy W1.drew (some g) := grown_trans hGn.out (below_gr (Below.refl _ _).drew g)
    go_region_held3 (fun W' => W'.cell? ⟨W.heap.size, 0, none⟩ = some (.int .i64 p.level) ∧ W'.cell? ⟨W.heap.size, 1, none⟩ = some (.bool p.dollar) ∧ W'.cell? ⟨W.heap.size, 2, none⟩ = some (.bool p.noIn) ∧ W'.cell? ⟨W.heap.size, 3, none⟩ = some (.bool p.noGt) ∧ W'.cell? ⟨W.heap.size, 4, none⟩ = some (.bool p.noSign) ∧ W'.cell? ⟨W.heap.size + 1, 0, none⟩ = some (.int .i64 6) ∧ W'.cell? ⟨W.heap.size + 1, 1, none⟩ = some (.int .i64 o) ∧ W'.cell? ⟨W.heap.size + 1, 2, none⟩ = some (.string a) ∧ W'.cell? ⟨W.heap.size + 1, 3, none⟩ = some (.string b2) ∧ W'.cell? ⟨W.heap.size + 1, 4, none⟩ = some (.slice (some ⟨kb, koff, none⟩) 1 kc) ∧ W'.cell? ⟨W.heap.size + 1 + 1, 0, none⟩ = some (.int .i64 14) ∧ W'.cell? ⟨W.heap.size + 1 + 1, 1, none⟩ = some (.bool false) ∧ W'.cell? ⟨W.heap.size + 1 + 1, 2, none⟩ = some (.bool false) ∧ W'.cell? ⟨W.heap.size + 1 + 1, 3, none⟩ = some (.bool false) ∧ W'.cell? ⟨W.heap.size + 1 + 1, 4, none⟩ = some (.bool false) ∧ W'.cell? ⟨kb, koff, none⟩ = some (.int .i64 (k0 : Nat)))
      (first
        | (refine hS.out _ ?_
           with_reducible (first
             | exact hGd
             | exact hGk
             | exact hGl0)))
      (first
        | (go_at_call 103; refine (hkp0.out _).mono ?_; rintro e wk ⟨rfl, hbk0⟩; have hbk : Below W1.heap.size W1 wk := ((Below.refl W1.heap.size W1).drew).trans (hbk0.mono (Nat.le_refl _)); have hGk := grown_trans hGn.out (below_gr hbk g); have hOk := hOn.out.below hbk; clear hbk0)
        | (go_at_call 62; refine (hatt0.out _ _ (a0') hOk (by have hs0 := hs0.out; have hgn0 := hgn0.out; have hgi := hgi.out; have hpi := hpi.out; have hbi := hbi.out; have hat := hat.out; have hk0 := hk0.out; have hsl0 := hsl0.out; have htl0 := htl0.out; have ha0' := ha0'.out; have hv0 := hv0.out; omega)).mono ?_; rintro e wn0 ⟨he, hgl0, hOl0⟩; rw [← hv0.out] at he; subst he; have hGl0 := grown_trans hGk hgl0))
  all_goals
    have hOn : Hid (OSt w0 wn0 sb g oc (some ⟨b, off, none⟩) l0.length cap (putS (O.set i ⟨(at_ : Nat), z.hi⟩) bi (S0 (a0')))) := hid (by rw [← hs0.out]; exact hOl0)
    have hGn := hid hGl0
    clear hOl0 hgl0 hGl0 hGd hGk hbk hOk
  all_goals
    have hzn := hid (span_mid (O := O) (S := S0 (a0')) (b := bi) (i := i) (x := ⟨(at_ : Nat), z.hi⟩) (by have hs0 := hs0.out; have hgn0 := hgn0.out; have hgi := hgi.out; have hpi := hpi.out; have hbi := hbi.out; have hat := hat.out; have hk0 := hk0.out; have hsl0 := hsl0.out; have htl0 := htl0.out; have ha0' := ha0'.out; have hv0 := hv0.out; simp only [List.length_append, List.length_nil, hsl0]; omega) (by rw [hOl.out]; exact hi))
    have hdone := hid (span_done (O := O) (S := S0 (a0')) (b := bi) (i := i) (x := ⟨(at_ : Nat), z.hi⟩) (y := ⟨(at_ : Nat), (v0 : Nat)⟩) (by have hs0 := hs0.out; have hgn0 := hgn0.out; have hgi := hgi.out; have hpi := hpi.out; have hbi := hbi.out; have hat := hat.out; have hk0 := hk0.out; have hsl0 := hsl0.out; have htl0 := htl0.out; have ha0' := ha0'.out; have hv0 := hv0.out; simp only [List.length_append, List.length_nil, hsl0]; omega) (by rw [hOl.out]; exact hi))
    have q2 : wn0.cell? ⟨sb, 2, none⟩ = some (.slice (some ⟨g, 0, none⟩) l0.length oc) := box_cell hOn.out.box rfl
    have q1 := own_read hOn.out.row (span_get hzn.out 1 rfl)
    have qf := sp_froz hOn.out.row (i * 2 + 1)
    have hfin := hid (hOn.out.set (i * 2 + 1) (.int .i64 (v0 : Nat)) (span_set1 hzn.out (v0 : Nat)))
    have hgf := hid (grown_trans (grown_trans hg1.out hGn.out) (grown_set wn0 g (i * 2 + 1) (.int .i64 (v0 : Nat))))
    clear hzn hOn hGn
    go_wp2
    go_ret
    exact ⟨ret_int (by rw [hT2.out, hend.out]), hgf.out, by rw [hTx.out, ← hdone.out]; exact hfin.out⟩
set_option maxRecDepth 100000 in
set_option maxHeartbeats 6400000 in
theorem specl30Node_9 {w0 : World} {l0 : List Node} {a0 : Option Addr} {cap sb g oc i : Nat} {s : List Nat} {k0 : Nat} {o : Int} {a b2 : ByteArray} (hv : NodeSlc w0 (.slice a0 l0.length cap) l0) (hx : l0[i]? = some ⟨9, o, a, b2, [(k0 : Int)]⟩) (hbi : s.getD i 0 ≤ i) (hlv : LNodeC w0 l0 a0 cap sb g oc s k0) (hs0 : s.getD k0 0 = s.getD i 0) (hgn0 : s.getD k0 0 + (treeIx l0 k0).post.length = k0 + 1) (hgi : s.getD i 0 + (treeIx l0 i).post.length = i + 1) (hpi : (treeIx l0 i).post.length = (treeIx l0 k0).post.length + 1) (hk0 : k0 < l0.length) (hT : ∀ (p : Pos) (at_ : Nat), posOkB p = true → (treeIx l0 i).spB false p at_ = (Tree.spB false (treeIx l0 k0) posLv (at_ + 1)) ++ [⟨at_, ((at_ + ((Tree.tkb false (treeIx l0 k0) posLv).length + 1) : Nat) : Int)⟩] ∧ ((treeIx l0 i).tkb false p).length = (Tree.tkb false (treeIx l0 k0) posLv).length + 1) : LNodeC w0 l0 a0 cap sb g oc s i := by
  intro p W O at_ hp hO hat
  obtain ⟨a1, cap1, he1, hm1, hc1, hsl⟩ := hv.shape
  injection he1 with e1 _ e3
  subst e1; subst e3
  have hi := (List.getElem?_eq_some_iff.1 hx).1
  obtain ⟨x, ka, kc, b, off, hx2, he2, c0, c1, c2, c3, c4, hkd⟩ := hsl.at (Below.refl _ _) (Nat.le_refl _) hi
  obtain rfl : x = ⟨9, o, a, b2, [(k0 : Int)]⟩ := Option.some.inj (hx2.symm.trans hx)
  subst he2
  obtain ⟨_, _, _, hkv, hkc, hkm, hkrow⟩ := hkd
  simp at hkv
  obtain ⟨rfl, rfl⟩ := hkv
  have hbl : b < w0.heap.size := World.block_lt_of_cell? w0 _ c0
  obtain ⟨hT1, hT2⟩ := hT p at_ hp
  replace hT1 := hid hT1
  replace hT2 := hid hT2
  obtain ⟨z, hz⟩ := get_of_lt (show i < O.length by rw [hO.len]; exact hi)
  replace c0 := keepc hO.hb c0
  replace c1 := keepc hO.hb c1
  replace c2 := keepc hO.hb c2
  replace c3 := keepc hO.hb c3
  replace c4 := keepc hO.hb c4
  have hii : (i : Int) < (l0.length : Int) := by omega
  have hOl := hid hO.len
  unfold maxLen at hkm
  obtain ⟨kb, koff, rfl, hkro⟩ := slc_some hkrow (by simp)
  have kc0 : w0.cell? ⟨kb, koff, none⟩ = some (.int .i64 (k0 : Nat)) := by
    have := hkro.one int1_len (show [(k0 : Int)][0]? = some (k0 : Int) from rfl) rfl
    simpa using this
  have hkbg : kb ≠ g := by have := World.block_lt_of_cell? w0 _ kc0; have h2 := hO.hg; simp only at this; omega
  have hatt0 := hid (fun W' O' a' (hO' : OSt w0 W' sb g oc (some ⟨b, off, none⟩) l0.length cap O') h => show Calls Tryz.prog 80 #[.pointer (some ⟨sb, 0, none⟩), .int .i64 (k0 : Nat), .agg #[.int .i64 14, .bool false, .bool false, .bool false, .bool false], .int .i64 (a' : Nat)] W' fun e w' => SpanPost w0 W' sb g oc (some ⟨b, off, none⟩) l0.length cap (putS O' (s.getD k0 0) (Tree.spB false (treeIx l0 k0) posLv a')) (a' + (Tree.tkb false (treeIx l0 k0) posLv).length) e w' from hlv posLv W' O' a' posOk_lv hO' h)
  have hsl0 := fun a' => (treeIx l0 k0).sp_len false posLv a'
  have htl0 := (treeIx l0 k0).tkb_len false posLv
  unfold SpanPost at hatt0
  generalize Tree.spB false (treeIx l0 k0) posLv = S0 at *
  generalize Tree.tkb false (treeIx l0 k0) posLv = T0 at *
  obtain ⟨a0', ha0'⟩ : ∃ x, x = at_ + 1 := ⟨_, rfl⟩
  obtain ⟨v0, hv0⟩ : ∃ x, x = a0' + T0.length := ⟨_, rfl⟩
  generalize (treeIx l0 k0).post.length = P0 at *
  generalize (treeIx l0 i).post.length = PI at *
  have hblw : b < W.heap.size := Nat.lt_of_lt_of_le hbl hO.hb.size
  have gl := hO.ltg
  have bx := hO.box
  have s0 : W.cell? ⟨sb, 0, none⟩ = some (.slice (some ⟨b, off, none⟩) l0.length cap) := box_cell bx rfl
  have s2 : W.cell? ⟨sb, 2, none⟩ = some (.slice (some ⟨g, 0, none⟩) l0.length oc) := box_cell bx rfl
  have g0 := own_read hO.row (span_get hz 0 rfl)
  have gf := sp_froz hO.row (i * 2)
  simp only [Nat.add_zero] at g0
  have hsl2 : sb < W.heap.size := heap_lt bx
  have hnsg := hO.hne
  have hwl : IntKind.wrap .i64 ((at_ : Int) + 1) = (a0' : Int) := by rw [wrap_in _ (by unfold I64; omega)]; omega
  have hTx := hid (show Tree.spB false (treeIx l0 i) p at_ = (S0 (a0')) ++ [⟨(at_ : Nat), (v0 : Nat)⟩] from by
    have hE : at_ + ((T0).length + 1) = v0 := by omega
    rw [hT1.out, hE]
    first | done | simp only [hv0, hv0, ha0'])
  have hend : Hid (v0 = at_ + ((T0).length + 1)) := hid (by omega)
  have hO1 := hid (((((hO.set (i * 2) (.int .i64 (at_ : Nat)) (span_set0 hz (at_ : Nat))).below ((Below.refl _ _).alloc (Nat.le_refl _) (.cells #[.int .i64 p.level, .bool p.dollar, .bool p.noIn, .bool p.noGt, .bool p.noSign] 36))).below ((Below.refl _ _).alloc (Nat.le_refl _) (.cells #[.int .i64 9, .int .i64 o, .string a, .string b2, .slice (some ⟨kb, koff, none⟩) 1 kc] 58))).below ((Below.refl _ _).alloc (Nat.le_refl _) (.cells #[.int .i64 14, .bool false, .bool false, .bool false, .bool false] 36))))
  have hg1 := hid (show W.grownBy ((((W.setCell ⟨g, i * 2, none⟩ (.int .i64 (at_ : Nat))).alloc (.cells #[.int .i64 p.level, .bool p.dollar, .bool p.noIn, .bool p.noGt, .bool p.noSign] 36)).alloc (.cells #[.int .i64 9, .int .i64 o, .string a, .string b2, .slice (some ⟨kb, koff, none⟩) 1 kc] 58)).alloc (.cells #[.int .i64 14, .bool false, .bool false, .bool false, .bool false] 36)) (some g) from grown_trans (grown_trans (grown_trans (grown_set W g (i * 2) _) (World.grownBy_alloc _ _ _)) (World.grownBy_alloc _ _ _)) (World.grownBy_alloc _ _ _))
  obtain ⟨hx1, hx3, hxl⟩ := sp_alloc3 (W.setCell ⟨g, i * 2, none⟩ (.int .i64 (at_ : Nat))) (.cells #[.int .i64 p.level, .bool p.dollar, .bool p.noIn, .bool p.noGt, .bool p.noSign] 36) (.cells #[.int .i64 9, .int .i64 o, .string a, .string b2, .slice (some ⟨kb, koff, none⟩) 1 kc] 58) (.cells #[.int .i64 14, .bool false, .bool false, .bool false, .bool false] 36)
  rw [show (W.setCell ⟨g, i * 2, none⟩ (.int .i64 (at_ : Nat))).heap.size = W.heap.size by simp] at hx1 hx3 hxl
  replace hx1 := hid hx1
  replace hx3 := hid hx3
  replace hxl := hid hxl
  have hgw := hid gl
  have hz2 := hid hz
  replace hO := hid hO
  clear hT hz bx hx hx2
  generalize s.getD i 0 = bi at *
  generalize s.getD k0 0 = bk0 at *
  replace hs0 := hid hs0
  replace hgn0 := hid hgn0
  replace hgi := hid hgi
  replace hpi := hid hpi
  replace hbi := hid hbi
  replace hat := hid hat
  replace hk0 := hid hk0
  replace hsl0 := hid hsl0
  replace htl0 := hid htl0
  replace ha0' := hid ha0'
  replace hv0 := hid hv0
  go_enter Tryz.func80, Tryz.ntmps80
  go_upto_region 4 with fail
  generalize (((W.setCell ⟨g, i * 2, none⟩ (.int .i64 (at_ : Nat))).alloc (.cells #[.int .i64 p.level, .bool p.dollar, .bool p.noIn, .bool p.noGt, .bool p.noSign] 36)).alloc (.cells #[.int .i64 9, .int .i64 o, .string a, .string b2, .slice (some ⟨kb, koff, none⟩) 1 kc] 58)).alloc (.cells #[.int .i64 14, .bool false, .bool false, .bool false, .bool false] 36) = W1 at hO1 hg1 hx1 hx3 hxl ⊢
  have hnb := hid (show W.heap.size ≠ g ∧ W.heap.size + 1 ≠ g ∧ W.heap.size + 1 + 1 ≠ g from by have := hgw.out; omega)
  clear s0 s2 g0 gf c0 c1 c2 c3 c4 hsl2 hblw gl hnsg
  have kd0 := keepc hO1.out.hb kc0
  clear kc0 hkro hkrow
  have hS := hid (show ∀ W', W1.grownBy W' (some g) → W'.cell? ⟨W.heap.size, 0, none⟩ = some (.int .i64 p.level) ∧ W'.cell? ⟨W.heap.size, 1, none⟩ = some (.bool p.dollar) ∧ W'.cell? ⟨W.heap.size, 2, none⟩ = some (.bool p.noIn) ∧ W'.cell? ⟨W.heap.size, 3, none⟩ = some (.bool p.noGt) ∧ W'.cell? ⟨W.heap.size, 4, none⟩ = some (.bool p.noSign) ∧ W'.cell? ⟨W.heap.size + 1, 0, none⟩ = some (.int .i64 9) ∧ W'.cell? ⟨W.heap.size + 1, 1, none⟩ = some (.int .i64 o) ∧ W'.cell? ⟨W.heap.size + 1, 2, none⟩ = some (.string a) ∧ W'.cell? ⟨W.heap.size + 1, 3, none⟩ = some (.string b2) ∧ W'.cell? ⟨W.heap.size + 1, 4, none⟩ = some (.slice (some ⟨kb, koff, none⟩) 1 kc) ∧ W'.cell? ⟨W.heap.size + 1 + 1, 0, none⟩ = some (.int .i64 14) ∧ W'.cell? ⟨W.heap.size + 1 + 1, 1, none⟩ = some (.bool false) ∧ W'.cell? ⟨W.heap.size + 1 + 1, 2, none⟩ = some (.bool false) ∧ W'.cell? ⟨W.heap.size + 1 + 1, 3, none⟩ = some (.bool false) ∧ W'.cell? ⟨W.heap.size + 1 + 1, 4, none⟩ = some (.bool false) ∧ W'.cell? ⟨kb, koff, none⟩ = some (.int .i64 (k0 : Nat)) from fun W' hW => ⟨box_cell (grow_block hW hx1.out hnb.out.1) rfl, box_cell (grow_block hW hx1.out hnb.out.1) rfl, box_cell (grow_block hW hx1.out hnb.out.1) rfl, box_cell (grow_block hW hx1.out hnb.out.1) rfl, box_cell (grow_block hW hx1.out hnb.out.1) rfl, box_cell (grow_block hW hx3.out hnb.out.2.1) rfl, box_cell (grow_block hW hx3.out hnb.out.2.1) rfl, box_cell (grow_block hW hx3.out hnb.out.2.1) rfl, box_cell (grow_block hW hx3.out hnb.out.2.1) rfl, box_cell (grow_block hW hx3.out hnb.out.2.1) rfl, box_cell (grow_block hW hxl.out hnb.out.2.2) rfl, box_cell (grow_block hW hxl.out hnb.out.2.2) rfl, box_cell (grow_block hW hxl.out hnb.out.2.2) rfl, box_cell (grow_block hW hxl.out hnb.out.2.2) rfl, box_cell (grow_block hW hxl.out hnb.out.2.2) rfl, grow_cell hW kd0 hkbg⟩)
  have hGn := hid (grown_refl W1 (some g))
  have hOn := hO1
  all_goals
    obtain ⟨y0, y1, y2, y3, y4, y5, y6, y7, y8, y9, y10, y11, y12, y13, y14, y15⟩ := hS.out _ hGn.out
    go_wp2_with fail
    clear y0 y1 y2 y3 y4 y5 y6 y7 y8 y9 y10 y11 y12 y13 y14 y15
  all_goals
    have hGd : W1.grownBy W1.drew (some g) := grown_trans hGn.out (below_gr (Below.refl _ _).drew g)
    go_region_held3 (fun W' => W'.cell? ⟨W.heap.size, 0, none⟩ = some (.int .i64 p.level) ∧ W'.cell? ⟨W.heap.size, 1, none⟩ = some (.bool p.dollar) ∧ W'.cell? ⟨W.heap.size, 2, none⟩ = some (.bool p.noIn) ∧ W'.cell? ⟨W.heap.size, 3, none⟩ = some (.bool p.noGt) ∧ W'.cell? ⟨W.heap.size, 4, none⟩ = some (.bool p.noSign) ∧ W'.cell? ⟨W.heap.size + 1, 0, none⟩ = some (.int .i64 9) ∧ W'.cell? ⟨W.heap.size + 1, 1, none⟩ = some (.int .i64 o) ∧ W'.cell? ⟨W.heap.size + 1, 2, none⟩ = some (.string a) ∧ W'.cell? ⟨W.heap.size + 1, 3, none⟩ = some (.string b2) ∧ W'.cell? ⟨W.heap.size + 1, 4, none⟩ = some (.slice (some ⟨kb, koff, none⟩) 1 kc) ∧ W'.cell? ⟨W.heap.size + 1 + 1, 0, none⟩ = some (.int .i64 14) ∧ W'.cell? ⟨W.heap.size + 1 + 1, 1, none⟩ = some (.bool false) ∧ W'.cell? ⟨W.heap.size + 1 + 1, 2, none⟩ = some (.bool false) ∧ W'.cell? ⟨W.heap.size + 1 + 1, 3, none⟩ = some (.bool false) ∧ W'.cell? ⟨W.heap.size + 1 + 1, 4, none⟩ = some (.bool false) ∧ W'.cell? ⟨kb, koff, none⟩ = some (.int .i64 (k0 : Nat)))
      (first
        | (refine hS.out _ ?_
           with_reducible (first
             | exact hGd
             | exact hGl0)))
      (first
        | (go_at_call 80; refine (hatt0.out _ _ (a0') (hOn.out.drew) (by have hs0 := hs0.out; have hgn0 := hgn0.out; have hgi := hgi.out; have hpi := hpi.out; have hbi := hbi.out; have hat := hat.out; have hk0 := hk0.out; have hsl0 := hsl0.out; have htl0 := htl0.out; have ha0' := ha0'.out; have hv0 := hv0.out; omega)).mono ?_; rintro e wn0 ⟨he, hgl0, hOl0⟩; rw [← hv0.out] at he; subst he; have hGl0 := grown_trans hGd hgl0))
  all_goals
    have hOn : Hid (OSt w0 wn0 sb g oc (some ⟨b, off, none⟩) l0.length cap (putS (O.set i ⟨(at_ : Nat), z.hi⟩) bi (S0 (a0')))) := hid (by rw [← hs0.out]; exact hOl0)
    have hGn := hid hGl0
    clear hOl0 hgl0 hGl0 hGd
  all_goals
    have hzn := hid (span_mid (O := O) (S := S0 (a0')) (b := bi) (i := i) (x := ⟨(at_ : Nat), z.hi⟩) (by have hs0 := hs0.out; have hgn0 := hgn0.out; have hgi := hgi.out; have hpi := hpi.out; have hbi := hbi.out; have hat := hat.out; have hk0 := hk0.out; have hsl0 := hsl0.out; have htl0 := htl0.out; have ha0' := ha0'.out; have hv0 := hv0.out; simp only [List.length_append, List.length_nil, hsl0]; omega) (by rw [hOl.out]; exact hi))
    have hdone := hid (span_done (O := O) (S := S0 (a0')) (b := bi) (i := i) (x := ⟨(at_ : Nat), z.hi⟩) (y := ⟨(at_ : Nat), (v0 : Nat)⟩) (by have hs0 := hs0.out; have hgn0 := hgn0.out; have hgi := hgi.out; have hpi := hpi.out; have hbi := hbi.out; have hat := hat.out; have hk0 := hk0.out; have hsl0 := hsl0.out; have htl0 := htl0.out; have ha0' := ha0'.out; have hv0 := hv0.out; simp only [List.length_append, List.length_nil, hsl0]; omega) (by rw [hOl.out]; exact hi))
    have q2 : wn0.cell? ⟨sb, 2, none⟩ = some (.slice (some ⟨g, 0, none⟩) l0.length oc) := box_cell hOn.out.box rfl
    have q1 := own_read hOn.out.row (span_get hzn.out 1 rfl)
    have qf := sp_froz hOn.out.row (i * 2 + 1)
    have hfin := hid (hOn.out.set (i * 2 + 1) (.int .i64 (v0 : Nat)) (span_set1 hzn.out (v0 : Nat)))
    have hgf := hid (grown_trans (grown_trans hg1.out hGn.out) (grown_set wn0 g (i * 2 + 1) (.int .i64 (v0 : Nat))))
    clear hzn hOn hGn
    go_wp2
    go_ret
    exact ⟨ret_int (by rw [hT2.out, hend.out]), hgf.out, by rw [hTx.out, ← hdone.out]; exact hfin.out⟩
set_option maxRecDepth 100000 in
set_option maxHeartbeats 6400000 in
theorem specl30Node_10 {w0 : World} {l0 : List Node} {a0 : Option Addr} {cap sb g oc i : Nat} {s : List Nat} {k0 : Nat} {o : Int} {a b2 : ByteArray} (hv : NodeSlc w0 (.slice a0 l0.length cap) l0) (hx : l0[i]? = some ⟨10, o, a, b2, [(k0 : Int)]⟩) (hbi : s.getD i 0 ≤ i) (hlv : LNodeC w0 l0 a0 cap sb g oc s k0) (hs0 : s.getD k0 0 = s.getD i 0) (hgn0 : s.getD k0 0 + (treeIx l0 k0).post.length = k0 + 1) (hgi : s.getD i 0 + (treeIx l0 i).post.length = i + 1) (hpi : (treeIx l0 i).post.length = (treeIx l0 k0).post.length + 1) (hk0 : k0 < l0.length) (hT : ∀ (p : Pos) (at_ : Nat), posOkB p = true → (treeIx l0 i).spB false p at_ = (Tree.spB false (treeIx l0 k0) posLv (at_)) ++ [⟨at_, ((at_ + ((Tree.tkb false (treeIx l0 k0) posLv).length + 1) : Nat) : Int)⟩] ∧ ((treeIx l0 i).tkb false p).length = (Tree.tkb false (treeIx l0 k0) posLv).length + 1) : LNodeC w0 l0 a0 cap sb g oc s i := by
  intro p W O at_ hp hO hat
  obtain ⟨a1, cap1, he1, hm1, hc1, hsl⟩ := hv.shape
  injection he1 with e1 _ e3
  subst e1; subst e3
  have hi := (List.getElem?_eq_some_iff.1 hx).1
  obtain ⟨x, ka, kc, b, off, hx2, he2, c0, c1, c2, c3, c4, hkd⟩ := hsl.at (Below.refl _ _) (Nat.le_refl _) hi
  obtain rfl : x = ⟨10, o, a, b2, [(k0 : Int)]⟩ := Option.some.inj (hx2.symm.trans hx)
  subst he2
  obtain ⟨_, _, _, hkv, hkc, hkm, hkrow⟩ := hkd
  simp at hkv
  obtain ⟨rfl, rfl⟩ := hkv
  have hbl : b < w0.heap.size := World.block_lt_of_cell? w0 _ c0
  obtain ⟨hT1, hT2⟩ := hT p at_ hp
  replace hT1 := hid hT1
  replace hT2 := hid hT2
  obtain ⟨z, hz⟩ := get_of_lt (show i < O.length by rw [hO.len]; exact hi)
  replace c0 := keepc hO.hb c0
  replace c1 := keepc hO.hb c1
  replace c2 := keepc hO.hb c2
  replace c3 := keepc hO.hb c3
  replace c4 := keepc hO.hb c4
  have hii : (i : Int) < (l0.length : Int) := by omega
  have hOl := hid hO.len
  unfold maxLen at hkm
  obtain ⟨kb, koff, rfl, hkro⟩ := slc_some hkrow (by simp)
  have kc0 : w0.cell? ⟨kb, koff, none⟩ = some (.int .i64 (k0 : Nat)) := by
    have := hkro.one int1_len (show [(k0 : Int)][0]? = some (k0 : Int) from rfl) rfl
    simpa using this
  have hkbg : kb ≠ g := by have := World.block_lt_of_cell? w0 _ kc0; have h2 := hO.hg; simp only at this; omega
  have hatt0 := hid (fun W' O' a' (hO' : OSt w0 W' sb g oc (some ⟨b, off, none⟩) l0.length cap O') h => show Calls Tryz.prog 80 #[.pointer (some ⟨sb, 0, none⟩), .int .i64 (k0 : Nat), .agg #[.int .i64 14, .bool false, .bool false, .bool false, .bool false], .int .i64 (a' : Nat)] W' fun e w' => SpanPost w0 W' sb g oc (some ⟨b, off, none⟩) l0.length cap (putS O' (s.getD k0 0) (Tree.spB false (treeIx l0 k0) posLv a')) (a' + (Tree.tkb false (treeIx l0 k0) posLv).length) e w' from hlv posLv W' O' a' posOk_lv hO' h)
  have hsl0 := fun a' => (treeIx l0 k0).sp_len false posLv a'
  have htl0 := (treeIx l0 k0).tkb_len false posLv
  unfold SpanPost at hatt0
  generalize Tree.spB false (treeIx l0 k0) posLv = S0 at *
  generalize Tree.tkb false (treeIx l0 k0) posLv = T0 at *
  obtain ⟨v0, hv0⟩ : ∃ x, x = at_ + T0.length := ⟨_, rfl⟩
  obtain ⟨a1', ha1'⟩ : ∃ x, x = v0 + 1 := ⟨_, rfl⟩
  generalize (treeIx l0 k0).post.length = P0 at *
  generalize (treeIx l0 i).post.length = PI at *
  have hblw : b < W.heap.size := Nat.lt_of_lt_of_le hbl hO.hb.size
  have gl := hO.ltg
  have bx := hO.box
  have s0 : W.cell? ⟨sb, 0, none⟩ = some (.slice (some ⟨b, off, none⟩) l0.length cap) := box_cell bx rfl
  have s2 : W.cell? ⟨sb, 2, none⟩ = some (.slice (some ⟨g, 0, none⟩) l0.length oc) := box_cell bx rfl
  have g0 := own_read hO.row (span_get hz 0 rfl)
  have gf := sp_froz hO.row (i * 2)
  simp only [Nat.add_zero] at g0
  have hsl2 : sb < W.heap.size := heap_lt bx
  have hnsg := hO.hne
  have hwa1 : IntKind.wrap .i64 ((at_ : Int) + 1) = ((at_ + 1 : Nat) : Int) := by rw [wrap_in _ (by unfold I64; omega)]; omega
  have hws0 : IntKind.wrap .i64 ((v0 : Int) + 1) = (a1' : Int) := by rw [wrap_in _ (by unfold I64; omega)]; omega
  have hTx := hid (show Tree.spB false (treeIx l0 i) p at_ = (S0 (at_)) ++ [⟨(at_ : Nat), (a1' : Nat)⟩] from by
    have hE : at_ + ((T0).length + 1) = a1' := by omega
    rw [hT1.out, hE]
    first | done | simp only [ha1', hv0])
  have hend : Hid (a1' = at_ + ((T0).length + 1)) := hid (by omega)
  have hO1 := hid (((((hO.set (i * 2) (.int .i64 (at_ : Nat)) (span_set0 hz (at_ : Nat))).below ((Below.refl _ _).alloc (Nat.le_refl _) (.cells #[.int .i64 p.level, .bool p.dollar, .bool p.noIn, .bool p.noGt, .bool p.noSign] 36))).below ((Below.refl _ _).alloc (Nat.le_refl _) (.cells #[.int .i64 10, .int .i64 o, .string a, .string b2, .slice (some ⟨kb, koff, none⟩) 1 kc] 58))).below ((Below.refl _ _).alloc (Nat.le_refl _) (.cells #[.int .i64 14, .bool false, .bool false, .bool false, .bool false] 36))))
  have hg1 := hid (show W.grownBy ((((W.setCell ⟨g, i * 2, none⟩ (.int .i64 (at_ : Nat))).alloc (.cells #[.int .i64 p.level, .bool p.dollar, .bool p.noIn, .bool p.noGt, .bool p.noSign] 36)).alloc (.cells #[.int .i64 10, .int .i64 o, .string a, .string b2, .slice (some ⟨kb, koff, none⟩) 1 kc] 58)).alloc (.cells #[.int .i64 14, .bool false, .bool false, .bool false, .bool false] 36)) (some g) from grown_trans (grown_trans (grown_trans (grown_set W g (i * 2) _) (World.grownBy_alloc _ _ _)) (World.grownBy_alloc _ _ _)) (World.grownBy_alloc _ _ _))
  obtain ⟨hx1, hx3, hxl⟩ := sp_alloc3 (W.setCell ⟨g, i * 2, none⟩ (.int .i64 (at_ : Nat))) (.cells #[.int .i64 p.level, .bool p.dollar, .bool p.noIn, .bool p.noGt, .bool p.noSign] 36) (.cells #[.int .i64 10, .int .i64 o, .string a, .string b2, .slice (some ⟨kb, koff, none⟩) 1 kc] 58) (.cells #[.int .i64 14, .bool false, .bool false, .bool false, .bool false] 36)
  rw [show (W.setCell ⟨g, i * 2, none⟩ (.int .i64 (at_ : Nat))).heap.size = W.heap.size by simp] at hx1 hx3 hxl
  replace hx1 := hid hx1
  replace hx3 := hid hx3
  replace hxl := hid hxl
  have hgw := hid gl
  have hz2 := hid hz
  replace hO := hid hO
  clear hT hz bx hx hx2
  generalize s.getD i 0 = bi at *
  generalize s.getD k0 0 = bk0 at *
  replace hs0 := hid hs0
  replace hgn0 := hid hgn0
  replace hgi := hid hgi
  replace hpi := hid hpi
  replace hbi := hid hbi
  replace hat := hid hat
  replace hk0 := hid hk0
  replace hsl0 := hid hsl0
  replace htl0 := hid htl0
  replace ha1' := hid ha1'
  replace hv0 := hid hv0
  go_enter Tryz.func80, Tryz.ntmps80
  go_upto_region 4 with fail
  generalize (((W.setCell ⟨g, i * 2, none⟩ (.int .i64 (at_ : Nat))).alloc (.cells #[.int .i64 p.level, .bool p.dollar, .bool p.noIn, .bool p.noGt, .bool p.noSign] 36)).alloc (.cells #[.int .i64 10, .int .i64 o, .string a, .string b2, .slice (some ⟨kb, koff, none⟩) 1 kc] 58)).alloc (.cells #[.int .i64 14, .bool false, .bool false, .bool false, .bool false] 36) = W1 at hO1 hg1 hx1 hx3 hxl ⊢
  have hnb := hid (show W.heap.size ≠ g ∧ W.heap.size + 1 ≠ g ∧ W.heap.size + 1 + 1 ≠ g from by have := hgw.out; omega)
  clear s0 s2 g0 gf c0 c1 c2 c3 c4 hsl2 hblw gl hnsg
  have kd0 := keepc hO1.out.hb kc0
  clear kc0 hkro hkrow
  have hS := hid (show ∀ W', W1.grownBy W' (some g) → W'.cell? ⟨W.heap.size, 0, none⟩ = some (.int .i64 p.level) ∧ W'.cell? ⟨W.heap.size, 1, none⟩ = some (.bool p.dollar) ∧ W'.cell? ⟨W.heap.size, 2, none⟩ = some (.bool p.noIn) ∧ W'.cell? ⟨W.heap.size, 3, none⟩ = some (.bool p.noGt) ∧ W'.cell? ⟨W.heap.size, 4, none⟩ = some (.bool p.noSign) ∧ W'.cell? ⟨W.heap.size + 1, 0, none⟩ = some (.int .i64 10) ∧ W'.cell? ⟨W.heap.size + 1, 1, none⟩ = some (.int .i64 o) ∧ W'.cell? ⟨W.heap.size + 1, 2, none⟩ = some (.string a) ∧ W'.cell? ⟨W.heap.size + 1, 3, none⟩ = some (.string b2) ∧ W'.cell? ⟨W.heap.size + 1, 4, none⟩ = some (.slice (some ⟨kb, koff, none⟩) 1 kc) ∧ W'.cell? ⟨W.heap.size + 1 + 1, 0, none⟩ = some (.int .i64 14) ∧ W'.cell? ⟨W.heap.size + 1 + 1, 1, none⟩ = some (.bool false) ∧ W'.cell? ⟨W.heap.size + 1 + 1, 2, none⟩ = some (.bool false) ∧ W'.cell? ⟨W.heap.size + 1 + 1, 3, none⟩ = some (.bool false) ∧ W'.cell? ⟨W.heap.size + 1 + 1, 4, none⟩ = some (.bool false) ∧ W'.cell? ⟨kb, koff, none⟩ = some (.int .i64 (k0 : Nat)) from fun W' hW => ⟨box_cell (grow_block hW hx1.out hnb.out.1) rfl, box_cell (grow_block hW hx1.out hnb.out.1) rfl, box_cell (grow_block hW hx1.out hnb.out.1) rfl, box_cell (grow_block hW hx1.out hnb.out.1) rfl, box_cell (grow_block hW hx1.out hnb.out.1) rfl, box_cell (grow_block hW hx3.out hnb.out.2.1) rfl, box_cell (grow_block hW hx3.out hnb.out.2.1) rfl, box_cell (grow_block hW hx3.out hnb.out.2.1) rfl, box_cell (grow_block hW hx3.out hnb.out.2.1) rfl, box_cell (grow_block hW hx3.out hnb.out.2.1) rfl, box_cell (grow_block hW hxl.out hnb.out.2.2) rfl, box_cell (grow_block hW hxl.out hnb.out.2.2) rfl, box_cell (grow_block hW hxl.out hnb.out.2.2) rfl, box_cell (grow_block hW hxl.out hnb.out.2.2) rfl, box_cell (grow_block hW hxl.out hnb.out.2.2) rfl, grow_cell hW kd0 hkbg⟩)
  have hGn := hid (grown_refl W1 (some g))
  have hOn := hO1
  all_goals
    obtain ⟨y0, y1, y2, y3, y4, y5, y6, y7, y8, y9, y10, y11, y12, y13, y14, y15⟩ := hS.out _ hGn.out
    go_wp2_with fail
    clear y0 y1 y2 y3 y4 y5 y6 y7 y8 y9 y10 y11 y12 y13 y14 y15
  all_goals
    have hGd : W1.grownBy W1.drew (some g) := grown_trans hGn.out (below_gr (Below.refl _ _).drew g)
    go_region_held3 (fun W' => W'.cell? ⟨W.heap.size, 0, none⟩ = some (.int .i64 p.level) ∧ W'.cell? ⟨W.heap.size, 1, none⟩ = some (.bool p.dollar) ∧ W'.cell? ⟨W.heap.size, 2, none⟩ = some (.bool p.noIn) ∧ W'.cell? ⟨W.heap.size, 3, none⟩ = some (.bool p.noGt) ∧ W'.cell? ⟨W.heap.size, 4, none⟩ = some (.bool p.noSign) ∧ W'.cell? ⟨W.heap.size + 1, 0, none⟩ = some (.int .i64 10) ∧ W'.cell? ⟨W.heap.size + 1, 1, none⟩ = some (.int .i64 o) ∧ W'.cell? ⟨W.heap.size + 1, 2, none⟩ = some (.string a) ∧ W'.cell? ⟨W.heap.size + 1, 3, none⟩ = some (.string b2) ∧ W'.cell? ⟨W.heap.size + 1, 4, none⟩ = some (.slice (some ⟨kb, koff, none⟩) 1 kc) ∧ W'.cell? ⟨W.heap.size + 1 + 1, 0, none⟩ = some (.int .i64 14) ∧ W'.cell? ⟨W.heap.size + 1 + 1, 1, none⟩ = some (.bool false) ∧ W'.cell? ⟨W.heap.size + 1 + 1, 2, none⟩ = some (.bool false) ∧ W'.cell? ⟨W.heap.size + 1 + 1, 3, none⟩ = some (.bool false) ∧ W'.cell? ⟨W.heap.size + 1 + 1, 4, none⟩ = some (.bool false) ∧ W'.cell? ⟨kb, koff, none⟩ = some (.int .i64 (k0 : Nat)))
      (first
        | (refine hS.out _ ?_
           with_reducible (first
             | exact hGd
             | exact hGl0)))
      (first
        | (go_at_call 80; refine (hatt0.out _ _ (at_) (hOn.out.drew) (by have hs0 := hs0.out; have hgn0 := hgn0.out; have hgi := hgi.out; have hpi := hpi.out; have hbi := hbi.out; have hat := hat.out; have hk0 := hk0.out; have hsl0 := hsl0.out; have htl0 := htl0.out; have ha1' := ha1'.out; have hv0 := hv0.out; omega)).mono ?_; rintro e wn0 ⟨he, hgl0, hOl0⟩; rw [← hv0.out] at he; subst he; have hGl0 := grown_trans hGd hgl0))
  all_goals
    have hOn : Hid (OSt w0 wn0 sb g oc (some ⟨b, off, none⟩) l0.length cap (putS (O.set i ⟨(at_ : Nat), z.hi⟩) bi (S0 (at_)))) := hid (by rw [← hs0.out]; exact hOl0)
    have hGn := hid hGl0
    clear hOl0 hgl0 hGl0 hGd
  all_goals
    have hzn := hid (span_mid (O := O) (S := S0 (at_)) (b := bi) (i := i) (x := ⟨(at_ : Nat), z.hi⟩) (by have hs0 := hs0.out; have hgn0 := hgn0.out; have hgi := hgi.out; have hpi := hpi.out; have hbi := hbi.out; have hat := hat.out; have hk0 := hk0.out; have hsl0 := hsl0.out; have htl0 := htl0.out; have ha1' := ha1'.out; have hv0 := hv0.out; simp only [List.length_append, List.length_nil, hsl0]; omega) (by rw [hOl.out]; exact hi))
    have hdone := hid (span_done (O := O) (S := S0 (at_)) (b := bi) (i := i) (x := ⟨(at_ : Nat), z.hi⟩) (y := ⟨(at_ : Nat), (a1' : Nat)⟩) (by have hs0 := hs0.out; have hgn0 := hgn0.out; have hgi := hgi.out; have hpi := hpi.out; have hbi := hbi.out; have hat := hat.out; have hk0 := hk0.out; have hsl0 := hsl0.out; have htl0 := htl0.out; have ha1' := ha1'.out; have hv0 := hv0.out; simp only [List.length_append, List.length_nil, hsl0]; omega) (by rw [hOl.out]; exact hi))
    have q2 : wn0.cell? ⟨sb, 2, none⟩ = some (.slice (some ⟨g, 0, none⟩) l0.length oc) := box_cell hOn.out.box rfl
    have q1 := own_read hOn.out.row (span_get hzn.out 1 rfl)
    have qf := sp_froz hOn.out.row (i * 2 + 1)
    have hfin := hid (hOn.out.set (i * 2 + 1) (.int .i64 (a1' : Nat)) (span_set1 hzn.out (a1' : Nat)))
    have hgf := hid (grown_trans (grown_trans hg1.out hGn.out) (grown_set wn0 g (i * 2 + 1) (.int .i64 (a1' : Nat))))
    clear hzn hOn hGn
    go_wp2
    go_ret
    exact ⟨ret_int (by rw [hT2.out, hend.out]), hgf.out, by rw [hTx.out, ← hdone.out]; exact hfin.out⟩
set_option maxRecDepth 100000 in
set_option maxHeartbeats 6400000 in
theorem specl30Node_11 {w0 : World} {l0 : List Node} {a0 : Option Addr} {cap sb g oc i : Nat} {s : List Nat} {k0 : Nat} {o : Int} {a b2 : ByteArray} (hv : NodeSlc w0 (.slice a0 l0.length cap) l0) (hx : l0[i]? = some ⟨11, o, a, b2, [(k0 : Int)]⟩) (hbi : s.getD i 0 ≤ i) (har : arity 11 1) (hop : ((11 : Nat) : Int) = 12 → opLevelB o ≠ 0) (hat0 : LAtC w0 l0 a0 cap sb g oc s k0) (hs0 : s.getD k0 0 = s.getD i 0) (hgn0 : s.getD k0 0 + (treeIx l0 k0).post.length = k0 + 1) (hgi : s.getD i 0 + (treeIx l0 i).post.length = i + 1) (hpi : (treeIx l0 i).post.length = (treeIx l0 k0).post.length + 1) (hk0 : k0 < l0.length) (hT : ∀ (p : Pos) (at_ : Nat), posOkB p = true → (treeIx l0 i).spB false p at_ = (Tree.spS false (treeIx l0 k0) (kidPosB 11 o 1 0 p) (at_ + 1)) ++ [⟨at_, ((at_ + ((Tree.tks false (treeIx l0 k0) (kidPosB 11 o 1 0 p)).length + 1) : Nat) : Int)⟩] ∧ ((treeIx l0 i).tkb false p).length = (Tree.tks false (treeIx l0 k0) (kidPosB 11 o 1 0 p)).length + 1) : LNodeC w0 l0 a0 cap sb g oc s i := by
  intro p W O at_ hp hO hat
  obtain ⟨a1, cap1, he1, hm1, hc1, hsl⟩ := hv.shape
  injection he1 with e1 _ e3
  subst e1; subst e3
  have hi := (List.getElem?_eq_some_iff.1 hx).1
  obtain ⟨x, ka, kc, b, off, hx2, he2, c0, c1, c2, c3, c4, hkd⟩ := hsl.at (Below.refl _ _) (Nat.le_refl _) hi
  obtain rfl : x = ⟨11, o, a, b2, [(k0 : Int)]⟩ := Option.some.inj (hx2.symm.trans hx)
  subst he2
  obtain ⟨_, _, _, hkv, hkc, hkm, hkrow⟩ := hkd
  simp at hkv
  obtain ⟨rfl, rfl⟩ := hkv
  have hbl : b < w0.heap.size := World.block_lt_of_cell? w0 _ c0
  obtain ⟨hT1, hT2⟩ := hT p at_ hp
  replace hT1 := hid hT1
  replace hT2 := hid hT2
  obtain ⟨z, hz⟩ := get_of_lt (show i < O.length by rw [hO.len]; exact hi)
  replace c0 := keepc hO.hb c0
  replace c1 := keepc hO.hb c1
  replace c2 := keepc hO.hb c2
  replace c3 := keepc hO.hb c3
  replace c4 := keepc hO.hb c4
  have hii : (i : Int) < (l0.length : Int) := by omega
  have hOl := hid hO.len
  unfold maxLen at hkm
  obtain ⟨kb, koff, rfl, hkro⟩ := slc_some hkrow (by simp)
  have kc0 : w0.cell? ⟨kb, koff, none⟩ = some (.int .i64 (k0 : Nat)) := by
    have := hkro.one int1_len (show [(k0 : Int)][0]? = some (k0 : Int) from rfl) rfl
    simpa using this
  have hkbg : kb ≠ g := by have := World.block_lt_of_cell? w0 _ kc0; have h2 := hO.hg; simp only at this; omega
  have hq0 := hid (kidPos_ok (k := 11) (o := o) (n := 1) (j := 0) hp (by omega) (levelB_pos har.1 hop))
  have hkp0 := hid (fun W' => show Calls Tryz.prog 103 #[.agg #[.int .i64 11, .int .i64 o, .string a, .string b2, .slice (some ⟨kb, koff, none⟩) 1 kc], .int .i64 0, .agg #[.int .i64 p.level, .bool p.dollar, .bool p.noIn, .bool p.noGt, .bool p.noSign]] W' fun e w' => e = .returned (.agg #[.int .i64 (kidPosB 11 o 1 0 p).level, .bool (kidPosB 11 o 1 0 p).dollar, .bool (kidPosB 11 o 1 0 p).noIn, .bool (kidPosB 11 o 1 0 p).noGt, .bool (kidPosB 11 o 1 0 p).noSign]) ∧ Below W'.heap.size W' w' from specKidPos_any 11 o a b2 (some ⟨kb, koff, none⟩) 1 kc 0 p W' hp (by omega) har hop)
  have hatt0 := hid (fun W' O' a' (hO' : OSt w0 W' sb g oc (some ⟨b, off, none⟩) l0.length cap O') h => hat0 (kidPosB 11 o 1 0 p) W' O' a' hq0.out hO' h)
  have hsl0 := fun a' => (treeIx l0 k0).spS_len false (kidPosB 11 o 1 0 p) a'
  have htl0 := (treeIx l0 k0).tks_len false (kidPosB 11 o 1 0 p)
  unfold SpanPost at hatt0
  generalize Tree.spS false (treeIx l0 k0) (kidPosB 11 o 1 0 p) = S0 at *
  generalize Tree.tks false (treeIx l0 k0) (kidPosB 11 o 1 0 p) = T0 at *
  generalize kidPosB 11 o 1 0 p = p0 at *
  obtain ⟨a0', ha0'⟩ : ∃ x, x = at_ + 1 := ⟨_, rfl⟩
  obtain ⟨v0, hv0⟩ : ∃ x, x = a0' + T0.length := ⟨_, rfl⟩
  generalize (treeIx l0 k0).post.length = P0 at *
  generalize (treeIx l0 i).post.length = PI at *
  have hblw : b < W.heap.size := Nat.lt_of_lt_of_le hbl hO.hb.size
  have gl := hO.ltg
  have bx := hO.box
  have s0 : W.cell? ⟨sb, 0, none⟩ = some (.slice (some ⟨b, off, none⟩) l0.length cap) := box_cell bx rfl
  have s2 : W.cell? ⟨sb, 2, none⟩ = some (.slice (some ⟨g, 0, none⟩) l0.length oc) := box_cell bx rfl
  have g0 := own_read hO.row (span_get hz 0 rfl)
  have gf := sp_froz hO.row (i * 2)
  simp only [Nat.add_zero] at g0
  have hsl2 : sb < W.heap.size := heap_lt bx
  have hnsg := hO.hne
  have hwl : IntKind.wrap .i64 ((at_ : Int) + 1) = (a0' : Int) := by rw [wrap_in _ (by unfold I64; omega)]; omega
  have hTx := hid (show Tree.spB false (treeIx l0 i) p at_ = (S0 (a0')) ++ [⟨(at_ : Nat), (v0 : Nat)⟩] from by
    have hE : at_ + ((T0).length + 1) = v0 := by omega
    rw [hT1.out, hE]
    first | done | simp only [hv0, hv0, ha0'])
  have hend : Hid (v0 = at_ + ((T0).length + 1)) := hid (by omega)
  have hO1 := hid (((((hO.set (i * 2) (.int .i64 (at_ : Nat)) (span_set0 hz (at_ : Nat))).below ((Below.refl _ _).alloc (Nat.le_refl _) (.cells #[.int .i64 p.level, .bool p.dollar, .bool p.noIn, .bool p.noGt, .bool p.noSign] 36))).below ((Below.refl _ _).alloc (Nat.le_refl _) (.cells #[.int .i64 11, .int .i64 o, .string a, .string b2, .slice (some ⟨kb, koff, none⟩) 1 kc] 58))).below ((Below.refl _ _).alloc (Nat.le_refl _) (.cells #[.int .i64 14, .bool false, .bool false, .bool false, .bool false] 36))))
  have hg1 := hid (show W.grownBy ((((W.setCell ⟨g, i * 2, none⟩ (.int .i64 (at_ : Nat))).alloc (.cells #[.int .i64 p.level, .bool p.dollar, .bool p.noIn, .bool p.noGt, .bool p.noSign] 36)).alloc (.cells #[.int .i64 11, .int .i64 o, .string a, .string b2, .slice (some ⟨kb, koff, none⟩) 1 kc] 58)).alloc (.cells #[.int .i64 14, .bool false, .bool false, .bool false, .bool false] 36)) (some g) from grown_trans (grown_trans (grown_trans (grown_set W g (i * 2) _) (World.grownBy_alloc _ _ _)) (World.grownBy_alloc _ _ _)) (World.grownBy_alloc _ _ _))
  obtain ⟨hx1, hx3, hxl⟩ := sp_alloc3 (W.setCell ⟨g, i * 2, none⟩ (.int .i64 (at_ : Nat))) (.cells #[.int .i64 p.level, .bool p.dollar, .bool p.noIn, .bool p.noGt, .bool p.noSign] 36) (.cells #[.int .i64 11, .int .i64 o, .string a, .string b2, .slice (some ⟨kb, koff, none⟩) 1 kc] 58) (.cells #[.int .i64 14, .bool false, .bool false, .bool false, .bool false] 36)
  rw [show (W.setCell ⟨g, i * 2, none⟩ (.int .i64 (at_ : Nat))).heap.size = W.heap.size by simp] at hx1 hx3 hxl
  replace hx1 := hid hx1
  replace hx3 := hid hx3
  replace hxl := hid hxl
  have hgw := hid gl
  have hz2 := hid hz
  replace hO := hid hO
  clear hT hz bx hx hx2
  generalize s.getD i 0 = bi at *
  generalize s.getD k0 0 = bk0 at *
  replace hs0 := hid hs0
  replace hgn0 := hid hgn0
  replace hgi := hid hgi
  replace hpi := hid hpi
  replace hbi := hid hbi
  replace hat := hid hat
  replace hk0 := hid hk0
  replace hsl0 := hid hsl0
  replace htl0 := hid htl0
  replace ha0' := hid ha0'
  replace hv0 := hid hv0
  go_enter Tryz.func80, Tryz.ntmps80
  go_upto_region 4 with fail
  generalize (((W.setCell ⟨g, i * 2, none⟩ (.int .i64 (at_ : Nat))).alloc (.cells #[.int .i64 p.level, .bool p.dollar, .bool p.noIn, .bool p.noGt, .bool p.noSign] 36)).alloc (.cells #[.int .i64 11, .int .i64 o, .string a, .string b2, .slice (some ⟨kb, koff, none⟩) 1 kc] 58)).alloc (.cells #[.int .i64 14, .bool false, .bool false, .bool false, .bool false] 36) = W1 at hO1 hg1 hx1 hx3 hxl ⊢
  have hnb := hid (show W.heap.size ≠ g ∧ W.heap.size + 1 ≠ g ∧ W.heap.size + 1 + 1 ≠ g from by have := hgw.out; omega)
  clear s0 s2 g0 gf c0 c1 c2 c3 c4 hsl2 hblw gl hnsg
  have kd0 := keepc hO1.out.hb kc0
  clear kc0 hkro hkrow
  have hS := hid (show ∀ W', W1.grownBy W' (some g) → W'.cell? ⟨W.heap.size, 0, none⟩ = some (.int .i64 p.level) ∧ W'.cell? ⟨W.heap.size, 1, none⟩ = some (.bool p.dollar) ∧ W'.cell? ⟨W.heap.size, 2, none⟩ = some (.bool p.noIn) ∧ W'.cell? ⟨W.heap.size, 3, none⟩ = some (.bool p.noGt) ∧ W'.cell? ⟨W.heap.size, 4, none⟩ = some (.bool p.noSign) ∧ W'.cell? ⟨W.heap.size + 1, 0, none⟩ = some (.int .i64 11) ∧ W'.cell? ⟨W.heap.size + 1, 1, none⟩ = some (.int .i64 o) ∧ W'.cell? ⟨W.heap.size + 1, 2, none⟩ = some (.string a) ∧ W'.cell? ⟨W.heap.size + 1, 3, none⟩ = some (.string b2) ∧ W'.cell? ⟨W.heap.size + 1, 4, none⟩ = some (.slice (some ⟨kb, koff, none⟩) 1 kc) ∧ W'.cell? ⟨W.heap.size + 1 + 1, 0, none⟩ = some (.int .i64 14) ∧ W'.cell? ⟨W.heap.size + 1 + 1, 1, none⟩ = some (.bool false) ∧ W'.cell? ⟨W.heap.size + 1 + 1, 2, none⟩ = some (.bool false) ∧ W'.cell? ⟨W.heap.size + 1 + 1, 3, none⟩ = some (.bool false) ∧ W'.cell? ⟨W.heap.size + 1 + 1, 4, none⟩ = some (.bool false) ∧ W'.cell? ⟨kb, koff, none⟩ = some (.int .i64 (k0 : Nat)) from fun W' hW => ⟨box_cell (grow_block hW hx1.out hnb.out.1) rfl, box_cell (grow_block hW hx1.out hnb.out.1) rfl, box_cell (grow_block hW hx1.out hnb.out.1) rfl, box_cell (grow_block hW hx1.out hnb.out.1) rfl, box_cell (grow_block hW hx1.out hnb.out.1) rfl, box_cell (grow_block hW hx3.out hnb.out.2.1) rfl, box_cell (grow_block hW hx3.out hnb.out.2.1) rfl, box_cell (grow_block hW hx3.out hnb.out.2.1) rfl, box_cell (grow_block hW hx3.out hnb.out.2.1) rfl, box_cell (grow_block hW hx3.out hnb.out.2.1) rfl, box_cell (grow_block hW hxl.out hnb.out.2.2) rfl, box_cell (grow_block hW hxl.out hnb.out.2.2) rfl, box_cell (grow_block hW hxl.out hnb.out.2.2) rfl, box_cell (grow_block hW hxl.out hnb.out.2.2) rfl, box_cell (grow_block hW hxl.out hnb.out.2.2) rfl, grow_cell hW kd0 hkbg⟩)
  have hGn := hid (grown_refl W1 (some g))
  have hOn := hO1
  all_goals
    obtain ⟨y0, y1, y2, y3, y4, y5, y6, y7, y8, y9, y10, y11, y12, y13, y14, y15⟩ := hS.out _ hGn.out
    go_wp2_with fail
    clear y0 y1 y2 y3 y4 y5 y6 y7 y8 y9 y10 y11 y12 y13 y14 y15
  all_goals
    have hGd : W1.grownBy W1.drew (some g) := grown_trans hGn.out (below_gr (Below.refl _ _).drew g)
    go_region_held3 (fun W' => W'.cell? ⟨W.heap.size, 0, none⟩ = some (.int .i64 p.level) ∧ W'.cell? ⟨W.heap.size, 1, none⟩ = some (.bool p.dollar) ∧ W'.cell? ⟨W.heap.size, 2, none⟩ = some (.bool p.noIn) ∧ W'.cell? ⟨W.heap.size, 3, none⟩ = some (.bool p.noGt) ∧ W'.cell? ⟨W.heap.size, 4, none⟩ = some (.bool p.noSign) ∧ W'.cell? ⟨W.heap.size + 1, 0, none⟩ = some (.int .i64 11) ∧ W'.cell? ⟨W.heap.size + 1, 1, none⟩ = some (.int .i64 o) ∧ W'.cell? ⟨W.heap.size + 1, 2, none⟩ = some (.string a) ∧ W'.cell? ⟨W.heap.size + 1, 3, none⟩ = some (.string b2) ∧ W'.cell? ⟨W.heap.size + 1, 4, none⟩ = some (.slice (some ⟨kb, koff, none⟩) 1 kc) ∧ W'.cell? ⟨W.heap.size + 1 + 1, 0, none⟩ = some (.int .i64 14) ∧ W'.cell? ⟨W.heap.size + 1 + 1, 1, none⟩ = some (.bool false) ∧ W'.cell? ⟨W.heap.size + 1 + 1, 2, none⟩ = some (.bool false) ∧ W'.cell? ⟨W.heap.size + 1 + 1, 3, none⟩ = some (.bool false) ∧ W'.cell? ⟨W.heap.size + 1 + 1, 4, none⟩ = some (.bool false) ∧ W'.cell? ⟨kb, koff, none⟩ = some (.int .i64 (k0 : Nat)))
      (first
        | (refine hS.out _ ?_
           with_reducible (first
             | exact hGd
             | exact hGk
             | exact hGl0)))
      (first
        | (go_at_call 103; refine (hkp0.out _).mono ?_; rintro e wk ⟨rfl, hbk0⟩; have hbk : Below W1.heap.size W1 wk := ((Below.refl W1.heap.size W1).drew).trans (hbk0.mono (Nat.le_refl _)); have hGk := grown_trans hGn.out (below_gr hbk g); have hOk := hOn.out.below hbk; clear hbk0)
        | (go_at_call 62; refine (hatt0.out _ _ (a0') hOk (by have hs0 := hs0.out; have hgn0 := hgn0.out; have hgi := hgi.out; have hpi := hpi.out; have hbi := hbi.out; have hat := hat.out; have hk0 := hk0.out; have hsl0 := hsl0.out; have htl0 := htl0.out; have ha0' := ha0'.out; have hv0 := hv0.out; omega)).mono ?_; rintro e wn0 ⟨he, hgl0, hOl0⟩; rw [← hv0.out] at he; subst he; have hGl0 := grown_trans hGk hgl0))
  all_goals
    have hOn : Hid (OSt w0 wn0 sb g oc (some ⟨b, off, none⟩) l0.length cap (putS (O.set i ⟨(at_ : Nat), z.hi⟩) bi (S0 (a0')))) := hid (by rw [← hs0.out]; exact hOl0)
    have hGn := hid hGl0
    clear hOl0 hgl0 hGl0 hGd hGk hbk hOk
  all_goals
    have hzn := hid (span_mid (O := O) (S := S0 (a0')) (b := bi) (i := i) (x := ⟨(at_ : Nat), z.hi⟩) (by have hs0 := hs0.out; have hgn0 := hgn0.out; have hgi := hgi.out; have hpi := hpi.out; have hbi := hbi.out; have hat := hat.out; have hk0 := hk0.out; have hsl0 := hsl0.out; have htl0 := htl0.out; have ha0' := ha0'.out; have hv0 := hv0.out; simp only [List.length_append, List.length_nil, hsl0]; omega) (by rw [hOl.out]; exact hi))
    have hdone := hid (span_done (O := O) (S := S0 (a0')) (b := bi) (i := i) (x := ⟨(at_ : Nat), z.hi⟩) (y := ⟨(at_ : Nat), (v0 : Nat)⟩) (by have hs0 := hs0.out; have hgn0 := hgn0.out; have hgi := hgi.out; have hpi := hpi.out; have hbi := hbi.out; have hat := hat.out; have hk0 := hk0.out; have hsl0 := hsl0.out; have htl0 := htl0.out; have ha0' := ha0'.out; have hv0 := hv0.out; simp only [List.length_append, List.length_nil, hsl0]; omega) (by rw [hOl.out]; exact hi))
    have q2 : wn0.cell? ⟨sb, 2, none⟩ = some (.slice (some ⟨g, 0, none⟩) l0.length oc) := box_cell hOn.out.box rfl
    have q1 := own_read hOn.out.row (span_get hzn.out 1 rfl)
    have qf := sp_froz hOn.out.row (i * 2 + 1)
    have hfin := hid (hOn.out.set (i * 2 + 1) (.int .i64 (v0 : Nat)) (span_set1 hzn.out (v0 : Nat)))
    have hgf := hid (grown_trans (grown_trans hg1.out hGn.out) (grown_set wn0 g (i * 2 + 1) (.int .i64 (v0 : Nat))))
    clear hzn hOn hGn
    go_wp2
    go_ret
    exact ⟨ret_int (by rw [hT2.out, hend.out]), hgf.out, by rw [hTx.out, ← hdone.out]; exact hfin.out⟩
set_option maxRecDepth 100000 in
set_option maxHeartbeats 6400000 in
theorem specl30Node_13a {w0 : World} {l0 : List Node} {a0 : Option Addr} {cap sb g oc i : Nat} {s : List Nat} {k0 : Nat} {o : Int} {a b2 : ByteArray} (hv : NodeSlc w0 (.slice a0 l0.length cap) l0) (hx : l0[i]? = some ⟨13, o, a, b2, [(k0 : Int)]⟩) (hbi : s.getD i 0 ≤ i) (har : arity 13 1) (hop : ((13 : Nat) : Int) = 12 → opLevelB o ≠ 0) (hat0 : LAtC w0 l0 a0 cap sb g oc s k0) (hs0 : s.getD k0 0 = s.getD i 0) (hgn0 : s.getD k0 0 + (treeIx l0 k0).post.length = k0 + 1) (hgi : s.getD i 0 + (treeIx l0 i).post.length = i + 1) (hpi : (treeIx l0 i).post.length = (treeIx l0 k0).post.length + 1) (hk0 : k0 < l0.length) (hT : ∀ (p : Pos) (at_ : Nat), posOkB p = true → (treeIx l0 i).spB false p at_ = (Tree.spS false (treeIx l0 k0) (kidPosB 13 o 1 0 p) (at_)) ++ [⟨at_, ((at_ + ((Tree.tks false (treeIx l0 k0) (kidPosB 13 o 1 0 p)).length + 2) : Nat) : Int)⟩] ∧ ((treeIx l0 i).tkb false p).length = (Tree.tks false (treeIx l0 k0) (kidPosB 13 o 1 0 p)).length + 2) : LNodeC w0 l0 a0 cap sb g oc s i := by
  intro p W O at_ hp hO hat
  obtain ⟨a1, cap1, he1, hm1, hc1, hsl⟩ := hv.shape
  injection he1 with e1 _ e3
  subst e1; subst e3
  have hi := (List.getElem?_eq_some_iff.1 hx).1
  obtain ⟨x, ka, kc, b, off, hx2, he2, c0, c1, c2, c3, c4, hkd⟩ := hsl.at (Below.refl _ _) (Nat.le_refl _) hi
  obtain rfl : x = ⟨13, o, a, b2, [(k0 : Int)]⟩ := Option.some.inj (hx2.symm.trans hx)
  subst he2
  obtain ⟨_, _, _, hkv, hkc, hkm, hkrow⟩ := hkd
  simp at hkv
  obtain ⟨rfl, rfl⟩ := hkv
  have hbl : b < w0.heap.size := World.block_lt_of_cell? w0 _ c0
  obtain ⟨hT1, hT2⟩ := hT p at_ hp
  replace hT1 := hid hT1
  replace hT2 := hid hT2
  obtain ⟨z, hz⟩ := get_of_lt (show i < O.length by rw [hO.len]; exact hi)
  replace c0 := keepc hO.hb c0
  replace c1 := keepc hO.hb c1
  replace c2 := keepc hO.hb c2
  replace c3 := keepc hO.hb c3
  replace c4 := keepc hO.hb c4
  have hii : (i : Int) < (l0.length : Int) := by omega
  have hOl := hid hO.len
  unfold maxLen at hkm
  obtain ⟨kb, koff, rfl, hkro⟩ := slc_some hkrow (by simp)
  have kc0 : w0.cell? ⟨kb, koff, none⟩ = some (.int .i64 (k0 : Nat)) := by
    have := hkro.one int1_len (show [(k0 : Int)][0]? = some (k0 : Int) from rfl) rfl
    simpa using this
  have hkbg : kb ≠ g := by have := World.block_lt_of_cell? w0 _ kc0; have h2 := hO.hg; simp only at this; omega
  have hq0 := hid (kidPos_ok (k := 13) (o := o) (n := 1) (j := 0) hp (by omega) (levelB_pos har.1 hop))
  have hkp0 := hid (fun W' => show Calls Tryz.prog 103 #[.agg #[.int .i64 13, .int .i64 o, .string a, .string b2, .slice (some ⟨kb, koff, none⟩) 1 kc], .int .i64 0, .agg #[.int .i64 p.level, .bool p.dollar, .bool p.noIn, .bool p.noGt, .bool p.noSign]] W' fun e w' => e = .returned (.agg #[.int .i64 (kidPosB 13 o 1 0 p).level, .bool (kidPosB 13 o 1 0 p).dollar, .bool (kidPosB 13 o 1 0 p).noIn, .bool (kidPosB 13 o 1 0 p).noGt, .bool (kidPosB 13 o 1 0 p).noSign]) ∧ Below W'.heap.size W' w' from specKidPos_any 13 o a b2 (some ⟨kb, koff, none⟩) 1 kc 0 p W' hp (by omega) har hop)
  have hatt0 := hid (fun W' O' a' (hO' : OSt w0 W' sb g oc (some ⟨b, off, none⟩) l0.length cap O') h => hat0 (kidPosB 13 o 1 0 p) W' O' a' hq0.out hO' h)
  have hsl0 := fun a' => (treeIx l0 k0).spS_len false (kidPosB 13 o 1 0 p) a'
  have htl0 := (treeIx l0 k0).tks_len false (kidPosB 13 o 1 0 p)
  unfold SpanPost at hatt0
  generalize Tree.spS false (treeIx l0 k0) (kidPosB 13 o 1 0 p) = S0 at *
  generalize Tree.tks false (treeIx l0 k0) (kidPosB 13 o 1 0 p) = T0 at *
  generalize kidPosB 13 o 1 0 p = p0 at *
  obtain ⟨v0, hv0⟩ : ∃ x, x = at_ + T0.length := ⟨_, rfl⟩
  obtain ⟨a1', ha1'⟩ : ∃ x, x = v0 + 2 := ⟨_, rfl⟩
  generalize (treeIx l0 k0).post.length = P0 at *
  generalize (treeIx l0 i).post.length = PI at *
  have hblw : b < W.heap.size := Nat.lt_of_lt_of_le hbl hO.hb.size
  have gl := hO.ltg
  have bx := hO.box
  have s0 : W.cell? ⟨sb, 0, none⟩ = some (.slice (some ⟨b, off, none⟩) l0.length cap) := box_cell bx rfl
  have s2 : W.cell? ⟨sb, 2, none⟩ = some (.slice (some ⟨g, 0, none⟩) l0.length oc) := box_cell bx rfl
  have g0 := own_read hO.row (span_get hz 0 rfl)
  have gf := sp_froz hO.row (i * 2)
  simp only [Nat.add_zero] at g0
  have hsl2 : sb < W.heap.size := heap_lt bx
  have hnsg := hO.hne
  have hwa1 : IntKind.wrap .i64 ((at_ : Int) + 1) = ((at_ + 1 : Nat) : Int) := by rw [wrap_in _ (by unfold I64; omega)]; omega
  have hws0 : IntKind.wrap .i64 ((v0 : Int) + 2) = (a1' : Int) := by rw [wrap_in _ (by unfold I64; omega)]; omega
  have hTx := hid (show Tree.spB false (treeIx l0 i) p at_ = (S0 (at_)) ++ [⟨(at_ : Nat), (a1' : Nat)⟩] from by
    have hE : at_ + ((T0).length + 2) = a1' := by omega
    rw [hT1.out, hE]
    first | done | simp only [ha1', hv0])
  have hend : Hid (a1' = at_ + ((T0).length + 2)) := hid (by omega)
  have hO1 := hid (((((hO.set (i * 2) (.int .i64 (at_ : Nat)) (span_set0 hz (at_ : Nat))).below ((Below.refl _ _).alloc (Nat.le_refl _) (.cells #[.int .i64 p.level, .bool p.dollar, .bool p.noIn, .bool p.noGt, .bool p.noSign] 36))).below ((Below.refl _ _).alloc (Nat.le_refl _) (.cells #[.int .i64 13, .int .i64 o, .string a, .string b2, .slice (some ⟨kb, koff, none⟩) 1 kc] 58))).below ((Below.refl _ _).alloc (Nat.le_refl _) (.cells #[.int .i64 14, .bool false, .bool false, .bool false, .bool false] 36))))
  have hg1 := hid (show W.grownBy ((((W.setCell ⟨g, i * 2, none⟩ (.int .i64 (at_ : Nat))).alloc (.cells #[.int .i64 p.level, .bool p.dollar, .bool p.noIn, .bool p.noGt, .bool p.noSign] 36)).alloc (.cells #[.int .i64 13, .int .i64 o, .string a, .string b2, .slice (some ⟨kb, koff, none⟩) 1 kc] 58)).alloc (.cells #[.int .i64 14, .bool false, .bool false, .bool false, .bool false] 36)) (some g) from grown_trans (grown_trans (grown_trans (grown_set W g (i * 2) _) (World.grownBy_alloc _ _ _)) (World.grownBy_alloc _ _ _)) (World.grownBy_alloc _ _ _))
  obtain ⟨hx1, hx3, hxl⟩ := sp_alloc3 (W.setCell ⟨g, i * 2, none⟩ (.int .i64 (at_ : Nat))) (.cells #[.int .i64 p.level, .bool p.dollar, .bool p.noIn, .bool p.noGt, .bool p.noSign] 36) (.cells #[.int .i64 13, .int .i64 o, .string a, .string b2, .slice (some ⟨kb, koff, none⟩) 1 kc] 58) (.cells #[.int .i64 14, .bool false, .bool false, .bool false, .bool false] 36)
  rw [show (W.setCell ⟨g, i * 2, none⟩ (.int .i64 (at_ : Nat))).heap.size = W.heap.size by simp] at hx1 hx3 hxl
  replace hx1 := hid hx1
  replace hx3 := hid hx3
  replace hxl := hid hxl
  have hgw := hid gl
  have hz2 := hid hz
  replace hO := hid hO
  clear hT hz bx hx hx2
  generalize s.getD i 0 = bi at *
  generalize s.getD k0 0 = bk0 at *
  replace hs0 := hid hs0
  replace hgn0 := hid hgn0
  replace hgi := hid hgi
  replace hpi := hid hpi
  replace hbi := hid hbi
  replace hat := hid hat
  replace hk0 := hid hk0
  replace hsl0 := hid hsl0
  replace htl0 := hid htl0
  replace ha1' := hid ha1'
  replace hv0 := hid hv0
  go_enter Tryz.func80, Tryz.ntmps80
  go_upto_region 4 with fail
  generalize (((W.setCell ⟨g, i * 2, none⟩ (.int .i64 (at_ : Nat))).alloc (.cells #[.int .i64 p.level, .bool p.dollar, .bool p.noIn, .bool p.noGt, .bool p.noSign] 36)).alloc (.cells #[.int .i64 13, .int .i64 o, .string a, .string b2, .slice (some ⟨kb, koff, none⟩) 1 kc] 58)).alloc (.cells #[.int .i64 14, .bool false, .bool false, .bool false, .bool false] 36) = W1 at hO1 hg1 hx1 hx3 hxl ⊢
  have hnb := hid (show W.heap.size ≠ g ∧ W.heap.size + 1 ≠ g ∧ W.heap.size + 1 + 1 ≠ g from by have := hgw.out; omega)
  clear s0 s2 g0 gf c0 c1 c2 c3 c4 hsl2 hblw gl hnsg
  have kd0 := keepc hO1.out.hb kc0
  clear kc0 hkro hkrow
  have hS := hid (show ∀ W', W1.grownBy W' (some g) → W'.cell? ⟨W.heap.size, 0, none⟩ = some (.int .i64 p.level) ∧ W'.cell? ⟨W.heap.size, 1, none⟩ = some (.bool p.dollar) ∧ W'.cell? ⟨W.heap.size, 2, none⟩ = some (.bool p.noIn) ∧ W'.cell? ⟨W.heap.size, 3, none⟩ = some (.bool p.noGt) ∧ W'.cell? ⟨W.heap.size, 4, none⟩ = some (.bool p.noSign) ∧ W'.cell? ⟨W.heap.size + 1, 0, none⟩ = some (.int .i64 13) ∧ W'.cell? ⟨W.heap.size + 1, 1, none⟩ = some (.int .i64 o) ∧ W'.cell? ⟨W.heap.size + 1, 2, none⟩ = some (.string a) ∧ W'.cell? ⟨W.heap.size + 1, 3, none⟩ = some (.string b2) ∧ W'.cell? ⟨W.heap.size + 1, 4, none⟩ = some (.slice (some ⟨kb, koff, none⟩) 1 kc) ∧ W'.cell? ⟨W.heap.size + 1 + 1, 0, none⟩ = some (.int .i64 14) ∧ W'.cell? ⟨W.heap.size + 1 + 1, 1, none⟩ = some (.bool false) ∧ W'.cell? ⟨W.heap.size + 1 + 1, 2, none⟩ = some (.bool false) ∧ W'.cell? ⟨W.heap.size + 1 + 1, 3, none⟩ = some (.bool false) ∧ W'.cell? ⟨W.heap.size + 1 + 1, 4, none⟩ = some (.bool false) ∧ W'.cell? ⟨kb, koff, none⟩ = some (.int .i64 (k0 : Nat)) from fun W' hW => ⟨box_cell (grow_block hW hx1.out hnb.out.1) rfl, box_cell (grow_block hW hx1.out hnb.out.1) rfl, box_cell (grow_block hW hx1.out hnb.out.1) rfl, box_cell (grow_block hW hx1.out hnb.out.1) rfl, box_cell (grow_block hW hx1.out hnb.out.1) rfl, box_cell (grow_block hW hx3.out hnb.out.2.1) rfl, box_cell (grow_block hW hx3.out hnb.out.2.1) rfl, box_cell (grow_block hW hx3.out hnb.out.2.1) rfl, box_cell (grow_block hW hx3.out hnb.out.2.1) rfl, box_cell (grow_block hW hx3.out hnb.out.2.1) rfl, box_cell (grow_block hW hxl.out hnb.out.2.2) rfl, box_cell (grow_block hW hxl.out hnb.out.2.2) rfl, box_cell (grow_block hW hxl.out hnb.out.2.2) rfl, box_cell (grow_block hW hxl.out hnb.out.2.2) rfl, box_cell (grow_block hW hxl.out hnb.out.2.2) rfl, grow_cell hW kd0 hkbg⟩)
  have hGn := hid (grown_refl W1 (some g))
  have hOn := hO1
  all_goals
    obtain ⟨y0, y1, y2, y3, y4, y5, y6, y7, y8, y9, y10, y11, y12, y13, y14, y15⟩ := hS.out _ hGn.out
    go_wp2_with fail
    clear y0 y1 y2 y3 y4 y5 y6 y7 y8 y9 y10 y11 y12 y13 y14 y15
  all_goals
    have hGd : W1.grownBy W1.drew (some g) := grown_trans hGn.out (below_gr (Below.refl _ _).drew g)
    go_region_held3 (fun W' => W'.cell? ⟨W.heap.size, 0, none⟩ = some (.int .i64 p.level) ∧ W'.cell? ⟨W.heap.size, 1, none⟩ = some (.bool p.dollar) ∧ W'.cell? ⟨W.heap.size, 2, none⟩ = some (.bool p.noIn) ∧ W'.cell? ⟨W.heap.size, 3, none⟩ = some (.bool p.noGt) ∧ W'.cell? ⟨W.heap.size, 4, none⟩ = some (.bool p.noSign) ∧ W'.cell? ⟨W.heap.size + 1, 0, none⟩ = some (.int .i64 13) ∧ W'.cell? ⟨W.heap.size + 1, 1, none⟩ = some (.int .i64 o) ∧ W'.cell? ⟨W.heap.size + 1, 2, none⟩ = some (.string a) ∧ W'.cell? ⟨W.heap.size + 1, 3, none⟩ = some (.string b2) ∧ W'.cell? ⟨W.heap.size + 1, 4, none⟩ = some (.slice (some ⟨kb, koff, none⟩) 1 kc) ∧ W'.cell? ⟨W.heap.size + 1 + 1, 0, none⟩ = some (.int .i64 14) ∧ W'.cell? ⟨W.heap.size + 1 + 1, 1, none⟩ = some (.bool false) ∧ W'.cell? ⟨W.heap.size + 1 + 1, 2, none⟩ = some (.bool false) ∧ W'.cell? ⟨W.heap.size + 1 + 1, 3, none⟩ = some (.bool false) ∧ W'.cell? ⟨W.heap.size + 1 + 1, 4, none⟩ = some (.bool false) ∧ W'.cell? ⟨kb, koff, none⟩ = some (.int .i64 (k0 : Nat)))
      (first
        | (refine hS.out _ ?_
           with_reducible (first
             | exact hGd
             | exact hGk
             | exact hGl0)))
      (first
        | (go_at_call 103; refine (hkp0.out _).mono ?_; rintro e wk ⟨rfl, hbk0⟩; have hbk : Below W1.heap.size W1 wk := ((Below.refl W1.heap.size W1).drew).trans (hbk0.mono (Nat.le_refl _)); have hGk := grown_trans hGn.out (below_gr hbk g); have hOk := hOn.out.below hbk; clear hbk0)
        | (go_at_call 62; refine (hatt0.out _ _ (at_) hOk (by have hs0 := hs0.out; have hgn0 := hgn0.out; have hgi := hgi.out; have hpi := hpi.out; have hbi := hbi.out; have hat := hat.out; have hk0 := hk0.out; have hsl0 := hsl0.out; have htl0 := htl0.out; have ha1' := ha1'.out; have hv0 := hv0.out; omega)).mono ?_; rintro e wn0 ⟨he, hgl0, hOl0⟩; rw [← hv0.out] at he; subst he; have hGl0 := grown_trans hGk hgl0))
  all_goals
    have hOn : Hid (OSt w0 wn0 sb g oc (some ⟨b, off, none⟩) l0.length cap (putS (O.set i ⟨(at_ : Nat), z.hi⟩) bi (S0 (at_)))) := hid (by rw [← hs0.out]; exact hOl0)
    have hGn := hid hGl0
    clear hOl0 hgl0 hGl0 hGd hGk hbk hOk
  all_goals
    have hzn := hid (span_mid (O := O) (S := S0 (at_)) (b := bi) (i := i) (x := ⟨(at_ : Nat), z.hi⟩) (by have hs0 := hs0.out; have hgn0 := hgn0.out; have hgi := hgi.out; have hpi := hpi.out; have hbi := hbi.out; have hat := hat.out; have hk0 := hk0.out; have hsl0 := hsl0.out; have htl0 := htl0.out; have ha1' := ha1'.out; have hv0 := hv0.out; simp only [List.length_append, List.length_nil, hsl0]; omega) (by rw [hOl.out]; exact hi))
    have hdone := hid (span_done (O := O) (S := S0 (at_)) (b := bi) (i := i) (x := ⟨(at_ : Nat), z.hi⟩) (y := ⟨(at_ : Nat), (a1' : Nat)⟩) (by have hs0 := hs0.out; have hgn0 := hgn0.out; have hgi := hgi.out; have hpi := hpi.out; have hbi := hbi.out; have hat := hat.out; have hk0 := hk0.out; have hsl0 := hsl0.out; have htl0 := htl0.out; have ha1' := ha1'.out; have hv0 := hv0.out; simp only [List.length_append, List.length_nil, hsl0]; omega) (by rw [hOl.out]; exact hi))
    have q2 : wn0.cell? ⟨sb, 2, none⟩ = some (.slice (some ⟨g, 0, none⟩) l0.length oc) := box_cell hOn.out.box rfl
    have q1 := own_read hOn.out.row (span_get hzn.out 1 rfl)
    have qf := sp_froz hOn.out.row (i * 2 + 1)
    have hfin := hid (hOn.out.set (i * 2 + 1) (.int .i64 (a1' : Nat)) (span_set1 hzn.out (a1' : Nat)))
    have hgf := hid (grown_trans (grown_trans hg1.out hGn.out) (grown_set wn0 g (i * 2 + 1) (.int .i64 (a1' : Nat))))
    clear hzn hOn hGn
    go_wp2
    go_ret
    exact ⟨ret_int (by rw [hT2.out, hend.out]), hgf.out, by rw [hTx.out, ← hdone.out]; exact hfin.out⟩
end Go.Proofs.YtkelhmgdajiocaaGreatDoor
