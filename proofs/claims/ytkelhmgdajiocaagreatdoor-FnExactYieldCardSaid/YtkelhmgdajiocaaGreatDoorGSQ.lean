/- Walks and lemmas of this seat (FSpecM): what each theorem says of the functions that it names. Conditions: those that each theorem states. -/
import Derived.Test.YtkelhmgdajiocaaGreatDoorFSpecN
namespace Go.Proofs.YtkelhmgdajiocaaGreatDoor
set_option linter.unusedVariables false
set_option linter.unusedSimpArgs false
open Go.RowKit

set_option maxRecDepth 100000 in
set_option maxHeartbeats 6400000 in
theorem specl10Node_1 {w0 : World} {l0 : List Node} {a0 : Option Addr} {cap : Nat} {full : Bool} {i : Nat} {o : Int} {a b2 : ByteArray} (hv : NodeSlc w0 (.slice a0 l0.length cap) l0) (hx : l0[i]? = some ⟨1, o, a, b2, []⟩) (hT : ∀ p, (treeIx l0 i).tkb full p = [⟨6, a, 0⟩]) : SNodeC w0 l0 a0 cap full i := by
  intro p W hp hbW
  obtain ⟨a1, cap1, he1, hm1, hc1, hsl⟩ := hv.shape
  injection he1 with e1 _ e3
  subst e1; subst e3
  have hi := (List.getElem?_eq_some_iff.1 hx).1
  obtain ⟨x, ka, kc, b, off, hx2, he2, c0, c1, c2, c3, c4, hkd⟩ := hsl.at hbW (Nat.le_refl _) hi
  obtain rfl : x = ⟨1, o, a, b2, []⟩ := Option.some.inj (hx2.symm.trans hx)
  subst he2
  obtain ⟨_, _, _, hkv, hkc, hkm, hkrow⟩ := hkd
  simp at hkv
  obtain ⟨rfl, rfl⟩ := hkv
  have hbl : b < W.heap.size := World.block_lt_of_cell? W _ c0
  have hRR := hid (hT p)
  have hB1 := hid (show Below W.heap.size W (((W.alloc (.cells #[.slice (some ⟨b, off, none⟩) l0.length cap, .bool full] 80)).alloc (.cells #[.int .i64 p.level, .bool p.dollar, .bool p.noIn, .bool p.noGt, .bool p.noSign] 36)).alloc (.cells #[.int .i64 1, .int .i64 o, .string a, .string b2, .slice ka 0 kc] 58)) from (((Below.refl _ _).alloc (Nat.le_refl _) _).alloc (by simp) _).alloc (by simp <;> omega) _)
  obtain ⟨hx0, hx1, hx3⟩ := alloc3 W (.cells #[.slice (some ⟨b, off, none⟩) l0.length cap, .bool full] 80) (.cells #[.int .i64 p.level, .bool p.dollar, .bool p.noIn, .bool p.noGt, .bool p.noSign] 36) (.cells #[.int .i64 1, .int .i64 o, .string a, .string b2, .slice ka 0 kc] 58)
  replace hx0 := hid hx0
  replace hx1 := hid hx1
  replace hx3 := hid hx3
  have hleaf := hid (fun w => specl10Leaf_any 1 o a b2 ka 0 kc w)
  rw [show leafTok 1 a = ⟨6, a, 0⟩ from rfl] at hleaf
  go_enter Tryz.func77, Tryz.ntmps77
  go_wp2_with fail
  generalize ((W.alloc (.cells #[.slice (some ⟨b, off, none⟩) l0.length cap, .bool full] 80)).alloc (.cells #[.int .i64 p.level, .bool p.dollar, .bool p.noIn, .bool p.noGt, .bool p.noSign] 36)).alloc (.cells #[.int .i64 1, .int .i64 o, .string a, .string b2, .slice ka 0 kc] 58) = wa at hB1 hx0 hx1 hx3 ⊢
  refine (hleaf.out wa).mono ?_; rintro e wb ⟨rfl, hbb⟩
  have hB1 := hid (hB1.out.trans (hbb.mono hB1.out.size))
  have hx0 := hid (boxb hx0.out hbb)
  have hx1 := hid (boxb hx1.out hbb)
  have hx3 := hid (boxb hx3.out hbb)
  have ya := fun o' => boxb hx3.out ((Below.refl wb.heap.size wb).alloc (Nat.le_refl _) o')
  have y0 := fun o' => (box_cells (ya o')).1
  have y1 := fun o' => (box_cells (ya o')).2.1
  have y2 := fun o' => (box_cells (ya o')).2.2.1
  have y3 := fun o' => (box_cells (ya o')).2.2.2.1
  have y4 := fun o' => (box_cells (ya o')).2.2.2.2
  clear ya hbb hleaf
  go_wp2_with fail
  go_ret
  refine ⟨_, rfl, ?_⟩
  rw [hRR.out]
  have h9 := TokAt.lit1 (w := W) (wr := wb.alloc (.cells #[.int .i64 6, .string a, .int .i64 0] 50)) (hB1.out.alloc hB1.out.size _) 6 a
  simpa using h9
set_option maxRecDepth 100000 in
set_option maxHeartbeats 6400000 in
theorem specl10Node_5 {w0 : World} {l0 : List Node} {a0 : Option Addr} {cap : Nat} {full : Bool} {i : Nat} {o : Int} {a b2 : ByteArray} {ks : List Int} (hv : NodeSlc w0 (.slice a0 l0.length cap) l0) (hx : l0[i]? = some ⟨5, o, a, b2, ks⟩) (hks : ∀ k ∈ ks, 0 ≤ k ∧ SAtC w0 l0 a0 cap full k.toNat ∧ ((treeIx l0 k.toNat).tks full posTop).length ≤ 10000 ∧ (treeIx l0 k.toNat).tks full posTop ≠ []) (hn : ks.length ≤ 10) (hlen : (commas (ks.map fun k => (treeIx l0 k.toNat).tks full posTop)).length ≤ 200000) (hT : ∀ p, posOkB p = true → (treeIx l0 i).tkb full p = ⟨6, a, 0⟩ :: sgn 34 :: (commas (ks.map fun k => (treeIx l0 k.toNat).tks full posTop) ++ [sgn 35])) : SNodeC w0 l0 a0 cap full i := by
  intro p W hp hbW
  obtain ⟨a1, cap1, he1, hm1, hc1, hsl⟩ := hv.shape
  injection he1 with e1 _ e3
  subst e1; subst e3
  have hi := (List.getElem?_eq_some_iff.1 hx).1
  obtain ⟨x, ka, kc, b, off, hx2, he2, c0, c1, c2, c3, c4, hkd⟩ := hsl.at hbW (Nat.le_refl _) hi
  obtain rfl : x = ⟨5, o, a, b2, ks⟩ := Option.some.inj (hx2.symm.trans hx)
  subst he2
  obtain ⟨_, _, _, hkv, hkc, hkm, hkrow⟩ := hkd
  simp at hkv
  obtain ⟨rfl, rfl⟩ := hkv
  have hbl : b < W.heap.size := World.block_lt_of_cell? W _ c0
  have hRR := hid (hT p hp)
  have hnam := hid (fun W' (hW : Below W.heap.size W W') => specl10Named_any ks ka kc hks hn 6 a 34 35 (by decide) hlen W' (hbW.trans (hW.mono hbW.size)) ((show Slc W (.slice ka ks.length kc) 1 ks.length (ks.flatMap int1) from ⟨flat_len int1 1 int1_len ks, ka, kc, rfl, hkc, hkm, hkrow⟩).mono hW (Nat.le_refl _)))
  clear hks
  generalize commas (ks.map fun k => (treeIx l0 k.toNat).tks full posTop) = R at *
  have hB1 := hid (show Below W.heap.size W (((W.alloc (.cells #[.slice (some ⟨b, off, none⟩) l0.length cap, .bool full] 80)).alloc (.cells #[.int .i64 p.level, .bool p.dollar, .bool p.noIn, .bool p.noGt, .bool p.noSign] 36)).alloc (.cells #[.int .i64 5, .int .i64 o, .string a, .string b2, .slice ka ks.length kc] 58)) from (((Below.refl _ _).alloc (Nat.le_refl _) _).alloc (by simp) _).alloc (by simp <;> omega) _)
  obtain ⟨hx0, hx1, hx3⟩ := alloc3 W (.cells #[.slice (some ⟨b, off, none⟩) l0.length cap, .bool full] 80) (.cells #[.int .i64 p.level, .bool p.dollar, .bool p.noIn, .bool p.noGt, .bool p.noSign] 36) (.cells #[.int .i64 5, .int .i64 o, .string a, .string b2, .slice ka ks.length kc] 58)
  replace hx0 := hid hx0
  replace hx1 := hid hx1
  replace hx3 := hid hx3
  have hleaf := hid (fun w => specl10Leaf_any 5 o a b2 ka ks.length kc w)
  rw [show leafTok 5 a = ⟨0, ByteArray.empty, 0⟩ from rfl] at hleaf
  go_enter Tryz.func77, Tryz.ntmps77
  go_wp2_with fail
  generalize ((W.alloc (.cells #[.slice (some ⟨b, off, none⟩) l0.length cap, .bool full] 80)).alloc (.cells #[.int .i64 p.level, .bool p.dollar, .bool p.noIn, .bool p.noGt, .bool p.noSign] 36)).alloc (.cells #[.int .i64 5, .int .i64 o, .string a, .string b2, .slice ka ks.length kc] 58) = wa at hB1 hx0 hx1 hx3 ⊢
  refine (hleaf.out wa).mono ?_; rintro e wb ⟨rfl, hbb⟩
  have hB1 := hid (hB1.out.trans (hbb.mono hB1.out.size))
  have hx0 := hid (boxb hx0.out hbb)
  have hx1 := hid (boxb hx1.out hbb)
  have hx3 := hid (boxb hx3.out hbb)
  have ya := fun o' => boxb hx3.out ((Below.refl wb.heap.size wb).alloc (Nat.le_refl _) o')
  have y0 := fun o' => (box_cells (ya o')).1
  have y1 := fun o' => (box_cells (ya o')).2.1
  have y2 := fun o' => (box_cells (ya o')).2.2.1
  have y3 := fun o' => (box_cells (ya o')).2.2.2.1
  have y4 := fun o' => (box_cells (ya o')).2.2.2.2
  clear ya hbb hleaf
  have w0' := fun o' => boxb hx0.out ((Below.refl wb.heap.size wb).alloc (Nat.le_refl _) o')
  have v0 : ∀ o', (wb.alloc o').cell? ⟨W.heap.size, 0, none⟩ = some (.slice (some ⟨b, off, none⟩) l0.length cap) := fun o' => box_cell (w0' o') rfl
  have v1 : ∀ o', (wb.alloc o').cell? ⟨W.heap.size, 1, none⟩ = some (.bool full) := fun o' => box_cell (w0' o') rfl
  clear w0'
  go_wp2_with fail
  refine (hnam.out _ (hB1.out.alloc hB1.out.size _)).mono ?_; rintro e w2 ⟨v2, rfl, hT2⟩
  have hT3 : Hid (TokAt W w2 v2 ((treeIx l0 i).tkb full p)) := hid (by rw [hRR.out]; exact hT2.elder (hB1.out.alloc hB1.out.size _))
  obtain ⟨va, vc, rfl, _⟩ := hT2.shape
  clear hT2 hnam v0 v1 y0 y1 y2 y3 y4
  go_wp2
  go_ret
  refine ⟨_, rfl, ?_⟩
  have h9 := hT3.out
  simpa using h9
end Go.Proofs.YtkelhmgdajiocaaGreatDoor
/- Walks and lemmas of this seat (FSpecP): what each theorem says of the functions that it names. Conditions: those that each theorem states. -/
namespace Go.Proofs.YtkelhmgdajiocaaGreatDoor
set_option linter.unusedVariables false
set_option linter.unusedSimpArgs false
open Go.RowKit

set_option maxRecDepth 100000 in
set_option maxHeartbeats 6400000 in
theorem specl10Node_2 {w0 : World} {l0 : List Node} {a0 : Option Addr} {cap : Nat} {full : Bool} {i : Nat} {o : Int} {a b2 : ByteArray} (hv : NodeSlc w0 (.slice a0 l0.length cap) l0) (hx : l0[i]? = some ⟨2, o, a, b2, []⟩) (hT : ∀ p, (treeIx l0 i).tkb full p = [⟨3, a, 0⟩]) : SNodeC w0 l0 a0 cap full i := by
  intro p W hp hbW
  obtain ⟨a1, cap1, he1, hm1, hc1, hsl⟩ := hv.shape
  injection he1 with e1 _ e3
  subst e1; subst e3
  have hi := (List.getElem?_eq_some_iff.1 hx).1
  obtain ⟨x, ka, kc, b, off, hx2, he2, c0, c1, c2, c3, c4, hkd⟩ := hsl.at hbW (Nat.le_refl _) hi
  obtain rfl : x = ⟨2, o, a, b2, []⟩ := Option.some.inj (hx2.symm.trans hx)
  subst he2
  obtain ⟨_, _, _, hkv, hkc, hkm, hkrow⟩ := hkd
  simp at hkv
  obtain ⟨rfl, rfl⟩ := hkv
  have hbl : b < W.heap.size := World.block_lt_of_cell? W _ c0
  have hRR := hid (hT p)
  have hB1 := hid (show Below W.heap.size W (((W.alloc (.cells #[.slice (some ⟨b, off, none⟩) l0.length cap, .bool full] 80)).alloc (.cells #[.int .i64 p.level, .bool p.dollar, .bool p.noIn, .bool p.noGt, .bool p.noSign] 36)).alloc (.cells #[.int .i64 2, .int .i64 o, .string a, .string b2, .slice ka 0 kc] 58)) from (((Below.refl _ _).alloc (Nat.le_refl _) _).alloc (by simp) _).alloc (by simp <;> omega) _)
  obtain ⟨hx0, hx1, hx3⟩ := alloc3 W (.cells #[.slice (some ⟨b, off, none⟩) l0.length cap, .bool full] 80) (.cells #[.int .i64 p.level, .bool p.dollar, .bool p.noIn, .bool p.noGt, .bool p.noSign] 36) (.cells #[.int .i64 2, .int .i64 o, .string a, .string b2, .slice ka 0 kc] 58)
  replace hx0 := hid hx0
  replace hx1 := hid hx1
  replace hx3 := hid hx3
  have hleaf := hid (fun w => specl10Leaf_any 2 o a b2 ka 0 kc w)
  rw [show leafTok 2 a = ⟨3, a, 0⟩ from rfl] at hleaf
  go_enter Tryz.func77, Tryz.ntmps77
  go_wp2_with fail
  generalize ((W.alloc (.cells #[.slice (some ⟨b, off, none⟩) l0.length cap, .bool full] 80)).alloc (.cells #[.int .i64 p.level, .bool p.dollar, .bool p.noIn, .bool p.noGt, .bool p.noSign] 36)).alloc (.cells #[.int .i64 2, .int .i64 o, .string a, .string b2, .slice ka 0 kc] 58) = wa at hB1 hx0 hx1 hx3 ⊢
  refine (hleaf.out wa).mono ?_; rintro e wb ⟨rfl, hbb⟩
  have hB1 := hid (hB1.out.trans (hbb.mono hB1.out.size))
  have hx0 := hid (boxb hx0.out hbb)
  have hx1 := hid (boxb hx1.out hbb)
  have hx3 := hid (boxb hx3.out hbb)
  have ya := fun o' => boxb hx3.out ((Below.refl wb.heap.size wb).alloc (Nat.le_refl _) o')
  have y0 := fun o' => (box_cells (ya o')).1
  have y1 := fun o' => (box_cells (ya o')).2.1
  have y2 := fun o' => (box_cells (ya o')).2.2.1
  have y3 := fun o' => (box_cells (ya o')).2.2.2.1
  have y4 := fun o' => (box_cells (ya o')).2.2.2.2
  clear ya hbb hleaf
  go_wp2_with fail
  go_ret
  refine ⟨_, rfl, ?_⟩
  rw [hRR.out]
  have h9 := TokAt.lit1 (w := W) (wr := wb.alloc (.cells #[.int .i64 3, .string a, .int .i64 0] 50)) (hB1.out.alloc hB1.out.size _) 3 a
  simpa using h9
set_option maxRecDepth 100000 in
set_option maxHeartbeats 6400000 in
theorem specl10Node_3 {w0 : World} {l0 : List Node} {a0 : Option Addr} {cap : Nat} {full : Bool} {i : Nat} {o : Int} {a b2 : ByteArray} (hv : NodeSlc w0 (.slice a0 l0.length cap) l0) (hx : l0[i]? = some ⟨3, o, a, b2, []⟩) (hT : ∀ p, (treeIx l0 i).tkb full p = [⟨4, a, 0⟩]) : SNodeC w0 l0 a0 cap full i := by
  intro p W hp hbW
  obtain ⟨a1, cap1, he1, hm1, hc1, hsl⟩ := hv.shape
  injection he1 with e1 _ e3
  subst e1; subst e3
  have hi := (List.getElem?_eq_some_iff.1 hx).1
  obtain ⟨x, ka, kc, b, off, hx2, he2, c0, c1, c2, c3, c4, hkd⟩ := hsl.at hbW (Nat.le_refl _) hi
  obtain rfl : x = ⟨3, o, a, b2, []⟩ := Option.some.inj (hx2.symm.trans hx)
  subst he2
  obtain ⟨_, _, _, hkv, hkc, hkm, hkrow⟩ := hkd
  simp at hkv
  obtain ⟨rfl, rfl⟩ := hkv
  have hbl : b < W.heap.size := World.block_lt_of_cell? W _ c0
  have hRR := hid (hT p)
  have hB1 := hid (show Below W.heap.size W (((W.alloc (.cells #[.slice (some ⟨b, off, none⟩) l0.length cap, .bool full] 80)).alloc (.cells #[.int .i64 p.level, .bool p.dollar, .bool p.noIn, .bool p.noGt, .bool p.noSign] 36)).alloc (.cells #[.int .i64 3, .int .i64 o, .string a, .string b2, .slice ka 0 kc] 58)) from (((Below.refl _ _).alloc (Nat.le_refl _) _).alloc (by simp) _).alloc (by simp <;> omega) _)
  obtain ⟨hx0, hx1, hx3⟩ := alloc3 W (.cells #[.slice (some ⟨b, off, none⟩) l0.length cap, .bool full] 80) (.cells #[.int .i64 p.level, .bool p.dollar, .bool p.noIn, .bool p.noGt, .bool p.noSign] 36) (.cells #[.int .i64 3, .int .i64 o, .string a, .string b2, .slice ka 0 kc] 58)
  replace hx0 := hid hx0
  replace hx1 := hid hx1
  replace hx3 := hid hx3
  have hleaf := hid (fun w => specl10Leaf_any 3 o a b2 ka 0 kc w)
  rw [show leafTok 3 a = ⟨4, a, 0⟩ from rfl] at hleaf
  go_enter Tryz.func77, Tryz.ntmps77
  go_wp2_with fail
  generalize ((W.alloc (.cells #[.slice (some ⟨b, off, none⟩) l0.length cap, .bool full] 80)).alloc (.cells #[.int .i64 p.level, .bool p.dollar, .bool p.noIn, .bool p.noGt, .bool p.noSign] 36)).alloc (.cells #[.int .i64 3, .int .i64 o, .string a, .string b2, .slice ka 0 kc] 58) = wa at hB1 hx0 hx1 hx3 ⊢
  refine (hleaf.out wa).mono ?_; rintro e wb ⟨rfl, hbb⟩
  have hB1 := hid (hB1.out.trans (hbb.mono hB1.out.size))
  have hx0 := hid (boxb hx0.out hbb)
  have hx1 := hid (boxb hx1.out hbb)
  have hx3 := hid (boxb hx3.out hbb)
  have ya := fun o' => boxb hx3.out ((Below.refl wb.heap.size wb).alloc (Nat.le_refl _) o')
  have y0 := fun o' => (box_cells (ya o')).1
  have y1 := fun o' => (box_cells (ya o')).2.1
  have y2 := fun o' => (box_cells (ya o')).2.2.1
  have y3 := fun o' => (box_cells (ya o')).2.2.2.1
  have y4 := fun o' => (box_cells (ya o')).2.2.2.2
  clear ya hbb hleaf
  go_wp2_with fail
  go_ret
  refine ⟨_, rfl, ?_⟩
  rw [hRR.out]
  have h9 := TokAt.lit1 (w := W) (wr := wb.alloc (.cells #[.int .i64 4, .string a, .int .i64 0] 50)) (hB1.out.alloc hB1.out.size _) 4 a
  simpa using h9
end Go.Proofs.YtkelhmgdajiocaaGreatDoor
/- Walks and lemmas of this seat (FSpecQ): what each theorem says of the functions that it names. Conditions: those that each theorem states. -/
namespace Go.Proofs.YtkelhmgdajiocaaGreatDoor
set_option linter.unusedVariables false
set_option linter.unusedSimpArgs false
open Go.RowKit

set_option maxRecDepth 100000 in
set_option maxHeartbeats 6400000 in
theorem specl10Node_4 {w0 : World} {l0 : List Node} {a0 : Option Addr} {cap : Nat} {full : Bool} {i : Nat} {o : Int} {a b2 : ByteArray} (hv : NodeSlc w0 (.slice a0 l0.length cap) l0) (hx : l0[i]? = some ⟨4, o, a, b2, []⟩) (hT : ∀ p, (treeIx l0 i).tkb full p = [⟨5, a, 0⟩]) : SNodeC w0 l0 a0 cap full i := by
  intro p W hp hbW
  obtain ⟨a1, cap1, he1, hm1, hc1, hsl⟩ := hv.shape
  injection he1 with e1 _ e3
  subst e1; subst e3
  have hi := (List.getElem?_eq_some_iff.1 hx).1
  obtain ⟨x, ka, kc, b, off, hx2, he2, c0, c1, c2, c3, c4, hkd⟩ := hsl.at hbW (Nat.le_refl _) hi
  obtain rfl : x = ⟨4, o, a, b2, []⟩ := Option.some.inj (hx2.symm.trans hx)
  subst he2
  obtain ⟨_, _, _, hkv, hkc, hkm, hkrow⟩ := hkd
  simp at hkv
  obtain ⟨rfl, rfl⟩ := hkv
  have hbl : b < W.heap.size := World.block_lt_of_cell? W _ c0
  have hRR := hid (hT p)
  have hB1 := hid (show Below W.heap.size W (((W.alloc (.cells #[.slice (some ⟨b, off, none⟩) l0.length cap, .bool full] 80)).alloc (.cells #[.int .i64 p.level, .bool p.dollar, .bool p.noIn, .bool p.noGt, .bool p.noSign] 36)).alloc (.cells #[.int .i64 4, .int .i64 o, .string a, .string b2, .slice ka 0 kc] 58)) from (((Below.refl _ _).alloc (Nat.le_refl _) _).alloc (by simp) _).alloc (by simp <;> omega) _)
  obtain ⟨hx0, hx1, hx3⟩ := alloc3 W (.cells #[.slice (some ⟨b, off, none⟩) l0.length cap, .bool full] 80) (.cells #[.int .i64 p.level, .bool p.dollar, .bool p.noIn, .bool p.noGt, .bool p.noSign] 36) (.cells #[.int .i64 4, .int .i64 o, .string a, .string b2, .slice ka 0 kc] 58)
  replace hx0 := hid hx0
  replace hx1 := hid hx1
  replace hx3 := hid hx3
  have hleaf := hid (fun w => specl10Leaf_any 4 o a b2 ka 0 kc w)
  rw [show leafTok 4 a = ⟨5, a, 0⟩ from rfl] at hleaf
  go_enter Tryz.func77, Tryz.ntmps77
  go_wp2_with fail
  generalize ((W.alloc (.cells #[.slice (some ⟨b, off, none⟩) l0.length cap, .bool full] 80)).alloc (.cells #[.int .i64 p.level, .bool p.dollar, .bool p.noIn, .bool p.noGt, .bool p.noSign] 36)).alloc (.cells #[.int .i64 4, .int .i64 o, .string a, .string b2, .slice ka 0 kc] 58) = wa at hB1 hx0 hx1 hx3 ⊢
  refine (hleaf.out wa).mono ?_; rintro e wb ⟨rfl, hbb⟩
  have hB1 := hid (hB1.out.trans (hbb.mono hB1.out.size))
  have hx0 := hid (boxb hx0.out hbb)
  have hx1 := hid (boxb hx1.out hbb)
  have hx3 := hid (boxb hx3.out hbb)
  have ya := fun o' => boxb hx3.out ((Below.refl wb.heap.size wb).alloc (Nat.le_refl _) o')
  have y0 := fun o' => (box_cells (ya o')).1
  have y1 := fun o' => (box_cells (ya o')).2.1
  have y2 := fun o' => (box_cells (ya o')).2.2.1
  have y3 := fun o' => (box_cells (ya o')).2.2.2.1
  have y4 := fun o' => (box_cells (ya o')).2.2.2.2
  clear ya hbb hleaf
  go_wp2_with fail
  go_ret
  refine ⟨_, rfl, ?_⟩
  rw [hRR.out]
  have h9 := TokAt.lit1 (w := W) (wr := wb.alloc (.cells #[.int .i64 5, .string a, .int .i64 0] 50)) (hB1.out.alloc hB1.out.size _) 5 a
  simpa using h9
set_option maxRecDepth 100000 in
set_option maxHeartbeats 6400000 in
theorem specl10Node_7 {w0 : World} {l0 : List Node} {a0 : Option Addr} {cap : Nat} {full : Bool} {i : Nat} {o : Int} {a b2 : ByteArray} {ks : List Int} (hv : NodeSlc w0 (.slice a0 l0.length cap) l0) (hx : l0[i]? = some ⟨7, o, a, b2, ks⟩) (hks : ∀ k ∈ ks, 0 ≤ k ∧ SAtC w0 l0 a0 cap full k.toNat ∧ ((treeIx l0 k.toNat).tks full posTop).length ≤ 10000 ∧ (treeIx l0 k.toNat).tks full posTop ≠ []) (hn : ks.length ≤ 10) (hlen : (commas (ks.map fun k => (treeIx l0 k.toNat).tks full posTop)).length ≤ 200000) (hT : ∀ p, posOkB p = true → (treeIx l0 i).tkb full p = ⟨7, a, 0⟩ :: sgn 32 :: (commas (ks.map fun k => (treeIx l0 k.toNat).tks full posTop) ++ [sgn 33])) : SNodeC w0 l0 a0 cap full i := by
  intro p W hp hbW
  obtain ⟨a1, cap1, he1, hm1, hc1, hsl⟩ := hv.shape
  injection he1 with e1 _ e3
  subst e1; subst e3
  have hi := (List.getElem?_eq_some_iff.1 hx).1
  obtain ⟨x, ka, kc, b, off, hx2, he2, c0, c1, c2, c3, c4, hkd⟩ := hsl.at hbW (Nat.le_refl _) hi
  obtain rfl : x = ⟨7, o, a, b2, ks⟩ := Option.some.inj (hx2.symm.trans hx)
  subst he2
  obtain ⟨_, _, _, hkv, hkc, hkm, hkrow⟩ := hkd
  simp at hkv
  obtain ⟨rfl, rfl⟩ := hkv
  have hbl : b < W.heap.size := World.block_lt_of_cell? W _ c0
  have hRR := hid (hT p hp)
  have hnam := hid (fun W' (hW : Below W.heap.size W W') => specl10Named_any ks ka kc hks hn 7 a 32 33 (by decide) hlen W' (hbW.trans (hW.mono hbW.size)) ((show Slc W (.slice ka ks.length kc) 1 ks.length (ks.flatMap int1) from ⟨flat_len int1 1 int1_len ks, ka, kc, rfl, hkc, hkm, hkrow⟩).mono hW (Nat.le_refl _)))
  clear hks
  generalize commas (ks.map fun k => (treeIx l0 k.toNat).tks full posTop) = R at *
  have hB1 := hid (show Below W.heap.size W (((W.alloc (.cells #[.slice (some ⟨b, off, none⟩) l0.length cap, .bool full] 80)).alloc (.cells #[.int .i64 p.level, .bool p.dollar, .bool p.noIn, .bool p.noGt, .bool p.noSign] 36)).alloc (.cells #[.int .i64 7, .int .i64 o, .string a, .string b2, .slice ka ks.length kc] 58)) from (((Below.refl _ _).alloc (Nat.le_refl _) _).alloc (by simp) _).alloc (by simp <;> omega) _)
  obtain ⟨hx0, hx1, hx3⟩ := alloc3 W (.cells #[.slice (some ⟨b, off, none⟩) l0.length cap, .bool full] 80) (.cells #[.int .i64 p.level, .bool p.dollar, .bool p.noIn, .bool p.noGt, .bool p.noSign] 36) (.cells #[.int .i64 7, .int .i64 o, .string a, .string b2, .slice ka ks.length kc] 58)
  replace hx0 := hid hx0
  replace hx1 := hid hx1
  replace hx3 := hid hx3
  have hleaf := hid (fun w => specl10Leaf_any 7 o a b2 ka ks.length kc w)
  rw [show leafTok 7 a = ⟨0, ByteArray.empty, 0⟩ from rfl] at hleaf
  go_enter Tryz.func77, Tryz.ntmps77
  go_wp2_with fail
  generalize ((W.alloc (.cells #[.slice (some ⟨b, off, none⟩) l0.length cap, .bool full] 80)).alloc (.cells #[.int .i64 p.level, .bool p.dollar, .bool p.noIn, .bool p.noGt, .bool p.noSign] 36)).alloc (.cells #[.int .i64 7, .int .i64 o, .string a, .string b2, .slice ka ks.length kc] 58) = wa at hB1 hx0 hx1 hx3 ⊢
  refine (hleaf.out wa).mono ?_; rintro e wb ⟨rfl, hbb⟩
  have hB1 := hid (hB1.out.trans (hbb.mono hB1.out.size))
  have hx0 := hid (boxb hx0.out hbb)
  have hx1 := hid (boxb hx1.out hbb)
  have hx3 := hid (boxb hx3.out hbb)
  have ya := fun o' => boxb hx3.out ((Below.refl wb.heap.size wb).alloc (Nat.le_refl _) o')
  have y0 := fun o' => (box_cells (ya o')).1
  have y1 := fun o' => (box_cells (ya o')).2.1
  have y2 := fun o' => (box_cells (ya o')).2.2.1
  have y3 := fun o' => (box_cells (ya o')).2.2.2.1
  have y4 := fun o' => (box_cells (ya o')).2.2.2.2
  clear ya hbb hleaf
  have w0' := fun o' => boxb hx0.out ((Below.refl wb.heap.size wb).alloc (Nat.le_refl _) o')
  have v0 : ∀ o', (wb.alloc o').cell? ⟨W.heap.size, 0, none⟩ = some (.slice (some ⟨b, off, none⟩) l0.length cap) := fun o' => box_cell (w0' o') rfl
  have v1 : ∀ o', (wb.alloc o').cell? ⟨W.heap.size, 1, none⟩ = some (.bool full) := fun o' => box_cell (w0' o') rfl
  clear w0'
  go_wp2_with fail
  refine (hnam.out _ (hB1.out.alloc hB1.out.size _)).mono ?_; rintro e w2 ⟨v2, rfl, hT2⟩
  have hT3 : Hid (TokAt W w2 v2 ((treeIx l0 i).tkb full p)) := hid (by rw [hRR.out]; exact hT2.elder (hB1.out.alloc hB1.out.size _))
  obtain ⟨va, vc, rfl, _⟩ := hT2.shape
  clear hT2 hnam v0 v1 y0 y1 y2 y3 y4
  go_wp2
  go_ret
  refine ⟨_, rfl, ?_⟩
  have h9 := hT3.out
  simpa using h9
set_option maxRecDepth 100000 in
set_option maxHeartbeats 6400000 in
theorem specl10Node_8 {w0 : World} {l0 : List Node} {a0 : Option Addr} {cap : Nat} {full : Bool} {i : Nat} {o : Int} {a b2 : ByteArray} {ks : List Int} (hv : NodeSlc w0 (.slice a0 l0.length cap) l0) (hx : l0[i]? = some ⟨8, o, a, b2, ks⟩) (hks : ∀ k ∈ ks, 0 ≤ k ∧ SAtC w0 l0 a0 cap full k.toNat ∧ ((treeIx l0 k.toNat).tks full posTop).length ≤ 10000 ∧ (treeIx l0 k.toNat).tks full posTop ≠ []) (hn : ks.length ≤ 10) (hlen : (commas (ks.map fun k => (treeIx l0 k.toNat).tks full posTop)).length ≤ 200000) (hT : ∀ p, posOkB p = true → (treeIx l0 i).tkb full p = ⟨8, a, 0⟩ :: sgn 32 :: (commas (ks.map fun k => (treeIx l0 k.toNat).tks full posTop) ++ [sgn 33])) : SNodeC w0 l0 a0 cap full i := by
  intro p W hp hbW
  obtain ⟨a1, cap1, he1, hm1, hc1, hsl⟩ := hv.shape
  injection he1 with e1 _ e3
  subst e1; subst e3
  have hi := (List.getElem?_eq_some_iff.1 hx).1
  obtain ⟨x, ka, kc, b, off, hx2, he2, c0, c1, c2, c3, c4, hkd⟩ := hsl.at hbW (Nat.le_refl _) hi
  obtain rfl : x = ⟨8, o, a, b2, ks⟩ := Option.some.inj (hx2.symm.trans hx)
  subst he2
  obtain ⟨_, _, _, hkv, hkc, hkm, hkrow⟩ := hkd
  simp at hkv
  obtain ⟨rfl, rfl⟩ := hkv
  have hbl : b < W.heap.size := World.block_lt_of_cell? W _ c0
  have hRR := hid (hT p hp)
  have hnam := hid (fun W' (hW : Below W.heap.size W W') => specl10Named_any ks ka kc hks hn 8 a 32 33 (by decide) hlen W' (hbW.trans (hW.mono hbW.size)) ((show Slc W (.slice ka ks.length kc) 1 ks.length (ks.flatMap int1) from ⟨flat_len int1 1 int1_len ks, ka, kc, rfl, hkc, hkm, hkrow⟩).mono hW (Nat.le_refl _)))
  clear hks
  generalize commas (ks.map fun k => (treeIx l0 k.toNat).tks full posTop) = R at *
  have hB1 := hid (show Below W.heap.size W (((W.alloc (.cells #[.slice (some ⟨b, off, none⟩) l0.length cap, .bool full] 80)).alloc (.cells #[.int .i64 p.level, .bool p.dollar, .bool p.noIn, .bool p.noGt, .bool p.noSign] 36)).alloc (.cells #[.int .i64 8, .int .i64 o, .string a, .string b2, .slice ka ks.length kc] 58)) from (((Below.refl _ _).alloc (Nat.le_refl _) _).alloc (by simp) _).alloc (by simp <;> omega) _)
  obtain ⟨hx0, hx1, hx3⟩ := alloc3 W (.cells #[.slice (some ⟨b, off, none⟩) l0.length cap, .bool full] 80) (.cells #[.int .i64 p.level, .bool p.dollar, .bool p.noIn, .bool p.noGt, .bool p.noSign] 36) (.cells #[.int .i64 8, .int .i64 o, .string a, .string b2, .slice ka ks.length kc] 58)
  replace hx0 := hid hx0
  replace hx1 := hid hx1
  replace hx3 := hid hx3
  have hleaf := hid (fun w => specl10Leaf_any 8 o a b2 ka ks.length kc w)
  rw [show leafTok 8 a = ⟨0, ByteArray.empty, 0⟩ from rfl] at hleaf
  go_enter Tryz.func77, Tryz.ntmps77
  go_wp2_with fail
  generalize ((W.alloc (.cells #[.slice (some ⟨b, off, none⟩) l0.length cap, .bool full] 80)).alloc (.cells #[.int .i64 p.level, .bool p.dollar, .bool p.noIn, .bool p.noGt, .bool p.noSign] 36)).alloc (.cells #[.int .i64 8, .int .i64 o, .string a, .string b2, .slice ka ks.length kc] 58) = wa at hB1 hx0 hx1 hx3 ⊢
  refine (hleaf.out wa).mono ?_; rintro e wb ⟨rfl, hbb⟩
  have hB1 := hid (hB1.out.trans (hbb.mono hB1.out.size))
  have hx0 := hid (boxb hx0.out hbb)
  have hx1 := hid (boxb hx1.out hbb)
  have hx3 := hid (boxb hx3.out hbb)
  have ya := fun o' => boxb hx3.out ((Below.refl wb.heap.size wb).alloc (Nat.le_refl _) o')
  have y0 := fun o' => (box_cells (ya o')).1
  have y1 := fun o' => (box_cells (ya o')).2.1
  have y2 := fun o' => (box_cells (ya o')).2.2.1
  have y3 := fun o' => (box_cells (ya o')).2.2.2.1
  have y4 := fun o' => (box_cells (ya o')).2.2.2.2
  clear ya hbb hleaf
  have w0' := fun o' => boxb hx0.out ((Below.refl wb.heap.size wb).alloc (Nat.le_refl _) o')
  have v0 : ∀ o', (wb.alloc o').cell? ⟨W.heap.size, 0, none⟩ = some (.slice (some ⟨b, off, none⟩) l0.length cap) := fun o' => box_cell (w0' o') rfl
  have v1 : ∀ o', (wb.alloc o').cell? ⟨W.heap.size, 1, none⟩ = some (.bool full) := fun o' => box_cell (w0' o') rfl
  clear w0'
  go_wp2_with fail
  refine (hnam.out _ (hB1.out.alloc hB1.out.size _)).mono ?_; rintro e w2 ⟨v2, rfl, hT2⟩
  have hT3 : Hid (TokAt W w2 v2 ((treeIx l0 i).tkb full p)) := hid (by rw [hRR.out]; exact hT2.elder (hB1.out.alloc hB1.out.size _))
  obtain ⟨va, vc, rfl, _⟩ := hT2.shape
  clear hT2 hnam v0 v1 y0 y1 y2 y3 y4
  go_wp2
  go_ret
  refine ⟨_, rfl, ?_⟩
  have h9 := hT3.out
  simpa using h9
end Go.Proofs.YtkelhmgdajiocaaGreatDoor
