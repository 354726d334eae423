/- Walks and lemmas of this seat (FBlockDepth): what each theorem says of the functions that it names. Conditions: those that each theorem states. -/
import Derived.Test.YtagoeiegdlnalaaFBlocks
namespace Go.Proofs.Ytagoeiegdlnalaa
set_option linter.unusedVariables false
set_option linter.unusedSimpArgs false
open Go.RowKit

theorem shapeOk_yes {l : List Node} (h : shapeOk (l.map Node.kids) = true) : 1 ≤ l.length ∧ l.length ≤ 400 ∧ ∃ s, starts (l.map Node.kids) = some s := by
  unfold shapeOk startsLast at h
  simp at h
  refine ⟨h.1.1, h.1.2, ?_⟩
  cases hs : starts (l.map Node.kids) with
  | none => rw [hs] at h; simp at h
  | some s => exact ⟨s, rfl⟩
theorem shapeOk_ahead {l : List Node} (h : shapeOk (l.map Node.kids) = true) : Ahead l := by
  obtain ⟨_, _, s, hs⟩ := shapeOk_yes h
  exact ahead_of hs
/-- The tree of a list of nodes. -/
def rootTree (l : List Node) : Tree := treeIx l (l.length - 1)

set_option maxRecDepth 100000 in
set_option maxHeartbeats 1600000 in
theorem implrootOf_any (l0 : List Node) (v0 : Value) (w : World) (hx0 : ∀ x ∈ l0, x.Ok) (hn0 : bulk Node.sizes l0 ≤ 1048576) (hv0 : NodeSlc w v0 l0) (hok : shapeOk (l0.map Node.kids) = true) :
    Calls Try.prog 75 #[v0] w fun e w' => TreePost w (rootTree l0) e w' := by
  obtain ⟨h1, h2, _⟩ := shapeOk_yes hok
  have hah := shapeOk_ahead hok
  obtain ⟨a, cap, rfl, hm, hc, hsl⟩ := hv0.shape
  obtain ⟨n', hn'⟩ : ∃ n', n' = l0.length - 1 := ⟨_, rfl⟩
  have hcall := hid (fun W h => impltreeAt_any l0 _ w hsl hx0 hn0 hah n' (by omega) W h)
  have hv1 : (l0.length : Int) - 1 = (n' : Int) := by omega
  have hrt : Hid (rootTree l0 = treeIx l0 n') := hid (by unfold rootTree; rw [hn'])
  replace hn' := hid hn'
  replace hok := hid hok
  go_enter Try.func75, Try.ntmps75
  go_wp2_with fail
  refine (hcall.out _ ((Below.refl _ _).alloc (Nat.le_refl _) _)).mono ?_; rintro e w2 ⟨ka, kn, kc, rfl, hb2, ht2⟩
  have hres := (hb2.block w.heap.size (by simp)).trans (heap_alloc_new w _)
  have r0 : w2.cell? ⟨w.heap.size, 0, none⟩ = some (.int .i64 0) := by simp [World.cell?, hres]
  have r1 : w2.cell? ⟨w.heap.size, 1, none⟩ = some (.int .i64 0) := by simp [World.cell?, hres]
  have r2 : w2.cell? ⟨w.heap.size, 2, none⟩ = some (.string ⟨#[]⟩) := by simp [World.cell?, hres]
  have r3 : w2.cell? ⟨w.heap.size, 3, none⟩ = some (.string ⟨#[]⟩) := by simp [World.cell?, hres]
  have r4 : w2.cell? ⟨w.heap.size, 4, none⟩ = some (.slice none 0 0) := by simp [World.cell?, hres]
  have f0 : ∀ j, w2.frozen? ⟨w.heap.size, j, none⟩ = false := fun j => by simp [World.frozen?, hres]
  have hres2 := hid hres
  clear hres
  go_wp2
  have hN := heap_setCell_at (j := 4) (u := .slice ka kn kc) (heap_setCell_at (j := 3) (u := .string (treeIx l0 n').other) (heap_setCell_at (j := 2) (u := .string (treeIx l0 n').text) (heap_setCell_at (j := 1) (u := .int .i64 (treeIx l0 n').op) (heap_setCell_at (j := 0) (u := .int .i64 (treeIx l0 n').kind) hres2.out))))
  have hW : (((((w2.setCell ⟨w.heap.size, 0, none⟩ (.int .i64 (treeIx l0 n').kind)).setCell ⟨w.heap.size, 1, none⟩ (.int .i64 (treeIx l0 n').op)).setCell ⟨w.heap.size, 2, none⟩ (.string (treeIx l0 n').text)).setCell ⟨w.heap.size, 3, none⟩ (.string (treeIx l0 n').other)).setCell ⟨w.heap.size, 4, none⟩ (.slice ka kn kc)) = storeAll w2 w.heap.size 0 [.int .i64 (treeIx l0 n').kind, .int .i64 (treeIx l0 n').op, .string (treeIx l0 n').text, .string (treeIx l0 n').other, .slice ka kn kc] := rfl
  rw [hW] at hN ⊢
  clear hW
  have hB0 : Below w.heap.size w w2 := ((Below.refl w.heap.size w).alloc (Nat.le_refl _) _).trans (hb2.mono (by simp))
  have hB := below_storeAll [.int .i64 (treeIx l0 n').kind, .int .i64 (treeIx l0 n').op, .string (treeIx l0 n').text, .string (treeIx l0 n').other, .slice ka kn kc] 0 hB0 (Nat.le_refl _)
  have hH := fun b (hb : b ≠ w.heap.size) => storeAll_other [.int .i64 (treeIx l0 n').kind, .int .i64 (treeIx l0 n').op, .string (treeIx l0 n').text, .string (treeIx l0 n').other, .slice ka kn kc] 0 (w := w2) (g := w.heap.size) hb
  generalize storeAll w2 w.heap.size 0 [.int .i64 (treeIx l0 n').kind, .int .i64 (treeIx l0 n').op, .string (treeIx l0 n').text, .string (treeIx l0 n').other, .slice ka kn kc] = W2 at hN hB hH ⊢
  have s0 : W2.cell? ⟨w.heap.size, 0, none⟩ = some (.int .i64 (treeIx l0 n').kind) := by simp [World.cell?, hN]
  have s1 : W2.cell? ⟨w.heap.size, 1, none⟩ = some (.int .i64 (treeIx l0 n').op) := by simp [World.cell?, hN]
  have s2 : W2.cell? ⟨w.heap.size, 2, none⟩ = some (.string (treeIx l0 n').text) := by simp [World.cell?, hN]
  have s3 : W2.cell? ⟨w.heap.size, 3, none⟩ = some (.string (treeIx l0 n').other) := by simp [World.cell?, hN]
  have s4 : W2.cell? ⟨w.heap.size, 4, none⟩ = some (.slice ka kn kc) := by simp [World.cell?, hN]
  have hpost : TreePost w (rootTree l0) (.returned (.agg #[.int .i64 (treeIx l0 n').kind, .int .i64 (treeIx l0 n').op, .string (treeIx l0 n').text, .string (treeIx l0 n').other, .slice ka kn kc])) W2 := by
    refine ⟨ka, kn, kc, by rw [hrt.out], hB, ?_⟩
    rw [hrt.out]
    refine ht2.keep fun b hS hlt => ⟨hH b ?_, ?_⟩ <;> (simp at hS; omega)
  exact bodyPost_ret (v := .agg #[.int .i64 (treeIx l0 n').kind, .int .i64 (treeIx l0 n').op, .string (treeIx l0 n').text, .string (treeIx l0 n').other, .slice ka kn kc]) (by simp [results, Try.results75, go_sem, s0, s1, s2, s3, s4]) rfl hpost

def blockDepth (l : List Node) : Nat := if shapeOk (l.map Node.kids) = true then (rootTree l).blocks else 0

set_option maxRecDepth 100000 in
theorem implBlockDepth_any (l0 : List Node) (v0 : Value) (w : World) (hx0 : ∀ x ∈ l0, x.Ok) (hn0 : bulk Node.sizes l0 ≤ 1048576) (hv0 : NodeSlc w v0 l0) :
    Calls Try.prog 45 #[v0] w fun e w' => e = .returned (.int .i64 ((blockDepth l0 : Nat))) ∧ Below w.heap.size w w' := by
  have hsh := implShapeOk_any l0 v0 w hx0 hn0 hv0
  have hv := hv0
  obtain ⟨a, cap, rfl, hm, hc, hsl⟩ := hv0.shape
  by_cases hok : shapeOk (l0.map Node.kids) = true
  · have hR : Hid (blockDepth l0 = (rootTree l0).blocks) := hid (by unfold blockDepth; rw [if_pos hok])
    obtain ⟨h1, h2, _⟩ := shapeOk_yes hok
    have hbd : (rootTree l0).blocks ≤ 1048576 := by have := treeIx_blocks_le (shapeOk_ahead hok) (l0.length - 1) (by omega); unfold rootTree; omega
    have hroot := hid (fun W (hb : Below w.heap.size w W) => implrootOf_any l0 _ W hx0 hn0 (hv.mono hb (Nat.le_refl _)) hok)
    rw [hok] at hsh
    replace hok := hid hok
    go_enter Try.func45, Try.ntmps45
    go_wp2_with fail
    refine hsh.mono ?_; rintro e w1 ⟨rfl, hb1⟩
    clear hsh
    go_wp2_with fail
    refine (hroot.out _ hb1).mono ?_; rintro e w2 ⟨ka, kn, kc, rfl, hb2, ht2⟩
    go_wp2_with fail
    refine (implblocks_any _ (rootTree l0) _ _ _ (Nat.lt_succ_self _) hbd ht2).mono ?_; rintro e w3 ⟨rfl, hb3⟩
    generalize (rootTree l0).blocks = val at hR ⊢
    go_wp2
    go_ret
    exact ⟨ret_int (by rw [hR.out]), (hb1.trans (hb2.mono hb1.size)).trans (hb3.mono (Nat.le_trans hb1.size hb2.size))⟩
  · have hR : Hid (blockDepth l0 = 0) := hid (by unfold blockDepth; rw [if_neg hok])
    have hok : shapeOk (l0.map Node.kids) = false := by simpa using hok
    rw [hok] at hsh
    clear hok
    go_enter Try.func45, Try.ntmps45
    go_wp2_with fail
    refine hsh.mono ?_; rintro e w1 ⟨rfl, hb1⟩
    clear hsh
    go_wp2
    go_ret
    exact ⟨ret_int (by rw [hR.out]; rfl), hb1⟩

end Go.Proofs.Ytagoeiegdlnalaa
