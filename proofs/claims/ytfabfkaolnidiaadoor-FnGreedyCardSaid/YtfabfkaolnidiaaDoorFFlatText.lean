/- Walks and lemmas of this seat (FFlatText): what each theorem says of the functions that it names. Conditions: those that each theorem states. -/
import Derived.Test.YtfabfkaolnidiaaDoorFFlat
import Derived.Test.YtfabfkaolnidiaaDoorFDocOk2
namespace Go.Proofs.YtfabfkaolnidiaaDoor
set_option linter.unusedVariables false
set_option linter.unusedSimpArgs false
open Go.RowKit

/-- The document of a list of nodes. -/
def rootDoc (l : List DNode) : Doc := docIx l (l.length - 1)
set_option maxRecDepth 100000 in
set_option maxHeartbeats 1600000 in
theorem impldocOf_any (l0 : List DNode) (v0 : Value) (w : World) (hx0 : ∀ x ∈ l0, x.Ok) (hn0 : bulk DNode.sizes l0 ≤ 1048576) (hv0 : DNodeSlc w v0 l0) (hok : docOk l0 = true) :
    Calls Tryd.prog 13 #[v0] w fun e w' => DocPost w (rootDoc l0) e w' := by
  obtain ⟨h1, h2, _, s, hs, _⟩ := docOk_starts hok
  have hah := aheadD_of hs
  obtain ⟨a, cap, rfl, hm, hc, hsl⟩ := hv0.shape
  obtain ⟨n', hn'⟩ : ∃ n', n' = l0.length - 1 := ⟨_, rfl⟩
  have hcall := hid (fun W h => impldocAt_any l0 _ w hsl hx0 hn0 hah n' (by omega) W h)
  have hv1 : (l0.length : Int) - 1 = (n' : Int) := by omega
  have hrt : Hid (rootDoc l0 = docIx l0 n') := hid (by unfold rootDoc; rw [hn'])
  replace hn' := hid hn'
  replace hok := hid hok
  go_enter Tryd.func13, Tryd.ntmps13
  go_wp2_with fail
  refine (hcall.out _ ((Below.refl _ _).alloc (Nat.le_refl _) _)).mono ?_; rintro e w2 ⟨ka, kn, kc, rfl, hb2, ht2⟩
  have hres := (hb2.block w.heap.size (by simp)).trans (heap_alloc_new w _)
  have r0 : w2.cell? ⟨w.heap.size, 0, none⟩ = some (.int .i64 0) := box_cell hres rfl
  have r1 : w2.cell? ⟨w.heap.size, 1, none⟩ = some (.int .i64 0) := box_cell hres rfl
  have r2 : w2.cell? ⟨w.heap.size, 2, none⟩ = some (.string ⟨#[]⟩) := box_cell hres rfl
  have r3 : w2.cell? ⟨w.heap.size, 3, none⟩ = some (.slice none 0 0) := box_cell hres rfl
  have r4 : w2.cell? ⟨w.heap.size, 4, none⟩ = some (.int .i64 0) := box_cell hres rfl
  have f0 : ∀ j, w2.frozen? ⟨w.heap.size, j, none⟩ = false := fun j => box_froz hres
  have hres2 := hid hres
  clear hres
  generalize hD : docIx l0 n' = D at *
  go_wp2
  have hN := heap_setCell_at (j := 4) (u := .int .i64 D.group) (heap_setCell_at (j := 3) (u := .slice ka kn kc) (heap_setCell_at (j := 2) (u := .string D.text) (heap_setCell_at (j := 1) (u := .int .i64 D.n) (heap_setCell_at (j := 0) (u := .int .i64 D.kind) hres2.out))))
  have hW : (((((w2.setCell ⟨w.heap.size, 0, none⟩ (.int .i64 D.kind)).setCell ⟨w.heap.size, 1, none⟩ (.int .i64 D.n)).setCell ⟨w.heap.size, 2, none⟩ (.string D.text)).setCell ⟨w.heap.size, 3, none⟩ (.slice ka kn kc)).setCell ⟨w.heap.size, 4, none⟩ (.int .i64 D.group)) = storeAll w2 w.heap.size 0 [.int .i64 D.kind, .int .i64 D.n, .string D.text, .slice ka kn kc, .int .i64 D.group] := rfl
  rw [hW] at hN ⊢
  clear hW
  have hB0 : Below w.heap.size w w2 := ((Below.refl w.heap.size w).alloc (Nat.le_refl _) _).trans (hb2.mono (by simp))
  have hB := below_storeAll [.int .i64 D.kind, .int .i64 D.n, .string D.text, .slice ka kn kc, .int .i64 D.group] 0 hB0 (Nat.le_refl _)
  have hH := fun b (hb : b ≠ w.heap.size) => storeAll_other [.int .i64 D.kind, .int .i64 D.n, .string D.text, .slice ka kn kc, .int .i64 D.group] 0 (w := w2) (g := w.heap.size) hb
  generalize storeAll w2 w.heap.size 0 [.int .i64 D.kind, .int .i64 D.n, .string D.text, .slice ka kn kc, .int .i64 D.group] = W2 at hN hB hH ⊢
  have s0 : W2.cell? ⟨w.heap.size, 0, none⟩ = some (.int .i64 D.kind) := by simp [World.cell?, hN]
  have s1 : W2.cell? ⟨w.heap.size, 1, none⟩ = some (.int .i64 D.n) := by simp [World.cell?, hN]
  have s2 : W2.cell? ⟨w.heap.size, 2, none⟩ = some (.string D.text) := by simp [World.cell?, hN]
  have s3 : W2.cell? ⟨w.heap.size, 3, none⟩ = some (.slice ka kn kc) := by simp [World.cell?, hN]
  have s4 : W2.cell? ⟨w.heap.size, 4, none⟩ = some (.int .i64 D.group) := by simp [World.cell?, hN]
  have hpost : DocPost w (rootDoc l0) (.returned (.agg #[.int .i64 D.kind, .int .i64 D.n, .string D.text, .slice ka kn kc, .int .i64 D.group])) W2 := by
    refine ⟨ka, kn, kc, by rw [hrt.out], hB, ?_⟩
    rw [hrt.out]
    refine ht2.keep fun b hS hlt => ⟨hH b ?_, ?_⟩ <;> (simp at hS; omega)
  exact bodyPost_ret (v := .agg #[.int .i64 D.kind, .int .i64 D.n, .string D.text, .slice ka kn kc, .int .i64 D.group]) (by simp [results, Tryd.results13, go_sem, s0, s1, s2, s3, s4]) rfl hpost

/-- Two results: a text and whether there is one. -/
def tup (o : Option (List UInt8)) : Ending := .returned (.tuple #[.string (flatStr o), .bool o.isSome])
end Go.Proofs.YtfabfkaolnidiaaDoor
