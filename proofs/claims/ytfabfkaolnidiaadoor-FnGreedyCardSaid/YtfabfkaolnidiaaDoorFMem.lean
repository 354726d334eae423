/- Walks and lemmas of this seat (FMem): what each theorem says of the functions that it names. Conditions: those that each theorem states. -/
import Derived.Test.YtfabfkaolnidiaaDoorBase
import Derived.Laws.Rows
namespace Go.Proofs.YtfabfkaolnidiaaDoor
set_option linter.unusedVariables false
set_option linter.unusedSimpArgs false
open Go.RowKit

theorem heap_setCell_at {w : World} {b j : Nat} {c : Array Value} {t : TypeId} {u : Value} (h : w.heap[b]? = some (.cells c t (0, 0))) : (w.setCell ⟨b, j, none⟩ u).heap[b]? = some (.cells (c.setIfInBounds j u) t (0, 0)) := by
  rw [heap_setCell_same w b j c t u h]
theorem storeAll_other {g : Nat} (us : List Value) : ∀ {w : World} (o : Nat) {b : Nat}, b ≠ g → (storeAll w g o us).heap[b]? = w.heap[b]? := by
  induction us with
  | nil => intro w o b _; rfl
  | cons u us ih => intro w o b hb; exact (ih (o + 1) hb).trans (heap_setCell_other w ⟨g, o, none⟩ b u hb)
theorem grown_dN {a b : World} {r : Option Nat} (h : a.grownBy b r) (n : Nat) : a.grownBy (b.drewN n) r := grown_trans h ⟨rfl, rfl, rfl, Nat.le_refl _, fun _ _ _ => rfl⟩
theorem keep_a {w W : World} {C : Prop} (h : Below w.heap.size w W ∧ C) (o : Obj) : Below w.heap.size w (W.alloc o) := h.1.alloc h.1.size o
theorem keep_a2 {w W : World} {C : Prop} {o o' : Obj} (h : Below w.heap.size w (W.alloc o) ∧ C) (hs : w.heap.size ≤ W.heap.size) : Below w.heap.size w (W.alloc o') := by
  obtain ⟨h, _⟩ := h
  refine ⟨h.os, h.tape, h.output, by simp; omega, fun i hi => ?_⟩
  have := h.block i hi
  rw [Below.heap_alloc _ _ _ (by omega)] at this ⊢
  exact this
theorem box_new {W w3 : World} {c : Array Value} {T : TypeId} (hb : Below (W.alloc (.cells c T)).drew.heap.size (W.alloc (.cells c T)).drew w3) : w3.heap[W.heap.size]? = some (.cells c T (0, 0)) := (hb.block _ (by simp)).trans (heap_alloc_new W _)
theorem box_cell {w : World} {p j : Nat} {c : Array Value} {T : TypeId} {u : Value} (h : w.heap[p]? = some (.cells c T (0, 0))) (hu : c[j]? = some u) : w.cell? ⟨p, j, none⟩ = some u := by simp [World.cell?, h, hu]
theorem box_froz {w : World} {p j : Nat} {c : Array Value} {T : TypeId} (h : w.heap[p]? = some (.cells c T (0, 0))) : w.frozen? ⟨p, j, none⟩ = false := by simp [World.frozen?, h]
theorem box_cells {w : World} {b : Nat} {v0 v1 v2 v3 v4 : Value} {T : TypeId} {k : Nat × Nat} (h : w.heap[b]? = some (.cells #[v0, v1, v2, v3, v4] T k)) :
    w.cell? ⟨b, 0, none⟩ = some v0 ∧ w.cell? ⟨b, 1, none⟩ = some v1 ∧ w.cell? ⟨b, 2, none⟩ = some v2 ∧ w.cell? ⟨b, 3, none⟩ = some v3 ∧ w.cell? ⟨b, 4, none⟩ = some v4 := by
  simp [World.cell?, h]
theorem heap_lt {w : World} {b : Nat} {o : Obj} (h : w.heap[b]? = some o) : b < w.heap.size := (Array.getElem?_eq_some_iff.1 h).1
end Go.Proofs.YtfabfkaolnidiaaDoor
