/- Walks and lemmas of this seat (FTreeAt): what each theorem says of the functions that it names. Conditions: those that each theorem states. -/
import Derived.Test.YtfdmfkonneonaaaDoorDataTree
import Derived.Test.YtfdmfkonneonaaaDoorFMem
import Derived.Deep.AppendLies
import Derived.Deep.RegionHeld3
import Derived.Deep.RegionLaw
import Derived.Deep.DrawnRows
import Derived.Outline
import Derived.Laws.Rows
namespace Go.Proofs.YtfdmfkonneonaaaDoor
set_option linter.unusedVariables false
set_option linter.unusedSimpArgs false
open Go.RowKit

attribute [local go_sem ↓] Go.wp_at_zero Go.wp_at_succ

theorem Tryd.info39 : (Tryd.prog.info? 39).map (fun i => (i.zero, i.size, i.bytes)) = some (some (.agg #[.int .i64 0, .int .i64 0, .string ⟨#[]⟩, .string ⟨#[]⟩, .slice none 0 0]), 5, 72) := by kernel_rfl

/-- What impl.treeAt hands back. -/
def TreePost (w : World) (t : Tree) (e : Ending) (w' : World) : Prop := ∃ (ka : Option Addr) (kn kc : Nat), e = .returned (.agg #[.int .i64 t.kind, .int .i64 t.op, .string t.text, .string t.other, .slice ka kn kc]) ∧ Below w.heap.size w w' ∧ TreeIs (fun b => w.heap.size ≤ b) w' t (.slice ka kn kc)

/-- Between two rounds of impl.treeAt's loop. -/
structure TL (l0 : List Node) (w : World) (x : Node) (k : Nat) (kv : Value) (q : List (Tree × Value)) (wr : World) : Prop where
  hb : Below w.heap.size w wr
  res : wr.heap[w.heap.size]? = some (.cells #[.int .i64 0, .int .i64 0, .string ⟨#[]⟩, .string ⟨#[]⟩, .slice none 0 0] 39 (0, 0))
  box : wr.heap[w.heap.size + 1 + 1]? = some (.cells #[.int .i64 x.kind, .int .i64 x.op, .string x.text, .string x.other, kv] 39 (0, 0))
  own : wr.ownsRow (w.heap.size + 1 + 1 + 1) 39 5 kv k (q.flatMap Tree.cells)
  eq : q.map Prod.fst = (x.kids.take k).map fun k => treeIx l0 k.toNat
  sub : ∀ p ∈ q, TreeIs (fun b => w.heap.size + 1 + 1 + 1 ≤ b ∧ some b ≠ kv.ownBlock) wr p.1 p.2

theorem TL.step {l0 : List Node} {w : World} {x : Node} {k j : Nat} {kv : Value} {q : List (Tree × Value)} {wr w1 w2 : World} {o : Obj} {kv1 : Value} {gg cap2 : Nat} (h : TL l0 w x k kv q wr) (hb1 : Below wr.drew.heap.size wr.drew w1)
    (ht1 : TreeIs (fun b => wr.drew.heap.size ≤ b) w1 (treeIx l0 j) kv1) (hown : w2.ownsRow (w.heap.size + 1 + 1 + 1) 39 5 (.slice (some ⟨gg, 0, none⟩) (k + 1) cap2) (k + 1) (q.flatMap Tree.cells ++ Tree.cells (treeIx l0 j, kv1)))
    (hg : (w1.alloc o).grownBy w2 kv.ownBlock) (hat : kv.ownBlock = some gg ∨ gg = w1.heap.size + 1) (hk : x.kids.take (k + 1) = x.kids.take k ++ [(j : Int)]) :
    TL l0 w x (k + 1) (.slice (some ⟨gg, 0, none⟩) (k + 1) cap2) (q ++ [(treeIx l0 j, kv1)]) (w2.setCell ⟨w.heap.size + 1 + 1, 4, none⟩ (.slice (some ⟨gg, 0, none⟩) (k + 1) cap2)) := by
  have hs1 : wr.heap.size ≤ w1.heap.size := hb1.size
  have hbs : w.heap.size + 1 + 1 < wr.heap.size := (Array.getElem?_eq_some_iff.1 h.box).1
  have hlo : ∀ r, kv.ownBlock = some r → w.heap.size + 1 + 1 + 1 ≤ r ∧ r < wr.heap.size := fun r e => h.own.lt r e
  have hgg : w.heap.size + 1 + 1 + 1 ≤ gg := (hown.lt gg rfl).1
  have keep : ∀ (W : World), Below wr.drew.heap.size wr.drew W → True := fun _ _ => trivial
  have h12 : ∀ b, b < w1.heap.size → some b ≠ kv.ownBlock → w2.heap[b]? = w1.heap[b]? := fun b hb hne => (hg.block b (by simp; omega) hne).trans (Below.heap_alloc _ _ _ hb)
  have hr1 : ∀ b, b < wr.heap.size → w1.heap[b]? = wr.heap[b]? := fun b hb => hb1.block b hb
  have hset : ∀ b, b ≠ w.heap.size + 1 + 1 → (w2.setCell ⟨w.heap.size + 1 + 1, 4, none⟩ (.slice (some ⟨gg, 0, none⟩) (k + 1) cap2)).heap[b]? = w2.heap[b]? := fun b hb => heap_setCell_other w2 ⟨w.heap.size + 1 + 1, 4, none⟩ b _ hb
  have hno : ∀ b, b ≤ w.heap.size + 1 + 1 → some b ≠ kv.ownBlock := fun b hb e => by have := (hlo b e.symm).1; omega
  refine ⟨?_, ?_, ?_, ?_, ?_, ?_⟩
  · have e1 : Below w.heap.size w w1 := h.hb.trans ((show Below wr.heap.size wr w1 from ⟨hb1.os, hb1.tape, hb1.output, hb1.size, hb1.block⟩).mono h.hb.size)
    exact ((e1.alloc e1.size o).grown hg (by simp; omega) (fun r e => by have := (hlo r e).1; omega)).setCell (p := ⟨w.heap.size + 1 + 1, 4, none⟩) (show w.heap.size ≤ w.heap.size + 1 + 1 by omega) _
  · rw [hset _ (by omega), h12 _ (by omega) (hno _ (by omega)), hr1 _ (by omega)]; exact h.res
  · have := (h12 _ (by omega) (hno _ (Nat.le_refl _))).trans ((hr1 _ hbs).trans h.box)
    rw [heap_setCell_at this]; rfl
  · rw [List.flatMap_append, List.flatMap_cons, List.flatMap_nil, List.append_nil]
    exact hown.kept (grown_set w2 (w.heap.size + 1 + 1) 4 _) (.inr (by simp [Value.ownBlock]; omega))
  · rw [List.map_append, h.eq, hk, List.map_append]; simp
  · intro p hp
    rcases List.mem_append.1 hp with hp | hp
    · refine (h.sub p hp).keep fun b hS hlt => ⟨?_, hS.1, ?_⟩
      · rw [hset b (by omega), h12 b (by omega) hS.2, hr1 b hlt]
      · intro e
        simp [Value.ownBlock] at e
        rcases hat with hat | hat
        · exact hS.2 (by rw [hat, e])
        · omega
    · simp at hp
      subst hp
      refine ht1.keep fun b hS hlt => ?_
      have hS' : wr.heap.size ≤ b := hS
      refine ⟨?_, by omega, ?_⟩
      · rw [hset b (by omega), h12 b hlt (fun e => by have := (hlo b e.symm).2; omega)]
      · intro e
        simp [Value.ownBlock] at e
        rcases hat with hat | hat
        · have := (hlo gg hat).2; omega
        · omega

end Go.Proofs.YtfdmfkonneonaaaDoor
