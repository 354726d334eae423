/- Walks and lemmas of this seat (FBlocks): what each theorem says of the functions that it names. Conditions: those that each theorem states. -/
import Derived.Test.YtfdmfkonneonaaaDoorFTreeAt
import Derived.Test.YtfdmfkonneonaaaDoorFShapeOk
namespace Go.Proofs.YtfdmfkonneonaaaDoor
set_option linter.unusedVariables false
set_option linter.unusedSimpArgs false
open Go.RowKit

theorem Tree.kid_lt {t u : Tree} (h : u ∈ t.kids) : SizeOf.sizeOf u < SizeOf.sizeOf t := by
  cases t with
  | mk k o x y l =>
    have := List.sizeOf_lt_of_mem (show u ∈ l from h)
    simp
    omega
mutual
/-- The greatest number of blocks in each other. -/
def Tree.blocks : Tree → Nat
  | .mk k _ _ _ l => Tree.blocksL l + if k = 33 then 1 else 0
def Tree.blocksL : List Tree → Nat
  | [] => 0
  | t :: l => max t.blocks (Tree.blocksL l)
end
theorem Tree.blocks_eq (t : Tree) : t.blocks = Tree.blocksL t.kids + if t.kind = 33 then 1 else 0 := by
  cases t with
  | mk k o x y l => rw [Tree.blocks]; rfl
theorem Tree.blocks_mem {t : Tree} {l : List Tree} (h : t ∈ l) : t.blocks ≤ Tree.blocksL l := by
  induction l with
  | nil => simp at h
  | cons u l ih =>
    rw [Tree.blocksL]
    rcases List.mem_cons.1 h with rfl | h
    · omega
    · have := ih h; omega
theorem Tree.blocksL_le {l : List Tree} {n : Nat} (h : ∀ t ∈ l, t.blocks ≤ n) : Tree.blocksL l ≤ n := by
  induction l with
  | nil => simp [Tree.blocksL]
  | cons u l ih =>
    rw [Tree.blocksL]
    have := h u (by simp)
    have := ih fun t ht => h t (by simp [ht])
    omega
theorem treeIx_blocks_le {l : List Node} (h : Ahead l) : ∀ (i : Nat), i < l.length → (treeIx l i).blocks ≤ i + 1 := by
  intro i
  induction i using Nat.strongRecOn with
  | _ i ih =>
    intro hi
    obtain ⟨x, hx⟩ := get_of_lt hi
    rw [treeIx_eq h hx, Tree.blocks]
    have : Tree.blocksL (x.kids.map fun k => treeIx l k.toNat) ≤ i := Tree.blocksL_le fun t ht => by
      obtain ⟨k, hk, rfl⟩ := List.mem_map.1 ht
      have hk2 := h i x hx k hk
      have := ih k.toNat hk2.2 (by omega)
      omega
    split <;> omega

end Go.Proofs.YtfdmfkonneonaaaDoor
