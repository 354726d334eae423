/- Walks and lemmas of this seat (FPartP): what each theorem says of the functions that it names. Conditions: those that each theorem states. -/
import Derived.Test.YtfdmfkonneonaaaDoorFBlockDepth
import Derived.Test.YtfdmfkonneonaaaDoorFTiles
namespace Go.Proofs.YtfdmfkonneonaaaDoor
set_option linter.unusedVariables false
set_option linter.unusedSimpArgs false
open Go.RowKit

theorem starts_tiles {l : List Node} {s : List Nat} (h : starts (l.map Node.kids) = some s) {i : Nat} {x : Node} (hx : l[i]? = some x) : Tiles s x.kids (s.getD i 0) i :=
  starts_tilesK h (by rw [List.getElem?_map, hx]; rfl)

/-- A node whose kids are so much further on. -/
def Node.shift (d : Int) (x : Node) : Node := ⟨x.kind, x.op, x.text, x.other, x.kids.map (· + d)⟩
mutual
/-- The nodes of a tree behind a list, as (tree).add appends them. -/
def Tree.addTo : Tree → List Node → List Node
  | .mk k o t t' kids, acc => (Tree.addsTo kids acc []).1 ++ [⟨k, o, t, t', (Tree.addsTo kids acc []).2⟩]
def Tree.addsTo : List Tree → List Node → List Int → List Node × List Int
  | [], acc, ks => (acc, ks)
  | t :: l, acc, ks => Tree.addsTo l (t.addTo acc) (ks ++ [((t.addTo acc).length : Int) - 1])
end
/-- The part of node i. -/
def seg (l : List Node) (b a : Nat) : List Node := (l.drop b).take (a - b)
theorem seg_nil (l : List Node) (a : Nat) : seg l a a = [] := by simp [seg]
theorem seg_split (l : List Node) {b m a : Nat} (h1 : b ≤ m) (h2 : m ≤ a) : seg l b a = seg l b m ++ seg l m a := by
  unfold seg
  have e : a - b = (m - b) + (a - m) := by omega
  rw [e, List.take_add, List.drop_drop, show b + (m - b) = m by omega]
theorem seg_snoc {l : List Node} {b i : Nat} {x : Node} (hx : l[i]? = some x) (h : b ≤ i) : seg l b (i + 1) = seg l b i ++ [x] := by
  rw [seg_split l h (Nat.le_succ i)]
  congr 1
  unfold seg
  rw [drop_cons hx, show i + 1 - i = 1 by omega]
  rfl
theorem seg_len {l : List Node} {b a : Nat} (h : a ≤ l.length) : (seg l b a).length = a - b := by
  unfold seg; rw [List.length_take, List.length_drop]; omega
/-- THE LAW OF add: the nodes of node i's tree are its part, moved. -/
theorem addTo_seg {l : List Node} {s : List Nat} (h : starts (l.map Node.kids) = some s) : ∀ (i : Nat), i < l.length → ∀ (acc : List Node), (treeIx l i).addTo acc = acc ++ (seg l (s.getD i 0) (i + 1)).map (Node.shift ((acc.length : Int) - (s.getD i 0 : Nat))) := by
  have hah := ahead_of h
  have hl := (starts_len h).1
  intro i
  induction i using Nat.strongRecOn with
  | _ i ih =>
  intro hi acc
  obtain ⟨x, hx⟩ := get_of_lt hi
  have ht := starts_tiles h hx
  have key : ∀ (ks : List Int) (b : Nat), Tiles s ks b i → ∀ (acc : List Node) (kk : List Int),
      Tree.addsTo (ks.map fun k => treeIx l k.toNat) acc kk = (acc ++ (seg l b i).map (Node.shift ((acc.length : Int) - (b : Nat))), kk ++ ks.map (· + ((acc.length : Int) - (b : Nat)))) := by
    intro ks
    induction ks with
    | nil =>
      intro b hb acc kk
      have hb : b = i := hb
      subst hb
      simp [Tree.addsTo, seg_nil]
    | cons k ks ihk =>
      intro b hb acc kk
      obtain ⟨j, rfl, hs, hj, hrest⟩ := hb
      rw [List.map_cons, Tree.addsTo]
      simp only [Int.toNat_natCast]
      have hjl : j < l.length := by omega
      have hbj := hl.getD j
      rw [hs] at hbj
      have e1 := ih j hj hjl acc
      rw [hs] at e1
      have hsl : (seg l b (j + 1)).length = j + 1 - b := seg_len (by omega)
      have e2 : ((treeIx l j).addTo acc).length = acc.length + (j + 1 - b) := by rw [e1, List.length_append, List.length_map, hsl]
      rw [ihk (j + 1) hrest, e2, e1]
      have hle := tiles_le hl hrest
      have d1 : (((acc.length + (j + 1 - b) : Nat) : Int) - ((j + 1 : Nat) : Int)) = (acc.length : Int) - (b : Nat) := by omega
      rw [seg_split l (b := b) (m := j + 1) (a := i) (by omega) hle, List.map_append, d1]
      simp only [List.append_assoc, List.map_cons, Prod.mk.injEq, true_and]
      congr 1
      rw [List.singleton_append]
      congr 1
      omega
  rw [treeIx_eq hah hx, Tree.addTo, key _ _ ht, seg_snoc hx (hl.getD i), List.map_append]
  simp [Node.shift]
/-- The part of a node: what Part hands back. -/
def part (l : List Node) (i : Int) : List Node :=
  if shapeOk (l.map Node.kids) = true ∧ 0 ≤ i ∧ i < l.length then
    match starts (l.map Node.kids) with
    | none => []
    | some s => (seg l (s.getD i.toNat 0) (i.toNat + 1)).map (Node.shift (-(s.getD i.toNat 0 : Nat)))
  else []
theorem part_bulk (l : List Node) (i : Int) (h : bulk Node.sizes l ≤ 1048576) : bulk Node.sizes (part l i) ≤ 1048576 := by
  unfold part
  split
  · split
    · simp [bulk]
    · rename_i s _
      refine Nat.le_trans ?_ h
      unfold bulk
      rw [List.length_map, List.map_map]
      have e : (Node.sizes ∘ Node.shift (-(s.getD i.toNat 0 : Nat))) = Node.sizes := by funext x; simp [Node.sizes, Node.shift]
      rw [e]
      unfold seg
      have h1 : ((l.drop (s.getD i.toNat 0)).take (i.toNat + 1 - s.getD i.toNat 0)).length ≤ l.length := by rw [List.length_take, List.length_drop]; omega
      have h2 := sum_take_le Node.sizes (l.drop (s.getD i.toNat 0)) (i.toNat + 1 - s.getD i.toNat 0)
      have h3 : ∀ (n : Nat), ((l.drop n).map Node.sizes).sum ≤ (l.map Node.sizes).sum := by
        intro n
        conv => rhs; rw [← List.take_append_drop n l, List.map_append, List.sum_append]
        omega
      have := h3 (s.getD i.toNat 0)
      omega
  · simp [bulk]
theorem part_add {l : List Node} {i : Nat} (hok : shapeOk (l.map Node.kids) = true) (hi : i < l.length) : part l (i : Int) = (treeIx l i).addTo [] := by
  obtain ⟨_, _, s, hs⟩ := shapeOk_yes hok
  rw [addTo_seg hs i hi]
  unfold part
  rw [if_pos ⟨hok, by omega, by omega⟩, hs]
  simp
end Go.Proofs.YtfdmfkonneonaaaDoor
