/- Walks and lemmas of this seat (PMeasLaw): what each theorem says of the functions that it names. Conditions: those that each theorem states. -/
import Derived.Test.YtgmciglaapnahaaGreatDoorGTR
import Derived.Test.YtgmciglaapnahaaGreatDoorGV
import Derived.Test.YtgmciglaapnahaaGreatDoorGE
namespace Go.Proofs.YtgmciglaapnahaaGreatDoor
set_option linter.unusedVariables false
set_option linter.unusedSimpArgs false
open Go.RowKit

/-! Measures add up over the parts of the root's kids; comments do not count. -/
def Tree.node0 (t : Tree) : Node := ⟨t.kind, t.op, t.text, t.other, []⟩
theorem countP_ids {α : Type} (p : α → Bool) (l : List α) : l.countP p = (l.map p).countP id := by rw [List.countP_map]; rfl
/-- A question that does not look at the kids. -/
def Flat (p : Node → Bool) : Prop := ∀ (x : Node) (ks : List Int), p x = p ⟨x.kind, x.op, x.text, x.other, ks⟩
theorem flat_branch : Flat isBranchB := fun _ _ => rfl
theorem flat_statement : Flat isStatementB := fun _ _ => rfl
theorem count_tree {p : Node → Bool} (hp : Flat p) (t : Tree) : (t.addTo []).countP p = t.post.countP fun u => p u.node0 := by
  rw [countP_ids, map_postT t p (fun u => p u.node0) (fun x ks => hp x []), ← countP_ids]
theorem count_list {p : Node → Bool} (hp : Flat p) {l : List Node} (hs : shapeOk (l.map Node.kids) = true) : l.countP p = (rootTree l).post.countP fun u => p u.node0 := by
  have := count_tree hp (rootTree l)
  rwa [tree_of hs] at this
theorem root_at {l : List Node} (hs : shapeOk (l.map Node.kids) = true) {x : Node} (hx : l[l.length - 1]? = some x) : (rootTree l).kids = x.kids.map (fun k => treeIx l k.toNat) ∧ (rootTree l).node0 = ⟨x.kind, x.op, x.text, x.other, []⟩ ∧ (rootTree l).kind = x.kind := by
  obtain ⟨e1, e2, e3, e4, e5⟩ := treeIx_at (shapeOk_ahead hs) hx
  exact ⟨e5, by unfold Tree.node0 rootTree; rw [e1, e2, e3, e4], e1⟩
theorem kid_part {l : List Node} (hs : shapeOk (l.map Node.kids) = true) {i : Nat} {x : Node} (hx : l[i]? = some x) {q : Int} (hq : q ∈ x.kids) : part l q = (treeIx l q.toNat).addTo [] ∧ ∃ m : Nat, q = (m : Int) ∧ m < l.length := by
  have h1 := shapeOk_ahead hs i x hx q hq
  have h2 := (List.getElem?_eq_some_iff.1 hx).1
  have e : ((q.toNat : Nat) : Int) = q := by omega
  have := part_add (l := l) (i := q.toNat) hs (by omega)
  rw [e] at this
  exact ⟨this, q.toNat, e.symm, by omega⟩
theorem count_root {p : Node → Bool} (hp : Flat p) {l : List Node} (hs : shapeOk (l.map Node.kids) = true) {x : Node} (hx : l[l.length - 1]? = some x) : l.countP p = ((x.kids.map fun q => (part l q).countP p).sum) + (if p x = true then 1 else 0) := by
  obtain ⟨h1, h2, _⟩ := root_at hs hx
  rw [count_list hp hs, Tree.post_eq, List.countP_append, h1, Tree.postL_flat, List.countP_flatMap, List.map_map]
  congr 1
  · congr 1
    refine List.map_congr_left fun q hq => ?_
    rw [(kid_part hs hx hq).1, count_tree hp]
    rfl
  · rw [List.countP_singleton, h2, ← hp x []]
theorem part_le {l : List Node} (hs : shapeOk (l.map Node.kids) = true) {i : Nat} {x : Node} (hx : l[i]? = some x) {q : Int} (hq : q ∈ x.kids) : (part l q).length ≤ 400 := by
  obtain ⟨_, m, rfl, hm⟩ := kid_part hs hx hq
  have := (part_count hs hm)
  obtain ⟨_, h400, _⟩ := shapeOk_yes hs
  omega
theorem blockDepth_tree (t : Tree) (h : (t.addTo []).length ≤ 400) : blockDepth (t.addTo []) = t.blocks := by
  unfold blockDepth
  rw [shapeOk_tree, if_pos (by simpa using h), root_back]
def maxUp (l : List Nat) : Nat := l.foldl max 0
theorem maxUp_snoc (l : List Nat) (a : Nat) : maxUp (l ++ [a]) = max (maxUp l) a := by unfold maxUp; rw [List.foldl_append]; rfl
theorem blocksL_fold : ∀ (l : List Tree) (a : Nat), (l.map Tree.blocks).foldl max a = max a (Tree.blocksL l) := by
  intro l
  induction l with
  | nil => intro a; simp [Tree.blocksL]
  | cons t l ih => intro a; rw [List.map_cons, List.foldl_cons, ih, Tree.blocksL]; omega
theorem blocks_root {l : List Node} (hs : shapeOk (l.map Node.kids) = true) {x : Node} (hx : l[l.length - 1]? = some x) : blockDepth l = maxUp (x.kids.map fun q => blockDepth (part l q)) + (if x.kind = 33 then 1 else 0) := by
  obtain ⟨h1, _, h3⟩ := root_at hs hx
  have e : (x.kids.map fun q => blockDepth (part l q)) = (rootTree l).kids.map Tree.blocks := by
    rw [h1, List.map_map]
    refine List.map_congr_left fun q hq => ?_
    rw [(kid_part hs hx hq).1, blockDepth_tree _ (by rw [← (kid_part hs hx hq).1]; exact part_le hs hx hq)]
    rfl
  rw [e]
  unfold maxUp
  rw [blocksL_fold]
  unfold blockDepth
  rw [if_pos hs, Tree.blocks_eq, h3]
  omega
theorem count_bare {p : Node → Bool} (hp : Flat p) (h34 : ∀ x : Node, x.kind = 34 → p x = false) {l : List Node} (hok : treeOk l = true) : (noComments l).countP p = l.countP p := by
  obtain ⟨h3, h4⟩ := noComments_ok hok
  have ho := (treeOk_back hok).2.1
  rw [count_list hp (treeOk_shape h3), count_list hp (treeOk_shape hok), h4]
  have e : ∀ P : List Tree, P.countP (fun u => p u.node0) = (P.flatMap fun u => if p u.node0 = true then [()] else []).length := by
    intro P
    induction P with
    | nil => rfl
    | cons u P ih => rw [List.countP_cons, ih, List.flatMap_cons, List.length_append]; split <;> simp [*]; omega
  rw [e, e, flat_bare ho (fun u => if p u.node0 = true then [()] else []) (fun u _ => ?_) fun u hu => ?_]
  · obtain ⟨e1, e2, e3, e4, _⟩ := u.bare_kind
    have : u.bare.node0 = u.node0 := by unfold Tree.node0; rw [e1, e2, e3, e4]
    simp only [this]
  · have := h34 u.node0 hu
    simp only [this]
    rfl
theorem part_bounds {l : List Node} (hl : l.length ≤ 400) (p : Node → Bool) (i : Int) : (part l i).countP p ≤ 400 := by
  refine Nat.le_trans (List.countP_le_length) ?_
  unfold part
  split
  · split
    · simp
    · rw [List.length_map]; unfold seg; rw [List.length_take, List.length_drop]; omega
  · simp
end Go.Proofs.YtgmciglaapnahaaGreatDoor
