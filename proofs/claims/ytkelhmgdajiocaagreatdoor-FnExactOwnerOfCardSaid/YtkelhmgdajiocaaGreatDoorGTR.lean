/- Walks and lemmas of this seat (PRound): what each theorem says of the functions that it names. Conditions: those that each theorem states. -/
import Derived.Test.YtkelhmgdajiocaaGreatDoorGB
import Derived.Test.YtkelhmgdajiocaaGreatDoorGD
namespace Go.Proofs.YtkelhmgdajiocaaGreatDoor
set_option linter.unusedVariables false
set_option linter.unusedSimpArgs false
open Go.RowKit

/-! A tree that is laid as a list is read back as that tree. -/
theorem stepK_append (out : List Nat) : ∀ (a b : List Int) (n : Nat), stepK out (a ++ b) n = (stepK out a n).bind fun m => stepK out b m := by
  intro a
  induction a with
  | nil => intro b n; rfl
  | cons k a ih =>
    intro b n
    rw [List.cons_append]
    show (if k ≠ (n : Int) - 1 ∨ n = 0 then none else stepK out (a ++ b) (out.getD (n - 1) 0)) = (if k ≠ (n : Int) - 1 ∨ n = 0 then none else stepK out a (out.getD (n - 1) 0)).bind _
    split
    · rfl
    · exact ih b _
theorem startsL_append : ∀ (a b : List (List Int)) (out : List Nat), startsL out (a ++ b) = (startsL out a).bind fun s => startsL s b := by
  intro a
  induction a with
  | nil => intro b out; rfl
  | cons ks a ih =>
    intro b out
    rw [List.cons_append]
    cases h : stepK out ks.reverse out.length with
    | none => rw [startsL_no h, startsL_no h]; rfl
    | some m => rw [startsL_go h, startsL_go h]; exact ih b _
theorem getD_app {s u : List Nat} {j : Nat} (h : j < s.length) : (s ++ u).getD j 0 = s.getD j 0 := by
  rw [List.getD_eq_getElem?_getD, List.getD_eq_getElem?_getD, List.getElem?_append_left h]
theorem adds_starts : ∀ (l : List Tree), (∀ t ∈ l, ∀ (acc : List Node) (s : List Nat), starts (acc.map Node.kids) = some s → ∃ u, starts ((t.addTo acc).map Node.kids) = some (s ++ u) ∧ (s ++ u).getD ((t.addTo acc).length - 1) 0 = acc.length) →
    ∀ (acc : List Node) (ks : List Int) (s : List Nat), starts (acc.map Node.kids) = some s → ∃ (u : List Nat) (ks' : List Int), starts ((Tree.addsTo l acc ks).1.map Node.kids) = some (s ++ u) ∧ (Tree.addsTo l acc ks).2 = ks ++ ks' ∧ stepK (s ++ u) ks'.reverse (Tree.addsTo l acc ks).1.length = some acc.length := by
  intro l
  induction l with
  | nil => intro _ acc ks s hs; exact ⟨[], [], by simpa [Tree.addsTo] using hs, by simp [Tree.addsTo], by simp [Tree.addsTo, stepK]⟩
  | cons t l ih =>
    intro h acc ks s hs
    obtain ⟨u, h1, h2⟩ := h t (by simp) acc s hs
    obtain ⟨u2, ks2, h3, h4, h5⟩ := ih (fun v hv => h v (by simp [hv])) (t.addTo acc) (ks ++ [((t.addTo acc).length : Int) - 1]) (s ++ u) h1
    have hl := Tree.addTo_len _ t (Nat.lt_succ_self _) acc
    have hsl := (starts_len h1).2
    rw [List.length_map] at hsl
    refine ⟨u ++ u2, (((t.addTo acc).length : Int) - 1) :: ks2, ?_, ?_, ?_⟩
    · rw [Tree.addsTo, h3, List.append_assoc]
    · rw [Tree.addsTo, h4, List.append_assoc, List.singleton_append]
    · rw [Tree.addsTo, List.reverse_cons, stepK_append, ← List.append_assoc, h5]
      show stepK _ [_] _ = _
      rw [stepK, if_neg (by omega), stepK, getD_app (by omega), h2]
theorem addTo_startsN (n : Nat) : ∀ (t : Tree), SizeOf.sizeOf t < n → ∀ (acc : List Node) (s : List Nat), starts (acc.map Node.kids) = some s → ∃ u, starts ((t.addTo acc).map Node.kids) = some (s ++ u) ∧ (s ++ u).getD ((t.addTo acc).length - 1) 0 = acc.length := by
  induction n with
  | zero => intro t h; omega
  | succ n ih =>
    intro t h acc s hs
    obtain ⟨u, ks, h1, h2, h3⟩ := adds_starts t.kids (fun v hv => ih v (by have := Tree.kid_lt hv; omega)) acc [] s hs
    have hsl := (starts_len h1).2
    rw [List.length_map] at hsl
    refine ⟨u ++ [acc.length], ?_, ?_⟩
    · rw [t.addTo_eq, List.map_append]
      unfold starts at h1 ⊢
      rw [startsL_append, h1]
      show startsL (s ++ u) [(Tree.addsTo t.kids acc []).2] = _
      rw [h2, List.nil_append, startsL_go (a := acc.length) (by rw [hsl]; exact h3), ← List.append_assoc]
      rfl
    · rw [t.addTo_eq, ← List.append_assoc, List.length_append, List.length_singleton, ← hsl, Nat.add_sub_cancel]
      simp [List.getD_eq_getElem?_getD]
theorem tree_starts (t : Tree) : ∃ s, starts ((t.addTo []).map Node.kids) = some s ∧ s.getD ((t.addTo []).length - 1) 0 = 0 := by
  obtain ⟨u, h1, h2⟩ := addTo_startsN _ t (Nat.lt_succ_self _) [] [] rfl
  exact ⟨u, by simpa using h1, by simpa using h2⟩
theorem shapeOk_tree (t : Tree) : shapeOk ((t.addTo []).map Node.kids) = decide ((t.addTo []).length ≤ 400) := by
  obtain ⟨s, h1, h2⟩ := tree_starts t
  have hl := Tree.addTo_len _ t (Nat.lt_succ_self _) []
  unfold shapeOk startsLast
  rw [h1]
  simp only [List.length_map, h2, List.length_nil] at *
  simp
  omega
/-- What stands ahead stays. -/
theorem addTo_prefix (t : Tree) (acc : List Node) : acc <+: t.addTo acc := by
  rw [Tree.addTo_shift t acc]
  exact List.prefix_append _ _
theorem addsTo_prefix : ∀ (l : List Tree) (acc : List Node) (ks : List Int), acc <+: (Tree.addsTo l acc ks).1 := by
  intro l
  induction l with
  | nil => intro acc ks; exact List.prefix_refl _
  | cons t l ih => intro acc ks; rw [Tree.addsTo]; exact (addTo_prefix t acc).trans (ih _ _)
theorem prefix_get {a b : List Node} (h : a <+: b) {i : Nat} {x : Node} (hx : a[i]? = some x) : b[i]? = some x := by
  obtain ⟨r, rfl⟩ := h
  rw [List.getElem?_append_left (List.getElem?_eq_some_iff.1 hx).1]
  exact hx
theorem adds_back {L : List Node} : ∀ (l : List Tree), (∀ t ∈ l, ∀ acc : List Node, t.addTo acc <+: L → treeIx L ((t.addTo acc).length - 1) = t) →
    ∀ (acc : List Node) (ks : List Int), (Tree.addsTo l acc ks).1 <+: L → ∃ ks', (Tree.addsTo l acc ks).2 = ks ++ ks' ∧ (ks'.map fun k => treeIx L k.toNat) = l := by
  intro l
  induction l with
  | nil => intro _ acc ks _; exact ⟨[], by simp [Tree.addsTo], rfl⟩
  | cons t l ih =>
    intro h acc ks hp
    rw [Tree.addsTo] at hp
    obtain ⟨ks', h1, h2⟩ := ih (fun v hv => h v (by simp [hv])) _ _ hp
    have h3 := h t (by simp) acc ((addsTo_prefix l _ _).trans hp)
    have hl := Tree.addTo_len _ t (Nat.lt_succ_self _) acc
    refine ⟨(((t.addTo acc).length : Int) - 1) :: ks', ?_, ?_⟩
    · rw [Tree.addsTo, h1, List.append_assoc, List.singleton_append]
    · rw [List.map_cons, h2, show ((((t.addTo acc).length : Int) - 1)).toNat = (t.addTo acc).length - 1 by omega, h3]
theorem addTo_backN {L : List Node} (ha : Ahead L) (n : Nat) : ∀ (t : Tree), SizeOf.sizeOf t < n → ∀ (acc : List Node), t.addTo acc <+: L → treeIx L ((t.addTo acc).length - 1) = t := by
  induction n with
  | zero => intro t h; omega
  | succ n ih =>
    intro t h acc hp
    have hx : (t.addTo acc)[(t.addTo acc).length - 1]? = some ⟨t.kind, t.op, t.text, t.other, (Tree.addsTo t.kids acc []).2⟩ := by
      rw [t.addTo_eq, List.length_append, List.length_singleton, Nat.add_sub_cancel, List.getElem?_append_right (Nat.le_refl _)]
      simp
    have hp2 : (Tree.addsTo t.kids acc []).1 <+: L := List.IsPrefix.trans (by rw [t.addTo_eq]; exact List.prefix_append _ _) hp
    obtain ⟨ks', h1, h2⟩ := adds_back (L := L) t.kids (fun v hv => ih v (by have := Tree.kid_lt hv; omega)) acc [] hp2
    rw [treeIx_eq ha (prefix_get hp hx), h1, List.nil_append, h2]
    exact t.mk_eta.symm
theorem root_back (t : Tree) : rootTree (t.addTo []) = t := by
  obtain ⟨s, h1, _⟩ := tree_starts t
  exact addTo_backN (ahead_of h1) _ t (Nat.lt_succ_self _) [] (List.prefix_refl _)
/-- The nodes of a valid tree are those of its tree. -/
theorem part_last {l : List Node} (h : shapeOk (l.map Node.kids) = true) : part l ((l.length - 1 : Nat) : Int) = l := by
  obtain ⟨h1, h2, s, hs⟩ := shapeOk_yes h
  have h0 : s.getD (l.length - 1) 0 = 0 := by
    unfold shapeOk startsLast at h
    rw [hs] at h
    simp only [List.length_map, Bool.and_eq_true, beq_iff_eq] at h
    exact h.2
  unfold part
  rw [if_pos ⟨h, by omega, by omega⟩, hs]
  simp only [Int.toNat_natCast, h0]
  have e : seg l 0 (l.length - 1 + 1) = l := by unfold seg; rw [show l.length - 1 + 1 - 0 = l.length by omega]; simp
  rw [e, show (-((0 : Nat) : Int)) = 0 from rfl]
  conv => rhs; rw [← List.map_id l]
  exact List.map_congr_left fun x _ => Node.shift_zero x
theorem tree_of {l : List Node} (h : shapeOk (l.map Node.kids) = true) : (rootTree l).addTo [] = l := by
  obtain ⟨h1, _⟩ := shapeOk_yes h
  have := part_add (l := l) (i := l.length - 1) h (by omega)
  rw [part_last h] at this
  exact this.symm
theorem depthOf_tree (t : Tree) (h : (t.addTo []).length ≤ 400) : depthOf (t.addTo []) = t.depth := by
  unfold depthOf
  rw [shapeOk_tree, if_pos (by simpa using h), root_back]
/-! The parts of a valid tree. -/
/-- Each node but the last is a kid of one behind it. -/
theorem parent_of {l : List Node} {s : List Nat} (hs : starts (l.map Node.kids) = some s) (i : Nat) : ∀ (j : Nat), j < l.length → s.getD j 0 ≤ i → i < j → ∃ (p : Nat) (x : Node), l[p]? = some x ∧ p ≤ j ∧ (i : Int) ∈ x.kids := by
  intro j
  induction j using Nat.strongRecOn with
  | _ j ih =>
    intro hj h1 h2
    obtain ⟨x, hx⟩ := get_of_lt hj
    have ht := starts_tiles hs hx
    have key : ∀ (ks : List Int) (b : Nat), Tiles s ks b j → b ≤ i → (∃ k ∈ ks, k = (i : Int)) ∨ ∃ k : Nat, k < j ∧ s.getD k 0 ≤ i ∧ i < k := by
      intro ks
      induction ks with
      | nil => intro b hb hi; have hb : b = j := hb; omega
      | cons k ks ihk =>
        intro b hb hi
        obtain ⟨q, rfl, h3, h4, h5⟩ := hb
        rcases Nat.lt_trichotomy i q with h6 | h6 | h6
        · exact .inr ⟨q, h4, by omega, h6⟩
        · exact .inl ⟨(q : Int), by simp, by rw [h6]⟩
        · rcases ihk (q + 1) h5 (by omega) with ⟨k, hk, e⟩ | h7
          · exact .inl ⟨k, by simp [hk], e⟩
          · exact .inr h7
    rcases key _ _ ht h1 with ⟨k, hk, rfl⟩ | ⟨k, hk, h3, h4⟩
    · exact ⟨j, x, hx, Nat.le_refl _, hk⟩
    · obtain ⟨p, y, hy, hp, hm⟩ := ih k hk (by omega) h3 h4
      exact ⟨p, y, hy, by omega, hm⟩
theorem parent_at {l : List Node} (h : shapeOk (l.map Node.kids) = true) {i : Nat} (hi : i < l.length - 1) : ∃ (p : Nat) (x : Node), l[p]? = some x ∧ (i : Int) ∈ x.kids := by
  obtain ⟨h1, h2, s, hs⟩ := shapeOk_yes h
  have h0 : s.getD (l.length - 1) 0 = 0 := by
    unfold shapeOk startsLast at h
    rw [hs] at h
    simp only [List.length_map, Bool.and_eq_true, beq_iff_eq] at h
    exact h.2
  obtain ⟨p, x, hx, _, hm⟩ := parent_of hs i (l.length - 1) (by omega) (by omega) hi
  exact ⟨p, x, hx, hm⟩
theorem depth_kid {l : List Node} (h : Ahead l) {p i : Nat} {x : Node} (hx : l[p]? = some x) (hm : (i : Int) ∈ x.kids) : (treeIx l i).depth < (treeIx l p).depth := by
  rw [treeIx_eq h hx, Tree.depth]
  have := Tree.depth_mem (t := treeIx l i) (l := x.kids.map fun k => treeIx l k.toNat) (List.mem_map.2 ⟨(i : Int), hm, by simp⟩)
  omega
theorem depth_root {l : List Node} (h : shapeOk (l.map Node.kids) = true) : ∀ (d i : Nat), i + d = l.length - 1 → (treeIx l i).depth ≤ (rootTree l).depth := by
  have ha := shapeOk_ahead h
  intro d
  induction d using Nat.strongRecOn with
  | _ d ih =>
    intro i hd
    by_cases h0 : d = 0
    · obtain rfl : i = l.length - 1 := by omega
      exact Nat.le_refl _
    · obtain ⟨p, x, hx, hm⟩ := parent_at h (i := i) (by omega)
      have h1 := depth_kid ha hx hm
      have h2 := ha p x hx _ hm
      have h3 := (List.getElem?_eq_some_iff.1 hx).1
      have := ih (l.length - 1 - p) (by omega) p (by omega)
      omega
theorem depthOf_part {l : List Node} (h : shapeOk (l.map Node.kids) = true) {i : Nat} (hi : i < l.length) (hl : (part l (i : Int)).length ≤ 400) : depthOf (part l (i : Int)) = (treeIx l i).depth := by
  rw [part_add h hi] at hl ⊢
  exact depthOf_tree _ hl
/-- Where the part of a node begins. -/
def startAt (l : List Node) (i : Int) : Int := if inPartB l i = true then (match starts (l.map Node.kids) with | none => 0 | some s => (s.getD i.toNat 0 : Nat)) else -1
where inPartB (l : List Node) (i : Int) : Bool := shapeOk (l.map Node.kids) && decide (0 ≤ i ∧ i < l.length)
theorem part_count {l : List Node} (h : shapeOk (l.map Node.kids) = true) {i : Nat} (hi : i < l.length) : 0 ≤ startAt l (i : Int) ∧ startAt l (i : Int) ≤ (i : Int) ∧ ((part l (i : Int)).length : Int) = (i : Int) - startAt l (i : Int) + 1 := by
  obtain ⟨h1, h2, s, hs⟩ := shapeOk_yes h
  have hle := (starts_len hs).1.getD i
  have e : startAt l (i : Int) = (s.getD i 0 : Nat) := by
    unfold startAt
    rw [if_pos (by unfold startAt.inPartB; rw [h]; simp; omega), hs]
    simp
  rw [e]
  refine ⟨by omega, by omega, ?_⟩
  unfold part
  rw [if_pos ⟨h, by omega, by omega⟩, hs]
  simp only [Int.toNat_natCast, List.length_map]
  rw [seg_len (by omega)]
  omega
end Go.Proofs.YtkelhmgdajiocaaGreatDoor
/- Walks and lemmas of this seat (PTreeT): what each theorem says of the functions that it names. Conditions: those that each theorem states. -/
namespace Go.Proofs.YtkelhmgdajiocaaGreatDoor
set_option linter.unusedVariables false
set_option linter.unusedSimpArgs false
open Go.RowKit

/-! Valid trees, said of the tree. -/
/-- May the kids, from number j on, be of their kinds? -/
def kidsOkT (k op : Int) (n : Nat) : Nat → List Tree → Bool
  | _, [] => true
  | j, t :: ts => kidOkB k op n j t.kind && kidsOkT k op n (j + 1) ts
mutual
def Tree.okT : Tree → Bool
  | .mk k o a b l => (fieldsOk k o (saysOf a b) (l.length : Nat) && kidsOkT k o l.length 0 l) && Tree.okTL l
def Tree.okTL : List Tree → Bool
  | [] => true
  | t :: l => t.okT && Tree.okTL l
end
theorem Tree.okT_eq (t : Tree) : t.okT = ((fieldsOk t.kind t.op (saysOf t.text t.other) (t.kids.length : Nat) && kidsOkT t.kind t.op t.kids.length 0 t.kids) && Tree.okTL t.kids) := by cases t; rw [Tree.okT]; rfl
theorem Tree.okTL_all (l : List Tree) : Tree.okTL l = l.all Tree.okT := by
  induction l with
  | nil => rfl
  | cons t l ih => rw [Tree.okTL, ih]; rfl
theorem kindAt_tree (L : List Node) (k : Int) : kindAt L k = (treeIx L k.toNat).kind := by
  unfold kindAt treeIx treeOf
  cases L[k.toNat]? with
  | none => rfl
  | some x => rfl
theorem kidsOk_tree (L : List Node) (k op : Int) (n : Nat) : ∀ (ks : List Int) (j : Nat), kidsOk L k op n j ks = kidsOkT k op n j (ks.map fun q => treeIx L q.toNat) := by
  intro ks
  induction ks with
  | nil => intro j; rfl
  | cons q ks ih => intro j; rw [kidsOk, List.map_cons, kidsOkT, ih, kindAt_tree]
theorem adds_ok {L : List Node} : ∀ (l : List Tree), (∀ t ∈ l, ∀ acc : List Node, t.addTo acc <+: L → (t.addTo acc).all (nodeOk L) = (acc.all (nodeOk L) && t.okT)) →
    ∀ (acc : List Node) (ks : List Int), (Tree.addsTo l acc ks).1 <+: L → (Tree.addsTo l acc ks).1.all (nodeOk L) = (acc.all (nodeOk L) && Tree.okTL l) := by
  intro l
  induction l with
  | nil => intro _ acc ks _; simp [Tree.addsTo, Tree.okTL]
  | cons t l ih =>
    intro h acc ks hp
    rw [Tree.addsTo] at hp
    rw [Tree.addsTo, ih (fun v hv => h v (by simp [hv])) _ _ hp, h t (by simp) acc ((addsTo_prefix l _ _).trans hp), Tree.okTL, Bool.and_assoc]
theorem addTo_okN {L : List Node} (ha : Ahead L) (n : Nat) : ∀ (t : Tree), SizeOf.sizeOf t < n → ∀ (acc : List Node), t.addTo acc <+: L → (t.addTo acc).all (nodeOk L) = (acc.all (nodeOk L) && t.okT) := by
  induction n with
  | zero => intro t h; omega
  | succ n ih =>
    intro t h acc hp
    have hp2 : (Tree.addsTo t.kids acc []).1 <+: L := List.IsPrefix.trans (by rw [t.addTo_eq]; exact List.prefix_append _ _) hp
    obtain ⟨ks', h1, h2⟩ := adds_back (L := L) t.kids (fun v _ acc hp => addTo_backN ha _ v (Nat.lt_succ_self _) acc hp) acc [] hp2
    have h3 := adds_ok (L := L) t.kids (fun v hv => ih v (by have := Tree.kid_lt hv; omega)) acc [] hp2
    have hl : ks'.length = t.kids.length := by rw [← h2]; simp
    rw [t.addTo_eq, List.all_append, h3, h1, List.nil_append]
    simp only [List.all_cons, List.all_nil, Bool.and_true]
    rw [t.okT_eq]
    unfold nodeOk nodeFields
    rw [kidsOk_tree]
    simp only [h2, hl]
    rw [Bool.and_assoc]
    congr 1
    exact Bool.and_comm _ _
/-- A tree that is laid as a list is valid exactly if the tree is. -/
theorem treeOk_tree (t : Tree) : treeOk (t.addTo []) = (decide ((t.addTo []).length ≤ 400) && (t.okT && decide (t.depth ≤ 40))) := by
  obtain ⟨s, h1, _⟩ := tree_starts t
  have h2 := addTo_okN (ahead_of h1) _ t (Nat.lt_succ_self _) [] (List.prefix_refl _)
  unfold treeOk
  rw [shapeOk_tree, root_back, h2]
  simp
theorem treeOk_back {l : List Node} (h : treeOk l = true) : (rootTree l).addTo [] = l ∧ (rootTree l).okT = true ∧ (rootTree l).depth ≤ 40 ∧ l.length ≤ 400 := by
  have h1 := tree_of (treeOk_shape h)
  have h2 := treeOk_tree (rootTree l)
  rw [h1, h] at h2
  have h3 := h2.symm
  simp only [Bool.and_eq_true, decide_eq_true_eq] at h3
  exact ⟨h1, h3.2.1, h3.2.2, h3.1⟩
end Go.Proofs.YtkelhmgdajiocaaGreatDoor
/- Walks and lemmas of this seat (PPost): what each theorem says of the functions that it names. Conditions: those that each theorem states. -/
namespace Go.Proofs.YtkelhmgdajiocaaGreatDoor
set_option linter.unusedVariables false
set_option linter.unusedSimpArgs false
open Go.RowKit

/-! The trees of a tree, in the order of the list that it is laid as. -/
mutual
def Tree.post : Tree → List Tree
  | .mk k o a b l => Tree.postL l ++ [.mk k o a b l]
def Tree.postL : List Tree → List Tree
  | [] => []
  | t :: l => t.post ++ Tree.postL l
end
theorem Tree.post_eq (t : Tree) : t.post = Tree.postL t.kids ++ [t] := by cases t; rw [Tree.post]; rfl
theorem Tree.postL_flat (l : List Tree) : Tree.postL l = l.flatMap Tree.post := by
  induction l with
  | nil => rfl
  | cons t l ih => rw [Tree.postL, ih]; rfl
theorem adds_post {L : List Node} : ∀ (l : List Tree), (∀ t ∈ l, ∀ acc : List Node, t.addTo acc <+: L → (t.addTo acc).length = acc.length + t.post.length ∧ (List.range' acc.length t.post.length).map (treeIx L) = t.post) →
    ∀ (acc : List Node) (ks : List Int), (Tree.addsTo l acc ks).1 <+: L → (Tree.addsTo l acc ks).1.length = acc.length + (Tree.postL l).length ∧ (List.range' acc.length (Tree.postL l).length).map (treeIx L) = Tree.postL l := by
  intro l
  induction l with
  | nil => intro _ acc ks _; simp [Tree.addsTo, Tree.postL]
  | cons t l ih =>
    intro h acc ks hp
    rw [Tree.addsTo] at hp
    obtain ⟨h1, h2⟩ := ih (fun v hv => h v (by simp [hv])) _ _ hp
    obtain ⟨h3, h4⟩ := h t (by simp) acc ((addsTo_prefix l _ _).trans hp)
    rw [Tree.addsTo, Tree.postL, List.length_append]
    refine ⟨by omega, ?_⟩
    rw [← List.range'_append_1, List.map_append, h4, ← h3, h2]
theorem addTo_postN {L : List Node} (ha : Ahead L) (n : Nat) : ∀ (t : Tree), SizeOf.sizeOf t < n → ∀ (acc : List Node), t.addTo acc <+: L → (t.addTo acc).length = acc.length + t.post.length ∧ (List.range' acc.length t.post.length).map (treeIx L) = t.post := by
  induction n with
  | zero => intro t h; omega
  | succ n ih =>
    intro t h acc hp
    have hp2 : (Tree.addsTo t.kids acc []).1 <+: L := List.IsPrefix.trans (by rw [t.addTo_eq]; exact List.prefix_append _ _) hp
    obtain ⟨h1, h2⟩ := adds_post (L := L) t.kids (fun v hv => ih v (by have := Tree.kid_lt hv; omega)) acc [] hp2
    have h3 := addTo_backN ha _ t (Nat.lt_succ_self _) acc hp
    have h4 : (t.addTo acc).length = acc.length + t.post.length := by rw [t.addTo_eq, t.post_eq]; simp; omega
    refine ⟨h4, ?_⟩
    rw [t.post_eq, List.length_append, List.length_singleton, ← List.range'_append_1, List.map_append, h2]
    congr 1
    rw [h4, t.post_eq, List.length_append, List.length_singleton, show acc.length + ((Tree.postL t.kids).length + 1) - 1 = acc.length + (Tree.postL t.kids).length by omega] at h3
    rw [List.range'_one, List.map_cons, List.map_nil, h3]
theorem tree_post (t : Tree) : (t.addTo []).length = t.post.length ∧ (List.range (t.addTo []).length).map (treeIx (t.addTo [])) = t.post := by
  obtain ⟨s, h1, _⟩ := tree_starts t
  obtain ⟨h2, h3⟩ := addTo_postN (ahead_of h1) _ t (Nat.lt_succ_self _) [] (List.prefix_refl _)
  simp only [List.length_nil, Nat.zero_add] at h2 h3
  exact ⟨h2, by rw [h2, List.range_eq_range']; exact h3⟩
theorem list_post {l : List Node} (h : shapeOk (l.map Node.kids) = true) : (List.range l.length).map (treeIx l) = (rootTree l).post ∧ l.length = (rootTree l).post.length := by
  have h1 := tree_of h
  have h2 := tree_post (rootTree l)
  rw [h1] at h2
  exact ⟨h2.2, h2.1⟩
theorem treeIx_at {l : List Node} (ha : Ahead l) {i : Nat} {x : Node} (hx : l[i]? = some x) : (treeIx l i).kind = x.kind ∧ (treeIx l i).op = x.op ∧ (treeIx l i).text = x.text ∧ (treeIx l i).other = x.other ∧ (treeIx l i).kids = x.kids.map fun k => treeIx l k.toNat := by
  rw [treeIx_eq ha hx]
  exact ⟨rfl, rfl, rfl, rfl, rfl⟩
/-- What is said of each node without its kids is said of each tree. -/
theorem map_post {β : Type} {l : List Node} (ha : Ahead l) (g : Node → β) (gT : Tree → β) (h : ∀ (x : Node) (ks : List Tree), g x = gT (.mk x.kind x.op x.text x.other ks)) : l.map g = ((List.range l.length).map (treeIx l)).map gT := by
  apply List.ext_getElem?
  intro i
  rw [List.getElem?_map, List.getElem?_map, List.getElem?_map]
  by_cases hi : i < l.length
  · obtain ⟨x, hx⟩ := get_of_lt hi
    rw [List.getElem?_range hi, hx]
    simp only [Option.map_some]
    rw [treeIx_eq ha hx, h x]
  · rw [List.getElem?_eq_none (by omega), List.getElem?_eq_none (by simp; omega)]
    rfl
theorem map_postT {β : Type} (t : Tree) (g : Node → β) (gT : Tree → β) (h : ∀ (x : Node) (ks : List Tree), g x = gT (.mk x.kind x.op x.text x.other ks)) : (t.addTo []).map g = t.post.map gT := by
  obtain ⟨s, h1, _⟩ := tree_starts t
  rw [map_post (ahead_of h1) g gT h, (tree_post t).2]
theorem map_postL {β : Type} {l : List Node} (hs : shapeOk (l.map Node.kids) = true) (g : Node → β) (gT : Tree → β) (h : ∀ (x : Node) (ks : List Tree), g x = gT (.mk x.kind x.op x.text x.other ks)) : l.map g = (rootTree l).post.map gT := by
  have := map_postT (rootTree l) g gT h
  rwa [tree_of hs] at this
theorem Tree.post_ok (n : Nat) : ∀ (t : Tree), SizeOf.sizeOf t < n → t.okT = true → ∀ u ∈ t.post, u.okT = true := by
  induction n with
  | zero => intro t h; omega
  | succ n ih =>
    intro t h ho u hu
    rw [t.post_eq] at hu
    rcases List.mem_append.1 hu with hu | hu
    · rw [Tree.postL_flat] at hu
      obtain ⟨v, hv, hu⟩ := List.mem_flatMap.1 hu
      have h2 := ho
      rw [t.okT_eq, Tree.okTL_all] at h2
      simp only [Bool.and_eq_true, List.all_eq_true] at h2
      exact ih v (by have := Tree.kid_lt hv; omega) (h2.2 v hv) u hu
    · rw [List.mem_singleton.1 hu]; exact ho
theorem Tree.okT_kids {t : Tree} (h : t.okT = true) : fieldsOk t.kind t.op (saysOf t.text t.other) (t.kids.length : Nat) = true ∧ kidsOkT t.kind t.op t.kids.length 0 t.kids = true ∧ ∀ u ∈ t.kids, u.okT = true := by
  rw [t.okT_eq, Tree.okTL_all] at h
  simp only [Bool.and_eq_true, List.all_eq_true] at h
  exact ⟨h.1.1, h.1.2, h.2⟩
theorem kidsOkT_at {k op : Int} {n : Nat} : ∀ (l : List Tree) (j : Nat), kidsOkT k op n j l = true → ∀ (q : Nat) (t : Tree), l[q]? = some t → kidOkB k op n (j + q : Nat) t.kind = true := by
  intro l
  induction l with
  | nil => intro j _ q t h; simp at h
  | cons x l ih =>
    intro j h q t hq
    rw [kidsOkT, Bool.and_eq_true] at h
    cases q with
    | zero => simp at hq; subst hq; simpa using h.1
    | succ q =>
      have := ih (j + 1) h.2 q t (by simpa using hq)
      rwa [show j + 1 + q = j + (q + 1) by omega] at this
theorem comment_leaf {t : Tree} (h : t.okT = true) (hk : t.kind = 34) : t.kids = [] := by
  have h1 := (Tree.okT_kids h).1
  rw [hk] at h1
  have h2 : inB ((t.kids.length : Nat) : Int) 0 0 = true := by
    unfold fieldsOk at h1
    simp only [Bool.and_eq_true] at h1
    have := h1.2
    simpa [least, most] using this
  unfold inB at h2
  have : t.kids.length = 0 := by simp only [Bool.and_eq_true, decide_eq_true_eq] at h2; omega
  exact List.eq_nil_of_length_eq_zero this
/-- Comments stand in blocks and programs alone. -/
theorem kid_comment {k op n j : Int} (h : kidOkB k op n j 34 = true) : k = 33 ∨ k = 45 := by
  unfold kidOkB at h
  have e1 : isLvalueB 34 = false := by decide
  have e2 : isExprB 34 = false := by decide
  have e3 : isItemB 34 = false := by decide
  simp only [e1, e2, e3] at h
  by_cases h33 : k = 33
  · exact .inl h33
  by_cases h45 : k = 45
  · exact .inr h45
  exfalso
  simp only [h33, h45, if_false] at h
  revert h
  repeat' split
  all_goals intro h
  all_goals first | omega | (simp at h; done) | simp_all
theorem Tree.kids_bare {t : Tree} (h : t.okT = true) (hk : t.kind ≠ 33 ∧ t.kind ≠ 45) : Tree.bareL t.kids = t.kids.map Tree.bare := by
  have h1 := (Tree.okT_kids h).2.1
  rw [Tree.bareL_eq, List.filter_eq_self.2 fun u hu => ?_]
  obtain ⟨q, hq⟩ := List.getElem?_of_mem hu
  have h2 := kidsOkT_at _ _ h1 q u hq
  rw [decide_eq_true_eq]
  intro e
  rw [e] at h2
  have := kid_comment h2
  omega
theorem Tree.bare_kind (t : Tree) : t.bare.kind = t.kind ∧ t.bare.op = t.op ∧ t.bare.text = t.text ∧ t.bare.other = t.other ∧ t.bare.kids = Tree.bareL t.kids := by rw [t.bare_eq]; exact ⟨rfl, rfl, rfl, rfl, rfl⟩
theorem bareL_post : ∀ (l : List Tree), (∀ t ∈ l, t.okT = true) → (∀ t ∈ l, t.kind ≠ 34 → t.bare.post = (t.post.filter fun u => decide (u.kind ≠ 34)).map Tree.bare) → Tree.postL (Tree.bareL l) = ((Tree.postL l).filter fun u => decide (u.kind ≠ 34)).map Tree.bare := by
  intro l
  induction l with
  | nil => intro _ _; rfl
  | cons t l ih =>
    intro h1 h2
    have h3 := ih (fun u hu => h1 u (by simp [hu])) fun u hu => h2 u (by simp [hu])
    rw [Tree.bareL, Tree.postL, List.filter_append, List.map_append]
    by_cases hk : t.kind = 34
    · rw [if_pos hk, t.post_eq, comment_leaf (h1 t (by simp)) hk, h3]
      simp [Tree.postL, hk]
    · rw [if_neg hk, Tree.postL, h3, h2 t (by simp) hk]
theorem bare_postN (n : Nat) : ∀ (t : Tree), SizeOf.sizeOf t < n → t.okT = true → t.kind ≠ 34 → t.bare.post = (t.post.filter fun u => decide (u.kind ≠ 34)).map Tree.bare := by
  induction n with
  | zero => intro t h; omega
  | succ n ih =>
    intro t h ho hk
    have h1 := (Tree.okT_kids ho).2.2
    have h2 := bareL_post t.kids h1 fun u hu hk => ih u (by have := Tree.kid_lt hu; omega) (h1 u hu) hk
    rw [Tree.post_eq t.bare, t.bare_kind.2.2.2.2, h2, t.post_eq, List.filter_append, List.map_append]
    simp [hk]
theorem bare_post {t : Tree} (ho : t.okT = true) (hk : t.kind ≠ 34) : t.bare.post = (t.post.filter fun u => decide (u.kind ≠ 34)).map Tree.bare := bare_postN _ t (Nat.lt_succ_self _) ho hk
end Go.Proofs.YtkelhmgdajiocaaGreatDoor
