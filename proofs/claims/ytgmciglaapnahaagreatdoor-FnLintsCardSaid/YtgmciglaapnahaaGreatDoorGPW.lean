/- Walks and lemmas of this seat (PLintsLaw): what each theorem says of the functions that it names. Conditions: those that each theorem states. -/
import Derived.Test.YtgmciglaapnahaaGreatDoorGTR
import Derived.Test.YtgmciglaapnahaaGreatDoorGL
namespace Go.Proofs.YtgmciglaapnahaaGreatDoor
set_option linter.unusedVariables false
set_option linter.unusedSimpArgs false
open Go.RowKit Go.Lib

/-! Comments do not count for what is odd. -/
def Tree.node (t : Tree) : Node := ⟨t.kind, t.op, t.text, t.other, []⟩
theorem usesOf_flat (s : ByteArray) (l : List Node) : usesOf s l = (l.flatMap fun x => List.replicate (usesAt s x) ()).length := by
  induction l with
  | nil => rfl
  | cons x l ih => rw [usesOf, ih, List.flatMap_cons, List.length_append, List.length_replicate]
def usesT (s : ByteArray) (t : Tree) : Nat := (t.post.flatMap fun u => List.replicate (usesAt s u.node) ()).length
theorem usesT_of (s : ByteArray) (t : Tree) : usesOf s (t.addTo []) = usesT s t := by
  rw [usesOf_flat, List.flatMap_def, map_postT t _ (fun u => List.replicate (usesAt s u.node) ()) (fun x ks => rfl), ← List.flatMap_def]
  rfl
theorem usesT_bare (s : ByteArray) {t : Tree} (h : t.okT = true) : usesT s t.bare = usesT s t := by
  unfold usesT
  rw [flat_bare h _ (fun u _ => by obtain ⟨e1, e2, e3, e4, _⟩ := u.bare_kind; unfold Tree.node; rw [e1, e2, e3, e4]) fun u hu => by
    unfold usesAt Tree.node; simp [hu, isTextK]]
def paramsT (u : Tree) : List ByteArray := (u.kids.take (u.kids.length - 1)).map Tree.text
def bodyT (u : Tree) : Tree := u.kids.getD (u.kids.length - 1) (.mk 0 0 ⟨#[]⟩ ⟨#[]⟩ [])
def unusedT (u : Tree) : List ByteArray := namesT ((paramsT u).filter fun s => usesT s (bodyT u) == 0)
theorem textAt_tree (L : List Node) (k : Int) : textAt L k = (treeIx L k.toNat).text := by
  unfold textAt treeIx treeOf
  cases L[k.toNat]? with
  | none => rfl
  | some x => rfl
theorem paramsT_of {l : List Node} (ha : Ahead l) {n : Nat} {x : Node} (hx : l[n]? = some x) : paramsAt l n = paramsT (treeIx l n) := by
  unfold paramsAt paramKids paramsT
  rw [hx, (treeIx_at ha hx).2.2.2.2, List.length_map, ← List.map_take, List.map_map]
  exact List.map_congr_left fun k _ => textAt_tree l k
theorem unusedT_of {l : List Node} (hok : treeOk l = true) {n : Nat} {x : Node} (hx : l[n]? = some x) (hk : x.kind = 44) (h1 : 1 ≤ x.kids.length) : isFuncB l (n : Int) = true ∧ paramsOf l (n : Int) = paramsT (treeIx l n) ∧ unusedOf l (n : Int) = unusedT (treeIx l n) := by
  have ha := shapeOk_ahead (treeOk_shape hok)
  have hl := (List.getElem?_eq_some_iff.1 hx).1
  have hf : isFuncB l (n : Int) = true := by
    unfold isFuncB
    rw [hok, kindAt_of hx, hk]
    simp [inB]
    omega
  have hp : paramsOf l (n : Int) = paramsT (treeIx l n) := by
    unfold paramsOf
    rw [if_pos hf, Int.toNat_natCast, paramsT_of ha hx]
  refine ⟨hf, hp, ?_⟩
  obtain ⟨m, hm, hml, hb⟩ := body_kid hok hx h1
  have hbt : bodyT (treeIx l n) = treeIx l m := by
    unfold bodyT
    rw [(treeIx_at ha hx).2.2.2.2, List.length_map, List.getD_eq_getElem?_getD, List.getElem?_map, hm]
    rfl
  unfold unusedOf unusedT
  rw [hp, Int.toNat_natCast]
  congr 1
  refine List.filter_congr fun s _ => ?_
  unfold idle bodyOf
  rw [hb, part_add (treeOk_shape hok) hml, usesT_of, hbt]
def lintLenT : List ByteArray → List Tree → Nat
  | _, [] => 0
  | met, u :: r => (if hasT met u.text = true then 1 else 0) + ((repeatedOf (paramsT u)).length + (unusedT u).length) + lintLenT (met ++ [u.text]) r
theorem fn_kids {x : Node} (h : nodeFields x = true) (hk : x.kind = 44) : 1 ≤ x.kids.length := by
  unfold nodeFields fieldsOk at h
  simp only [Bool.and_eq_true] at h
  have h2 := h.2
  unfold inB at h2
  simp only [Bool.and_eq_true, decide_eq_true_eq] at h2
  have h3 := h2.1
  rw [hk] at h3
  simp [least] at h3
  omega
theorem lintFns_lenT {l : List Node} (hok : treeOk l = true) : ∀ (is : List Int), (∀ i ∈ is, ∃ (n : Nat) (x : Node), i = (n : Int) ∧ l[n]? = some x ∧ x.kind = 44) → ∀ met, (lintFns l met is).length = lintLenT met (is.map fun i => treeIx l i.toNat) := by
  intro is
  induction is with
  | nil => intro _ met; rfl
  | cons i is ih =>
    intro h met
    obtain ⟨n, x, rfl, hx, hk⟩ := h i (by simp)
    have h1 := fn_kids (treeOk_node hok (List.mem_of_getElem? hx)).1 hk
    obtain ⟨h2, h3, h4⟩ := unusedT_of hok hx hk h1
    have ht : textAt l (n : Int) = (treeIx l n).text := by rw [textAt_tree]; rfl
    rw [lintFns, List.length_append, ih (fun j hj => h j (by simp [hj])), List.map_cons, lintLenT]
    unfold lintFn again1 repeated
    rw [List.length_append, List.length_append, List.length_map, List.length_map, h3, h4, ht]
    simp only [Int.toNat_natCast]
    congr 2
    split <;> rfl
theorem funcsOf_at {l : List Node} (ha : Ahead l) : ∀ (r : List Node) (k : Nat), (∀ j x, r[j]? = some x → l[k + j]? = some x) → ((funcsOf k r).map fun i => treeIx l i.toNat) = ((List.range' k r.length).map (treeIx l)).filter (fun u => decide (u.kind = 44)) ∧ ∀ i ∈ funcsOf k r, ∃ (n : Nat) (x : Node), i = (n : Int) ∧ l[n]? = some x ∧ x.kind = 44 := by
  intro r
  induction r with
  | nil => intro k _; exact ⟨rfl, by simp [funcsOf]⟩
  | cons x r ih =>
    intro k h
    have hx := h 0 x rfl
    rw [Nat.add_zero] at hx
    obtain ⟨h1, h2⟩ := ih (k + 1) fun j y hy => by
      have := h (j + 1) y (by simpa using hy)
      rwa [show k + (j + 1) = k + 1 + j by omega] at this
    rw [funcsOf, List.length_cons, List.range'_succ, List.map_cons, List.filter_cons, (treeIx_at ha hx).1]
    by_cases hk : x.kind = 44
    · rw [if_pos hk, if_pos (by simp [hk]), List.map_cons, h1]
      refine ⟨rfl, fun i hi => ?_⟩
      rcases List.mem_cons.1 hi with rfl | hi
      · exact ⟨k, x, rfl, hx, hk⟩
      · exact h2 i hi
    · rw [if_neg hk, if_neg (by simp [hk]), h1]
      exact ⟨rfl, h2⟩
theorem funcsOf_post {l : List Node} (hok : treeOk l = true) : ((funcsOf 0 l).map fun i => treeIx l i.toNat) = (rootTree l).post.filter (fun u => decide (u.kind = 44)) ∧ ∀ i ∈ funcsOf 0 l, ∃ (n : Nat) (x : Node), i = (n : Int) ∧ l[n]? = some x ∧ x.kind = 44 := by
  have hs := treeOk_shape hok
  have h := funcsOf_at (shapeOk_ahead hs) l 0 fun j x hx => by rwa [Nat.zero_add]
  rw [← List.range_eq_range', (list_post hs).1] at h
  exact h
/-! Names that are not defined. -/
def defN (s : ByteArray) (x : Node) : List Unit := if isDefn s x = true then [()] else []
theorem any_flat (s : ByteArray) (l : List Node) : l.any (isDefn s) = !(l.flatMap (defN s)).isEmpty := by
  induction l with
  | nil => rfl
  | cons x l ih =>
    rw [List.any_cons, List.flatMap_cons, ih]
    unfold defN
    cases isDefn s x <;> simp
def undG (D : ByteArray → Bool) (x : Node) : List ByteArray := if x.kind = 7 ∧ D x.text = false then [x.text] else []
theorem undefs_flat (L : List Node) : ∀ l : List Node, undefs L l = l.flatMap (undG fun s => L.any (isDefn s)) := by
  intro l
  induction l with
  | nil => rfl
  | cons x l ih =>
    rw [undefs, List.flatMap_cons, ih]
    unfold undG
    split <;> rfl
theorem node_bare (u : Tree) : u.bare.node = u.node := by obtain ⟨e1, e2, e3, e4, _⟩ := u.bare_kind; unfold Tree.node; rw [e1, e2, e3, e4]
/-- What the nodes say without their kids, in a row: comments that say nothing do not matter. -/
theorem flat_noComments {β : Type} {l : List Node} (hok : treeOk l = true) (g : Node → List β) (h : ∀ (x : Node) (ks : List Int), g x = g ⟨x.kind, x.op, x.text, x.other, ks⟩) (h2 : ∀ x : Node, x.kind = 34 → g x = []) : (noComments l).flatMap g = l.flatMap g := by
  obtain ⟨h3, h4⟩ := noComments_ok hok
  have e : ∀ (x : Node) (ks : List Tree), g x = (fun u : Tree => g u.node) (.mk x.kind x.op x.text x.other ks) := fun x ks => h x []
  rw [flat_list (treeOk_shape h3) g (fun u => g u.node) e, flat_list (treeOk_shape hok) g (fun u => g u.node) e, h4]
  exact flat_bare (treeOk_back hok).2.1 _ (fun u _ => by rw [node_bare]) fun u hu => h2 _ hu
theorem undefined_bare {l : List Node} (hok : treeOk l = true) : undefined (noComments l) = undefined l := by
  have h1 : ∀ s, (noComments l).any (isDefn s) = l.any (isDefn s) := fun s => by
    rw [any_flat, any_flat, flat_noComments hok (defN s) (fun x ks => rfl) fun x hx => by unfold defN isDefn; simp [hx]]
  unfold undefined
  rw [undefs_flat, undefs_flat, show (fun s => (noComments l).any (isDefn s)) = fun s => l.any (isDefn s) from funext h1]
  rw [flat_noComments hok (undG fun s => l.any (isDefn s)) (fun x ks => rfl) fun x hx => by unfold undG; simp [hx]]
/-! Conditions that assign. -/
def assignsT (u : Tree) : Bool := decide (0 ≤ condIx u.kind) && (u.kids.map Tree.kind).getD (condIx u.kind).toNat 0 == 15
theorem condIx_lt {x : Node} (h : nodeFields x = true) (hc : 0 ≤ condIx x.kind) : (condIx x.kind).toNat < x.kids.length := by
  have h2 : x.kind = 28 ∨ x.kind = 29 ∨ x.kind = 30 ∨ x.kind = 31 := by
    unfold condIx at hc
    split at hc
    · omega
    · split at hc
      · omega
      · omega
  have := kids_two h h2
  have : condIx x.kind ≤ 1 := by unfold condIx; split <;> (try split) <;> omega
  omega
theorem assigns_tree {l : List Node} (hok : treeOk l = true) {i : Nat} {x : Node} (hx : l[i]? = some x) : assigns l x = assignsT (treeIx l i) := by
  have ha := shapeOk_ahead (treeOk_shape hok)
  obtain ⟨e1, _, _, _, e5⟩ := treeIx_at ha hx
  unfold assigns assignsT
  rw [e1, e5, List.map_map]
  by_cases hc : 0 ≤ condIx x.kind
  · have hlt := condIx_lt (treeOk_node hok (List.mem_of_getElem? hx)).1 hc
    obtain ⟨k, hk⟩ := get_of_lt hlt
    rw [List.getD_eq_getElem?_getD, List.getD_eq_getElem?_getD, List.getElem?_map, hk]
    simp only [Option.getD_some, Option.map_some, Function.comp]
    rw [kindAt_tree]
  · simp [hc]
theorem assignedIn_count {l : List Node} (hok : treeOk l = true) : ∀ (r : List Node) (k : Nat), (∀ j x, r[j]? = some x → l[k + j]? = some x) → (assignedIn l k r).length = (((List.range' k r.length).map (treeIx l)).flatMap fun u => if assignsT u = true then [()] else []).length := by
  intro r
  induction r with
  | nil => intro k _; rfl
  | cons x r ih =>
    intro k h
    have hx := h 0 x rfl
    rw [Nat.add_zero] at hx
    have h1 := ih (k + 1) fun j y hy => by
      have := h (j + 1) y (by simpa using hy)
      rwa [show k + (j + 1) = k + 1 + j by omega] at this
    rw [assignedIn, List.length_cons, List.range'_succ, List.map_cons, List.flatMap_cons, List.length_append, assigns_tree hok hx, ← h1]
    split
    · simp [*]; omega
    · simp [*]
theorem assignedAll_count {l : List Node} (hok : treeOk l = true) : (assignedAll l).length = ((rootTree l).post.flatMap fun u => if assignsT u = true then [()] else []).length := by
  unfold assignedAll
  rw [if_pos hok, assignedIn_count hok l 0 fun j x hx => by rwa [Nat.zero_add]]
  rw [← List.range_eq_range', (list_post (treeOk_shape hok)).1]
theorem map_kind_bare (l : List Tree) : (l.map Tree.bare).map Tree.kind = l.map Tree.kind := by
  rw [List.map_map]
  exact List.map_congr_left fun u _ => u.bare_kind.1
theorem assigns_bare {u : Tree} (h : u.okT = true) : assignsT u.bare = assignsT u := by
  unfold assignsT
  rw [u.bare_kind.1, u.bare_kind.2.2.2.2]
  by_cases hk : u.kind ≠ 33 ∧ u.kind ≠ 45
  · rw [Tree.kids_bare h hk, map_kind_bare]
  · have : condIx u.kind = -1 := by unfold condIx; rw [if_neg (by omega), if_neg (by omega)]
    rw [this]; rfl
theorem assigned_bare {l : List Node} (hok : treeOk l = true) : (assignedAll (noComments l)).length = (assignedAll l).length := by
  obtain ⟨h3, h4⟩ := noComments_ok hok
  have ho := (treeOk_back hok).2.1
  rw [assignedAll_count h3, assignedAll_count hok, h4]
  congr 1
  exact flat_bare ho _ (fun u hu => by rw [assigns_bare (Tree.post_ok _ _ (Nat.lt_succ_self _) ho u hu)]) fun u hu => by unfold assignsT condIx; simp [hu]
/-! Functions. -/
theorem bodyT_bare {u : Tree} (h : u.okT = true) (hk : u.kind = 44) : paramsT u.bare = paramsT u ∧ unusedT u.bare = unusedT u := by
  have e5 := u.bare_kind.2.2.2.2
  rw [Tree.kids_bare h (by omega)] at e5
  have hp : paramsT u.bare = paramsT u := by
    unfold paramsT
    rw [e5, List.length_map, ← List.map_take, List.map_map]
    exact List.map_congr_left fun v _ => v.bare_kind.2.2.1
  refine ⟨hp, ?_⟩
  unfold unusedT
  rw [hp]
  congr 1
  refine List.filter_congr fun s _ => ?_
  congr 1
  unfold bodyT
  rw [e5, List.length_map, List.getD_eq_getElem?_getD, List.getD_eq_getElem?_getD, List.getElem?_map]
  cases hq : u.kids[u.kids.length - 1]? with
  | none => rfl
  | some v => exact usesT_bare s ((Tree.okT_kids h).2.2 v (List.mem_of_getElem? hq))
theorem lintLen_bare : ∀ (P : List Tree), (∀ u ∈ P, u.okT = true ∧ u.kind = 44) → ∀ met, lintLenT met (P.map Tree.bare) = lintLenT met P := by
  intro P
  induction P with
  | nil => intro _ met; rfl
  | cons u P ih =>
    intro h met
    obtain ⟨h1, h2⟩ := h u (by simp)
    obtain ⟨h3, h4⟩ := bodyT_bare h1 h2
    rw [List.map_cons, lintLenT, lintLenT, ih (fun v hv => h v (by simp [hv])), h3, h4, u.bare_kind.2.2.1]
theorem fns_bare {t : Tree} (h : t.okT = true) : t.bare.post.filter (fun u => decide (u.kind = 44)) = (t.post.filter fun u => decide (u.kind = 44)).map Tree.bare := by
  by_cases hk : t.kind = 34
  · rw [bare_same h hk]
    have : ∀ u ∈ t.post, u.kind ≠ 44 := fun u hu => by
      rw [t.post_eq, comment_leaf h hk] at hu
      simp [Tree.postL] at hu
      rw [hu, hk]; decide
    rw [List.filter_eq_nil_iff.2 fun u hu => by simpa using this u hu]
    rfl
  · rw [bare_post h hk]
    have : ∀ P : List Tree, ((P.filter fun u => decide (u.kind ≠ 34)).map Tree.bare).filter (fun u => decide (u.kind = 44)) = (P.filter fun u => decide (u.kind = 44)).map Tree.bare := by
      intro P
      induction P with
      | nil => rfl
      | cons u P ih =>
        rw [List.filter_cons, List.filter_cons]
        by_cases h34 : u.kind = 34
        · rw [if_neg (by simp [h34]), if_neg (by simp [h34]), ih]
        · rw [if_pos (by simp [h34]), List.map_cons, List.filter_cons, u.bare_kind.1, ih]
          by_cases h44 : u.kind = 44
          · rw [if_pos (by simp [h44]), if_pos (by simp [h44]), List.map_cons]
          · rw [if_neg (by simp [h44]), if_neg (by simp [h44])]
    exact this _
theorem progOk_bare {l : List Node} (h : progOkB l = true) : progOkB (noComments l) = true := by
  have hok := progOk_tree h
  obtain ⟨h3, h4⟩ := noComments_ok hok
  have h5 : ∀ L : List Node, kindAt L ((L.length - 1 : Nat) : Int) = (rootTree L).kind := fun L => by rw [kindAt_tree]; rfl
  unfold progOkB at h ⊢
  rw [h5] at h ⊢
  rw [h3, h4, (rootTree l).bare_kind.1]
  rw [hok] at h
  exact h
/-- THE LAW: comments do not count. -/
theorem lints_bare {l : List Node} (h : progOkB l = true) : (lintsOf (noComments l)).length = (lintsOf l).length ∧ (assignedAll l).length ≤ (lintsOf l).length := by
  have hok := progOk_tree h
  obtain ⟨h3, h4⟩ := noComments_ok hok
  have ho := (treeOk_back hok).2.1
  have hp := progOk_bare h
  obtain ⟨f1, f2⟩ := funcsOf_post hok
  obtain ⟨g1, g2⟩ := funcsOf_post h3
  unfold lintsOf
  rw [if_pos h, if_pos hp]
  simp only [List.length_append, List.length_map]
  rw [lintFns_lenT hok _ f2, lintFns_lenT h3 _ g2, f1, g1, h4, fns_bare ho, lintLen_bare _ fun u hu => by
    have hu := List.mem_filter.1 hu
    exact ⟨Tree.post_ok _ _ (Nat.lt_succ_self _) ho u hu.1, by simpa using hu.2⟩]
  rw [undefined_bare hok, assigned_bare hok]
  omega
end Go.Proofs.YtgmciglaapnahaaGreatDoor
