/- Walks and lemmas of this seat (PFold): what each theorem says of the functions that it names. Conditions: those that each theorem states. -/
import Derived.Test.YtmemgmcopnaogaaGreatDoorGTR
import Derived.Test.YtmemgmcopnaogaaGreatDoorGQ
import Derived.Test.YtmemgmcopnaogaaGreatDoorGEV
import Derived.Test.YtmemgmcopnaogaaGreatDoorFFromInt
namespace Go.Proofs.YtmemgmcopnaogaaGreatDoor
set_option linter.unusedVariables false
set_option linter.unusedSimpArgs false
open Go.RowKit Go.Lib

/-! What is known, reckoned: trees. -/
theorem digs_dec (u : Nat) : ∀ c ∈ decDigits u, isDg c = true := by
  induction u using Nat.strongRecOn with
  | _ u ih =>
    by_cases h : u < 10
    · rw [decDigits, dif_pos h]; intro c hc; rw [List.mem_singleton.1 hc]; exact isDg_ofNat h
    · have hm : u % 10 < 10 := Nat.mod_lt _ (by omega)
      rw [decDigits, dif_neg h]
      intro c hc
      rcases List.mem_append.1 hc with hc | hc
      · exact ih _ (by omega) c hc
      · rw [List.mem_singleton.1 hc]; exact isDg_ofNat hm
theorem dig_all : ∀ l : List UInt8, (∀ c ∈ l, isDg c = true) → dig l = l.length := by
  intro l
  induction l with
  | nil => intro _; rfl
  | cons c l ih =>
    intro h
    have h1 := h c (by simp)
    have h2 : isDigitB (c.toNat : Int) = true := by
      unfold isDg at h1
      unfold isDigitB inB
      simp at h1 ⊢
      omega
    rw [dig, if_pos h2, ih fun d hd => h d (by simp [hd])]
    rfl
theorem numOk_dec {n : Int} (h : 0 ≤ n) : numOk (decText n) = true := by
  obtain ⟨u, rfl⟩ : ∃ u : Nat, n = (u : Int) := ⟨n.toNat, by omega⟩
  unfold numOk decText
  rw [itoa_pos, decide_eq_true_eq]
  show numEnd (decDigits u) = ((decDigits u).length : Int)
  have h1 : digI (decDigits u) 0 = ((decDigits u).length : Int) := by
    unfold digI
    rw [show (0 : Int).toNat = 0 from rfl, List.drop_zero, dig_all _ (digs_dec u)]
  have h2 : (decDigits u).length ≠ 0 := by
    obtain ⟨k, r, _, e⟩ := dec_head u
    rw [e]; simp
  have h3 : byteI (decDigits u) ((decDigits u).length : Int) = -1 := byteI_out (.inr (Int.le_refl _))
  unfold numEnd
  rw [h1, h3, if_neg (by decide), if_neg (by omega)]
  unfold numExp
  rw [h3, if_neg (by decide)]
theorem numV_dec {n : Int} (h : 0 ≤ n) (h2 : n ≤ 999999999) : numV (decText n) = n ∧ numB (decText n) = true := by
  have h3 : IsDec (itoa n) n := ⟨rfl, by omega, h2⟩
  obtain ⟨h4, h5⟩ := isDec_rd h3
  have e : (decText n).data.toList = itoa n := by unfold decText; simp
  unfold numV numB
  rw [e, h4, h5]
  simp [h]
/-- The tree of a number. -/
def numT (n : Int) : Tree := if 0 ≤ n then numTree (decText n) else negTree (decText (-n))
theorem numT_nodes {n : Int} (h : -999999999 ≤ n ∧ n ≤ 999999999) : (numT n).addTo [] = fromNodes n := by
  unfold numT
  by_cases h0 : 0 ≤ n
  · rw [if_pos h0, fromNodes_pos h h0, numTree_nodes]
  · rw [if_neg h0, fromNodes_neg h h0, negTree_nodes]
theorem numTree_ok {n : Int} (h : 0 ≤ n) : (numTree (decText n)).okT = true := by
  unfold numTree
  rw [Tree.okT, Tree.okTL, kidsOkT]
  simp only [saysOf, numOk_dec h]
  simp [fieldsOk, knownB, opOk, textsOk, least, most, inB, bEmp]
  try rfl
theorem numT_ok (n : Int) : (numT n).okT = true := by
  unfold numT
  by_cases h0 : 0 ≤ n
  · rw [if_pos h0]; exact numTree_ok h0
  · rw [if_neg h0]
    unfold negTree
    rw [Tree.okT, Tree.okTL, Tree.okTL, numTree_ok (by omega)]
    simp [kidsOkT, kidOkB, numTree, Tree.kind, isExprB, fieldsOk, knownB, opOk, textsOk, saysOf, least, most, inB, bEmp]
    try rfl
theorem numT_kind (n : Int) : (numT n).kind = 2 ∨ (numT n).kind = 11 := by
  unfold numT
  split
  · exact .inl rfl
  · exact .inr rfl
theorem numT_small (n : Int) : (numT n).post.length ≤ 2 ∧ (numT n).depth ≤ 2 ∧ (0 ≤ n → (numT n).post.length = 1 ∧ (numT n).depth = 1) := by
  unfold numT
  split
  · exact ⟨by simp [numTree, Tree.post, Tree.postL], by simp [numTree, Tree.depth, Tree.depthL], fun _ => ⟨by simp [numTree, Tree.post, Tree.postL], by simp [numTree, Tree.depth, Tree.depthL]⟩⟩
  · exact ⟨by simp [negTree, numTree, Tree.post, Tree.postL], by simp [negTree, numTree, Tree.depth, Tree.depthL], fun h => by omega⟩
theorem numT_const {n : Int} (h : -999999999 ≤ n ∧ n ≤ 999999999) : constT (numT n) = (n, true) := by
  unfold numT
  by_cases h0 : 0 ≤ n
  · rw [if_pos h0]
    unfold numTree
    rw [constT_mk, if_pos rfl]
    obtain ⟨h1, h2⟩ := numV_dec h0 h.2
    rw [h1, h2]
  · rw [if_neg h0]
    unfold negTree numTree
    obtain ⟨h1, h2⟩ := numV_dec (n := -n) (by omega) (by omega)
    rw [constT_mk, if_neg (by decide), if_pos ⟨rfl, rfl⟩]
    simp only [Tree.kind, Tree.text, if_true]
    have hs : signB (decText (-n)) = true := by
      unfold signB
      rw [h1, h2]
      simp
      omega
    unfold signV
    rw [hs, if_pos rfl, h1, wrap_fine (by omega)]
    simp
/-- A node, reckoned where its kids are numbers. -/
def foldable (k o : Int) (a b : ByteArray) (ks : List Tree) : Bool :=
  isExprB k && (decide (0 < ks.length) && ((ks.all fun u => (constT u).2) && (((Tree.mk k o a b ks).ev []).2 && decide (-999999999 ≤ ((Tree.mk k o a b ks).ev []).1 ∧ ((Tree.mk k o a b ks).ev []).1 ≤ 999999999))))
def foldNode (k o : Int) (a b : ByteArray) (ks : List Tree) : Tree :=
  if foldable k o a b ks = true then numT ((Tree.mk k o a b ks).ev []).1 else .mk k o a b ks
mutual
def Tree.fold : Tree → Tree
  | .mk k o a b l => foldNode k o a b (Tree.foldL l)
def Tree.foldL : List Tree → List Tree
  | [] => []
  | t :: l => t.fold :: Tree.foldL l
end
theorem Tree.foldL_eq (l : List Tree) : Tree.foldL l = l.map Tree.fold := by
  induction l with
  | nil => rw [Tree.foldL]; rfl
  | cons t l ih => rw [Tree.foldL, ih]; rfl
theorem Tree.fold_eq (t : Tree) : t.fold = foldNode t.kind t.op t.text t.other (t.kids.map Tree.fold) := by
  cases t; rw [Tree.fold, Tree.foldL_eq]; rfl
theorem foldable_range {k o : Int} {a b : ByteArray} {ks : List Tree} (h : foldable k o a b ks = true) : isExprB k = true ∧ 0 < ks.length ∧ (ks.all fun u => (constT u).2) = true ∧ ((Tree.mk k o a b ks).ev []).2 = true ∧ (-999999999 ≤ ((Tree.mk k o a b ks).ev []).1 ∧ ((Tree.mk k o a b ks).ev []).1 ≤ 999999999) := by
  unfold foldable at h
  simp only [Bool.and_eq_true, decide_eq_true_eq] at h
  exact h
/-- Folding again changes nothing. -/
theorem numTree_fold (s : ByteArray) : (numTree s).fold = numTree s := by
  rw [Tree.fold_eq]
  unfold numTree foldNode foldable
  simp [Tree.kids]
  exact ⟨rfl, rfl, rfl, rfl⟩
theorem negTree_fold {n : Int} (h : 0 < n) (h2 : n ≤ 999999999) : (negTree (decText n)).fold = negTree (decText n) := by
  have e : (negTree (decText n)).kids.map Tree.fold = [numTree (decText n)] := by
    unfold negTree
    simp only [Tree.kids, List.map_cons, List.map_nil, numTree_fold]
  rw [Tree.fold_eq, e]
  obtain ⟨h3, h4⟩ := numV_dec (n := n) (by omega) h2
  have hev : (Tree.mk 11 56 bEmp bEmp [numTree (decText n)]).ev [] = (-n, true) := by
    rw [Tree.ev_eq]
    simp only [Tree.kind, Tree.op, Tree.text, Tree.kids, List.map_cons, List.map_nil]
    have : (numTree (decText n)).ev [] = (n, true) := by
      rw [Tree.ev_eq]
      unfold numTree
      simp only [Tree.kind, Tree.op, Tree.text]
      unfold nodeV
      rw [if_neg (by decide), if_pos rfl, h3, h4]
    rw [this]
    unfold nodeV
    rw [if_neg (by decide), if_neg (by decide), if_pos rfl]
    rfl
  show foldNode 11 56 bEmp bEmp [numTree (decText n)] = _
  unfold foldNode
  rw [hev]
  split
  · unfold numT
    rw [if_neg (by omega), show -(-n) = n by omega]
  · rfl
theorem numT_fold {n : Int} (h : -999999999 ≤ n ∧ n ≤ 999999999) : (numT n).fold = numT n := by
  unfold numT
  split
  · exact numTree_fold _
  · exact negTree_fold (by omega) (by omega)
theorem Tree.fold_idemN (n : Nat) : ∀ (t : Tree), SizeOf.sizeOf t < n → t.fold.fold = t.fold := by
  induction n with
  | zero => intro t h; omega
  | succ n ih =>
    intro t h
    have hk : (t.kids.map Tree.fold).map Tree.fold = t.kids.map Tree.fold := by
      rw [List.map_map]
      exact List.map_congr_left fun u hu => ih u (by have := Tree.kid_lt hu; omega)
    rw [t.fold_eq]
    generalize hks : t.kids.map Tree.fold = ks at hk ⊢
    by_cases hf : foldable t.kind t.op t.text t.other ks = true
    · have : foldNode t.kind t.op t.text t.other ks = numT ((Tree.mk t.kind t.op t.text t.other ks).ev []).1 := by unfold foldNode; rw [if_pos hf]
      rw [this, numT_fold (foldable_range hf).2.2.2.2]
    · have e : foldNode t.kind t.op t.text t.other ks = .mk t.kind t.op t.text t.other ks := by unfold foldNode; rw [if_neg hf]
      rw [e, Tree.fold_eq]
      show foldNode t.kind t.op t.text t.other (ks.map Tree.fold) = _
      rw [hk, e]
theorem Tree.fold_idem (t : Tree) : t.fold.fold = t.fold := Tree.fold_idemN _ t (Nat.lt_succ_self _)
/-! A folded tree is valid. -/
theorem ev_lvalue {k o : Int} {a b : ByteArray} {ks : List Tree} (hk : k = 5 ∨ k = 6) : ((Tree.mk k o a b ks).ev []).2 = false := by
  rw [Tree.ev_eq]
  simp only [Tree.kind]
  unfold nodeV
  rcases hk with rfl | rfl <;> simp
/-- The kind of what a node becomes. -/
def LikeK (k k' : Int) : Prop := k' = k ∨ (isExprB k = true ∧ k ≠ 1 ∧ k ≠ 5 ∧ k ≠ 6 ∧ (k' = 2 ∨ k' = 11))
theorem name_leaf {t : Tree} (h : t.okT = true) (hk : t.kind = 1) : t.kids = [] := by
  have h1 := (Tree.okT_kids h).1
  rw [hk] at h1
  unfold fieldsOk at h1
  simp only [Bool.and_eq_true] at h1
  have h2 := h1.2
  unfold inB at h2
  simp only [Bool.and_eq_true, decide_eq_true_eq] at h2
  have h3 := h2.2
  simp [most] at h3
  first | exact h3 | exact List.eq_nil_of_length_eq_zero (by omega)
theorem Tree.fold_kind {t : Tree} (h : t.okT = true) : LikeK t.kind t.fold.kind := by
  rw [t.fold_eq]
  unfold foldNode
  split
  · rename_i hf
    obtain ⟨h1, h2, _, h4, _⟩ := foldable_range hf
    refine .inr ⟨h1, ?_, ?_, ?_, numT_kind _⟩
    · intro e
      rw [name_leaf h e] at h2
      simp at h2
    · intro e
      rw [ev_lvalue (.inl e)] at h4
      cases h4
    · intro e
      rw [ev_lvalue (.inr e)] at h4
      cases h4
  · exact .inl rfl
theorem expr_not {k : Int} (h : isExprB k = true) : (k == 33) = false ∧ isStmtB k = false ∧ isItemB k = false ∧ (k == 34) = false ∧ k ≠ 16 := by
  unfold isExprB inB at h
  simp at h
  refine ⟨by simp; omega, ?_, ?_, by simp; omega, by omega⟩
  · unfold isStmtB inB; simp; omega
  · unfold isItemB inB; simp; omega
theorem kidOk_like {k op n j kid kid' : Int} (hl : LikeK kid kid') (h : kidOkB k op n j kid = true) : kidOkB k op n j kid' = true := by
  rcases hl with rfl | ⟨h1, h2, h3, h4, h5⟩
  · exact h
  · obtain ⟨n1, n2, n3, n4, n5⟩ := expr_not h1
    have e1 : isLvalueB kid = false := by unfold isLvalueB; simp [h2, h3, h4]
    have e2 : (kid == 1) = false := by simp [h2]
    have e3 : isExprB kid' = true := by rcases h5 with rfl | rfl <;> decide
    have m16 : ¬ (j < 3 ∧ kid = 16) := fun h => n5 h.2
    unfold kidOkB at h ⊢
    by_cases k9 : k = 9 ∨ k = 10
    · rw [if_pos k9, e1] at h; cases h
    rw [if_neg k9] at h ⊢
    by_cases k15 : k = 15
    · rw [if_pos k15, e1, Bool.and_false, Bool.false_or] at h
      rw [if_pos k15, e3]
      simp only [Bool.and_eq_true] at h
      rw [h.1]; simp
    rw [if_neg k15] at h ⊢
    by_cases k28 : k = 28 ∨ k = 29
    · rw [if_pos k28] at h ⊢
      by_cases hj : 0 < j
      · rw [if_pos hj, n1] at h; cases h
      · rw [if_neg hj, e3]
    rw [if_neg k28] at h ⊢
    by_cases k31 : k = 31
    · rw [if_pos k31, if_neg m16] at h
      rw [if_pos k31]
      by_cases hj : j = n - 1
      · rw [if_pos hj, n1] at h; cases h
      · rw [if_neg hj, e3]
        split <;> rfl
    rw [if_neg k31] at h ⊢
    by_cases k30 : k = 30
    · rw [if_pos k30] at h ⊢
      by_cases hj : j = 0
      · rw [if_pos hj, n1] at h; cases h
      · rw [if_neg hj, e3]
    rw [if_neg k30] at h ⊢
    by_cases k32 : k = 32 ∨ k = 40 ∨ k = 41
    · rw [if_pos k32, n1] at h; cases h
    rw [if_neg k32] at h ⊢
    by_cases k33 : k = 33
    · rw [if_pos k33, n2] at h; cases h
    rw [if_neg k33] at h ⊢
    by_cases k42 : k = 42
    · rw [if_pos k42] at h ⊢
      by_cases hj : j = n - 1 ∧ 2 ≤ op
      · rw [if_pos hj, n1] at h; cases h
      · rw [if_neg hj, e3]
    rw [if_neg k42] at h ⊢
    by_cases k43 : k = 43
    · rw [if_pos k43] at h ⊢
      by_cases hj : j = n - 1 ∧ op = 3
      · rw [if_pos hj, n1] at h; cases h
      · rw [if_neg hj, e3]
    rw [if_neg k43] at h ⊢
    by_cases k44 : k = 44
    · rw [if_pos k44, n1, e2] at h
      split at h <;> cases h
    rw [if_neg k44] at h ⊢
    by_cases k45 : k = 45
    · rw [if_pos k45, n3, n4] at h; cases h
    rw [if_neg k45]
    exact e3
theorem kidsOkT_like {k op : Int} {n : Nat} {f : Tree → Tree} : ∀ (l : List Tree) (j : Nat), (∀ t ∈ l, LikeK t.kind (f t).kind) → kidsOkT k op n j l = true → kidsOkT k op n j (l.map f) = true := by
  intro l
  induction l with
  | nil => intro j _ _; rfl
  | cons t l ih =>
    intro j hl h
    rw [kidsOkT, Bool.and_eq_true] at h
    rw [List.map_cons, kidsOkT, Bool.and_eq_true]
    exact ⟨kidOk_like (hl t (by simp)) h.1, ih _ (fun u hu => hl u (by simp [hu])) h.2⟩
theorem mk_ok {t : Tree} (h : t.okT = true) {f : Tree → Tree} (hk : ∀ u ∈ t.kids, LikeK u.kind (f u).kind) (ho : ∀ u ∈ t.kids, (f u).okT = true) : (Tree.mk t.kind t.op t.text t.other (t.kids.map f)).okT = true := by
  obtain ⟨h1, h2, _⟩ := Tree.okT_kids h
  rw [Tree.okT, List.length_map, h1, kidsOkT_like _ _ hk h2, Tree.okTL_all]
  simp only [Bool.true_and, List.all_eq_true]
  intro u hu
  obtain ⟨v, hv, rfl⟩ := List.mem_map.1 hu
  exact ho v hv
theorem Tree.fold_okN (n : Nat) : ∀ (t : Tree), SizeOf.sizeOf t < n → t.okT = true → t.fold.okT = true ∧ (Tree.mk t.kind t.op t.text t.other (t.kids.map Tree.fold)).okT = true := by
  induction n with
  | zero => intro t h; omega
  | succ n ih =>
    intro t h ho
    have h3 := (Tree.okT_kids ho).2.2
    have h4 := mk_ok ho (f := Tree.fold) (fun u hu => Tree.fold_kind (h3 u hu)) fun u hu => (ih u (by have := Tree.kid_lt hu; omega) (h3 u hu)).1
    refine ⟨?_, h4⟩
    rw [t.fold_eq]
    unfold foldNode
    split
    · exact numT_ok _
    · exact h4
theorem Tree.fold_ok {t : Tree} (h : t.okT = true) : t.fold.okT = true ∧ (Tree.mk t.kind t.op t.text t.other (t.kids.map Tree.fold)).okT = true := Tree.fold_okN _ t (Nat.lt_succ_self _) h
theorem Tree.post_pos (t : Tree) : 1 ≤ t.post.length := by rw [t.post_eq]; simp
theorem postL_map_le {f : Tree → Tree} : ∀ l : List Tree, (∀ t ∈ l, (f t).post.length ≤ t.post.length ∧ (f t).depth ≤ t.depth) → (Tree.postL (l.map f)).length ≤ (Tree.postL l).length ∧ Tree.depthL (l.map f) ≤ Tree.depthL l ∧ l.length ≤ (Tree.postL l).length ∧ (0 < l.length → 1 ≤ Tree.depthL l) := by
  intro l
  induction l with
  | nil => intro _; simp [Tree.postL, Tree.depthL]
  | cons t l ih =>
    intro h
    obtain ⟨h1, h2, h3, h4⟩ := ih fun u hu => h u (by simp [hu])
    obtain ⟨h5, h6⟩ := h t (by simp)
    have h7 := t.post_pos
    have h8 := t.depth_eq
    simp only [List.map_cons, Tree.postL, Tree.depthL, List.length_append, List.length_cons]
    omega
theorem Tree.fold_lessN (n : Nat) : ∀ (t : Tree), SizeOf.sizeOf t < n → (t.fold.post.length ≤ t.post.length ∧ t.fold.depth ≤ t.depth) ∧ (Tree.mk t.kind t.op t.text t.other (t.kids.map Tree.fold)).post.length ≤ t.post.length ∧ (Tree.mk t.kind t.op t.text t.other (t.kids.map Tree.fold)).depth ≤ t.depth := by
  induction n with
  | zero => intro t h; omega
  | succ n ih =>
    intro t h
    obtain ⟨h1, h2, h3, h4⟩ := postL_map_le (f := Tree.fold) t.kids fun u hu => (ih u (by have := Tree.kid_lt hu; omega)).1
    have h5 : (Tree.mk t.kind t.op t.text t.other (t.kids.map Tree.fold)).post.length ≤ t.post.length ∧ (Tree.mk t.kind t.op t.text t.other (t.kids.map Tree.fold)).depth ≤ t.depth := by
      rw [Tree.post, t.post_eq, Tree.depth, t.depth_eq]
      simp only [List.length_append, List.length_singleton]
      omega
    refine ⟨?_, h5⟩
    rw [t.fold_eq]
    unfold foldNode
    split
    · rename_i hf
      have h6 := (foldable_range hf).2.1
      rw [List.length_map] at h6
      have h7 := h4 h6
      obtain ⟨h8, h9, _⟩ := numT_small ((Tree.mk t.kind t.op t.text t.other (t.kids.map Tree.fold)).ev []).1
      have e1 := t.depth_eq
      have e2 : t.post.length = (Tree.postL t.kids).length + 1 := by rw [t.post_eq]; simp
      omega
    · exact h5
theorem Tree.fold_less (t : Tree) : (t.fold.post.length ≤ t.post.length ∧ t.fold.depth ≤ t.depth) ∧ (Tree.mk t.kind t.op t.text t.other (t.kids.map Tree.fold)).post.length ≤ t.post.length ∧ (Tree.mk t.kind t.op t.text t.other (t.kids.map Tree.fold)).depth ≤ t.depth := Tree.fold_lessN _ t (Nat.lt_succ_self _)
/-- What Fold hands back. -/
def foldOf (l : List Node) : List Node := if treeOk l = true then (rootTree l).fold.addTo [] else []
theorem treeOk_of_tree {t : Tree} (h1 : t.okT = true) (h2 : t.post.length ≤ 400) (h3 : t.depth ≤ 40) : treeOk (t.addTo []) = true := by
  rw [treeOk_tree, h1, (tree_post t).1]
  simp [h2, h3]
theorem foldOf_ok {l : List Node} (h : treeOk l = true) : treeOk (foldOf l) = true ∧ foldOf (foldOf l) = foldOf l := by
  obtain ⟨h1, h2, h3, h4⟩ := treeOk_back h
  have h5 := (tree_post (rootTree l)).1
  rw [h1] at h5
  obtain ⟨⟨h6, h7⟩, _⟩ := (rootTree l).fold_less
  have e : foldOf l = (rootTree l).fold.addTo [] := by unfold foldOf; rw [if_pos h]
  have hok : treeOk (foldOf l) = true := by rw [e]; exact treeOk_of_tree (Tree.fold_ok h2).1 (by omega) (by omega)
  refine ⟨hok, ?_⟩
  have e2 : foldOf (foldOf l) = (rootTree (foldOf l)).fold.addTo [] := if_pos hok
  rw [e2, e, root_back, Tree.fold_idem]
/-- A part of a valid tree, folded, laid as a list: what the reference asks of it. -/
theorem part_expr {t : Tree} (h1 : t.okT = true) (h2 : t.post.length ≤ 400) (h3 : t.depth ≤ 40) : exprOkB (t.addTo []) = isExprB t.kind := by
  unfold exprOkB
  rw [treeOk_of_tree h1 h2 h3, Bool.true_and, kindAt_tree]
  show isExprB (rootTree (t.addTo [])).kind = _
  rw [root_back]
theorem constV_tree {t : Tree} (h1 : t.okT = true) (h2 : t.post.length ≤ 400) (h3 : t.depth ≤ 40) : constV (t.addTo []) = constT t := by
  have h4 := part_expr h1 h2 h3
  by_cases h : isExprB t.kind = true
  · rw [h] at h4
    rw [← const_eq h4, root_back]
  · have h5 : isExprB t.kind = false := by simpa using h
    unfold constV
    rw [h4, h5, if_neg (by simp)]
    have k2 : t.kind ≠ 2 := fun e => by rw [e] at h5; exact absurd h5 (by decide)
    have k11 : t.kind ≠ 11 := fun e => by rw [e] at h5; exact absurd h5 (by decide)
    unfold constT
    rw [if_neg k2, if_neg (by simp [k11])]
theorem evalV_tree {t : Tree} (h1 : t.okT = true) (h2 : t.post.length ≤ 400) (h3 : t.depth ≤ 40) (hk : isExprB t.kind = true) (env : List Bind) : evalV (t.addTo []) env = t.ev env := by
  unfold evalV
  rw [part_expr h1 h2 h3, hk, if_pos rfl, root_back]
end Go.Proofs.YtmemgmcopnaogaaGreatDoor
/- Walks and lemmas of this seat (PFold2): what each theorem says of the functions that it names. Conditions: those that each theorem states. -/
namespace Go.Proofs.YtmemgmcopnaogaaGreatDoor
set_option linter.unusedVariables false
set_option linter.unusedSimpArgs false
open Go.RowKit Go.Lib

/-! A folded tree is no greater than it was. -/
/-- The number of digits. -/
def ndI (n : Int) : Nat := nDigits n.natAbs
theorem dec_len (u : Nat) : (decDigits u).length = nDigits u := by
  induction u using Nat.strongRecOn with
  | _ u ih =>
    by_cases h : u < 10
    · rw [decDigits, dif_pos h, nDigits_small h]; rfl
    · rw [decDigits, dif_neg h, List.length_append, ih _ (by omega), nDigits_big h]; rfl
theorem nd_pos (u : Nat) : 1 ≤ nDigits u := by
  rw [← dec_len]
  obtain ⟨k, r, _, e⟩ := dec_head u
  rw [e]; simp
theorem decText_len {n : Int} (h : 0 ≤ n) : (decText n).size = ndI n := by
  obtain ⟨u, rfl⟩ : ∃ u : Nat, n = (u : Int) := ⟨n.toNat, by omega⟩
  show (itoa (u : Int)).length = _
  rw [itoa_pos, dec_len]
  rfl
def numW (n : Int) : Nat := if 0 ≤ n then 1 + ndI n else 3 + ndI n
theorem bEmp_size : bEmp.size = 0 := rfl
theorem numT_weight (n : Int) : (numT n).weight = numW n := by
  unfold numT numW
  by_cases h : 0 ≤ n
  · rw [if_pos h, if_pos h, Tree.weight_eq]
    show Tree.weightL [] + (1 + (decText n).size + bEmp.size + 0) = _
    rw [decText_len h, bEmp_size, Tree.weightL]
    omega
  · rw [if_neg h, if_neg h, Tree.weight_eq]
    have e : ndI (-n) = ndI n := by unfold ndI; rw [Int.natAbs_neg]
    show Tree.weightL [numTree (decText (-n))] + (1 + bEmp.size + bEmp.size + 1) = _
    rw [Tree.weightL, Tree.weightL, Tree.weight_eq]
    show Tree.weightL [] + (1 + (decText (-n)).size + bEmp.size + 0) + 0 + (1 + bEmp.size + bEmp.size + 1) = _
    rw [decText_len (show 0 ≤ -n by omega), bEmp_size, Tree.weightL, e]
    omega
theorem ndI_le {n : Int} {k : Nat} (hk : 1 ≤ k) (h : n.natAbs < 10 ^ k) : ndI n ≤ k := nD_of_lt hk h
theorem ndI_lt (n : Int) : n.natAbs < 10 ^ ndI n := lt_of_nD (Nat.le_refl _)
theorem ndI_pos (n : Int) : 1 ≤ ndI n := nd_pos _
theorem numV_len {s : ByteArray} (h : numB s = true) : s.size = ndI (numV s) ∧ 0 ≤ numV s := by
  have h0 := (numV_facts s).1
  refine ⟨?_, h0⟩
  have h1 := h
  unfold numB at h1
  simp only [Bool.and_eq_true, decide_eq_true_eq] at h1
  obtain ⟨h2, _⟩ := rdOk_isDec h1.1
  have e : numV s = rdVal s.data.toList := by unfold numV; rw [h1.1]; simp [h1.2]
  rw [e]
  obtain ⟨u, hu⟩ : ∃ u : Nat, rdVal s.data.toList = (u : Int) := ⟨(rdVal s.data.toList).toNat, by omega⟩
  rw [hu] at h2 ⊢
  rw [itoa_pos] at h2
  show s.data.size = _
  rw [← Array.length_toList, h2, dec_len]
  rfl
/-- A number's tree: what it is worth, and its weight. -/
theorem const_facts {u : Tree} (h : (constT u).2 = true) : u.ev [] = constT u ∧ numW (constT u).1 ≤ u.weight := by
  cases u with
  | mk k o a b l =>
    rw [constT_mk] at h ⊢
    rw [Tree.ev_eq, Tree.weight_eq]
    show nodeV [] k o a (l.map (Tree.ev [])) = _ ∧ _ ≤ Tree.weightL l + (1 + a.size + b.size + l.length)
    by_cases h2 : k = 2
    · rw [if_pos h2] at h ⊢
      obtain ⟨h3, h4⟩ := numV_len h
      refine ⟨by unfold nodeV; rw [if_neg (by omega), if_pos h2], ?_⟩
      simp only
      unfold numW
      rw [if_pos h4]
      omega
    · rw [if_neg h2] at h ⊢
      by_cases h11 : k = 11 ∧ o = 56
      · rw [if_pos h11] at h ⊢
        cases l with
        | nil => simp at h
        | cons v l =>
          simp only at h ⊢
          by_cases hv : v.kind = 2
          · rw [if_pos hv] at h ⊢
            have h5 : signB v.text = true := h
            have h6 := h5
            unfold signB at h6
            simp only [Bool.and_eq_true, decide_eq_true_eq] at h6
            obtain ⟨h3, h4⟩ := numV_len h6.1
            have h7 : numV v.text ≤ 999999999 := by
              have hb := h6.1
              unfold numB at hb
              simp only [Bool.and_eq_true, decide_eq_true_eq] at hb
              obtain ⟨_, _, h9⟩ := rdOk_isDec hb.1
              have e : numV v.text = rdVal v.text.data.toList := by unfold numV; rw [hb.1]; simp [hb.2]
              omega
            have h8 : signV v.text = -numV v.text := by unfold signV; rw [if_pos h5, wrap_fine (by omega)]
            have hev : v.ev [] = (numV v.text, true) := by
              rw [Tree.ev_eq]; unfold nodeV; rw [hv, if_neg (by decide), if_pos rfl, h6.1]
            refine ⟨?_, ?_⟩
            · unfold nodeV
              rw [if_neg (by omega), if_neg h2, if_pos h11.1, h8, h5]
              simp only [List.map_cons, List.getD_cons_zero, hev, h11.2]
              rfl
            · simp only
              rw [h8]
              unfold numW
              rw [if_neg (by omega), Tree.weightL]
              have e : ndI (-numV v.text) = ndI (numV v.text) := by unfold ndI; rw [Int.natAbs_neg]
              have := v.weight_eq
              simp only [List.length_cons]
              omega
          · rw [if_neg hv] at h; simp at h
      · rw [if_neg h11] at h; simp at h
theorem pow_ge (a : Nat) (h : 1 ≤ a) : 10 ≤ 10 ^ a := by
  calc 10 = 10 ^ 1 := rfl
    _ ≤ 10 ^ a := Nat.pow_le_pow_right (by omega) h
theorem nd_sum {n a b : Int} (h : n.natAbs ≤ a.natAbs + b.natAbs) : ndI n ≤ ndI a + ndI b := by
  have ha := ndI_lt a
  have hb := ndI_lt b
  have pa := pow_ge _ (ndI_pos a)
  have pb := pow_ge _ (ndI_pos b)
  refine ndI_le (by have := ndI_pos a; omega) ?_
  rw [Nat.pow_add]
  generalize 10 ^ ndI a = x at *
  generalize 10 ^ ndI b = y at *
  have h1 : x + y ≤ x * y := by
    obtain ⟨x', rfl⟩ : ∃ x', x = x' + 2 := ⟨x - 2, by omega⟩
    obtain ⟨y', rfl⟩ : ∃ y', y = y' + 2 := ⟨y - 2, by omega⟩
    rw [Nat.add_mul, Nat.mul_add, Nat.mul_add]
    have : 0 ≤ x' * y' := Nat.zero_le _
    omega
  omega
theorem nd_mul (a b : Int) : ndI (a * b) ≤ ndI a + ndI b := by
  have ha := ndI_lt a
  have hb := ndI_lt b
  refine ndI_le (by have := ndI_pos a; omega) ?_
  rw [Int.natAbs_mul, Nat.pow_add]
  exact Nat.mul_lt_mul'' ha hb
theorem nd_flag (b : Bool) (a c : Int) : ndI (flagI b) ≤ ndI a + ndI c := by
  have h1 := ndI_pos a
  refine ndI_le (by omega) ?_
  have h2 : (flagI b).natAbs ≤ 1 := by cases b <;> decide
  have h3 := pow_ge (ndI a + ndI c) (by omega)
  omega
theorem nd_comb {op a b v : Int} (h : combO op a b = some v) : ndI v ≤ ndI a + ndI b := by
  unfold combO at h
  repeat' split at h
  all_goals first
    | (cases h; done)
    | (have h := Option.some.inj h; subst h; first | exact nd_flag _ _ _ | exact nd_mul _ _ | exact nd_sum (by omega))
    | (have h := Option.some.inj h; subst h; exact nd_sum (by rw [Int.natAbs_tmod]; have := Nat.mod_le a.natAbs b.natAbs; omega))
theorem nd_bin {op : Int} {a b : Int × Bool} (h : (binV op a b).2 = true) : ndI (binV op a b).1 ≤ ndI a.1 + ndI b.1 := by
  unfold binV at h ⊢
  by_cases h1 : a.2 = false
  · rw [if_pos h1] at h; cases h
  rw [if_neg h1] at h ⊢
  by_cases h2 : op = 45 ∨ op = 44
  · rw [if_pos h2] at h ⊢
    by_cases h3 : decide (a.1 ≠ 0) = decide (op = 44)
    · rw [if_pos h3] at h ⊢; exact nd_flag _ _ _
    · rw [if_neg h3] at h ⊢
      by_cases h4 : b.2 = false
      · rw [if_pos h4] at h; cases h
      · rw [if_neg h4]; exact nd_flag _ _ _
  · rw [if_neg h2] at h ⊢
    by_cases h4 : b.2 = false
    · rw [if_pos h4] at h; cases h
    · rw [if_neg h4] at h ⊢
      unfold combV at h ⊢
      cases hc : combO op a.1 b.1 with
      | none => rw [hc] at h; cases h
      | some v =>
        rw [hc] at h
        simp only at h ⊢
        unfold boundV at h ⊢
        split at h
        · rename_i hb
          rw [if_pos hb]
          exact nd_comb hc
        · cases h
theorem numW_flag (b : Bool) : numW (flagI b) = 2 := by cases b <;> decide +kernel
theorem bin_short {op : Int} {a : Int × Bool} (h : (binV op a (0, false)).2 = true) : numW (binV op a (0, false)).1 = 2 := by
  unfold binV at h ⊢
  by_cases h1 : a.2 = false
  · rw [if_pos h1] at h; cases h
  rw [if_neg h1] at h ⊢
  by_cases h2 : op = 45 ∨ op = 44
  · rw [if_pos h2] at h ⊢
    by_cases h3 : decide (a.1 ≠ 0) = decide (op = 44)
    · rw [if_pos h3]; exact numW_flag _
    · rw [if_neg h3, if_pos rfl] at h; cases h
  · rw [if_neg h2, if_pos rfl] at h; cases h
theorem numW_le (n : Int) : numW n ≤ 3 + ndI n ∧ 1 + ndI n ≤ numW n := by unfold numW; split <;> omega
theorem weight_at : ∀ (ks : List Tree) (i : Nat) (u : Tree), ks[i]? = some u → u.weight + 2 * (ks.length - 1) ≤ Tree.weightL ks + 2 * (ks.length - 1) := by
  intro ks i u h
  have := Tree.weightL_mem (List.mem_of_getElem? h)
  omega
theorem numW_swap (n : Int) : numW (-n) ≤ numW n + 2 := by
  have e : ndI (-n) = ndI n := by unfold ndI; rw [Int.natAbs_neg]
  unfold numW
  rw [e]
  split <;> split <;> omega
/-- The number that a node becomes weighs no more than the node over its numbers. -/
theorem foldable_weight {k o : Int} {a b : ByteArray} {ks : List Tree} (h : foldable k o a b ks = true) : numW ((Tree.mk k o a b ks).ev []).1 ≤ Tree.weightL ks + (1 + a.size + b.size + ks.length) := by
  obtain ⟨_, h1, h2, h3, _⟩ := foldable_range h
  rw [List.all_eq_true] at h2
  rw [Tree.ev_eq] at h3 ⊢
  simp only [Tree.kind, Tree.op, Tree.text, Tree.kids] at h3 ⊢
  have hget : ∀ i, (((ks.map (Tree.ev [])).getD i (0, false)).2 = true → ∃ u, ks[i]? = some u ∧ (ks.map (Tree.ev [])).getD i (0, false) = constT u ∧ numW (constT u).1 ≤ u.weight) := fun i hi => by
    rw [List.getD_eq_getElem?_getD, List.getElem?_map] at hi ⊢
    cases hu : ks[i]? with
    | none => rw [hu] at hi; cases hi
    | some u =>
      obtain ⟨h4, h5⟩ := const_facts (h2 u (List.mem_of_getElem? hu))
      exact ⟨u, rfl, h4, h5⟩
  have hone : ∀ i, ((ks.map (Tree.ev [])).getD i (0, false)).2 = true → numW ((ks.map (Tree.ev [])).getD i (0, false)).1 ≤ Tree.weightL ks := fun i hi => by
    obtain ⟨u, hu, e, hw⟩ := hget i hi
    rw [e]
    have := Tree.weightL_mem (List.mem_of_getElem? hu)
    omega
  unfold nodeV at h3 ⊢
  by_cases k1 : k = 1
  · rw [if_pos k1]
    have : boundV (varOf a []) = (0, true) := by
      have : varOf a [] = 0 := by unfold varOf; rfl
      rw [this]; decide
    rw [this]
    have : numW 0 = 2 := by decide +kernel
    simp only
    omega
  rw [if_neg k1] at h3 ⊢
  by_cases k2 : k = 2
  · rw [if_pos k2] at h3 ⊢
    obtain ⟨h4, h5⟩ := numV_len h3
    simp only
    unfold numW
    rw [if_pos h5]
    omega
  rw [if_neg k2] at h3 ⊢
  by_cases k11 : k = 11
  · rw [if_pos k11] at h3 ⊢
    generalize hg : (ks.map (Tree.ev [])).getD 0 (0, false) = g at h3 ⊢
    unfold unV at h3 ⊢
    by_cases hg2 : g.2 = false
    · rw [if_pos hg2] at h3; cases h3
    · rw [if_neg hg2]
      have hw := hone 0 (by rw [hg]; simpa using hg2)
      rw [hg] at hw
      simp only
      split
      · have := numW_swap g.1
        omega
      · split
        · have h4 := nd_flag (decide (g.1 = 0)) g.1 g.1
          have h5 : flagI (decide (g.1 = 0)) = 0 ∨ flagI (decide (g.1 = 0)) = 1 := by cases decide (g.1 = 0) <;> simp [flagI]
          have h6 : numW (flagI (decide (g.1 = 0))) = 2 := by rcases h5 with e | e <;> rw [e] <;> decide +kernel
          omega
        · omega
  rw [if_neg k11] at h3 ⊢
  by_cases k14 : k = 14
  · rw [if_pos k14] at h3 ⊢
    split at h3
    · cases h3
    · rename_i hc
      rw [if_neg hc]
      split at h3
      · rename_i hz
        rw [if_pos hz]
        have := hone 2 h3
        omega
      · rename_i hz
        rw [if_neg hz]
        have := hone 1 h3
        omega
  rw [if_neg k14] at h3 ⊢
  by_cases k12 : k = 12
  · rw [if_pos k12] at h3 ⊢
    have h4 := nd_bin h3
    have hs := (numW_le (binV o ((ks.map (Tree.ev [])).getD 0 (0, false)) ((ks.map (Tree.ev [])).getD 1 (0, false))).1).1
    -- the first side has a value
    have hA : ((ks.map (Tree.ev [])).getD 0 (0, false)).2 = true := by
      cases hx : ((ks.map (Tree.ev [])).getD 0 (0, false)).2 with
      | true => rfl
      | false => unfold binV at h3; rw [if_pos hx] at h3; cases h3
    obtain ⟨u, hu, eu, hwu⟩ := hget 0 hA
    have wu := (numW_le (constT u).1).2
    rw [eu] at h4
    cases ks with
    | nil => simp at hu
    | cons u' r =>
      simp at hu
      subst hu
      rw [Tree.weightL]
      cases r with
      | nil =>
        have e0 : (([u'] : List Tree).map (Tree.ev [])).getD 1 (0, false) = (0, false) := rfl
        rw [e0] at h3 ⊢
        have := bin_short h3
        simp only [List.length_cons]
        omega
      | cons v r =>
        have e1 : ((u' :: v :: r).map (Tree.ev [])).getD 1 (0, false) = v.ev [] := rfl
        rw [e1] at h4 hs ⊢
        obtain ⟨h7, h8⟩ := const_facts (h2 v (by simp))
        rw [h7] at h4 hs ⊢
        rw [eu] at hs ⊢
        have wv := (numW_le (constT v).1).2
        rw [Tree.weightL]
        simp only [List.length_cons]
        omega
  rw [if_neg k12] at h3
  cases h3
theorem Tree.fold_weightN (n : Nat) : ∀ (t : Tree), SizeOf.sizeOf t < n → t.fold.weight ≤ t.weight ∧ (Tree.mk t.kind t.op t.text t.other (t.kids.map Tree.fold)).weight ≤ t.weight := by
  induction n with
  | zero => intro t h; omega
  | succ n ih =>
    intro t h
    have hl : ∀ l : List Tree, (∀ u ∈ l, u.fold.weight ≤ u.weight) → Tree.weightL (l.map Tree.fold) ≤ Tree.weightL l := by
      intro l
      induction l with
      | nil => intro _; simp [Tree.weightL]
      | cons u l ihl =>
        intro hu
        have h1 := ihl fun v hv => hu v (by simp [hv])
        have h2 := hu u (by simp)
        rw [List.map_cons, Tree.weightL, Tree.weightL]
        omega
    have h1 := hl t.kids fun u hu => (ih u (by have := Tree.kid_lt hu; omega)).1
    have h2 : (Tree.mk t.kind t.op t.text t.other (t.kids.map Tree.fold)).weight ≤ t.weight := by
      rw [Tree.weight, t.weight_eq, List.length_map]
      omega
    refine ⟨?_, h2⟩
    rw [t.fold_eq]
    unfold foldNode
    split
    · rename_i hf
      rw [numT_weight]
      have h3 := foldable_weight hf
      rw [Tree.weight] at h2
      omega
    · exact h2
theorem Tree.fold_weight (t : Tree) : t.fold.weight ≤ t.weight ∧ (Tree.mk t.kind t.op t.text t.other (t.kids.map Tree.fold)).weight ≤ t.weight := Tree.fold_weightN _ t (Nat.lt_succ_self _)
theorem numT_sane (n : Int) : (numT n).Sane := by
  unfold numT
  split
  · unfold numTree; rw [Tree.Sane, Tree.SaneL]; exact ⟨by unfold I64; omega, by unfold I64; omega, trivial⟩
  · unfold negTree numTree; rw [Tree.Sane, Tree.SaneL, Tree.SaneL, Tree.Sane, Tree.SaneL]; exact ⟨by unfold I64; omega, by unfold I64; omega, ⟨by unfold I64; omega, by unfold I64; omega, trivial⟩, trivial⟩
theorem Tree.fold_saneN (n : Nat) : ∀ (t : Tree), SizeOf.sizeOf t < n → t.Sane → t.fold.Sane ∧ (Tree.mk t.kind t.op t.text t.other (t.kids.map Tree.fold)).Sane := by
  induction n with
  | zero => intro t h; omega
  | succ n ih =>
    intro t h hs
    obtain ⟨s1, s2, s3⟩ := t.sane_eq.1 hs
    have h2 : (Tree.mk t.kind t.op t.text t.other (t.kids.map Tree.fold)).Sane := by
      rw [Tree.Sane]
      refine ⟨s1, s2, Tree.saneL_mem.2 fun u hu => ?_⟩
      obtain ⟨v, hv, rfl⟩ := List.mem_map.1 hu
      exact (ih v (by have := Tree.kid_lt hv; omega) (Tree.saneL_mem.1 s3 v hv)).1
    refine ⟨?_, h2⟩
    rw [t.fold_eq]
    unfold foldNode
    split
    · exact numT_sane _
    · exact h2
theorem Tree.fold_sane {t : Tree} (h : t.Sane) : t.fold.Sane ∧ (Tree.mk t.kind t.op t.text t.other (t.kids.map Tree.fold)).Sane := Tree.fold_saneN _ t (Nat.lt_succ_self _) h
end Go.Proofs.YtmemgmcopnaogaaGreatDoor
