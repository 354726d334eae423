/- Walks and lemmas of this seat (PRenLaw): what each theorem says of the functions that it names. Conditions: those that each theorem states. -/
import Derived.Test.YtgmciglaapnahaaGreatDoorGTR
import Derived.Test.YtgmciglaapnahaaGreatDoorGD
import Derived.Test.YtgmciglaapnahaaGreatDoorPRename
import Derived.Test.YtgmciglaapnahaaGreatDoorGNL
namespace Go.Proofs.YtgmciglaapnahaaGreatDoor
set_option linter.unusedVariables false
set_option linter.unusedSimpArgs false
open Go.RowKit Go.Lib

/-! Renaming to a new name: what is counted, what stays, and how it is undone. -/
theorem uses_has (s : ByteArray) (l : List Node) : hasT (namesOf l) s = false ↔ usesOf s l = 0 := by
  have h1 := hasT_iff (namesOf l) s
  have h2 := (namesOf_put l).2 (dat s)
  rw [usesOf_count, List.count_eq_zero, ← h2, ← h1]
  cases hasT (namesOf l) s <;> simp
theorem ren_dat (f t s : ByteArray) : ren f t s = if dat s = dat f then t else s := by
  unfold ren
  rw [toList_dat, toList_dat]
  by_cases h : dat s = dat f <;> simp [h]
theorem namesAt_ren (f t : ByteArray) (x : Node) : namesAt (renameN f t x) = (namesAt x).map (ren f t) := by
  unfold namesAt renameN
  by_cases h1 : isTextK x.kind = true
  · by_cases h2 : x.kind = 32
    · simp only [if_pos h1, if_pos h2, List.map_append, List.map_cons, List.map_nil]
    · simp only [if_pos h1, if_neg h2, List.map_append, List.map_cons, List.map_nil]
  · by_cases h2 : x.kind = 32
    · exact absurd (by rw [h2]; decide) h1
    · simp only [if_neg h1, if_neg h2, List.map_append, List.map_nil]
theorem vnames_ren (f t : ByteArray) (l : List Node) : vnames (l.map (renameN f t)) = (vnames l).map (ren f t) := by
  induction l with
  | nil => rfl
  | cons x l ih => rw [List.map_cons, vnames, ih, namesAt_ren, vnames, List.map_append]
theorem count_ren (f t : ByteArray) : ∀ (V : List ByteArray), ((V.map dat).count (dat t) = 0) → ((V.map (ren f t)).map dat).count (dat t) = (V.map dat).count (dat f) := by
  intro V
  induction V with
  | nil => intro _; rfl
  | cons s V ih =>
    intro h
    rw [List.map_cons, List.count_cons] at h
    have h1 := ih (by omega)
    have h2 : dat s ≠ dat t := fun e => by simp [e] at h
    rw [List.map_cons, List.map_cons, List.count_cons, List.map_cons, List.count_cons, h1, ren_dat]
    by_cases e : dat s = dat f
    · simp [e]
    · simp [e, h2]
theorem count_old (f t : ByteArray) (hne : dat t ≠ dat f) : ∀ (V : List ByteArray), ((V.map (ren f t)).map dat).count (dat f) = 0 := by
  intro V
  induction V with
  | nil => rfl
  | cons s V ih =>
    rw [List.map_cons, List.map_cons, List.count_cons, ih, ren_dat]
    by_cases e : dat s = dat f
    · simp [e, hne]
    · simp [e]
theorem uses_new {f t : ByteArray} {l : List Node} (h : usesOf t l = 0) : usesOf t (l.map (renameN f t)) = usesOf f l := by
  rw [usesOf_count] at h
  rw [usesOf_count, usesOf_count, vnames_ren]
  exact count_ren f t _ h
theorem uses_old {f t : ByteArray} {l : List Node} (h : usesOf t l = 0) : usesOf f (l.map (renameN f t)) = 0 := by
  by_cases e : dat t = dat f
  · have e2 := dat_inj e
    subst e2
    rw [uses_new h, h]
  · rw [usesOf_count, vnames_ren]
    exact count_old f t e _
theorem fnames_ren (f t : ByteArray) (l : List Node) : fnames (l.map (renameN f t)) = fnames l := by
  induction l with
  | nil => rfl
  | cons x l ih =>
    rw [List.map_cons, fnames, fnames, ih]
    have e1 : (renameN f t x).kind = x.kind := rfl
    rw [e1]
    split
    · rename_i h
      have : isTextK x.kind = false := by rcases h with h | h <;> rw [h] <;> decide
      have e : (renameN f t x).text = x.text := by unfold renameN; simp [this]
      rw [e]
    · rfl
theorem funcNames_ren (f t : ByteArray) (l : List Node) : funcNames (l.map (renameN f t)) = funcNames l := by unfold funcNames; rw [fnames_ren]
theorem kids_ren (f t : ByteArray) (l : List Node) : (l.map (renameN f t)).map Node.kids = l.map Node.kids := by rw [List.map_map]; rfl
theorem kindAt_ren (f t : ByteArray) (l : List Node) (k : Int) : kindAt (l.map (renameN f t)) k = kindAt l k := by
  unfold kindAt
  rw [List.getElem?_map]
  cases l[k.toNat]? <;> rfl
theorem kidsOk_ren (f t : ByteArray) (l : List Node) (k op : Int) (n : Nat) : ∀ (ks : List Int) (j : Nat), kidsOk (l.map (renameN f t)) k op n j ks = kidsOk l k op n j ks := by
  intro ks
  induction ks with
  | nil => intro j; rfl
  | cons q ks ih => intro j; rw [kidsOk, kidsOk, ih, kindAt_ren]
theorem fields_ren {f t : ByteArray} (ht : nameOkB t = true) {x : Node} (h : nodeFields x = true) : nodeFields (renameN f t x) = true := by
  unfold nodeFields fieldsOk at *
  simp only [Bool.and_eq_true] at *
  have e1 : (renameN f t x).kind = x.kind := rfl
  have e2 : (renameN f t x).op = x.op := rfl
  have e3 : (renameN f t x).kids = x.kids := rfl
  rw [e1, e2, e3]
  obtain ⟨⟨⟨h1, h2⟩, h3⟩, h4⟩ := h
  by_cases hk : isTextK x.kind = true
  · have hk2 : x.kind = 1 ∨ x.kind = 5 ∨ x.kind = 13 ∨ x.kind = 27 ∨ x.kind = 32 := by
      unfold isTextK at hk; simp only [Bool.or_eq_true, beq_iff_eq] at hk; omega
    have hl : ∀ b, least x.kind x.op b = least x.kind x.op false ∧ most x.kind x.op b = most x.kind x.op false := by
      intro b
      rcases hk2 with e | e | e | e | e <;> rw [e] <;> exact ⟨by simp [least], by simp [most]⟩
    refine ⟨⟨⟨h1, h2⟩, ?_⟩, ?_⟩
    · have hn : ∀ s : ByteArray, nameOkB s = true → nameOkB (ren f t s) = true := fun s hs => by unfold ren; split <;> assumption
      rcases hk2 with e | e | e | e | e
      · have e32 : (renameN f t x).other = x.other := by unfold renameN; simp [e]
        have et : (renameN f t x).text = ren f t x.text := by unfold renameN; simp [hk]
        rw [e32, et]
        simp only [textsOk, e, saysOf] at h3 ⊢
        simp at h3 ⊢
        exact ⟨hn _ h3.1, h3.2⟩
      · have e32 : (renameN f t x).other = x.other := by unfold renameN; simp [e]
        have et : (renameN f t x).text = ren f t x.text := by unfold renameN; simp [hk]
        rw [e32, et]
        simp only [textsOk, e, saysOf] at h3 ⊢
        simp at h3 ⊢
        exact ⟨hn _ h3.1, h3.2⟩
      · have e32 : (renameN f t x).other = x.other := by unfold renameN; simp [e]
        have et : (renameN f t x).text = ren f t x.text := by unfold renameN; simp [hk]
        rw [e32, et]
        simp only [textsOk, e, saysOf] at h3 ⊢
        simp at h3 ⊢
        exact ⟨hn _ h3.1, h3.2⟩
      · have e32 : (renameN f t x).other = x.other := by unfold renameN; simp [e]
        have et : (renameN f t x).text = ren f t x.text := by unfold renameN; simp [hk]
        rw [e32, et]
        simp only [textsOk, e, saysOf] at h3 ⊢
        simp at h3 ⊢
        exact ⟨hn _ h3.1, h3.2⟩
      · have e32 : (renameN f t x).other = ren f t x.other := by unfold renameN; simp [e]
        have et : (renameN f t x).text = ren f t x.text := by unfold renameN; simp [hk]
        rw [e32, et]
        simp only [textsOk, e, saysOf] at h3 ⊢
        simp at h3 ⊢
        exact ⟨hn _ h3.1, hn _ h3.2⟩
    · rw [(hl _).1, (hl _).2] at h4 ⊢
      exact h4
  · have hk2 : x.kind ≠ 32 := fun e => hk (by rw [e]; decide)
    have e4 : (renameN f t x).other = x.other := by unfold renameN; simp [hk2]
    have e5 : (renameN f t x).text = x.text := by unfold renameN; simp [hk]
    rw [e4, e5]
    exact ⟨⟨⟨h1, h2⟩, h3⟩, h4⟩
theorem depth_kids {l L : List Node} (ha : Ahead l) (hb : Ahead L) (e : L.map Node.kids = l.map Node.kids) : ∀ (i : Nat), (treeIx L i).depth = (treeIx l i).depth := by
  have hlen : L.length = l.length := by have := congrArg List.length e; simpa using this
  intro i
  induction i using Nat.strongRecOn with
  | _ i ih =>
    by_cases hi : i < l.length
    · obtain ⟨x, hx⟩ := get_of_lt hi
      obtain ⟨y, hy⟩ := get_of_lt (l := L) (k := i) (by omega)
      have hk : y.kids = x.kids := by
        have h1 := congrArg (fun m => m[i]?) e
        simp only [List.getElem?_map, hx, hy, Option.map_some] at h1
        exact Option.some.inj h1
      rw [treeIx_eq ha hx, treeIx_eq hb hy, Tree.depth, Tree.depth, hk]
      congr 1
      have : ∀ ks : List Int, (∀ k ∈ ks, k.toNat < i) → Tree.depthL (ks.map fun k => treeIx L k.toNat) = Tree.depthL (ks.map fun k => treeIx l k.toNat) := by
        intro ks
        induction ks with
        | nil => intro _; rfl
        | cons k ks ihk =>
          intro h
          rw [List.map_cons, List.map_cons, Tree.depthL, Tree.depthL, ih k.toNat (h k (by simp)), ihk fun q hq => h q (by simp [hq])]
      exact this _ fun k hk => (ha i x hx k hk).2
    · unfold treeIx treeOf
      rw [List.getElem?_eq_none (by omega), List.getElem?_eq_none (by omega)]
theorem treeOk_ren {f t : ByteArray} (ht : nameOkB t = true) {l : List Node} (h : treeOk l = true) : treeOk (l.map (renameN f t)) = true := by
  have hs := treeOk_shape h
  have hs2 : shapeOk ((l.map (renameN f t)).map Node.kids) = true := by rw [kids_ren]; exact hs
  have hd : (rootTree (l.map (renameN f t))).depth = (rootTree l).depth := by
    unfold rootTree
    rw [List.length_map]
    exact depth_kids (shapeOk_ahead hs) (shapeOk_ahead hs2) (kids_ren f t l) _
  have h2 := h
  unfold treeOk at h ⊢
  rw [hs2, hd, Bool.true_and]
  rw [hs, Bool.true_and] at h
  simp only [Bool.and_eq_true, List.all_eq_true] at h ⊢
  refine ⟨fun y hy => ?_, h.2⟩
  obtain ⟨x, hx, rfl⟩ := List.mem_map.1 hy
  obtain ⟨h3, h4⟩ := treeOk_node h2 hx
  unfold nodeOk
  rw [fields_ren ht h3, kidsOk_ren, Bool.true_and]
  exact h4
theorem ren_ren {f t s : ByteArray} (h : dat s ≠ dat t) : ren t f (ren f t s) = s := by
  rw [ren_dat f t s]
  by_cases e : dat s = dat f
  · rw [if_pos e, ren_dat, if_pos rfl]
    exact (dat_inj e).symm
  · rw [if_neg e, ren_dat, if_neg h]
theorem node_ren {f t : ByteArray} {x : Node} (h : usesAt t x = 0) : renameN t f (renameN f t x) = x := by
  rw [usesAt_count] at h
  have h2 := List.count_eq_zero.1 h
  unfold namesAt at h2
  unfold renameN
  cases x with
  | mk k o a b ks =>
    simp only at *
    by_cases h1 : isTextK k = true
    · by_cases h3 : k = 32
      · rw [if_pos h1, if_pos h3] at h2
        simp only [if_pos h1, if_pos h3]
        simp only [List.cons_append, List.nil_append, List.map_cons, List.map_nil, List.mem_cons, List.not_mem_nil, or_false, not_or] at h2
        rw [ren_ren fun e => h2.1 e.symm, ren_ren fun e => h2.2 e.symm]
      · rw [if_pos h1, if_neg h3] at h2
        simp only [if_pos h1, if_neg h3]
        simp only [List.append_nil, List.map_cons, List.map_nil, List.mem_cons, List.not_mem_nil, or_false] at h2
        rw [ren_ren fun e => h2 e.symm]
    · by_cases h3 : k = 32
      · exact absurd (by rw [h3]; decide) h1
      · simp only [if_neg h1, if_neg h3]
theorem list_ren {f t : ByteArray} {l : List Node} (h : usesOf t l = 0) : (l.map (renameN f t)).map (renameN t f) = l := by
  induction l with
  | nil => rfl
  | cons x l ih =>
    rw [usesOf] at h
    rw [List.map_cons, List.map_cons, ih (by omega), node_ren (by omega)]
/-- THE LAW. -/
theorem rename_law {l : List Node} {a b : ByteArray} (h : renameOkB l b = true) (ha : nameOkB a = true) :
    treeOk (renamed l a b) = true ∧ usesOf b (renamed l a b) = usesOf a l ∧ usesOf a (renamed l a b) = 0 ∧ usesOf b l = 0 ∧ (renamed (renamed l a b) b a = l ∨ (renameOkB (renamed l a b) a = false ∧ hasT (funcNames l) a = true)) := by
  have h0 := h
  unfold renameOkB at h
  simp only [Bool.and_eq_true, Bool.not_eq_true'] at h
  obtain ⟨h1, h2, h3, h4⟩ := h
  have h5 := (uses_has b l).1 h3
  have e : renamed l a b = l.map (renameN a b) := by unfold renamed; rw [if_pos h0]
  have ho := uses_old (f := a) h5
  rw [e]
  refine ⟨treeOk_ren h2 h1, uses_new h5, ho, h5, ?_⟩
  by_cases hf : hasT (funcNames l) a = true
  · right
    refine ⟨?_, hf⟩
    unfold renameOkB
    rw [funcNames_ren, hf]
    simp
  · left
    have hr : renameOkB (l.map (renameN a b)) a = true := by
      unfold renameOkB
      rw [treeOk_ren h2 h1, ha, (uses_has a _).2 ho, funcNames_ren]
      simpa using hf
    unfold renamed
    rw [if_pos hr]
    exact list_ren h5
end Go.Proofs.YtgmciglaapnahaaGreatDoor
