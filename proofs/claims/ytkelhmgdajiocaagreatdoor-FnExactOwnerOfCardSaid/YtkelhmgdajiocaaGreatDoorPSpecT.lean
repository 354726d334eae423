/- Walks and lemmas of this seat (PSpecT): what each theorem says of the functions that it names. Conditions: those that each theorem states. -/
import Derived.Test.YtkelhmgdajiocaaGreatDoorGSP
import Derived.Test.YtkelhmgdajiocaaGreatDoorPSpellLaw
import Derived.Test.YtkelhmgdajiocaaGreatDoorGO
import Derived.Test.YtkelhmgdajiocaaGreatDoorGP
namespace Go.Proofs.YtkelhmgdajiocaaGreatDoor
set_option linter.unusedVariables false
set_option linter.unusedSimpArgs false
open Go.RowKit

/-! The tokens of a tree, kind by kind. Plain. -/
theorem kidTk_plain {k : Int} (full : Bool) (o : Int) (n : Nat) (p : Pos) (j : Nat) (u : Tree) (h : isTargetB k j = false) : kidTk full k o n p j u = u.tks full (kidPosB k o n j p) := by
  unfold kidTk; rw [h]; simp
theorem kidTks_top {full : Bool} {t : Tree} {p : Pos} (hp : posOkB p = true) (he : t.Ex) (hl : levelB t.kind t.op = 15 ∨ (t.kind = 13 ∧ 1 < (t.kids.length : Int))) : t.kidTks full p = t.kids.map fun u => u.tks full posTop := by
  obtain ⟨ha, hops, _⟩ := (t.ex_eq).1 he
  have hl0 : levelB t.kind t.op ≠ 0 := levelB_pos ha.1 hops.2.2.1
  apply List.ext_getElem?
  intro i
  cases hu : t.kids[i]? with
  | none =>
    have hi : t.kids.length ≤ i := List.getElem?_eq_none_iff.1 hu
    rw [List.getElem?_eq_none (by rw [t.kidTks_len]; exact hi), List.getElem?_map, hu]; rfl
  | some u =>
    have hi := (List.getElem?_eq_some_iff.1 hu).1
    rw [t.kidTks_at full p hu, List.getElem?_map, hu]
    show some _ = some _
    congr 1
    have hno : isTargetB t.kind i = false := by
      unfold isTargetB
      have h9 : ¬ (t.kind = 9 ∨ t.kind = 10 ∨ t.kind = 15) := by
        rintro (e | e | e) <;> rw [e] at hl <;> rcases hl with h | h
        all_goals first
          | (exfalso; revert h; decide)
          | omega
          | (unfold levelB at h; simp at h)
      simp
      omega
    rw [kidTk_plain full _ _ _ _ _ hno, kidPos_eq hp (by omega) hl0, if_pos hl]
theorem tkb_1 (full : Bool) (o : Int) (a b : ByteArray) (l : List Tree) (p : Pos) : Tree.tkb full (.mk 1 o a b l) p = [⟨6, a, 0⟩] := by rw [Tree.tkb_eq]; rfl
theorem tkb_2 (full : Bool) (o : Int) (a b : ByteArray) (l : List Tree) (p : Pos) : Tree.tkb full (.mk 2 o a b l) p = [⟨3, a, 0⟩] := by rw [Tree.tkb_eq]; rfl
theorem tkb_3 (full : Bool) (o : Int) (a b : ByteArray) (l : List Tree) (p : Pos) : Tree.tkb full (.mk 3 o a b l) p = [⟨4, a, 0⟩] := by rw [Tree.tkb_eq]; rfl
theorem tkb_4 (full : Bool) (o : Int) (a b : ByteArray) (l : List Tree) (p : Pos) : Tree.tkb full (.mk 4 o a b l) p = [⟨5, a, 0⟩] := by rw [Tree.tkb_eq]; rfl
theorem tkb_5 {full : Bool} {o : Int} {a b : ByteArray} {l : List Tree} {p : Pos} (hp : posOkB p = true) (he : (Tree.mk 5 o a b l).Ex) : Tree.tkb full (.mk 5 o a b l) p = ⟨6, a, 0⟩ :: sgn 34 :: (commas (l.map fun u => u.tks full posTop) ++ [sgn 35]) := by
  rw [Tree.tkb_eq, kidTks_top hp he (.inl rfl)]; rfl
theorem tkb_7 {full : Bool} {o : Int} {a b : ByteArray} {l : List Tree} {p : Pos} (hp : posOkB p = true) (he : (Tree.mk 7 o a b l).Ex) : Tree.tkb full (.mk 7 o a b l) p = ⟨7, a, 0⟩ :: sgn 32 :: (commas (l.map fun u => u.tks full posTop) ++ [sgn 33]) := by
  rw [Tree.tkb_eq, kidTks_top hp he (.inl rfl)]; rfl
theorem tkb_8 {full : Bool} {o : Int} {a b : ByteArray} {l : List Tree} {p : Pos} (hp : posOkB p = true) (he : (Tree.mk 8 o a b l).Ex) : Tree.tkb full (.mk 8 o a b l) p = ⟨8, a, 0⟩ :: sgn 32 :: (commas (l.map fun u => u.tks full posTop) ++ [sgn 33]) := by
  rw [Tree.tkb_eq, kidTks_top hp he (.inl rfl)]; rfl
theorem one_tks (full : Bool) (k o : Int) (a b : ByteArray) (u : Tree) (p : Pos) : (Tree.mk k o a b [u]).kidTks full p = [kidTk full k o 1 p 0 u] := by
  unfold Tree.kidTks; rw [show (Tree.mk k o a b [u]).kids = [u] from rfl, Tree.tkL_cons, Tree.tkL]; rfl
theorem two_tks (full : Bool) (k o : Int) (a b : ByteArray) (u v : Tree) (p : Pos) : (Tree.mk k o a b [u, v]).kidTks full p = [kidTk full k o 2 p 0 u, kidTk full k o 2 p 1 v] := by
  unfold Tree.kidTks; rw [show (Tree.mk k o a b [u, v]).kids = [u, v] from rfl, Tree.tkL_cons, Tree.tkL_cons, Tree.tkL]; rfl
theorem three_tks (full : Bool) (k o : Int) (a b : ByteArray) (u v x : Tree) (p : Pos) : (Tree.mk k o a b [u, v, x]).kidTks full p = [kidTk full k o 3 p 0 u, kidTk full k o 3 p 1 v, kidTk full k o 3 p 2 x] := by
  unfold Tree.kidTks; rw [show (Tree.mk k o a b [u, v, x]).kids = [u, v, x] from rfl, Tree.tkL_cons, Tree.tkL_cons, Tree.tkL_cons, Tree.tkL]; rfl
theorem tkb_9 {full : Bool} {o : Int} {a b : ByteArray} {u : Tree} {p : Pos} (hp : posOkB p = true) (he : (Tree.mk 9 o a b [u]).Ex) : Tree.tkb full (.mk 9 o a b [u]) p = sgn o :: u.tkb full posLv := by
  have h : kidTk full 9 o 1 p 0 u = u.tkb full posLv := target_eq he (.inl rfl) rfl hp
  rw [Tree.tkb_eq, one_tks, h]; rfl
theorem tkb_10 {full : Bool} {o : Int} {a b : ByteArray} {u : Tree} {p : Pos} (hp : posOkB p = true) (he : (Tree.mk 10 o a b [u]).Ex) : Tree.tkb full (.mk 10 o a b [u]) p = u.tkb full posLv ++ [sgn o] := by
  have h : kidTk full 10 o 1 p 0 u = u.tkb full posLv := target_eq he (.inr (.inl rfl)) rfl hp
  rw [Tree.tkb_eq, one_tks, h]; rfl
theorem tkb_6 (full : Bool) (o : Int) (a b : ByteArray) (u : Tree) (p : Pos) : Tree.tkb full (.mk 6 o a b [u]) p = sgn 68 :: u.tks full (kidPosB 6 o 1 0 p) := by
  rw [Tree.tkb_eq, one_tks, kidTk_plain full _ _ _ _ _ (by decide)]; rfl
theorem tkb_11 (full : Bool) (o : Int) (a b : ByteArray) (u : Tree) (p : Pos) : Tree.tkb full (.mk 11 o a b [u]) p = sgn o :: u.tks full (kidPosB 11 o 1 0 p) := by
  rw [Tree.tkb_eq, one_tks, kidTk_plain full _ _ _ _ _ (by decide)]; rfl
theorem tkb_15 {full : Bool} {o : Int} {a b : ByteArray} {u v : Tree} {p : Pos} (hp : posOkB p = true) (he : (Tree.mk 15 o a b [u, v]).Ex) : Tree.tkb full (.mk 15 o a b [u, v]) p = (u.tkb full posLv ++ [sgn o]) ++ v.tks full (kidPosB 15 o 2 1 p) := by
  have h : kidTk full 15 o 2 p 0 u = u.tkb full posLv := target_eq he (.inr (.inr rfl)) rfl hp
  have ho : o ≠ 99 := by
    have := ((Tree.ex_eq _).1 he).2.1.2.2.2.1 rfl
    simp only [Tree.op] at this
    omega
  rw [Tree.tkb_eq, two_tks, h, kidTk_plain full _ _ _ _ _ (by decide)]
  show nodeToks 15 o a _ = _
  unfold nodeToks
  simp [ho]
theorem tkb_12 (full : Bool) (o : Int) (a b : ByteArray) (u v : Tree) (p : Pos) : Tree.tkb full (.mk 12 o a b [u, v]) p = u.tks full (kidPosB 12 o 2 0 p) ++ ((if o = 99 then [] else [sgn o]) ++ v.tks full (kidPosB 12 o 2 1 p)) := by
  rw [Tree.tkb_eq, two_tks, kidTk_plain full _ _ _ _ _ (by decide), kidTk_plain full _ _ _ _ _ (by decide)]; rfl
theorem tkb_14 (full : Bool) (o : Int) (a b : ByteArray) (u v x : Tree) (p : Pos) : Tree.tkb full (.mk 14 o a b [u, v, x]) p = u.tks full (kidPosB 14 o 3 0 p) ++ (sgn 65 :: (v.tks full (kidPosB 14 o 3 1 p) ++ (sgn 66 :: x.tks full (kidPosB 14 o 3 2 p)))) := by
  rw [Tree.tkb_eq, three_tks, kidTk_plain full _ _ _ _ _ (by decide), kidTk_plain full _ _ _ _ _ (by decide), kidTk_plain full _ _ _ _ _ (by decide)]; rfl
theorem tkb_13a (full : Bool) (o : Int) (a b : ByteArray) (u : Tree) (p : Pos) : Tree.tkb full (.mk 13 o a b [u]) p = u.tks full (kidPosB 13 o 1 0 p) ++ [sgn 24, ⟨6, a, 0⟩] := by
  rw [Tree.tkb_eq, one_tks, kidTk_plain full _ _ _ _ _ (by decide)]; rfl
theorem tkb_13b {full : Bool} {o : Int} {a b : ByteArray} {l : List Tree} {p : Pos} (hp : posOkB p = true) (he : (Tree.mk 13 o a b l).Ex) (hn : 1 < l.length) : Tree.tkb full (.mk 13 o a b l) p = (sgn 32 :: (commas (l.map fun u => u.tks full posTop) ++ [sgn 33])) ++ [sgn 24, ⟨6, a, 0⟩] := by
  rw [Tree.tkb_eq, kidTks_top hp he (.inr ⟨rfl, by show (1 : Int) < (l.length : Int); omega⟩)]
  show nodeToks 13 o a _ = _
  unfold nodeToks
  simp [Tree.kids, hn]
theorem commas_top_len {full : Bool} {t : Tree} {p : Pos} (hp : posOkB p = true) (he : t.Ex) (hl : levelB t.kind t.op = 15 ∨ (t.kind = 13 ∧ 1 < (t.kids.length : Int))) : (commas (t.kids.map fun u => u.tks full posTop)).length ≤ 8 * t.post.length := by
  rw [← kidTks_top hp he hl]
  have h1 := t.all_len full p
  have h2 := commas_len (t.kidTks full p)
  rw [t.kidTks_len] at h2
  omega
/-- The trees of a valid tree are valid and small. -/
theorem ex_facts {l : List Node} (hok : treeOk l = true) {i : Nat} (hi : i < l.length) : (treeIx l i).okT = true ∧ (treeIx l i).post.length ≤ 400 ∧ (treeIx l i).depth ≤ 40 := by
  have hs := treeOk_shape hok
  obtain ⟨h1, h2, h3, h4⟩ := treeOk_back hok
  have hp := list_post hs
  refine ⟨?_, ?_, ?_⟩
  · refine Tree.post_ok _ (rootTree l) (Nat.lt_succ_self _) h2 _ ?_
    rw [← hp.1]
    exact List.mem_map.2 ⟨i, List.mem_range.2 hi, rfl⟩
  · have h5 := (tree_post (treeIx l i)).1
    rw [← part_add hs hi] at h5
    have h6 := (part_count hs hi)
    omega
  · have := depth_root hs (l.length - 1 - i) i (by omega)
    omega
/-! Valid expressions. -/
def exprToks (l : List Node) (p : Pos) : List Token := if exprOkB l = true ∧ posOkB p = true then (rootTree l).tks false p else []
def fullToks (l : List Node) : List Token := if exprOkB l = true then (rootTree l).tks true posTop else []
theorem exprOk_facts {l : List Node} (h : exprOkB l = true) : treeOk l = true ∧ (rootTree l).Ex ∧ (rootTree l).post.length = l.length ∧ 1 ≤ l.length ∧ l.length ≤ 400 ∧ (rootTree l).okT = true := by
  unfold exprOkB at h
  rw [Bool.and_eq_true, kindAt_tree] at h
  obtain ⟨hok, hk⟩ := h
  have hs := treeOk_shape hok
  obtain ⟨h1, h2, _⟩ := shapeOk_yes hs
  obtain ⟨h3, h4, h5, h6⟩ := treeOk_back hok
  exact ⟨hok, Tree.ex_of h4 hk, (list_post hs).2.symm, h1, h2, h4⟩
theorem exprToks_len (l : List Node) (p : Pos) : (exprToks l p).length ≤ 3200 := by
  unfold exprToks
  split
  · rename_i h
    obtain ⟨_, _, h3, _, h5, _⟩ := exprOk_facts h.1
    have := (rootTree l).tks_len false p
    omega
  · simp
theorem fullToks_len (l : List Node) : (fullToks l).length ≤ 3200 := by
  unfold fullToks
  split
  · rename_i h
    obtain ⟨_, _, h3, _, h5, _⟩ := exprOk_facts h
    have := (rootTree l).tks_len true posTop
    omega
  · simp
end Go.Proofs.YtkelhmgdajiocaaGreatDoor
