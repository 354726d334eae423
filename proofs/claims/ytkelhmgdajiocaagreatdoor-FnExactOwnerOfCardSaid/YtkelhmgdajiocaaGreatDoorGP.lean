/- Walks and lemmas of this seat (FTiles): what each theorem says of the functions that it names. Conditions: those that each theorem states. -/
import Derived.Test.YtkelhmgdajiocaaGreatDoorGD
import Derived.Deep.AppendLies
import Derived.Test.YtkelhmgdajiocaaGreatDoorGA
import Derived.Deep.RegionLaw
import Derived.Deep.DrawnRows
namespace Go.Proofs.YtkelhmgdajiocaaGreatDoor
set_option linter.unusedVariables false
set_option linter.unusedSimpArgs false
open Go.RowKit

/-- ks lie one behind the other from b up to a: each begins where the one ahead of it ends. -/
def Tiles (s : List Nat) : List Int → Nat → Nat → Prop
  | [], b, a => b = a
  | k :: ks, b, a => ∃ j : Nat, k = (j : Int) ∧ s.getD j 0 = b ∧ j < a ∧ Tiles s ks (j + 1) a
theorem Tiles.snoc {s : List Nat} : ∀ {ks : List Int} {b a j : Nat}, Tiles s ks b (s.getD j 0) → s.getD j 0 ≤ j → Tiles s (ks ++ [(j : Int)]) b (j + 1) := by
  intro ks
  induction ks with
  | nil => intro b a j h hj; exact ⟨j, rfl, h.symm, by omega, rfl⟩
  | cons k ks ih =>
    intro b a j h hj
    obtain ⟨i, h1, h2, h3, h4⟩ := h
    exact ⟨i, h1, h2, by omega, ih (a := a) h4 hj⟩
theorem stepK_tiles' {s : List Nat} (hl : Low s) : ∀ (r : List Int) (a b : Nat), stepK s r a = some b → Tiles s r.reverse b a := by
  intro r
  induction r with
  | nil => intro a b h; simp [stepK] at h; exact h.symm
  | cons k r ih =>
    intro a b h
    rw [stepK] at h
    split at h
    · simp at h
    · rename_i hn
      obtain ⟨j, rfl⟩ : ∃ j, a = j + 1 := ⟨a - 1, by omega⟩
      obtain rfl : k = (j : Int) := by omega
      rw [List.reverse_cons]
      exact Tiles.snoc (a := 0) (ih _ _ h) (hl.getD j)
theorem stepK_tiles {s : List Nat} (hl : Low s) (ks : List Int) (a b : Nat) (h : stepK s ks.reverse a = some b) : Tiles s ks b a := by
  have := stepK_tiles' hl _ _ _ h
  simpa using this
/-- Reading behind the end does not matter. -/
theorem stepK_ext {s t : List Nat} (h : ∀ j, j < s.length → t.getD j 0 = s.getD j 0) : ∀ (ks : List Int) (a : Nat), a ≤ s.length → Low s → stepK t ks a = stepK s ks a := by
  intro ks
  induction ks with
  | nil => intro a _ _; rfl
  | cons k ks ih =>
    intro a ha hl
    rw [stepK, stepK]
    by_cases hn : k ≠ (a : Int) - 1 ∨ a = 0
    · rw [if_pos hn, if_pos hn]
    · rw [if_neg hn, if_neg hn, h (a - 1) (by omega)]
      have := hl.getD (a - 1)
      exact ih _ (by omega) hl
theorem startsL_at : ∀ (l : List (List Int)) (out s : List Nat), Low out → startsL out l = some s → (∀ j, j < out.length → s.getD j 0 = out.getD j 0) ∧ ∀ (i : Nat) (ks : List Int), l[i]? = some ks → stepK s ks.reverse (out.length + i) = some (s.getD (out.length + i) 0) := by
  intro l
  induction l with
  | nil => intro out s _ h; simp [startsL] at h; subst h; exact ⟨fun _ _ => rfl, fun i ks h => by simp at h⟩
  | cons x l ih =>
    intro out s hl hs
    rw [startsL] at hs
    split at hs
    · simp at hs
    · rename_i a ha
      have hle := stepK_le hl _ _ _ ha
      obtain ⟨h1, h2⟩ := ih _ s (hl.snoc hle) hs
      have h3 : ∀ j, j < out.length → s.getD j 0 = out.getD j 0 := fun j hj => by
        rw [h1 j (by simp; omega)]
        simp [List.getD_eq_getElem?_getD, List.getElem?_append_left hj]
      refine ⟨h3, fun i ks hi => ?_⟩
      cases i with
      | zero =>
        simp at hi; subst hi
        rw [Nat.add_zero, stepK_ext h3 _ _ (Nat.le_refl _) hl, ha, h1 _ (by simp)]
        simp [List.getD_eq_getElem?_getD]
      | succ i =>
        have := h2 i ks (by simpa using hi)
        simp only [List.length_append, List.length_singleton] at this
        rw [show out.length + (i + 1) = out.length + 1 + i by omega]
        exact this
theorem tiles_le {s : List Nat} (hl : Low s) : ∀ {ks : List Int} {b a : Nat}, Tiles s ks b a → b ≤ a := by
  intro ks
  induction ks with
  | nil => intro b a h; exact Nat.le_of_eq h
  | cons k ks ih =>
    intro b a h
    obtain ⟨j, _, h2, h3, h4⟩ := h
    have := ih h4
    have := hl.getD j
    omega
theorem starts_tilesK {l : List (List Int)} {s : List Nat} (h : starts l = some s) {i : Nat} {ks : List Int} (hx : l[i]? = some ks) : Tiles s ks (s.getD i 0) i := by
  have hl := (starts_len h).1
  have := (startsL_at _ [] s Low.nil h).2 i ks hx
  simp only [List.length_nil, Nat.zero_add] at this
  exact stepK_tiles hl _ _ _ this
end Go.Proofs.YtkelhmgdajiocaaGreatDoor
/- Walks and lemmas of this seat (FPartP): what each theorem says of the functions that it names. Conditions: those that each theorem states. -/
namespace Go.Proofs.YtkelhmgdajiocaaGreatDoor
set_option linter.unusedVariables false
set_option linter.unusedSimpArgs false
open Go.RowKit

theorem starts_tiles {l : List Node} {s : List Nat} (h : starts (l.map Node.kids) = some s) {i : Nat} {x : Node} (hx : l[i]? = some x) : Tiles s x.kids (s.getD i 0) i :=
  starts_tilesK h (by rw [List.getElem?_map, hx]; rfl)

/-- A node whose kids are so much further on. -/
def Node.shift (d : Int) (x : Node) : Node := ⟨x.kind, x.op, x.text, x.other, x.kids.map (· + d)⟩
mutual
/-- The nodes of a tree behind a list, as (tree).add appends them. -/
def Tree.addTo : Tree → List Node → List Node
  | .mk k o t t' kids, acc => (Tree.addsTo kids acc []).1 ++ [⟨k, o, t, t', (Tree.addsTo kids acc []).2⟩]
def Tree.addsTo : List Tree → List Node → List Int → List Node × List Int
  | [], acc, ks => (acc, ks)
  | t :: l, acc, ks => Tree.addsTo l (t.addTo acc) (ks ++ [((t.addTo acc).length : Int) - 1])
end
/-- The part of node i. -/
def seg (l : List Node) (b a : Nat) : List Node := (l.drop b).take (a - b)
theorem seg_nil (l : List Node) (a : Nat) : seg l a a = [] := by simp [seg]
theorem seg_split (l : List Node) {b m a : Nat} (h1 : b ≤ m) (h2 : m ≤ a) : seg l b a = seg l b m ++ seg l m a := by
  unfold seg
  have e : a - b = (m - b) + (a - m) := by omega
  rw [e, List.take_add, List.drop_drop, show b + (m - b) = m by omega]
theorem seg_snoc {l : List Node} {b i : Nat} {x : Node} (hx : l[i]? = some x) (h : b ≤ i) : seg l b (i + 1) = seg l b i ++ [x] := by
  rw [seg_split l h (Nat.le_succ i)]
  congr 1
  unfold seg
  rw [drop_cons hx, show i + 1 - i = 1 by omega]
  rfl
theorem seg_len {l : List Node} {b a : Nat} (h : a ≤ l.length) : (seg l b a).length = a - b := by
  unfold seg; rw [List.length_take, List.length_drop]; omega
/-- THE LAW OF add: the nodes of node i's tree are its part, moved. -/
theorem addTo_seg {l : List Node} {s : List Nat} (h : starts (l.map Node.kids) = some s) : ∀ (i : Nat), i < l.length → ∀ (acc : List Node), (treeIx l i).addTo acc = acc ++ (seg l (s.getD i 0) (i + 1)).map (Node.shift ((acc.length : Int) - (s.getD i 0 : Nat))) := by
  have hah := ahead_of h
  have hl := (starts_len h).1
  intro i
  induction i using Nat.strongRecOn with
  | _ i ih =>
  intro hi acc
  obtain ⟨x, hx⟩ := get_of_lt hi
  have ht := starts_tiles h hx
  have key : ∀ (ks : List Int) (b : Nat), Tiles s ks b i → ∀ (acc : List Node) (kk : List Int),
      Tree.addsTo (ks.map fun k => treeIx l k.toNat) acc kk = (acc ++ (seg l b i).map (Node.shift ((acc.length : Int) - (b : Nat))), kk ++ ks.map (· + ((acc.length : Int) - (b : Nat)))) := by
    intro ks
    induction ks with
    | nil =>
      intro b hb acc kk
      have hb : b = i := hb
      subst hb
      simp [Tree.addsTo, seg_nil]
    | cons k ks ihk =>
      intro b hb acc kk
      obtain ⟨j, rfl, hs, hj, hrest⟩ := hb
      rw [List.map_cons, Tree.addsTo]
      simp only [Int.toNat_natCast]
      have hjl : j < l.length := by omega
      have hbj := hl.getD j
      rw [hs] at hbj
      have e1 := ih j hj hjl acc
      rw [hs] at e1
      have hsl : (seg l b (j + 1)).length = j + 1 - b := seg_len (by omega)
      have e2 : ((treeIx l j).addTo acc).length = acc.length + (j + 1 - b) := by rw [e1, List.length_append, List.length_map, hsl]
      rw [ihk (j + 1) hrest, e2, e1]
      have hle := tiles_le hl hrest
      have d1 : (((acc.length + (j + 1 - b) : Nat) : Int) - ((j + 1 : Nat) : Int)) = (acc.length : Int) - (b : Nat) := by omega
      rw [seg_split l (b := b) (m := j + 1) (a := i) (by omega) hle, List.map_append, d1]
      simp only [List.append_assoc, List.map_cons, Prod.mk.injEq, true_and]
      congr 1
      rw [List.singleton_append]
      congr 1
      omega
  rw [treeIx_eq hah hx, Tree.addTo, key _ _ ht, seg_snoc hx (hl.getD i), List.map_append]
  simp [Node.shift]
/-- The part of a node: what Part hands back. -/
def part (l : List Node) (i : Int) : List Node :=
  if shapeOk (l.map Node.kids) = true ∧ 0 ≤ i ∧ i < l.length then
    match starts (l.map Node.kids) with
    | none => []
    | some s => (seg l (s.getD i.toNat 0) (i.toNat + 1)).map (Node.shift (-(s.getD i.toNat 0 : Nat)))
  else []
theorem part_bulk (l : List Node) (i : Int) (h : bulk Node.sizes l ≤ 1048576) : bulk Node.sizes (part l i) ≤ 1048576 := by
  unfold part
  split
  · split
    · simp [bulk]
    · rename_i s _
      refine Nat.le_trans ?_ h
      unfold bulk
      rw [List.length_map, List.map_map]
      have e : (Node.sizes ∘ Node.shift (-(s.getD i.toNat 0 : Nat))) = Node.sizes := by funext x; simp [Node.sizes, Node.shift]
      rw [e]
      unfold seg
      have h1 : ((l.drop (s.getD i.toNat 0)).take (i.toNat + 1 - s.getD i.toNat 0)).length ≤ l.length := by rw [List.length_take, List.length_drop]; omega
      have h2 := sum_take_le Node.sizes (l.drop (s.getD i.toNat 0)) (i.toNat + 1 - s.getD i.toNat 0)
      have h3 : ∀ (n : Nat), ((l.drop n).map Node.sizes).sum ≤ (l.map Node.sizes).sum := by
        intro n
        conv => rhs; rw [← List.take_append_drop n l, List.map_append, List.sum_append]
        omega
      have := h3 (s.getD i.toNat 0)
      omega
  · simp [bulk]
theorem part_add {l : List Node} {i : Nat} (hok : shapeOk (l.map Node.kids) = true) (hi : i < l.length) : part l (i : Int) = (treeIx l i).addTo [] := by
  obtain ⟨_, _, s, hs⟩ := shapeOk_yes hok
  rw [addTo_seg hs i hi]
  unfold part
  rw [if_pos ⟨hok, by omega, by omega⟩, hs]
  simp
end Go.Proofs.YtkelhmgdajiocaaGreatDoor
/- Walks and lemmas of this seat (FAddP): what each theorem says of the functions that it names. Conditions: those that each theorem states. -/
namespace Go.Proofs.YtkelhmgdajiocaaGreatDoor
set_option linter.unusedVariables false
set_option linter.unusedSimpArgs false
open Go.RowKit

theorem Tree.addsTo_append : ∀ (l r : List Tree) (acc : List Node) (ks : List Int), Tree.addsTo (l ++ r) acc ks = Tree.addsTo r (Tree.addsTo l acc ks).1 (Tree.addsTo l acc ks).2 := by
  intro l
  induction l with
  | nil => intro r acc ks; rfl
  | cons t l ih => intro r acc ks; rw [List.cons_append, Tree.addsTo, ih]; rw [Tree.addsTo]
theorem Tree.addTo_eq (t : Tree) (acc : List Node) : t.addTo acc = (Tree.addsTo t.kids acc []).1 ++ [⟨t.kind, t.op, t.text, t.other, (Tree.addsTo t.kids acc []).2⟩] := by
  cases t with
  | mk k o x y l => rw [Tree.addTo]; rfl
theorem Tree.addsTo_len : ∀ (l : List Tree), (∀ t ∈ l, ∀ acc : List Node, acc.length + 1 ≤ (t.addTo acc).length) → ∀ (acc : List Node) (ks : List Int), acc.length + l.length ≤ (Tree.addsTo l acc ks).1.length ∧ (Tree.addsTo l acc ks).2.length = ks.length + l.length := by
  intro l
  induction l with
  | nil => intro _ acc ks; simp [Tree.addsTo]
  | cons t l ih =>
    intro h acc ks
    rw [Tree.addsTo]
    have h1 := h t (by simp) acc
    have h2 := ih (fun u hu => h u (by simp [hu])) (t.addTo acc) (ks ++ [((t.addTo acc).length : Int) - 1])
    simp only [List.length_cons, List.length_append, List.length_nil] at h2 ⊢
    omega
theorem Tree.addTo_len (n : Nat) : ∀ (t : Tree), SizeOf.sizeOf t < n → ∀ (acc : List Node), acc.length + 1 ≤ (t.addTo acc).length := by
  induction n with
  | zero => intro t h; omega
  | succ n ih =>
    intro t h acc
    rw [Tree.addTo_eq, List.length_append]
    have := (Tree.addsTo_len t.kids (fun u hu => ih u (by have := Tree.kid_lt hu; omega)) acc []).1
    simp
    omega
theorem Tree.adds_len (l : List Tree) (acc : List Node) (ks : List Int) : acc.length + l.length ≤ (Tree.addsTo l acc ks).1.length ∧ (Tree.addsTo l acc ks).2.length = ks.length + l.length :=
  Tree.addsTo_len l (fun t _ => Tree.addTo_len _ t (Nat.lt_succ_self _)) acc ks
theorem Tree.adds_snoc (l : List Tree) (t : Tree) (acc : List Node) : Tree.addsTo (l ++ [t]) acc [] = (t.addTo (Tree.addsTo l acc []).1, (Tree.addsTo l acc []).2 ++ [((t.addTo (Tree.addsTo l acc []).1).length : Int) - 1]) := by
  rw [Tree.addsTo_append, Tree.addsTo, Tree.addsTo]
theorem Tree.adds_le (l r : List Tree) (acc : List Node) : (Tree.addsTo l acc []).1.length + r.length ≤ (Tree.addsTo (l ++ r) acc []).1.length := by
  rw [Tree.addsTo_append]
  exact (Tree.adds_len r _ _).1

theorem own_up {w : World} {lo : Nat} {B : Nat} {e : TypeId} {s n : Nat} {v : Value} {xs : List Value} (h : w.ownsRow B e s v n xs) (hl : ∀ g, v.ownBlock = some g → lo ≤ g) : w.ownsRow lo e s v n xs := by
  refine ⟨h.1, ?_⟩
  rcases h.2 with hn | ⟨g, cap, cur, rfl, _, r⟩
  · exact .inl hn
  · exact .inr ⟨g, cap, cur, rfl, hl g rfl, r⟩
/-- The call's own nodes, each of their blocks in S. -/
structure OwnS (S : Nat → Prop) (w : World) (v : Value) (q : List (Node × Value)) : Prop where
  row : w.ownsRow 0 58 5 v q.length (q.flatMap Node.cells)
  rowS : ∀ g, v.ownBlock = some g → S g
  kids : ∀ p ∈ q, w.ownsRow 0 3 1 p.2 p.1.kids.length (p.1.kids.flatMap int1)
  kidsS : ∀ p ∈ q, ∀ g, p.2.ownBlock = some g → S g
  apart : (v :: q.map Prod.snd).Pairwise Apart
theorem OwnS.nil (S : Nat → Prop) (w : World) : OwnS S w (.slice none 0 0) [] := ⟨⟨by simp, .inl ⟨rfl, rfl⟩⟩, fun g h => by simp [Value.ownBlock] at h, by simp, by simp, by simp⟩
theorem OwnS.keep {S S' : Nat → Prop} {w w' : World} {v : Value} {q : List (Node × Value)} (h : OwnS S w v q) (hk : ∀ b, S b → b < w.heap.size → w'.heap[b]? = w.heap[b]? ∧ S' b) : OwnS S' w' v q := by
  have key : ∀ {e : TypeId} {s n : Nat} {u : Value} {xs : List Value}, w.ownsRow 0 e s u n xs → (∀ g, u.ownBlock = some g → S g) → w'.ownsRow 0 e s u n xs ∧ ∀ g, u.ownBlock = some g → S' g := by
    intro e s n u xs ho hS
    refine ⟨⟨ho.1, ?_⟩, fun g hg => (hk g (hS g hg) (ho.lt g hg).2).2⟩
    rcases ho.2 with hn | ⟨g, cap, cur, rfl, hg, hgg, r⟩
    · exact .inl hn
    · exact .inr ⟨g, cap, cur, rfl, hg, (hk g (hS g rfl) (Array.getElem?_eq_some_iff.1 hgg).1).1.trans hgg, r⟩
  exact ⟨(key h.row h.rowS).1, (key h.row h.rowS).2, fun p hp => (key (h.kids p hp) (h.kidsS p hp)).1, fun p hp => (key (h.kids p hp) (h.kidsS p hp)).2, h.apart⟩
theorem OwnS.own {S : Nat → Prop} {w : World} {lo : Nat} {v : Value} {q : List (Node × Value)} (h : OwnS S w v q) (hS : ∀ g, S g → lo ≤ g) : OwnNode w lo w.heap.size v (q.map Prod.fst) :=
  ⟨q, rfl, ⟨own_up h.row fun g hg => hS g (h.rowS g hg), fun g hg => (h.row.lt g hg).2⟩, fun p hp => ⟨own_up (h.kids p hp) fun g hg => hS g (h.kidsS p hp g hg), fun g hg => ((h.kids p hp).lt g hg).2⟩, h.apart⟩
theorem apart_ne {a b : Value} (h : ∀ g, a.ownBlock = some g → b.ownBlock ≠ some g) : Apart a b := by
  unfold Apart
  cases ha : a.ownBlock with
  | none => exact .inl rfl
  | some g => exact .inr fun e => h g ha e.symm
/-- A node is appended. -/
theorem OwnS.push {S S' : Nat → Prop} {w w' : World} {v v' kv : Value} {q : List (Node × Value)} {x : Node} (h : OwnS S w v q) (hrow : w'.ownsRow 0 58 5 v' (q.length + 1) (q.flatMap Node.cells ++ Node.cells (x, kv)))
    (hv' : ∀ g, v'.ownBlock = some g → S' g ∧ (v.ownBlock = some g ∨ w.heap.size ≤ g))
    (hkv : w'.ownsRow 0 3 1 kv x.kids.length (x.kids.flatMap int1)) (hkS : ∀ g, kv.ownBlock = some g → S' g ∧ ¬ S g ∧ g < w.heap.size)
    (hk : ∀ b, S b → b < w.heap.size → (some b ≠ v.ownBlock → w'.heap[b]? = w.heap[b]?) ∧ S' b) : OwnS S' w' v' (q ++ [(x, kv)]) := by
  have hap := List.pairwise_cons.1 h.apart
  have hne : ∀ p ∈ q, ∀ g, p.2.ownBlock = some g → some g ≠ v.ownBlock := fun p hp g hg e => by
    have := hap.1 p.2 (List.mem_map.2 ⟨p, hp, rfl⟩)
    unfold Apart at this
    rcases this with h0 | h0
    · rw [← e] at h0; cases h0
    · exact h0 (by rw [hg, e])
  refine ⟨by simpa using hrow, fun g hg => (hv' g hg).1, fun p hp => ?_, fun p hp g hg => ?_, ?_⟩
  · rcases List.mem_append.1 hp with hp | hp
    · have ho := h.kids p hp
      refine ⟨ho.1, ?_⟩
      rcases ho.2 with hn | ⟨g, cap, cur, hpv, hg, hgg, r⟩
      · exact .inl hn
      · have hgo : p.2.ownBlock = some g := by rw [hpv]; rfl
        exact .inr ⟨g, cap, cur, hpv, hg, ((hk g (h.kidsS p hp g hgo) (Array.getElem?_eq_some_iff.1 hgg).1).1 (hne p hp g hgo)).trans hgg, r⟩
    · simp at hp; subst hp; exact hkv
  · rcases List.mem_append.1 hp with hp | hp
    · exact (hk g (h.kidsS p hp g hg) ((h.kids p hp).lt g hg).2).2
    · simp at hp; subst hp; exact (hkS g hg).1
  · rw [List.map_append, List.pairwise_cons]
    refine ⟨fun a ha => ?_, pairwise_snoc hap.2 fun a ha => ?_⟩
    · refine apart_ne fun g hg => ?_
      rcases (hv' g hg).2 with hg2 | hg2
      · rcases List.mem_append.1 ha with ha | ha
        · obtain ⟨p, hp, rfl⟩ := List.mem_map.1 ha
          exact fun e => hne p hp g e hg2.symm
        · simp at ha; subst ha
          exact fun e => (hkS g e).2.1 (h.rowS g hg2)
      · rcases List.mem_append.1 ha with ha | ha
        · obtain ⟨p, hp, rfl⟩ := List.mem_map.1 ha
          exact fun e => by have := ((h.kids p hp).lt g e).2; omega
        · simp at ha; subst ha
          exact fun e => by have := (hkS g e).2.2; omega
    · obtain ⟨p, hp, rfl⟩ := List.mem_map.1 ha
      exact apart_ne fun g hg e => (hkS g e).2.1 (h.kidsS p hp g hg)
/-- What (tree).add hands back. -/
def AddPost (S : Nat → Prop) (w : World) (v : Value) (l : List Node) (e : Ending) (w' : World) : Prop :=
  ∃ v' q, e = .returned v' ∧ w.grownBy w' v.ownBlock ∧ (∀ g, v'.ownBlock = some g → v.ownBlock = some g ∨ w.heap.size ≤ g) ∧ q.map Prod.fst = l ∧ OwnS (fun g => S g ∨ w.heap.size ≤ g) w' v' q
/-- Between two rounds of (tree).add's loop. -/
structure AL (S : Nat → Prop) (t : Tree) (w : World) (kv0 : Value) (v0 : Value) (acc : List Node) (k : Nat) (v nkv : Value) (q : List (Node × Value)) (wr : World) : Prop where
  gr : w.grownBy wr v0.ownBlock
  size : w.heap.size + 1 < wr.heap.size
  box : wr.heap[w.heap.size]? = some (.cells #[.int .i64 t.kind, .int .i64 t.op, .string t.text, .string t.other, kv0] 99 (0, 0))
  nbox : wr.heap[w.heap.size + 1]? = some (.cells #[.int .i64 t.kind, .int .i64 t.op, .string t.text, .string t.other, nkv] 58 (0, 0))
  own : wr.ownsRow (w.heap.size + 1 + 1) 3 1 nkv (Tree.addsTo (t.kids.take k) acc []).2.length ((Tree.addsTo (t.kids.take k) acc []).2.flatMap int1)
  eq : q.map Prod.fst = (Tree.addsTo (t.kids.take k) acc []).1
  rowN : ∀ g, v.ownBlock = some g → v0.ownBlock = some g ∨ w.heap.size + 1 + 1 ≤ g
  nodes : OwnS (fun g => S g ∨ (w.heap.size + 1 + 1 ≤ g ∧ some g ≠ nkv.ownBlock)) wr v q
theorem cell_of_heap {w w' : World} {b o : Nat} (h : w'.heap[b]? = w.heap[b]?) : w'.cell? ⟨b, o, none⟩ = w.cell? ⟨b, o, none⟩ := by
  unfold World.cell?
  simp only [h]
theorem AL.step {S : Nat → Prop} {t : Tree} {w : World} {kv0 v0 : Value} {acc : List Node} {k m cap gg : Nat} {v v2 nkv : Value} {q q2 : List (Node × Value)} {wr w2 w3 : World} {o o2 : Obj} {ks : List Int} (h : AL S t w kv0 v0 acc k v nkv q wr)
    (hS : ∀ b, S b → b < w.heap.size) (hv0 : ∀ g, v0.ownBlock = some g → S g) (hg2 : (wr.alloc o).grownBy w2 v.ownBlock) (hr2 : ∀ g, v2.ownBlock = some g → v.ownBlock = some g ∨ (wr.alloc o).heap.size ≤ g) (hq2 : q2.map Prod.fst = (Tree.addsTo (t.kids.take (k + 1)) acc []).1)
    (hn2 : OwnS (fun g => ((S g ∨ (w.heap.size + 1 + 1 ≤ g ∧ some g ≠ nkv.ownBlock)) ∧ g < wr.heap.size) ∨ (wr.alloc o).heap.size ≤ g) w2 v2 q2)
    (hown3 : w3.ownsRow (w.heap.size + 1 + 1) 3 1 (.slice (some ⟨gg, 0, none⟩) m cap) m (ks.flatMap int1)) (hks : ks = (Tree.addsTo (t.kids.take (k + 1)) acc []).2) (hg3 : (w2.alloc o2).grownBy w3 nkv.ownBlock) (hat : nkv.ownBlock = some gg ∨ gg = w2.heap.size + 1) :
    AL S t w kv0 v0 acc (k + 1) v2 (.slice (some ⟨gg, 0, none⟩) m cap) q2 (w3.setCell ⟨w.heap.size + 1, 4, none⟩ (.slice (some ⟨gg, 0, none⟩) m cap)) := by
  have hml : m = ks.length := by
    have := hown3.1
    rw [flat_len int1 1 int1_len] at this
    omega
  have hsz := h.size
  have hs2 : wr.heap.size + 1 ≤ w2.heap.size := by have := hg2.size; simpa using this
  have hs3 : w2.heap.size + 1 ≤ w3.heap.size := by have := hg3.size; simpa using this
  have hnk : ∀ g, nkv.ownBlock = some g → w.heap.size + 1 + 1 ≤ g ∧ g < wr.heap.size := fun g hg => h.own.lt g hg
  have hvN : ∀ g, v.ownBlock = some g → (v0.ownBlock = some g ∧ g < w.heap.size) ∨ (w.heap.size + 1 + 1 ≤ g ∧ some g ≠ nkv.ownBlock) := fun g hg => by
    rcases h.nodes.rowS g hg with hs | hs
    · rcases h.rowN g hg with h1 | h1
      · exact .inl ⟨h1, hS g hs⟩
      · have := hS g hs; omega
    · exact .inr hs
  have h12 : ∀ b, b < wr.heap.size → some b ≠ v.ownBlock → w2.heap[b]? = wr.heap[b]? := fun b hb hne => (hg2.block b (by simp; omega) hne).trans (Below.heap_alloc _ _ _ hb)
  have h23 : ∀ b, b < w2.heap.size → some b ≠ nkv.ownBlock → w3.heap[b]? = w2.heap[b]? := fun b hb hne => (hg3.block b (by simp; omega) hne).trans (Below.heap_alloc _ _ _ hb)
  have hset : ∀ b, b ≠ w.heap.size + 1 → (w3.setCell ⟨w.heap.size + 1, 4, none⟩ (.slice (some ⟨gg, 0, none⟩) m cap)).heap[b]? = w3.heap[b]? := fun b hb => heap_setCell_other w3 ⟨w.heap.size + 1, 4, none⟩ b _ hb
  have hgg : w.heap.size + 1 + 1 ≤ gg := (hown3.lt gg rfl).1
  have hlow : ∀ b, b ≤ w.heap.size + 1 → w.heap.size ≤ b → some b ≠ v.ownBlock ∧ some b ≠ nkv.ownBlock := fun b hb hb2 =>
    ⟨fun e => by rcases hvN b e.symm with ⟨_, h1⟩ | ⟨h1, _⟩ <;> omega, fun e => by have := (hnk b e.symm).1; omega⟩
  refine ⟨?_, by simp; omega, ?_, ?_, ?_, hq2, fun g hg => ?_, ?_⟩
  · refine ⟨hg3.os.trans (hg2.os.trans h.gr.os), hg3.tape.trans (hg2.tape.trans h.gr.tape), hg3.output.trans (hg2.output.trans h.gr.output), by simp; omega, fun b hb hne => ?_⟩
    rw [hset b (by omega), h23 b (by omega) (fun e => by have := (hnk b e.symm).1; omega), h12 b (by omega) (fun e => by
      rcases hvN b e.symm with ⟨h1, _⟩ | ⟨h1, _⟩
      · exact hne h1.symm
      · omega)]
    exact h.gr.block b hb hne
  · rw [hset _ (by omega), h23 _ (by omega) (hlow _ (by omega) (by omega)).2, h12 _ (by omega) (hlow _ (by omega) (by omega)).1]; exact h.box
  · have := (h23 _ (by omega) (hlow _ (Nat.le_refl _) (by omega)).2).trans ((h12 _ (by omega) (hlow _ (Nat.le_refl _) (by omega)).1).trans h.nbox)
    rw [heap_setCell_at this]; rfl
  · rw [← hks, ← hml]
    exact hown3.kept (grown_set w3 (w.heap.size + 1) 4 _) (.inr (by simp [Value.ownBlock]; omega))
  · rcases hr2 g hg with h1 | h1
    · rcases hvN g h1 with ⟨h2, _⟩ | ⟨h2, _⟩
      · exact .inl h2
      · exact .inr h2
    · simp at h1; exact .inr (by omega)
  · refine hn2.keep fun b hb hlt => ?_
    have hb2 : (S b ∧ b < w.heap.size) ∨ (w.heap.size + 1 + 1 ≤ b ∧ some b ≠ nkv.ownBlock) := by
      rcases hb with ⟨hb | hb, _⟩ | hb
      · exact .inl ⟨hb, hS b hb⟩
      · exact .inr hb
      · simp at hb
        exact .inr ⟨by omega, fun e => by have := (hnk b e.symm).2; omega⟩
    have hbn : b ≠ w.heap.size + 1 := by rcases hb2 with ⟨_, h1⟩ | ⟨h1, _⟩ <;> omega
    have hbk : some b ≠ nkv.ownBlock := by
      rcases hb2 with ⟨_, h1⟩ | ⟨_, h1⟩
      · exact fun e => by have := (hnk b e.symm).1; omega
      · exact h1
    refine ⟨by rw [hset b hbn, h23 b hlt hbk], ?_⟩
    rcases hb2 with ⟨h1, _⟩ | ⟨h1, _⟩
    · exact .inl h1
    · refine .inr ⟨h1, fun e => ?_⟩
      simp [Value.ownBlock] at e
      subst e
      rcases hat with hat | hat
      · exact hbk hat.symm
      · omega
theorem AL.fin {S : Nat → Prop} {t : Tree} {w : World} {kv0 v0 : Value} {acc : List Node} {k cap gg : Nat} {v nkv : Value} {q : List (Node × Value)} {wr w3 : World} {o : Obj} {ks : List Int} (h : AL S t w kv0 v0 acc k v nkv q wr)
    (hS : ∀ b, S b → b < w.heap.size) (hks : ks = (Tree.addsTo (t.kids.take k) acc []).2)
    (hown3 : w3.ownsRow 0 58 5 (.slice (some ⟨gg, 0, none⟩) (q.length + 1) cap) (q.length + 1) (q.flatMap Node.cells ++ Node.cells (⟨t.kind, t.op, t.text, t.other, ks⟩, nkv))) (hg3 : (wr.alloc o).grownBy w3 v.ownBlock) (hat : v.ownBlock = some gg ∨ gg = wr.heap.size + 1) :
    w.grownBy w3 v0.ownBlock ∧ (∀ g, (Value.slice (some ⟨gg, 0, none⟩) (q.length + 1) cap).ownBlock = some g → v0.ownBlock = some g ∨ w.heap.size ≤ g) ∧ OwnS (fun g => S g ∨ w.heap.size ≤ g) w3 (.slice (some ⟨gg, 0, none⟩) (q.length + 1) cap) (q ++ [(⟨t.kind, t.op, t.text, t.other, ks⟩, nkv)]) := by
  have hsz := h.size
  have hs3 : wr.heap.size + 1 ≤ w3.heap.size := by have := hg3.size; simpa using this
  have hnk : ∀ g, nkv.ownBlock = some g → w.heap.size + 1 + 1 ≤ g ∧ g < wr.heap.size := fun g hg => h.own.lt g hg
  have hvN : ∀ g, v.ownBlock = some g → (v0.ownBlock = some g ∧ g < w.heap.size ∧ S g) ∨ (w.heap.size + 1 + 1 ≤ g ∧ some g ≠ nkv.ownBlock) := fun g hg => by
    rcases h.nodes.rowS g hg with hs | hs
    · rcases h.rowN g hg with h1 | h1
      · exact .inl ⟨h1, hS g hs, hs⟩
      · have := hS g hs; omega
    · exact .inr hs
  have h23 : ∀ b, b < wr.heap.size → some b ≠ v.ownBlock → w3.heap[b]? = wr.heap[b]? := fun b hb hne => (hg3.block b (by simp; omega) hne).trans (Below.heap_alloc _ _ _ hb)
  refine ⟨⟨hg3.os.trans h.gr.os, hg3.tape.trans h.gr.tape, hg3.output.trans h.gr.output, by omega, fun b hb hne => ?_⟩, fun g hg => ?_, ?_⟩
  · rw [h23 b (by omega) (fun e => by
      rcases hvN b e.symm with ⟨h1, _⟩ | ⟨h1, _⟩
      · exact hne h1.symm
      · omega)]
    exact h.gr.block b hb hne
  · simp [Value.ownBlock] at hg
    subst hg
    rcases hat with hat | hat
    · rcases hvN gg hat with ⟨h1, _⟩ | ⟨h1, _⟩
      · exact .inl h1
      · exact .inr (by omega)
    · exact .inr (by omega)
  · refine h.nodes.push hown3 (fun g hg => ?_) ?_ (fun g hg => ?_) (fun b hb hlt => ?_)
    · simp [Value.ownBlock] at hg
      subst hg
      rcases hat with hat | hat
      · refine ⟨?_, .inl hat⟩
        rcases hvN gg hat with ⟨_, _, h1⟩ | ⟨h1, _⟩
        · exact .inl h1
        · exact .inr (by omega)
      · exact ⟨.inr (by omega), .inr (by omega)⟩
    · have hown := h.own
      rw [← hks] at hown
      refine own_base ((hown.alloc o).kept hg3 ?_) (Nat.zero_le _)
      cases hno : nkv.ownBlock with
      | none => exact .inl rfl
      | some g =>
        refine .inr fun e => ?_
        rcases hvN g e.symm with ⟨_, h1, _⟩ | ⟨_, h1⟩
        · have := (hnk g hno).1; omega
        · exact h1 hno.symm
    · have hg2 := hnk g hg
      refine ⟨.inr (by omega), fun hb => ?_, hg2.2⟩
      rcases hb with hb | hb
      · have := hS g hb; omega
      · exact hb.2 hg.symm
    · refine ⟨h23 b hlt, ?_⟩
      rcases hb with hb | hb
      · exact .inl hb
      · exact .inr (by omega)
end Go.Proofs.YtkelhmgdajiocaaGreatDoor
/- Walks and lemmas of this seat (FShift): what each theorem says of the functions that it names. Conditions: those that each theorem states. -/
namespace Go.Proofs.YtkelhmgdajiocaaGreatDoor
set_option linter.unusedVariables false
set_option linter.unusedSimpArgs false
open Go.RowKit

attribute [local go_sem ↓] Go.wp_at_zero Go.wp_at_succ


/-- Within a round of l6Shift: the box of the node, its kids so far. -/
structure SL (wr : World) (x : Node) (d : Int) (k : Nat) (nkv : Value) (w2 : World) : Prop where
  hb : Below wr.heap.size wr w2
  box : w2.heap[wr.heap.size]? = some (.cells #[.int .i64 x.kind, .int .i64 x.op, .string x.text, .string x.other, nkv] 58 (0, 0))
  own : w2.ownsRow (wr.heap.size + 1) 3 1 nkv k (((x.kids.take k).map (· + d)).flatMap int1)
theorem SL.step {wr w2 w3 : World} {x : Node} {d kid : Int} {k cap gg : Nat} {nkv : Value} {o : Obj} (h : SL wr x d k nkv w2) (hown : w3.ownsRow (wr.heap.size + 1) 3 1 (.slice (some ⟨gg, 0, none⟩) (k + 1) cap) (k + 1) (((x.kids.take k).map (· + d)).flatMap int1 ++ [.int .i64 (kid + d)]))
    (hg : (w2.alloc o).grownBy w3 nkv.ownBlock) (hk : x.kids.take (k + 1) = x.kids.take k ++ [kid]) :
    SL wr x d (k + 1) (.slice (some ⟨gg, 0, none⟩) (k + 1) cap) (w3.setCell ⟨wr.heap.size, 4, none⟩ (.slice (some ⟨gg, 0, none⟩) (k + 1) cap)) := by
  have hnk : ∀ g, nkv.ownBlock = some g → wr.heap.size + 1 ≤ g ∧ g < w2.heap.size := fun g hg => h.own.lt g hg
  have hgg := (hown.lt gg rfl).1
  have hlt : wr.heap.size < w2.heap.size := (Array.getElem?_eq_some_iff.1 h.box).1
  refine ⟨?_, ?_, ?_⟩
  · exact ((h.hb.alloc h.hb.size o).grown hg (by simp; omega) (fun r e => by have := (hnk r e).1; omega)).setCell (p := ⟨wr.heap.size, 4, none⟩) (Nat.le_refl _) _
  · have := (hg.block wr.heap.size (by simp; omega) (fun e => by have := (hnk _ e.symm).1; omega)).trans ((Below.heap_alloc _ _ _ hlt).trans h.box)
    rw [heap_setCell_at this]; rfl
  · rw [hk, List.map_append, List.flatMap_append]
    exact hown.kept (grown_set w3 wr.heap.size 4 _) (.inr (by simp [Value.ownBlock]; omega))

set_option maxRecDepth 100000 in
set_option maxHeartbeats 3200000 in
theorem specl6Shift_any (l0 : List Node) (v0 : Value) (d : Int) (w : World) (hx0 : ∀ x ∈ l0, x.Ok) (hn0 : bulk Node.sizes l0 ≤ 1048576) (hv0 : NodeSlc w v0 l0) (hd : ∀ x ∈ l0, ∀ k ∈ x.kids, I64 (k + d)) :
    Calls Tryz.prog 140 #[v0, .int .i64 d] w fun e w' => ∃ v', e = .returned v' ∧ Below w.heap.size w w' ∧ OwnNode w' w.heap.size w'.heap.size v' (l0.map (Node.shift d)) := by
  obtain ⟨a, cap, rfl, hm, hc, hsl⟩ := hv0.shape
  have hlen := Nat.le_trans (length_bulk Node.sizes l0) hn0
  obtain ⟨i0, hi, hz0, hz1, hz2⟩ := info_parts Tryz.info3
  obtain ⟨i1, hj, hy0, hy1, hy2⟩ := info_parts Tryz.info58
  replace hd := hid hd
  go_enter Tryz.func140, Tryz.ntmps140
  go_wp2
  go_loopw [5, 6] (fun v i wr => ∃ (k : Nat) (q : List (Node × Value)), i = .int .i64 k ∧ k ≤ l0.length ∧ q.length = k ∧ Below w.heap.size w wr ∧ Hid (q.map Prod.fst = (l0.take k).map (Node.shift d)) ∧ OwnS (fun g => w.heap.size ≤ g) wr v q) (fun _ i _ => l0.length - (intOf i).toNat)
  case atStart => exact ⟨0, [], rfl, by omega, rfl, by repeat (first | exact Below.refl _ _ | refine Below.alloc ?_ (by first | omega | (simp; done) | (simp; omega)) _ | refine Below.drew ?_), hid rfl, ⟨own_base (own_new0 _ _ _) (Nat.zero_le _), fun g hg => by simp [Value.ownBlock] at hg; omega, by simp, by simp, by simp⟩⟩
  obtain ⟨k, q, rfl, hk, hqk, hb, hqe, hown⟩ := hrel
  obtain ⟨wo, rfl⟩ : ∃ wo : World, wo = wr := ⟨_, rfl⟩
  have hbs := hb.size
  by_cases hlt : k < l0.length
  · obtain ⟨x, ka, kc, b, off, hx, rfl, c0, c1, c2, c3, c4, hkd⟩ := hsl.at hb (Nat.le_refl _) hlt
    have htk := hid (take_next hx)
    have hmem := List.mem_of_getElem? hx
    have hdx := hid (hd.out x hmem)
    have hxs := Nat.le_trans (bulk_mem Node.sizes hmem) hn0
    unfold Node.sizes at hxs
    have hAl : ∀ {q : Nat} {u : Value} (o : Obj), wo.cell? ⟨b, q, none⟩ = some u → (wo.alloc o).cell? ⟨b, q, none⟩ = some u := fun {q u} o h => (((Below.refl wo.heap.size wo).alloc (Nat.le_refl _) o).cell (p := ⟨b, q, none⟩) (World.block_lt_of_cell? wo _ h)).trans h
    obtain ⟨_, _, _, hkv, hkc, hkm, hkrow⟩ := hkd
    simp at hkv
    obtain ⟨rfl, rfl⟩ := hkv
    unfold maxLen at hkm
    replace hown := hid hown
    replace hqk := hid hqk
    have c4' := hid c4
    clear hx hmem hAl
    go_wp2
    go_loopw [8] (fun j w2 => ∃ (m : Nat) (nkv : Value), j = .int .i64 m ∧ m ≤ x.kids.length ∧ SL wo x d m nkv w2) (fun j _ => x.kids.length - (intOf j).toNat)
    case atStart =>
      refine ⟨0, .slice (some ⟨wo.heap.size + 1, 0, none⟩) 0 0, rfl, by omega, ⟨by repeat (first | exact Below.refl _ _ | refine Below.alloc ?_ (by first | omega | (simp; done) | (simp; omega)) _ | refine Below.drew ?_), ?_, ?_⟩⟩
      · exact (Below.heap_alloc _ _ _ (by simp)).trans (heap_alloc_new wo _)
      · have := own_new0 (wo.alloc (.cells #[.int .i64 x.kind, .int .i64 x.op, .string x.text, .string x.other, .slice (some ⟨wo.heap.size + 1, 0, none⟩) 0 0] 58)) 3 1
        simpa using this
    clear c0 c1 c2 c3 c4
    obtain ⟨m, nkv, rfl, hm2, hsl2⟩ := hrel
    have hb2 := hsl2.hb
    have hbs2 := hb2.size
    have hbx := hsl2.box
    have hlb : wo.heap.size < wr.heap.size := (Array.getElem?_eq_some_iff.1 hbx).1
    have c4 := (hb2.cell (p := ⟨b, off + k * 5 + 4, none⟩) (World.block_lt_of_cell? wo _ c4'.out)).trans c4'.out
    by_cases hlm : m < x.kids.length
    · obtain ⟨kid, hkid⟩ := get_of_lt hlm
      obtain ⟨kb, koff, rfl, hkro⟩ := slc_some hkrow (by omega)
      have d0 := (hkro.mono hb2 (Nat.le_refl _)).one int1_len hkid rfl
      have hki := hdx.out kid (List.mem_of_getElem? hkid)
      have hwr := wrap_in (kid + d) hki
      have hkt := hid (take_next hkid)
      have n0 : wr.cell? ⟨wo.heap.size, 4, none⟩ = some nkv := by simp [World.cell?, hbx]
      have n1 : wr.frozen? ⟨wo.heap.size, 4, none⟩ = false := by simp [World.frozen?, hbx]
      have hne : Hid (some wo.heap.size ≠ nkv.ownBlock) := hid fun e => by have := (hsl2.own.lt _ e.symm).1; omega
      have hi1 : (m : Int) < (x.kids.length : Int) := by omega
      have hi2 : (k : Int) < (l0.length : Int) := by omega
      have al : ∀ {q : Addr} {u : Value} (o : Obj), q.spot = none → wr.cell? q = some u → (wr.alloc o).cell? q = some u := fun {q u} o _ h => (((Below.refl wr.heap.size wr).alloc (Nat.le_refl _) o).cell (p := q) (World.block_lt_of_cell? wr _ h)).trans h
      have m0 := fun o => al o rfl n0
      have m1 := fun o => (((Below.refl wr.heap.size wr).alloc (Nat.le_refl _) o).frozen (p := ⟨wo.heap.size, 4, none⟩) hlb).trans n1
      have hml : m ≤ 1048576 := by omega
      have hnl := hid hki
      clear hkid hkro hki hbx al
      replace hsl2 := hid hsl2
      go_wp2_with fail
      go_region_law
        (first
          | (refine step_append_lies _ (by rfl) _ _ _ (by rfl) (wo.heap.size + 1) 3 i0 _ 1 8 Tryz.underlying54 hi hz0 hz1 hz2 rfl (by omega) nkv m (((x.kids.take m).map (· + d)).flatMap int1) (by rfl) ((hsl2.out.own.alloc _).drew)
              ⟨wr.heap.size, 0, none⟩ 1 1 [.int .i64 (kid + d)] (by rfl) (by rfl) (World.news_of_block (cs := #[.int .i64 (kid + d)]) (t := 3) (fr := (0, 0)) (heap_alloc_new wr _)) (by simp [Value.oneCell'])
              (by omega) (by unfold maxLen; omega) (by omega) (by simp; omega) (wr.heap.size + 1) (by simp) ?_; intro gg cap2 w3 hown3 hgrow hat hlt3; have q2 := (hgrow.cell_far _ (by simp; omega) hne.out).trans (m0 _); have q3 := (hgrow.frozen_far _ (by simp; omega) hne.out).trans (m1 _)))
      all_goals go_wp2
      all_goals go_roundw
      all_goals first
        | (simp [intOf]; omega)
        | exact ⟨m + 1, _, by go_num, by omega, hsl2.out.step hown3 ⟨hgrow.os, hgrow.tape, hgrow.output, hgrow.size, hgrow.block⟩ hkt.out⟩
    · obtain rfl : m = x.kids.length := by omega
      obtain ⟨va, vc, rfl, hvm⟩ := own_slice hown.out.row
      obtain ⟨na, nc, rfl, hnm⟩ := own_slice hsl2.own
      have hO := hid (hown.out.keep (S' := fun g => w.heap.size ≤ g ∧ g < wo.heap.size) (w' := wr) fun b' hS hl => ⟨hb2.block b' hl, hS, hl⟩)
      have hnk := hid (fun g (hg : (Value.slice na x.kids.length nc).ownBlock = some g) => hsl2.own.lt g hg)
      have hkv := hid (show wr.ownsRow (wo.heap.size + 1) 3 1 (.slice na x.kids.length nc) (Node.shift d x).kids.length ((Node.shift d x).kids.flatMap int1) by
        have := hsl2.own
        rw [List.take_length] at this
        simpa [Node.shift] using this)
      have p0 : wr.cell? ⟨wo.heap.size, 0, none⟩ = some (.int .i64 x.kind) := by simp [World.cell?, hbx]
      have p1 : wr.cell? ⟨wo.heap.size, 1, none⟩ = some (.int .i64 x.op) := by simp [World.cell?, hbx]
      have p2 : wr.cell? ⟨wo.heap.size, 2, none⟩ = some (.string x.text) := by simp [World.cell?, hbx]
      have p3 : wr.cell? ⟨wo.heap.size, 3, none⟩ = some (.string x.other) := by simp [World.cell?, hbx]
      have p4 : wr.cell? ⟨wo.heap.size, 4, none⟩ = some (.slice na x.kids.length nc) := by simp [World.cell?, hbx]
      have hql : q.length ≤ 1048576 := by have := hqk.out; omega
      have hx63 : q.length + 1 ≤ maxLen := by unfold maxLen; omega
      have hx47 : (q.length + 1) * 72 ≤ 140737488355328 := by omega
      have hBr := hid (hb.trans (hb2.mono hb.size))
      clear hbx hsl2
      go_wp2_with (at_builtin; refine wpList_append_lies _ (by rfl) _ _ _ (by rfl) 0 58 i1 _ 5 72 Tryz.underlying26 hj hy0 hy1 hy2 rfl (by omega) (.slice va q.length vc) q.length (q.flatMap Node.cells) (by rfl) (hO.out.row.alloc _) ⟨wr.heap.size, 0, none⟩ 1 1 [.int .i64 x.kind, .int .i64 x.op, .string x.text, .string x.other, .slice na x.kids.length nc] (by rfl) (by rfl) (World.news_of_block (cs := #[.int .i64 x.kind, .int .i64 x.op, .string x.text, .string x.other, .slice na x.kids.length nc]) (t := 58) (fr := (0, 0)) (heap_alloc_new wr _)) (by simp [Value.oneCell']) (by omega) hx63 hx47 (by omega) (wr.heap.size + 1) (by simp) ?_; intro gg cap3 w3 hown3 hg3 hat hlt3)
      all_goals go_roundw
      all_goals first
        | (simp [intOf]; omega)
        | (refine ⟨k + 1, q ++ [(Node.shift d x, .slice na x.kids.length nc)], by go_num, by omega, by rw [List.length_append, hqk.out]; rfl, (hBr.out.alloc hBr.out.size _).grown hg3 (by have := hBr.out.size; simp; omega) (fun r e => (hO.out.rowS r e).1), hid (by rw [List.map_append, hqe.out, htk.out, List.map_append]; rfl), ?_⟩
           have h23 : ∀ b', b' < wr.heap.size → some b' ≠ (Value.slice va q.length vc).ownBlock → w3.heap[b']? = wr.heap[b']? := fun b' hb' hne' => (hg3.block b' (by simp; omega) hne').trans (Below.heap_alloc _ _ _ hb')
           refine hO.out.push hown3 (fun g hg => ?_) ?_ (fun g hg => ?_) (fun b' hS hl => ⟨h23 b' hl, hS.1⟩)
           · simp [Value.ownBlock] at hg
             subst hg
             rcases hat with hat | hat
             · exact ⟨(hO.out.rowS _ hat).1, .inl hat⟩
             · exact ⟨by omega, .inr (by omega)⟩
           · refine own_base ((hkv.out.alloc _).kept hg3 ?_) (Nat.zero_le _)
             cases hno : (Value.slice na x.kids.length nc).ownBlock with
             | none => exact .inl rfl
             | some g => exact .inr fun e => by have := (hO.out.rowS g e.symm).2; have := (hnk.out g hno).1; omega
           · have := hnk.out g hg
             exact ⟨by omega, fun hS => by omega, this.2⟩)
  · have hkl : k = l0.length := by omega
    subst hkl
    obtain ⟨va, vc, rfl, _⟩ := own_slice hown.row
    have hO := hid (hown.own (lo := w.heap.size) fun g h => h)
    have hqe2 : Hid (q.map Prod.fst = l0.map (Node.shift d)) := hid (by rw [hqe.out, List.take_length])
    replace hqk := hid hqk
    clear hown
    go_wp2
    go_ret
    exact ⟨_, rfl, hb, by rw [← hqe2.out]; exact hO.out⟩

end Go.Proofs.YtkelhmgdajiocaaGreatDoor
