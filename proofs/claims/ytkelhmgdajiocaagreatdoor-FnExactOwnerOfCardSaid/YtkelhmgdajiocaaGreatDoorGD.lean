/- Walks and lemmas of this seat (FStarts): what each theorem says of the functions that it names. Conditions: those that each theorem states. -/
import Derived.Test.YtkelhmgdajiocaaGreatDoorGA
import Derived.Deep.AppendLies
import Derived.Deep.RegionHeld3
import Derived.Deep.RegionLaw
import Derived.Deep.DrawnRows
import Derived.Outline
import Derived.Laws.Rows
import Derived.RangeFuncNested
import Derived.RangeFuncBound
import Derived.RangeFuncCalls
import Derived.RangeFuncLeaves
import Derived.RangeFuncFrom
import Derived.RangeFuncOne
import Derived.Shelf.Abstract
import Derived.Shelf.RegionOpen
import Derived.WalkKit
import Derived.OwnWalkIn
import Derived.TacticsInMore
import Derived.LoopNIn
import Derived.LoopIn
import Derived.Test.YtkelhmgdajiocaaGreatDoorProg
import Derived.RangeFuncBox
import Derived.RegionIn
import Derived.BigRegionIn
import Derived.Deep.Slices
import Derived.Deep.OwnRows
import Derived.Test.YtkelhmgdajiocaaGreatDoorGC
namespace Go.Proofs.YtkelhmgdajiocaaGreatDoor
set_option linter.unusedVariables false
set_option linter.unusedSimpArgs false
open Go.RowKit

def nat1 (n : Nat) : List Value := [.int .i64 n]
theorem nat1_len (n : Nat) : (nat1 n).length = 1 := rfl
/-- The start of a node's part, by its kids from the last to the first; none where they do not lie as they should. -/
def stepK (out : List Nat) : List Int → Nat → Option Nat
  | [], a => some a
  | k :: ks, a => if k ≠ (a : Int) - 1 ∨ a = 0 then none else stepK out ks (out.getD (a - 1) 0)
def startsL : List Nat → List (List Int) → Option (List Nat)
  | out, [] => some out
  | out, ks :: l => match stepK out ks.reverse out.length with
    | none => none
    | some a => startsL (out ++ [a]) l
def starts (l : List (List Int)) : Option (List Nat) := startsL [] l
/-- No part begins behind its node. -/
def Low (out : List Nat) : Prop := ∀ (i v : Nat), out[i]? = some v → v ≤ i
theorem Low.nil : Low [] := fun i v h => by simp at h
theorem Low.getD {out : List Nat} (h : Low out) (i : Nat) : out.getD i 0 ≤ i := by
  rw [List.getD_eq_getElem?_getD]
  cases e : out[i]? with
  | none => simp
  | some v => simpa using h i v e
theorem Low.snoc {out : List Nat} (h : Low out) {a : Nat} (ha : a ≤ out.length) : Low (out ++ [a]) := by
  intro i v hi
  by_cases hl : i < out.length
  · rw [List.getElem?_append_left hl] at hi; exact h i v hi
  · rw [List.getElem?_append_right (by omega)] at hi
    have : i - out.length = 0 := by
      have := (List.getElem?_eq_some_iff.1 hi).1
      simp at this; omega
    rw [this] at hi; simp at hi; omega
theorem stepK_le {out : List Nat} (h : Low out) : ∀ (ks : List Int) (a b : Nat), stepK out ks a = some b → b ≤ a := by
  intro ks
  induction ks with
  | nil => intro a b h; simp [stepK] at h; omega
  | cons k ks ih =>
    intro a b hb
    unfold stepK at hb
    split at hb
    · simp at hb
    · have := ih _ _ hb
      have := h.getD (a - 1)
      omega
theorem take_rev {ks : List Int} {q : Nat} {k : Int} (h : ks[q]? = some k) : (ks.take (q + 1)).reverse = k :: (ks.take q).reverse := by
  rw [take_next h, List.reverse_append]; rfl
theorem stepK_no {out : List Nat} {ks : List Int} {q a : Nat} {k : Int} (h : ks[q]? = some k) (hn : k ≠ (a : Int) - 1 ∨ a = 0) : stepK out (ks.take (q + 1)).reverse a = none := by
  rw [take_rev h, stepK, if_pos hn]
theorem stepK_go {out : List Nat} {ks : List Int} {q a : Nat} {k : Int} (h : ks[q]? = some k) (hk : k = (a : Int)) : stepK out (ks.take (q + 1)).reverse (a + 1) = stepK out (ks.take q).reverse (out.getD a 0) := by
  rw [take_rev h, stepK, if_neg (by subst hk; omega)]; rfl
theorem startsL_low : ∀ (l : List (List Int)) (out s : List Nat), Low out → startsL out l = some s → Low s ∧ s.length = out.length + l.length := by
  intro l
  induction l with
  | nil => intro out s h hs; simp [startsL] at hs; subst hs; exact ⟨h, by simp⟩
  | cons ks l ih =>
    intro out s h hs
    unfold startsL at hs
    split at hs
    · simp at hs
    · rename_i a ha
      have := ih _ _ (h.snoc (stepK_le h _ _ _ ha)) hs
      exact ⟨this.1, by rw [this.2]; simp; omega⟩
theorem starts_len {l : List (List Int)} {s : List Nat} (h : starts l = some s) : Low s ∧ s.length = l.length := by
  have := startsL_low l [] s Low.nil h
  simpa using this
theorem startsL_no {out : List Nat} {ks : List Int} {l : List (List Int)} (h : stepK out ks.reverse out.length = none) : startsL out (ks :: l) = none := by
  rw [startsL, h]
theorem startsL_go {out : List Nat} {ks : List Int} {l : List (List Int)} {a : Nat} (h : stepK out ks.reverse out.length = some a) : startsL out (ks :: l) = startsL (out ++ [a]) l := by
  rw [startsL, h]
theorem getD_of {out : List Nat} {i : Nat} (h : i < out.length) : out[i]? = some (out.getD i 0) := by
  rw [List.getD_eq_getElem?_getD, List.getElem?_eq_getElem h]; rfl
theorem nat1_at {out : List Nat} {i : Nat} (h : i < out.length) : (out.flatMap nat1)[i]? = some (.int .i64 (out.getD i 0 : Nat)) := by
  have := flat_get nat1 1 nat1_len out i 0 (out.getD i 0) (.int .i64 (out.getD i 0 : Nat)) (getD_of h) rfl
  simpa using this
theorem own_read {w : World} {B : Nat} {e : TypeId} {s n g cap : Nat} {xs : List Value} (h : w.ownsRow B e s (.slice (some ⟨g, 0, none⟩) n cap) n xs) {j : Nat} {u : Value} (hu : xs[j]? = some u) : w.cell? ⟨g, j, none⟩ = some u := by
  rw [h.cellAt j (by have := h.1; have := (List.getElem?_eq_some_iff.1 hu).1; omega)]; exact hu
theorem own_slice' {w : World} {B : Nat} {e : TypeId} {s n : Nat} {v : Value} {xs : List Value} (h : w.ownsRow B e s v n xs) (hn : 0 < n) : ∃ g cap, v = .slice (some ⟨g, 0, none⟩) n cap ∧ cap ≤ maxLen := by
  obtain ⟨a, cap, rfl, hm⟩ := own_slice h
  obtain ⟨g, rfl⟩ := own_some h hn
  exact ⟨g, cap, rfl, hm⟩
theorem Filling.read {w : World} {B : Nat} {e : TypeId} {s g n : Nat} {pre : List Value} (h : Filling w B e s g n pre) {j : Nat} {u : Value} (hu : pre[j]? = some u) : w.cell? ⟨g, j, none⟩ = some u := by
  obtain ⟨rest, h⟩ := h
  exact own_read h (by rw [List.getElem?_append_left (List.getElem?_eq_some_iff.1 hu).1]; exact hu)
theorem Filling.put {w : World} {B : Nat} {e : TypeId} {g n : Nat} {out : List Nat} (h : Filling w B e 1 g n (out.flatMap nat1)) (hk : out.length < n) (a : Nat) : Filling (w.setCell ⟨g, out.length, none⟩ (.int .i64 a)) B e 1 g n ((out ++ [a]).flatMap nat1) := by
  have h1 := h.store (k := out.length) (by rw [flat_len nat1 1 nat1_len]) hk [.int .i64 a] rfl
  have h2 : (out ++ [a]).flatMap nat1 = out.flatMap nat1 ++ [.int .i64 a] := by simp [nat1]
  rw [h2]
  simpa [storeAll] using h1
/-- The last part begins at the first node. -/
def startsLast (l : List (List Int)) : Bool := match starts l with | none => false | some s => s.getD (l.length - 1) 0 == 0
/-- What the functions hand back that look for the starts. -/
def StartsPost (w : World) (kl : List (List Int)) (e : Ending) (w' : World) : Prop :=
  Below w.heap.size w w' ∧ ((starts kl = none ∧ ∃ v', e = .returned (.tuple #[v', .bool false])) ∨ ∃ s v', starts kl = some s ∧ e = .returned (.tuple #[v', .bool true]) ∧ w'.ownsRow w.heap.size 3 1 v' s.length (s.flatMap nat1))
theorem tup_bool {v : Value} {a b : Bool} (h : a = b) : Ending.returned (.tuple #[v, .bool a]) = .returned (.tuple #[v, .bool b]) := by rw [h]
/-- What the program's own functions hand back that look for the starts. -/
def ImplStartsPost (w : World) (n : Nat) (kl : List (List Int)) (e : Ending) (w' : World) : Prop :=
  Below w.heap.size w w' ∧ ∃ v', e = .returned (.tuple #[v', .bool (decide (1 ≤ kl.length ∧ kl.length ≤ n) && startsLast kl)])
    ∧ ∀ s, starts kl = some s → 1 ≤ kl.length → kl.length ≤ n → w'.ownsRow w.heap.size 3 1 v' s.length (s.flatMap nat1)
end Go.Proofs.YtkelhmgdajiocaaGreatDoor
/- Walks and lemmas of this seat (DataSlcS): what each theorem says of the functions that it names. Conditions: those that each theorem states. -/
namespace Go.Proofs.YtkelhmgdajiocaaGreatDoor
set_option linter.unusedVariables false
set_option linter.unusedSimpArgs false
open Go.RowKit

/-- v is a slice of n elements, s cells each, in a block of S, that reads as the cells cs. -/
def SlcS (S : Nat → Prop) (w : World) (v : Value) (s n : Nat) (cs : List Value) : Prop :=
  cs.length = n * s ∧ ∃ a cap, v = .slice a n cap ∧ n ≤ cap ∧ cap ≤ maxLen ∧ (n = 0 ∨ ∃ b off, a = some ⟨b, off, none⟩ ∧ S b ∧ RowAt w b off cs)
theorem SlcS.slc {S : Nat → Prop} {w : World} {v : Value} {s n : Nat} {cs : List Value} (h : SlcS S w v s n cs) : Slc w v s n cs := by
  obtain ⟨h1, a, cap, h2, h3, h4, h5⟩ := h
  refine ⟨h1, a, cap, h2, h3, h4, ?_⟩
  rcases h5 with h5 | ⟨b, off, h5, _, h6⟩
  · exact .inl h5
  · exact .inr ⟨b, off, h5, h6⟩
theorem SlcS.keep {S S' : Nat → Prop} {w w' : World} {v : Value} {s n : Nat} {cs : List Value} (hs : 0 < s) (h : SlcS S w v s n cs) (hk : ∀ b, S b → b < w.heap.size → w'.heap[b]? = w.heap[b]? ∧ S' b) : SlcS S' w' v s n cs := by
  obtain ⟨h1, a, cap, h2, h3, h4, h5⟩ := h
  refine ⟨h1, a, cap, h2, h3, h4, ?_⟩
  rcases h5 with h5 | ⟨b, off, h5, hS, h6⟩
  · exact .inl h5
  · by_cases hn : n = 0
    · exact .inl hn
    · have hl : 0 < cs.length := by rw [h1]; exact Nat.mul_pos (Nat.pos_of_ne_zero hn) hs
      have hb := World.block_lt_of_cell? w _ (h6 0 _ (List.getElem?_eq_getElem hl))
      obtain ⟨e, hS'⟩ := hk b hS hb
      refine .inr ⟨b, off, h5, hS', fun j u hj => ?_⟩
      have := h6 j u hj
      unfold World.cell? at this ⊢
      simp only [e]
      exact this
theorem SlcS.of_own {w : World} {B : Nat} {e : TypeId} {s n : Nat} {v : Value} {xs : List Value} (h : w.ownsRow B e s v n xs) : SlcS (fun b => B ≤ b) w v s n xs := by
  refine ⟨h.1, ?_⟩
  rcases h.2 with ⟨rfl, h0⟩ | ⟨g, cap, cur, rfl, hg, hgg, hc, hm, hcs, ht⟩
  · exact ⟨none, 0, by rw [h0], by omega, by unfold maxLen; omega, .inl h0⟩
  · refine ⟨some ⟨g, 0, none⟩, cap, rfl, hc, hm, .inr ⟨g, 0, rfl, hg, fun j u hj => ?_⟩⟩
    rw [Nat.zero_add, h.cellAt j]
    · exact hj
    · have := (List.getElem?_eq_some_iff.1 hj).1
      have := h.1
      omega
end Go.Proofs.YtkelhmgdajiocaaGreatDoor
/- Walks and lemmas of this seat (DataTree): what each theorem says of the functions that it names. Conditions: those that each theorem states. -/
namespace Go.Proofs.YtkelhmgdajiocaaGreatDoor
set_option linter.unusedVariables false
set_option linter.unusedSimpArgs false
open Go.RowKit

/-- A tree whose nodes have their kids in themselves. -/
inductive Tree where
  | mk (kind op : Int) (text other : ByteArray) (kids : List Tree)
def Tree.kind : Tree → Int | .mk k _ _ _ _ => k
def Tree.op : Tree → Int | .mk _ o _ _ _ => o
def Tree.text : Tree → ByteArray | .mk _ _ t _ _ => t
def Tree.other : Tree → ByteArray | .mk _ _ _ t _ => t
def Tree.kids : Tree → List Tree | .mk _ _ _ _ l => l
def Tree.cells (p : Tree × Value) : List Value := [.int .i64 p.1.kind, .int .i64 p.1.op, .string p.1.text, .string p.1.other, p.2]
theorem Tree.len (p : Tree × Value) : (Tree.cells p).length = 5 := rfl
def Tree.val (t : Tree) (kv : Value) : Value := .agg #[.int .i64 t.kind, .int .i64 t.op, .string t.text, .string t.other, kv]
theorem Tree.mk_eta (t : Tree) : t = .mk t.kind t.op t.text t.other t.kids := by cases t; rfl

/-- The tree of node i, looking so many levels down. -/
def treeOf (l : List Node) : Nat → Nat → Tree
  | 0, _ => .mk 0 0 ⟨#[]⟩ ⟨#[]⟩ []
  | f + 1, i => match l[i]? with
    | none => .mk 0 0 ⟨#[]⟩ ⟨#[]⟩ []
    | some x => .mk x.kind x.op x.text x.other (x.kids.map fun k => treeOf l f k.toNat)
/-- Kids lie ahead of their node. -/
def Ahead (l : List Node) : Prop := ∀ (i : Nat) (x : Node), l[i]? = some x → ∀ k ∈ x.kids, 0 ≤ k ∧ k.toNat < i
theorem treeOf_fuel {l : List Node} (h : Ahead l) : ∀ (f g i : Nat), i < f → i < g → treeOf l f i = treeOf l g i := by
  intro f
  induction f with
  | zero => intro g i hi; omega
  | succ f ih =>
    intro g i hi hg
    cases g with
    | zero => omega
    | succ g =>
      unfold treeOf
      cases hx : l[i]? with
      | none => rfl
      | some x =>
        simp only
        congr 1
        apply List.map_congr_left
        intro k hk
        have := h i x hx k hk
        exact ih g k.toNat (by omega) (by omega)
/-- The tree of node i. -/
def treeIx (l : List Node) (i : Nat) : Tree := treeOf l (i + 1) i
theorem treeIx_eq {l : List Node} (h : Ahead l) {i : Nat} {x : Node} (hx : l[i]? = some x) : treeIx l i = .mk x.kind x.op x.text x.other (x.kids.map fun k => treeIx l k.toNat) := by
  unfold treeIx
  rw [treeOf, hx]
  simp only
  congr 1
  apply List.map_congr_left
  intro k hk
  have := h i x hx k hk
  exact treeOf_fuel h _ _ _ (by omega) (by omega)

theorem stepK_kids {out : List Nat} (hl : Low out) : ∀ (ks : List Int) (a b n : Nat), stepK out ks a = some b → a ≤ n → ∀ k ∈ ks, 0 ≤ k ∧ k.toNat < n := by
  intro ks
  induction ks with
  | nil => intro a b n _ _ k hk; simp at hk
  | cons k ks ih =>
    intro a b n h ha j hj
    rw [stepK] at h
    split at h
    · simp at h
    · rename_i hn
      have := hl.getD (a - 1)
      rcases List.mem_cons.1 hj with rfl | hj
      · omega
      · exact ih _ b n h (by omega) j hj
theorem startsL_kids : ∀ (l : List (List Int)) (out s : List Nat), Low out → startsL out l = some s → ∀ (i : Nat) (ks : List Int), l[i]? = some ks → ∀ k ∈ ks, 0 ≤ k ∧ k.toNat < out.length + i := by
  intro l
  induction l with
  | nil => intro out s _ _ i ks h; simp at h
  | cons x l ih =>
    intro out s hl hs i ks hi k hk
    rw [startsL] at hs
    split at hs
    · simp at hs
    · rename_i a ha
      cases i with
      | zero =>
        simp at hi; subst hi
        have := stepK_kids hl _ _ _ out.length ha (Nat.le_refl _) k (by simpa using hk)
        omega
      | succ i =>
        have := ih _ s (hl.snoc (stepK_le hl _ _ _ ha)) hs i ks (by simpa using hi) k hk
        simp at this
        omega
theorem ahead_of {l : List Node} {s : List Nat} (h : starts (l.map Node.kids) = some s) : Ahead l := fun i x hx k hk => by
  have := startsL_kids _ [] s Low.nil h i x.kids (by rw [List.getElem?_map, hx]; rfl) k hk
  simpa using this

/-- The kids' slice kv of a tree, in blocks of S. -/
inductive TreeIs (S : Nat → Prop) (w : World) : Tree → Value → Prop
  | mk {kind op : Int} {text other : ByteArray} {q : List (Tree × Value)} {kv : Value} (h1 : SlcS S w kv 5 q.length (q.flatMap Tree.cells)) (h2 : ∀ p ∈ q, TreeIs S w p.1 p.2) : TreeIs S w (.mk kind op text other (q.map Prod.fst)) kv
theorem TreeIs.open {S : Nat → Prop} {w : World} {t : Tree} {kv : Value} (h : TreeIs S w t kv) : ∃ q : List (Tree × Value), q.map Prod.fst = t.kids ∧ SlcS S w kv 5 q.length (q.flatMap Tree.cells) ∧ ∀ p ∈ q, TreeIs S w p.1 p.2 := by
  cases h with
  | mk h1 h2 => exact ⟨_, rfl, h1, h2⟩
theorem TreeIs.shape {S : Nat → Prop} {w : World} {t : Tree} {kv : Value} (h : TreeIs S w t kv) : ∃ a n cap, kv = .slice a n cap := by
  obtain ⟨_, _, ⟨_, a, cap, e, _⟩, _⟩ := h.open
  exact ⟨a, _, cap, e⟩
theorem TreeIs.close {S : Nat → Prop} {w : World} {t : Tree} {kv : Value} {q : List (Tree × Value)} (hq : q.map Prod.fst = t.kids) (h1 : SlcS S w kv 5 q.length (q.flatMap Tree.cells)) (h2 : ∀ p ∈ q, TreeIs S w p.1 p.2) : TreeIs S w t kv := by
  rw [t.mk_eta, ← hq]
  exact .mk h1 h2
theorem TreeIs.keep {S S' : Nat → Prop} {w w' : World} {t : Tree} {v : Value} (h : TreeIs S w t v) (hk : ∀ b, S b → b < w.heap.size → w'.heap[b]? = w.heap[b]? ∧ S' b) : TreeIs S' w' t v := by
  induction h with
  | mk h1 _ ih => exact .mk (h1.keep (by decide) hk) fun p hp => ih p hp
theorem TreeIs.mono {S : Nat → Prop} {B : Nat} {w w' : World} {t : Tree} {v : Value} (h : TreeIs S w t v) (hb : Below B w w') (hB : w.heap.size ≤ B) : TreeIs S w' t v :=
  h.keep fun b hS hlt => ⟨hb.block b (Nat.lt_of_lt_of_le hlt hB), hS⟩
end Go.Proofs.YtkelhmgdajiocaaGreatDoor
/- Walks and lemmas of this seat (FTreeAt): what each theorem says of the functions that it names. Conditions: those that each theorem states. -/
namespace Go.Proofs.YtkelhmgdajiocaaGreatDoor
set_option linter.unusedVariables false
set_option linter.unusedSimpArgs false
open Go.RowKit

attribute [local go_sem ↓] Go.wp_at_zero Go.wp_at_succ

theorem Tryz.info99 : (Tryz.prog.info? 99).map (fun i => (i.zero, i.size, i.bytes)) = some (some (.agg #[.int .i64 0, .int .i64 0, .string ⟨#[]⟩, .string ⟨#[]⟩, .slice none 0 0]), 5, 72) := by kernel_rfl

/-- What impl.treeAt hands back. -/
def TreePost (w : World) (t : Tree) (e : Ending) (w' : World) : Prop := ∃ (ka : Option Addr) (kn kc : Nat), e = .returned (.agg #[.int .i64 t.kind, .int .i64 t.op, .string t.text, .string t.other, .slice ka kn kc]) ∧ Below w.heap.size w w' ∧ TreeIs (fun b => w.heap.size ≤ b) w' t (.slice ka kn kc)

/-- Between two rounds of impl.treeAt's loop. -/
structure TL (l0 : List Node) (w : World) (x : Node) (k : Nat) (kv : Value) (q : List (Tree × Value)) (wr : World) : Prop where
  hb : Below w.heap.size w wr
  res : wr.heap[w.heap.size]? = some (.cells #[.int .i64 0, .int .i64 0, .string ⟨#[]⟩, .string ⟨#[]⟩, .slice none 0 0] 99 (0, 0))
  box : wr.heap[w.heap.size + 1 + 1]? = some (.cells #[.int .i64 x.kind, .int .i64 x.op, .string x.text, .string x.other, kv] 99 (0, 0))
  own : wr.ownsRow (w.heap.size + 1 + 1 + 1) 99 5 kv k (q.flatMap Tree.cells)
  eq : q.map Prod.fst = (x.kids.take k).map fun k => treeIx l0 k.toNat
  sub : ∀ p ∈ q, TreeIs (fun b => w.heap.size + 1 + 1 + 1 ≤ b ∧ some b ≠ kv.ownBlock) wr p.1 p.2

theorem TL.step {l0 : List Node} {w : World} {x : Node} {k j : Nat} {kv : Value} {q : List (Tree × Value)} {wr w1 w2 : World} {o : Obj} {kv1 : Value} {gg cap2 : Nat} (h : TL l0 w x k kv q wr) (hb1 : Below wr.drew.heap.size wr.drew w1)
    (ht1 : TreeIs (fun b => wr.drew.heap.size ≤ b) w1 (treeIx l0 j) kv1) (hown : w2.ownsRow (w.heap.size + 1 + 1 + 1) 99 5 (.slice (some ⟨gg, 0, none⟩) (k + 1) cap2) (k + 1) (q.flatMap Tree.cells ++ Tree.cells (treeIx l0 j, kv1)))
    (hg : (w1.alloc o).grownBy w2 kv.ownBlock) (hat : kv.ownBlock = some gg ∨ gg = w1.heap.size + 1) (hk : x.kids.take (k + 1) = x.kids.take k ++ [(j : Int)]) :
    TL l0 w x (k + 1) (.slice (some ⟨gg, 0, none⟩) (k + 1) cap2) (q ++ [(treeIx l0 j, kv1)]) (w2.setCell ⟨w.heap.size + 1 + 1, 4, none⟩ (.slice (some ⟨gg, 0, none⟩) (k + 1) cap2)) := by
  have hs1 : wr.heap.size ≤ w1.heap.size := hb1.size
  have hbs : w.heap.size + 1 + 1 < wr.heap.size := (Array.getElem?_eq_some_iff.1 h.box).1
  have hlo : ∀ r, kv.ownBlock = some r → w.heap.size + 1 + 1 + 1 ≤ r ∧ r < wr.heap.size := fun r e => h.own.lt r e
  have hgg : w.heap.size + 1 + 1 + 1 ≤ gg := (hown.lt gg rfl).1
  have keep : ∀ (W : World), Below wr.drew.heap.size wr.drew W → True := fun _ _ => trivial
  have h12 : ∀ b, b < w1.heap.size → some b ≠ kv.ownBlock → w2.heap[b]? = w1.heap[b]? := fun b hb hne => (hg.block b (by simp; omega) hne).trans (Below.heap_alloc _ _ _ hb)
  have hr1 : ∀ b, b < wr.heap.size → w1.heap[b]? = wr.heap[b]? := fun b hb => hb1.block b hb
  have hset : ∀ b, b ≠ w.heap.size + 1 + 1 → (w2.setCell ⟨w.heap.size + 1 + 1, 4, none⟩ (.slice (some ⟨gg, 0, none⟩) (k + 1) cap2)).heap[b]? = w2.heap[b]? := fun b hb => heap_setCell_other w2 ⟨w.heap.size + 1 + 1, 4, none⟩ b _ hb
  have hno : ∀ b, b ≤ w.heap.size + 1 + 1 → some b ≠ kv.ownBlock := fun b hb e => by have := (hlo b e.symm).1; omega
  refine ⟨?_, ?_, ?_, ?_, ?_, ?_⟩
  · have e1 : Below w.heap.size w w1 := h.hb.trans ((show Below wr.heap.size wr w1 from ⟨hb1.os, hb1.tape, hb1.output, hb1.size, hb1.block⟩).mono h.hb.size)
    exact ((e1.alloc e1.size o).grown hg (by simp; omega) (fun r e => by have := (hlo r e).1; omega)).setCell (p := ⟨w.heap.size + 1 + 1, 4, none⟩) (show w.heap.size ≤ w.heap.size + 1 + 1 by omega) _
  · rw [hset _ (by omega), h12 _ (by omega) (hno _ (by omega)), hr1 _ (by omega)]; exact h.res
  · have := (h12 _ (by omega) (hno _ (Nat.le_refl _))).trans ((hr1 _ hbs).trans h.box)
    rw [heap_setCell_at this]; rfl
  · rw [List.flatMap_append, List.flatMap_cons, List.flatMap_nil, List.append_nil]
    exact hown.kept (grown_set w2 (w.heap.size + 1 + 1) 4 _) (.inr (by simp [Value.ownBlock]; omega))
  · rw [List.map_append, h.eq, hk, List.map_append]; simp
  · intro p hp
    rcases List.mem_append.1 hp with hp | hp
    · refine (h.sub p hp).keep fun b hS hlt => ⟨?_, hS.1, ?_⟩
      · rw [hset b (by omega), h12 b (by omega) hS.2, hr1 b hlt]
      · intro e
        simp [Value.ownBlock] at e
        rcases hat with hat | hat
        · exact hS.2 (by rw [hat, e])
        · omega
    · simp at hp
      subst hp
      refine ht1.keep fun b hS hlt => ?_
      have hS' : wr.heap.size ≤ b := hS
      refine ⟨?_, by omega, ?_⟩
      · rw [hset b (by omega), h12 b hlt (fun e => by have := (hlo b e.symm).2; omega)]
      · intro e
        simp [Value.ownBlock] at e
        rcases hat with hat | hat
        · have := (hlo gg hat).2; omega
        · omega

set_option maxRecDepth 100000 in
set_option maxHeartbeats 3200000 in
theorem impltreeAt_any (l0 : List Node) (v0 : Value) (w0 : World) (hv00 : NodeSlc w0 v0 l0) (hx0 : ∀ x ∈ l0, x.Ok) (hn0 : bulk Node.sizes l0 ≤ 1048576) (ha : Ahead l0) :
    ∀ (i : Nat), i < l0.length → ∀ (w : World), Below w0.heap.size w0 w → Calls Tryz.prog 94 #[v0, .int .i64 i] w fun e w' => TreePost w (treeIx l0 i) e w' := by
  obtain ⟨a, cap, rfl, hm, hc, hsl⟩ := hv00.shape
  intro i
  induction i using Nat.strongRecOn with
  | _ i ih =>
  intro hi w hbw
  obtain ⟨x, ka, kc, b, off, hx, rfl, c0, c1, c2, c3, c4, hkd⟩ := hsl.at hbw (Nat.le_refl _) hi
  have hti := hid (treeIx_eq ha hx)
  have hah := hid (ha i x hx)
  have hlen := length_bulk Node.sizes l0
  have hxs := Nat.le_trans (bulk_mem Node.sizes (List.mem_of_getElem? hx)) hn0
  unfold Node.sizes at hxs
  clear hx
  obtain ⟨_, _, _, hkv, hkc, hkm, hkrow⟩ := hkd
  simp at hkv
  obtain ⟨rfl, rfl⟩ := hkv
  obtain ⟨i0, hti0, hz0, hz1, hz2⟩ := info_parts Tryz.info99
  have hAl : ∀ {q : Nat} {u : Value} (o : Obj), w.cell? ⟨b, q, none⟩ = some u → (w.alloc o).cell? ⟨b, q, none⟩ = some u := fun {q u} o h => (((Below.refl w.heap.size w).alloc (Nat.le_refl _) o).cell (p := ⟨b, q, none⟩) (World.block_lt_of_cell? w _ h)).trans h
  have d0 := fun o => hAl o c0
  have d1 := fun o => hAl o c1
  have d2 := fun o => hAl o c2
  have d3 := fun o => hAl o c3
  have d4 := fun o => hAl o c4
  clear hAl c0 c1 c2 c3 c4
  replace ih := hid ih
  go_enter Tryz.func94, Tryz.ntmps94
  go_wp2
  go_loopw [25] (fun i wr => ∃ (k : Nat) (kv : Value) (q : List (Tree × Value)), i = .int .i64 k ∧ k ≤ x.kids.length ∧ TL l0 w x k kv q wr) (fun i _ => x.kids.length - (intOf i).toNat)
  case atStart =>
    refine ⟨0, .slice none 0 0, [], rfl, by omega, ⟨by repeat (first | exact Below.refl _ _ | refine Below.alloc ?_ (by first | omega | (simp; done) | (simp; omega)) _ | refine Below.drew ?_), ?_, ?_, ⟨by simp, .inl ⟨rfl, rfl⟩⟩, rfl, by simp⟩⟩
    · rw [Below.heap_alloc _ _ _ (by simp; omega), Below.heap_alloc _ _ _ (by simp)]; exact heap_alloc_new w _
    · have := heap_alloc_new ((w.alloc (.cells #[.int .i64 0, .int .i64 0, .string ⟨#[]⟩, .string ⟨#[]⟩, .slice none 0 0] 99)).alloc (.cells #[.int .i64 x.kind, .int .i64 x.op, .string x.text, .string x.other, .slice ka x.kids.length kc] 58)) (.cells #[.int .i64 x.kind, .int .i64 x.op, .string x.text, .string x.other, .slice none 0 0] 99)
      simpa using this
  clear d0 d1 d2 d3 d4
  obtain ⟨k, kv, q, rfl, hk, htl⟩ := hrel
  have hb := htl.hb
  have hbs := hb.size
  by_cases hlt : k < x.kids.length
  · obtain ⟨kid, hkid⟩ := get_of_lt hlt
    obtain ⟨kb, koff, rfl, hkro⟩ := slc_some hkrow (by omega)
    have e0 := (hkro.mono hb (Nat.le_refl _)).one int1_len hkid rfl
    obtain ⟨hk0, hkj⟩ := hah.out kid (List.mem_of_getElem? hkid)
    obtain ⟨j, rfl⟩ : ∃ j : Nat, kid = (j : Int) := ⟨kid.toNat, by omega⟩
    have hj : j < i := by omega
    have hnx := hid (take_next hkid)
    clear hkid hkro hk0 hkj
    have hib := hid (hbw.trans (hb.mono hbw.size))
    have hcall := hid (fun W h => ih.out j hj (by omega) W h)
    have cb : wr.cell? ⟨w.heap.size + 1 + 1, 4, none⟩ = some kv := by simp [World.cell?, htl.box]
    have fb : wr.frozen? ⟨w.heap.size + 1 + 1, 4, none⟩ = false := by simp [World.frozen?, htl.box]
    replace htl := hid htl
    go_wp2_with fail
    have hlt2 := World.block_lt_of_cell? wr _ cb
    have hlt2 : w.heap.size + 1 + 1 < wr.heap.size := hlt2
    have hkl : k ≤ 1048576 := by omega
    have hne : Hid (kv.ownBlock ≠ some (w.heap.size + 1 + 1)) := hid fun e => by have := (htl.out.own.lt _ e).1; omega
    go_region_law
      (first
        | (go_simp; go_at_call 94; refine (hcall.out _ (by first | exact hib.out | exact hib.out.drew | exact hib.out.drew.drew)).mono ?_; rintro e w1 ⟨ka1, kn1, kc1, rfl, hb1, ht1⟩; have q0 := (hb1.cell (p := ⟨w.heap.size + 1 + 1, 4, none⟩) hlt2).trans cb; have q1 := (hb1.frozen (p := ⟨w.heap.size + 1 + 1, 4, none⟩) hlt2).trans fb; have q4 := fun o => (((Below.refl w1.heap.size w1).alloc (Nat.le_refl _) o).cell (p := ⟨w.heap.size + 1 + 1, 4, none⟩) (Nat.lt_of_lt_of_le hlt2 hb1.size)).trans q0; have q5 := fun o => (((Below.refl w1.heap.size w1).alloc (Nat.le_refl _) o).frozen (p := ⟨w.heap.size + 1 + 1, 4, none⟩) (Nat.lt_of_lt_of_le hlt2 hb1.size)).trans q1)
        | (refine step_append_lies _ (by rfl) _ _ _ (by rfl) (w.heap.size + 1 + 1 + 1) 99 i0 _ 5 72 Tryz.underlying97 hti0 hz0 hz1 hz2 rfl (by omega) kv k (q.flatMap Tree.cells) (by rfl) ((own_below (own_drew htl.out.own) hb1 (Nat.le_refl _)).alloc _)
            ⟨w1.heap.size, 0, none⟩ 1 1 [.int .i64 (treeIx l0 j).kind, .int .i64 (treeIx l0 j).op, .string (treeIx l0 j).text, .string (treeIx l0 j).other, .slice ka1 kn1 kc1] (by rfl) (by rfl) (World.news_of_block (cs := #[.int .i64 (treeIx l0 j).kind, .int .i64 (treeIx l0 j).op, .string (treeIx l0 j).text, .string (treeIx l0 j).other, .slice ka1 kn1 kc1]) (t := 99) (fr := (0, 0)) (heap_alloc_new w1 _)) (by simp [Value.oneCell'])
            (by omega) (by unfold maxLen; omega) (by omega) (by have h9 : wr.heap.size ≤ w1.heap.size := hb1.size; simp only [World.size_alloc]; omega) (w1.heap.size + 1) (by simp) ?_; intro gg cap2 w2 hown2 hgrow hat hlt3; have q2 := (hgrow.cell_far _ (by have h9 : wr.heap.size ≤ w1.heap.size := hb1.size; simp; omega) (Ne.symm hne.out)).trans ((((Below.refl w1.heap.size w1).alloc (Nat.le_refl _) _).cell (p := ⟨w.heap.size + 1 + 1, 4, none⟩) (Nat.lt_of_lt_of_le hlt2 hb1.size)).trans q0); have q3 := (hgrow.frozen_far _ (by have h9 : wr.heap.size ≤ w1.heap.size := hb1.size; simp; omega) (Ne.symm hne.out)).trans ((((Below.refl w1.heap.size w1).alloc (Nat.le_refl _) _).frozen (p := ⟨w.heap.size + 1 + 1, 4, none⟩) (Nat.lt_of_lt_of_le hlt2 hb1.size)).trans q1)))
    all_goals go_wp2
    all_goals go_roundw
    all_goals first
      | (simp [intOf]; omega)
      | exact ⟨k + 1, _, _, by go_num, by omega, htl.out.step hb1 ht1 hown2 hgrow hat hnx.out⟩
  · obtain rfl : k = x.kids.length := by omega
    obtain ⟨ka2, kc2, rfl, hkm2⟩ := own_slice htl.own
    have hres := htl.res
    have hbox := htl.box
    have hlr := (Array.getElem?_eq_some_iff.1 htl.res).1
    have p0 : wr.cell? ⟨w.heap.size + 1 + 1, 0, none⟩ = some (.int .i64 x.kind) := by simp [World.cell?, hbox]
    have p1 : wr.cell? ⟨w.heap.size + 1 + 1, 1, none⟩ = some (.int .i64 x.op) := by simp [World.cell?, hbox]
    have p2 : wr.cell? ⟨w.heap.size + 1 + 1, 2, none⟩ = some (.string x.text) := by simp [World.cell?, hbox]
    have p3 : wr.cell? ⟨w.heap.size + 1 + 1, 3, none⟩ = some (.string x.other) := by simp [World.cell?, hbox]
    have p4 : wr.cell? ⟨w.heap.size + 1 + 1, 4, none⟩ = some (.slice ka2 x.kids.length kc2) := by simp [World.cell?, hbox]
    have r0 : wr.cell? ⟨w.heap.size, 0, none⟩ = some (.int .i64 0) := by simp [World.cell?, hres]
    have r1 : wr.cell? ⟨w.heap.size, 1, none⟩ = some (.int .i64 0) := by simp [World.cell?, hres]
    have r2 : wr.cell? ⟨w.heap.size, 2, none⟩ = some (.string ⟨#[]⟩) := by simp [World.cell?, hres]
    have r3 : wr.cell? ⟨w.heap.size, 3, none⟩ = some (.string ⟨#[]⟩) := by simp [World.cell?, hres]
    have r4 : wr.cell? ⟨w.heap.size, 4, none⟩ = some (.slice none 0 0) := by simp [World.cell?, hres]
    have f0 : ∀ j, wr.frozen? ⟨w.heap.size, j, none⟩ = false := fun j => by simp [World.frozen?, hres]
    clear hres hbox
    replace htl := hid htl
    go_wp2
    have hN := heap_setCell_at (j := 4) (u := .slice ka2 x.kids.length kc2) (heap_setCell_at (j := 3) (u := .string x.other) (heap_setCell_at (j := 2) (u := .string x.text) (heap_setCell_at (j := 1) (u := .int .i64 x.op) (heap_setCell_at (j := 0) (u := .int .i64 x.kind) htl.out.res))))
    have hW : (((((wr.setCell ⟨w.heap.size, 0, none⟩ (.int .i64 x.kind)).setCell ⟨w.heap.size, 1, none⟩ (.int .i64 x.op)).setCell ⟨w.heap.size, 2, none⟩ (.string x.text)).setCell ⟨w.heap.size, 3, none⟩ (.string x.other)).setCell ⟨w.heap.size, 4, none⟩ (.slice ka2 x.kids.length kc2)) = storeAll wr w.heap.size 0 [.int .i64 x.kind, .int .i64 x.op, .string x.text, .string x.other, .slice ka2 x.kids.length kc2] := rfl
    rw [hW] at hN ⊢
    clear hW
    have hB := below_storeAll [.int .i64 x.kind, .int .i64 x.op, .string x.text, .string x.other, .slice ka2 x.kids.length kc2] 0 htl.out.hb (Nat.le_refl _)
    have hO := own_storeAll_below [.int .i64 x.kind, .int .i64 x.op, .string x.text, .string x.other, .slice ka2 x.kids.length kc2] 0 htl.out.own (show w.heap.size < w.heap.size + 1 + 1 + 1 by omega)
    have hH := fun b (hb : b ≠ w.heap.size) => storeAll_other [.int .i64 x.kind, .int .i64 x.op, .string x.text, .string x.other, .slice ka2 x.kids.length kc2] 0 (w := wr) (g := w.heap.size) hb
    generalize storeAll wr w.heap.size 0 [.int .i64 x.kind, .int .i64 x.op, .string x.text, .string x.other, .slice ka2 x.kids.length kc2] = W2 at hN hB hO hH ⊢
    have s0 : W2.cell? ⟨w.heap.size, 0, none⟩ = some (.int .i64 x.kind) := by simp [World.cell?, hN]
    have s1 : W2.cell? ⟨w.heap.size, 1, none⟩ = some (.int .i64 x.op) := by simp [World.cell?, hN]
    have s2 : W2.cell? ⟨w.heap.size, 2, none⟩ = some (.string x.text) := by simp [World.cell?, hN]
    have s3 : W2.cell? ⟨w.heap.size, 3, none⟩ = some (.string x.other) := by simp [World.cell?, hN]
    have s4 : W2.cell? ⟨w.heap.size, 4, none⟩ = some (.slice ka2 x.kids.length kc2) := by simp [World.cell?, hN]
    have hpost : TreePost w (treeIx l0 i) (.returned (.agg #[.int .i64 x.kind, .int .i64 x.op, .string x.text, .string x.other, .slice ka2 x.kids.length kc2])) W2 := by
      refine ⟨ka2, _, kc2, by rw [hti.out]; rfl, hB, ?_⟩
      have hq : q.map Prod.fst = (treeIx l0 i).kids := by rw [hti.out, htl.out.eq, List.take_length]; rfl
      have hql : q.length = x.kids.length := by have := congrArg List.length htl.out.eq; simpa using this
      refine TreeIs.close hq ?_ fun p hp => (htl.out.sub p hp).keep fun b hS hlt => ⟨hH b (by omega), by omega⟩
      rw [hql]
      exact (SlcS.of_own hO).keep (by decide) fun b hS hlt => ⟨rfl, by omega⟩
    exact bodyPost_ret (v := .agg #[.int .i64 x.kind, .int .i64 x.op, .string x.text, .string x.other, .slice ka2 x.kids.length kc2]) (by simp [results, Tryz.results94, go_sem, s0, s1, s2, s3, s4]) rfl hpost
end Go.Proofs.YtkelhmgdajiocaaGreatDoor
/- Walks and lemmas of this seat (FBackward): what each theorem says of the functions that it names. Conditions: those that each theorem states. -/
namespace Go.Proofs.YtkelhmgdajiocaaGreatDoor
set_option linter.unusedVariables false
set_option linter.unusedSimpArgs false
open Go.RowKit Go.Shelf

attribute [local go_sem] Oper.semAt_some

/-- What has come when k rounds are over. -/
def upto {α : Type} (f : Nat → α) (k : Nat) : List α := (List.range k).map f
theorem upto_succ {α : Type} (f : Nat → α) (k : Nat) : upto f (k + 1) = upto f k ++ [f k] := by simp [upto, List.range_succ]
theorem upto_length {α : Type} (f : Nat → α) (k : Nat) : (upto f k).length = k := by simp [upto]
/-- What slices.Backward hands over in round k. -/
def backAt (zs : List Int) (k : Nat) : Nat × Int := (zs.length - 1 - k, zs.getD (zs.length - 1 - k) 0)
theorem back_take (zs : List Int) (k : Nat) (hk : k ≤ zs.length) : (upto (backAt zs) k).map Prod.snd = zs.reverse.take k := by
  apply List.ext_getElem
  · simp [upto]; omega
  · intro i h1 h2
    have : i < zs.length := by simp [upto] at h1; omega
    simp [upto, backAt, List.getElem?_eq_getElem (show zs.length - 1 - i < zs.length by omega)]
theorem back_all (zs : List Int) : (upto (backAt zs) zs.length).map Prod.snd = zs.reverse := by
  rw [back_take zs _ (Nat.le_refl _), List.take_of_length_le (by simp)]

/-- The slice value sv holds the ints zs, in a block below n₀; or there are none. -/
def IntsIn (n₀ : Nat) (W : World) (sv : Value) (zs : List Int) : Prop :=
  ∃ a cap, sv = .slice a zs.length cap ∧ (zs = [] ∨ ∃ b off, a = some ⟨b, off, none⟩ ∧ b < n₀ ∧ ∀ j, j < zs.length → W.cell? ⟨b, off + j, none⟩ = some (.int .i64 (zs.getD j 0)))
theorem IntsIn.below {n₀ : Nat} {A B : World} (h : Below n₀ A B) {sv : Value} {zs : List Int} (hi : IntsIn n₀ A sv zs) : IntsIn n₀ B sv zs := by
  obtain ⟨a, cap, e, h1⟩ := hi
  refine ⟨a, cap, e, ?_⟩
  rcases h1 with h1 | ⟨b, off, e, hb, hc⟩
  · exact .inl h1
  · exact .inr ⟨b, off, e, hb, fun j hj => (h.cell (p := ⟨b, off + j, none⟩) hb).trans (hc j hj)⟩

/-- What a round keeps that goes on: all below n₀, and block Bs. -/
def KeepB (n₀ Bs : Nat) (A B : World) : Prop := Below n₀ A B ∧ B.heap[Bs]? = A.heap[Bs]?
theorem KeepB.refl (n₀ Bs : Nat) (A : World) : KeepB n₀ Bs A A := ⟨Below.refl _ _, rfl⟩
theorem KeepB.trans {n₀ Bs : Nat} {A B C : World} (h : KeepB n₀ Bs A B) (k : KeepB n₀ Bs B C) : KeepB n₀ Bs A C := ⟨h.1.trans k.1, k.2.trans h.2⟩
theorem KeepB.cell {n₀ Bs : Nat} {A B : World} (h : KeepB n₀ Bs A B) (o : Nat) : B.cell? ⟨Bs, o, none⟩ = A.cell? ⟨Bs, o, none⟩ := by
  unfold World.cell?
  simp only [h.2]
theorem keepB_b {n₀ Bs : Nat} {w : World} (hn : n₀ ≤ w.heap.size) (hB : Bs < w.heap.size) (W : World) (l : Nat) (o o' : Obj) (hl : w.heap.size ≤ l) (h : W.heap[l]? = some o) (h1 : o.isCells = false) (h2 : o.isWalk = false) : KeepB n₀ Bs W (W.putObj l o') :=
  ⟨belowK_b hn W l o o' hl h h1 h2, (belowK_b (n₀ := w.heap.size) (Nat.le_refl _) W l o o' hl h h1 h2).block Bs hB⟩

set_option maxRecDepth 100000 in
set_option maxHeartbeats 2000000 in
theorem back1_in (F : Fence) (n : Nat) (h7 : F.fn 173) (hro : F.round = none) (hn : 1 ≤ n) (l Bs n₀ : Nat) (sv : Value) (zs : List Int) (hreach : zs.length ≤ 1048576) (J Jx : List (Nat × Int) → World → Prop)
    (hY : ∀ pre x W, J pre W → pre.length < zs.length → YieldAt F (n - 1) Tryz.prog l #[.int .i64 (x.1 : Int), .int .i64 x.2] W fun e W' =>
      (e = .returned (.bool true) ∧ J (pre ++ [x]) W' ∧ KeepB n₀ Bs W W') ∨ (e = .returned (.bool false) ∧ Jx (pre ++ [x]) W'))
    (W : World) (hBs : W.cell? ⟨Bs, 0, none⟩ = some sv) (hc : IntsIn n₀ W sv zs) (h0 : J [] W) :
    CallsIn F n Tryz.prog 173 #[.func (.yield l) #[] #[], .pointer (some ⟨Bs, 0, none⟩)] W fun e W' => (∃ v, e = .returned v) ∧
      ((∃ ys, ys = upto (backAt zs) zs.length ∧ J ys W') ∨ (∃ pre, (∃ k, k ≤ zs.length ∧ pre = upto (backAt zs) k) ∧ Jx pre W')) := by
  obtain ⟨a, cap, rfl, hrow⟩ := hc
  refine callsIn_of_wp Tryz.func173 rfl h7 ?_ hro
  simp only [Tryz.ntmps173, List.size_toArray, List.length_cons, List.length_nil, Nat.reduceAdd, Nat.reduceSub, Array.replicate_succ, Array.replicate_zero, List.push_toArray, List.append_toArray, List.nil_append, List.cons_append]
  gi_wp2
  gi_loopw [3] (fun i wr => ∃ (k : Nat) (z : Int), k ≤ zs.length ∧ i = .int .i64 z ∧ z = (zs.length : Int) - 1 - k ∧ J (upto (backAt zs) k) wr ∧ KeepB n₀ Bs W wr)
    (fun i _ => (intOf i + 1).toNat)
  case atStart => exact ⟨0, _, Nat.zero_le _, rfl, by omega, h0, KeepB.refl _ _ _⟩
  case round =>
    obtain ⟨k, z, hk, rfl, hz, hJs, hnx⟩ := hrel
    have hBs' := (hnx.cell 0).trans hBs
    by_cases hlt : k < zs.length
    · obtain ⟨q, hq⟩ : ∃ q, q = zs.length - 1 - k := ⟨_, rfl⟩
      have hzq : z = (q : Int) := by omega
      subst hzq
      have hql : q < zs.length := by omega
      have hbk : backAt zs k = (q, zs.getD q 0) := by unfold backAt; rw [← hq]
      obtain ⟨b, off, rfl, hb, hcs⟩ : ∃ b off, a = some ⟨b, off, none⟩ ∧ b < n₀ ∧ ∀ j, j < zs.length → W.cell? ⟨b, off + j, none⟩ = some (.int .i64 (zs.getD j 0)) := by
        rcases hrow with h | h
        · rw [h] at hlt; simp at hlt
        · exact h
      have hcx := (hnx.1.cell (p := ⟨b, off + q, none⟩) hb).trans (hcs q hql)
      obtain ⟨fn, tmps, assign, body, hy, hR⟩ := hY _ (q, zs.getD q 0) wr hJs (by rw [upto_length]; exact hlt)
      dsimp only at hy
      have hR2 := hR
      rw [← hbk, ← upto_succ] at hR2
      clear hR hcs
      generalize zs.getD q 0 = val at *
      replace hbk := hid hbk
      replace hz := hid hz
      replace hq := hid hq
      gi_wp2
      refine hR2.mono ?_
      rintro e W3 (⟨rfl, hJ3, hk3⟩ | ⟨rfl, hJx3⟩)
      · gi_wp2
        go_roundw
        case rel => exact ⟨k + 1, _, by omega, rfl, by have := hz.out; omega, hJ3, hnx.trans hk3⟩
        case measure => first | (simp [intOf]; done) | (simp [intOf]; omega)
      · gi_wp2
        refine bodyPost_ret (results_none rfl _ _ _) rfl ?_
        exact ⟨⟨_, rfl⟩, .inr ⟨_, ⟨k + 1, by omega, rfl⟩, hJx3⟩⟩
    · obtain rfl : k = zs.length := by omega
      have hzn : z < 0 := by omega
      have hzd : decide (z ≥ 0) = false := by simp; omega
      gi_wp2
      go_end0
      exact ⟨⟨_, rfl⟩, .inl ⟨_, rfl, hJs⟩⟩

set_option maxHeartbeats 1000000 in
theorem back_in (F : Fence) (n : Nat) (h5 : F.fn 159) (hro : F.round = none) (a : Option Addr) (len cap : Nat) (w : World) :
    CallsIn F n Tryz.prog 159 #[.slice a len cap] w fun e w' => e = .returned (.func (.func 173) #[] #[.pointer (some ⟨w.heap.size, 0, none⟩)]) ∧ w' = w.alloc (.cells #[.slice a len cap] 54) := by
  refine callsIn_of_wp Tryz.func159 rfl h5 ?_ hro
  simp only [Tryz.ntmps159, List.size_toArray, List.length_cons, List.length_nil, Nat.reduceAdd, Nat.reduceSub, Array.replicate_succ, Array.replicate_zero, List.push_toArray, List.append_toArray, List.nil_append, List.cons_append]
  gi_wp2
  go_ret
  exact ⟨rfl, rfl⟩

theorem back_stops (F : Fence) (n : Nat) (h7 : F.fn 173) (hro : F.round = none) (hn : 1 ≤ n) (Bs n₀ : Nat) (sv : Value) (zs : List Int) (hreach : zs.length ≤ 1048576) (w : World) (hBn : Bs < w.heap.size) (hn₀ : n₀ ≤ w.heap.size)
    (hc : w.cell? ⟨Bs, 0, none⟩ = some sv) (hI : IntsIn n₀ w sv zs) :
    SeqStopsK F n Tryz.prog 173 #[.pointer (some ⟨Bs, 0, none⟩)] (fun x : Nat × Int => #[Value.int .i64 (x.1 : Int), Value.int .i64 x.2]) (KeepB n₀ Bs) (fun ys => ys = upto (backAt zs) zs.length)
      (fun pre => ∃ k, k ≤ zs.length ∧ pre = upto (backAt zs) k) zs.length w := fun l J Jx W hW _ _ hY h0 => by
  have hc' := (hW.cell (p := ⟨Bs, 0, none⟩) hBn).trans hc
  exact back1_in F n h7 hro hn l Bs n₀ sv zs hreach J Jx hY W hc' (hI.below (hW.mono hn₀)) h0

end Go.Proofs.YtkelhmgdajiocaaGreatDoor
/- Walks and lemmas of this seat (FMarks): what each theorem says of the functions that it names. Conditions: those that each theorem states. -/
namespace Go.Proofs.YtkelhmgdajiocaaGreatDoor
set_option linter.unusedVariables false
set_option linter.unusedSimpArgs false
open Go.RowKit Go.Shelf

/-- The mark of a range over a function among the deferred calls. -/
def mark (D : Nat) : Deferred := { target := .collected D, args := #[] }
structure Marks (B : Nat) (W : World) (Ds : List Nat) : Prop where
  nodup : Ds.Nodup
  held : ∀ D ∈ Ds, B ≤ D ∧ W.heap[D]? = some (.deferred (some []))
theorem Marks.nil (B : Nat) (W : World) : Marks B W [] := ⟨List.nodup_nil, fun _ h => by simp at h⟩
theorem Marks.lt {B : Nat} {W : World} {Ds : List Nat} (h : Marks B W Ds) {D : Nat} (hD : D ∈ Ds) : D < W.heap.size := (Array.getElem?_eq_some_iff.1 (h.held D hD).2).1
theorem Marks.cons {B : Nat} {W : World} {Ds : List Nat} {D : Nat} (h : Marks B W Ds) (hB : B ≤ D) (hn : D ∉ Ds) (hD : W.heap[D]? = some (.deferred (some []))) : Marks B W (D :: Ds) :=
  ⟨List.nodup_cons.2 ⟨hn, h.nodup⟩, fun E hE => by
    rcases List.mem_cons.1 hE with rfl | hE
    · exact ⟨hB, hD⟩
    · exact h.held E hE⟩
theorem Marks.kept {B : Nat} {W W' : World} {Ds : List Nat} {row : Option Nat} (h : Marks B W Ds) (hg : W.grownBy W' row) (hr : ∀ r, row = some r → r ∉ Ds) : Marks B W' Ds :=
  ⟨h.nodup, fun D hD => ⟨(h.held D hD).1, (hg.block D (h.lt hD) (fun e => hr D e.symm hD)).trans (h.held D hD).2⟩⟩
theorem Marks.alloc {B : Nat} {W : World} {Ds : List Nat} (h : Marks B W Ds) (o : Obj) : Marks B (W.alloc o) Ds := h.kept (World.grownBy_alloc W o none) (fun r e => by cases e)
theorem Marks.not_cells {B : Nat} {W : World} {Ds : List Nat} (h : Marks B W Ds) {b : Nat} {c : Array Value} {t : TypeId} {p : Nat × Nat} (hb : W.heap[b]? = some (.cells c t p)) : b ∉ Ds := fun hD => by
  have := (h.held b hD).2
  rw [hb] at this
  cases this
theorem Marks.set {B : Nat} {W : World} {Ds : List Nat} (h : Marks B W Ds) {b : Nat} {c : Array Value} {t : TypeId} {p : Nat × Nat} (hb : W.heap[b]? = some (.cells c t p)) (o : Nat) (u : Value) : Marks B (W.setCell ⟨b, o, none⟩ u) Ds :=
  h.kept (grown_set W b o u) (fun r e => by cases e; exact h.not_cells hb)

/-- What the leaving of a function with marks keeps: all cells. -/
def Shut (B : Nat) (W W' : World) : Prop := Below B W W' ∧ ∀ (j : Nat) (c : Array Value) (t : TypeId) (p : Nat × Nat), W.heap[j]? = some (.cells c t p) → W'.heap[j]? = some (.cells c t p)
theorem Shut.refl (B : Nat) (W : World) : Shut B W W := ⟨Below.refl _ _, fun _ _ _ _ h => h⟩
theorem Shut.trans {B : Nat} {W W' W2 : World} (h : Shut B W W') (k : Shut B W' W2) : Shut B W W2 := ⟨h.1.trans k.1, fun j c t p e => k.2 j c t p (h.2 j c t p e)⟩
theorem Shut.boxed {B : Nat} {W W' : World} (h : Shut B W W') {b : Nat} {t : TypeId} {v : Value} (hb : Boxed W b t v) : Boxed W' b t v := h.2 _ _ _ _ hb
theorem Shut.own {B0 : Nat} {W W' : World} (h : Shut B0 W W') {B : Nat} {e : TypeId} {s n : Nat} {v : Value} {xs : List Value} (ho : W.ownsRow B e s v n xs) : W'.ownsRow B e s v n xs := by
  refine ⟨ho.1, ?_⟩
  rcases ho.2 with hn | ⟨g, cap, cur, rfl, hg, hgg, r⟩
  · exact .inl hn
  · exact .inr ⟨g, cap, cur, rfl, hg, h.2 _ _ _ _ hgg, r⟩
theorem leaves_marks {P : Program} {F : Fence} {n : Nat} {fn : Func} {tmps : Array Value} {R : Ending → World → Prop} {B : Nat} : ∀ (Ds : List Nat) (W : World), Marks B W Ds →
    (∀ W', Shut B W W' → ∃ v, (results fn tmps).run P W' = .ok v W' ∧ R (.returned v) W') → LeavesInM F n P fn tmps R (Ds.map mark) .returning W := by
  intro Ds
  induction Ds with
  | nil => intro W _ h; exact h W (Shut.refl _ _)
  | cons D Ds ih =>
    intro W hm h
    have hD := hm.held D (by simp)
    refine ⟨by simp, .inl ⟨D, _, rfl, run_takeDeferred hD.2, ?_⟩⟩
    have hg := grownBy_putObj' W D (.deferred none)
    have hn := List.nodup_cons.1 hm.nodup
    refine ih _ (Marks.kept ⟨hn.2, fun E hE => hm.held E (by simp [hE])⟩ hg (fun r e => by cases e; exact hn.1)) fun W' hs => h W' (Shut.trans ⟨?_, ?_⟩ hs)
    · exact (Below.refl B W).grown hg (Nat.le_trans hD.1 (Nat.le_of_lt (hm.lt (by simp)))) (fun k e => by cases e; exact hD.1)
    · intro j c t p e
      rw [hg.block j (Array.getElem?_eq_some_iff.1 e).1 (fun e' => by cases e'; rw [hD.2] at e; cases e)]
      exact e
theorem cells_row {W : World} {B : Nat} {e : TypeId} {s g n : Nat} {pre : List Value} (h : Filling W B e s g n pre) : ∃ c, W.heap[g]? = some (.cells c e (0, 0)) := by
  obtain ⟨rest, h⟩ := h
  rcases h.2 with ⟨h1, _⟩ | ⟨g', cap, cur, h1, _, hg, _⟩
  · cases h1
  · simp at h1; obtain ⟨rfl, _⟩ := h1; exact ⟨_, hg⟩
theorem Filling.grown {W W' : World} {B : Nat} {e : TypeId} {s g n : Nat} {pre : List Value} {row : Option Nat} (h : Filling W B e s g n pre) (hg : W.grownBy W' row) (hne : some g ≠ row) : Filling W' B e s g n pre := by
  obtain ⟨rest, h⟩ := h
  exact ⟨rest, h.kept hg (.inr (by simpa [Value.ownBlock] using hne))⟩
theorem own_made (w : World) (B n : Nat) (T : TypeId) (hB : B ≤ w.heap.size) (hn : n ≤ maxLen) : (w.alloc (.cells (madeCells #[.int .i64 0] n) T)).ownsRow B T 1 (.slice (some ⟨w.heap.size, 0, none⟩) n n) n (madeCells #[.int .i64 0] n).toList :=
  ⟨by simp [size_madeCells], .inr ⟨w.heap.size, n, _, rfl, hB, heap_alloc_new w _, Nat.le_refl _, hn, by simp [size_madeCells], by rw [List.take_of_length_le (by simp [size_madeCells])]⟩⟩
/-- The fold over what has come. -/
theorem stepK_snoc (out : List Nat) : ∀ (l : List Int) (k : Int) (a : Nat), stepK out (l ++ [k]) a = match stepK out l a with | none => none | some b => if k ≠ (b : Int) - 1 ∨ b = 0 then none else some (out.getD (b - 1) 0) := by
  intro l
  induction l with
  | nil => intro k a; rfl
  | cons x l ih =>
    intro k a
    rw [List.cons_append, stepK]
    by_cases h : x ≠ (a : Int) - 1 ∨ a = 0
    · rw [if_pos h, stepK, if_pos h]
    · rw [if_neg h, ih, show stepK out (x :: l) a = stepK out l (out.getD (a - 1) 0) from by rw [stepK, if_neg h]]
theorem stepK_bad (out : List Nat) {l : List Int} {k : Int} {a b : Nat} (h : stepK out l a = some b) (hb : k ≠ (b : Int) - 1 ∨ b = 0) : stepK out (l ++ [k]) a = none := by
  rw [stepK_snoc, h]; simp only; rw [if_pos hb]
theorem stepK_good (out : List Nat) {l : List Int} {a b : Nat} (h : stepK out l a = some (b + 1)) : stepK out (l ++ [(b : Int)]) a = some (out.getD b 0) := by
  rw [stepK_snoc, h]; simp only; rw [if_neg (by omega)]; rfl
theorem stepK_take (out : List Nat) : ∀ (l : List Int) (k a : Nat), stepK out (l.take k) a = none → stepK out l a = none := by
  intro l
  induction l with
  | nil => intro k a h; simpa using h
  | cons x l ih =>
    intro k a h
    cases k with
    | zero => simp [stepK] at h
    | succ k =>
      rw [List.take_succ_cons, stepK] at h
      rw [stepK]
      split
      · rfl
      · rename_i hn
        rw [if_neg hn] at h
        exact ih _ _ h
end Go.Proofs.YtkelhmgdajiocaaGreatDoor
/- Walks and lemmas of this seat (FSR): what each theorem says of the functions that it names. Conditions: those that each theorem states. -/
namespace Go.Proofs.YtkelhmgdajiocaaGreatDoor
set_option linter.unusedVariables false
set_option linter.unusedSimpArgs false
open Go.RowKit Go.Shelf

attribute [local go_sem] Oper.semAt_some

theorem implwithin_in (F : Fence) (n : Nat) (hF : F.fn 45) (hro : F.round = none) (a b c : Int) (w : World) : CallsIn F n Tryz.prog 45 #[.int .i64 a, .int .i64 b, .int .i64 c] w fun e w' => e = .returned (.bool (decide (b ≤ a ∧ a ≤ c))) ∧ w = w' := by
  by_cases h : b ≤ a
  · refine callsIn_of_wp Tryz.func45 rfl hF ?_ hro
    simp only [Tryz.ntmps45, List.size_toArray, List.length_cons, List.length_nil, Nat.reduceAdd, Nat.reduceSub, Array.replicate_succ, Array.replicate_zero, List.push_toArray, List.append_toArray, List.nil_append, List.cons_append]
    gi_wp2
    go_ret
    exact ⟨ret_bool (by simp [h]), rfl⟩
  · refine callsIn_of_wp Tryz.func45 rfl hF ?_ hro
    simp only [Tryz.ntmps45, List.size_toArray, List.length_cons, List.length_nil, Nat.reduceAdd, Nat.reduceSub, Array.replicate_succ, Array.replicate_zero, List.push_toArray, List.append_toArray, List.nil_append, List.cons_append]
    gi_wp2
    go_ret
    exact ⟨ret_bool (by simp; omega), rfl⟩

/-- Between two rounds of impl.startsOf's outer loop. -/
structure SR (w : World) (l0 : List Node) (k : Nat) (out : List Nat) (Ds : List Nat) (W : World) : Prop where
  hb : Below w.heap.size w W
  r0 : Boxed W w.heap.size 54 (.slice none 0 0)
  r1 : Boxed W (w.heap.size + 1) 4 (.bool false)
  st : Boxed W (w.heap.size + 1 + 1 + 1) 54 (.slice (some ⟨w.heap.size + 1 + 1, 0, none⟩) l0.length l0.length)
  fil : Filling W w.heap.size 3 1 (w.heap.size + 1 + 1) l0.length (out.flatMap nat1)
  mks : Marks (w.heap.size + 4) W Ds
theorem SR.alloc {w : World} {l0 : List Node} {k : Nat} {out Ds : List Nat} {W : World} (h : SR w l0 k out Ds W) (o : Obj) : SR w l0 k out Ds (W.alloc o) :=
  ⟨h.hb.alloc h.hb.size o, h.r0.alloc o, h.r1.alloc o, h.st.alloc o, h.fil.below ((Below.refl _ _).alloc (Nat.le_refl _) o) (Nat.le_refl _), h.mks.alloc o⟩
theorem SR.own {w : World} {l0 : List Node} {k : Nat} {out Ds : List Nat} {A B : World} {B0 : Nat} {row : Option Nat} (h : SR w l0 k out Ds A) (hg : A.grownBy B row) (hr : ∀ r, row = some r → B0 ≤ r ∧ ∃ o : Obj, A.heap[r]? = some o ∧ o.isCells = false)
    (hN : w.heap.size ≤ B0) (hD : ∀ D ∈ Ds, D < B0) : SR w l0 k out Ds B := by
  have hx : ∀ (b : Nat) (c : Array Value) (t : TypeId) (p : Nat × Nat), A.heap[b]? = some (.cells c t p) → some b ≠ row := fun b c t p hb e => by
    obtain ⟨_, o, ho, hc⟩ := hr b e.symm
    rw [hb] at ho; cases ho; cases hc
  obtain ⟨c, hcc⟩ := cells_row h.fil
  exact ⟨h.hb.grown hg h.hb.size (fun r e => Nat.le_trans hN (hr r e).1), h.r0.kept hg (hx _ _ _ _ h.r0), h.r1.kept hg (hx _ _ _ _ h.r1), h.st.kept hg (hx _ _ _ _ h.st), h.fil.grown hg (hx _ _ _ _ hcc),
    h.mks.kept hg fun r e hd => by have := (hr r e).1; have := hD r hd; omega⟩
/-- A store into a box behind the call's first four. -/
theorem SR.box {w : World} {l0 : List Node} {k : Nat} {out Ds : List Nat} {W : World} {b : Nat} {t : TypeId} {v : Value} (h : SR w l0 k out Ds W) (hb : Boxed W b t v) (hlt : w.heap.size + 1 + 1 + 1 < b) (u : Value) : SR w l0 k out Ds (W.setCell ⟨b, 0, none⟩ u) :=
  ⟨h.hb.setCell (p := ⟨b, 0, none⟩) (show w.heap.size ≤ b by omega) u, h.r0.other (by omega) u, h.r1.other (by omega) u, h.st.other (by omega) u, h.fil.grown (grown_set W b 0 u) (by intro e; cases e; omega), h.mks.set hb 0 u⟩
theorem SR.put {w : World} {l0 : List Node} {k : Nat} {out Ds : List Nat} {W : World} (h : SR w l0 k out Ds W) (hk : out.length < l0.length) (a : Nat) : SR w l0 (k + 1) (out ++ [a]) Ds (W.setCell ⟨w.heap.size + 1 + 1, out.length, none⟩ (.int .i64 a)) := by
  obtain ⟨c, hcc⟩ := cells_row h.fil
  have hg := grown_set W (w.heap.size + 1 + 1) out.length (.int .i64 a)
  exact ⟨h.hb.setCell (p := ⟨w.heap.size + 1 + 1, out.length, none⟩) (show w.heap.size ≤ w.heap.size + 1 + 1 by omega) _, h.r0.kept hg (by intro e; simp at e; omega), h.r1.kept hg (by intro e; simp at e), h.st.kept hg (by intro e; simp at e), h.fil.put hk a, h.mks.set hcc _ _⟩
/-- Within a round: behind the values that have come. -/
structure SI (w : World) (l0 : List Node) (k : Nat) (out Ds : List Nat) (Ba : Nat) (pre : List (Nat × Int)) (W : World) : Prop where
  sr : SR w l0 k out Ds W
  at_ : ∃ a : Nat, stepK out (pre.map Prod.snd) k = some a ∧ Boxed W Ba 3 (.int .i64 ((a : Int) - 1))
theorem SI.own {w : World} {l0 : List Node} {k : Nat} {out Ds : List Nat} {Ba B0 : Nat} (hN : w.heap.size ≤ B0) (hD : ∀ D ∈ Ds, D < B0) : OwnFrom B0 (SI w l0 k out Ds Ba) := fun pre A B row h hg hr => by
  obtain ⟨a, ha, hb⟩ := h.at_
  refine ⟨h.sr.own hg hr hN hD, a, ha, hb.kept hg fun e => ?_⟩
  obtain ⟨_, o, ho, hc⟩ := hr Ba e.symm
  rw [show A.heap[Ba]? = _ from hb] at ho; cases ho; cases hc
/-- Where a round has returned. -/
def SX (w : World) (l0 : List Node) (k : Nat) (out Ds : List Nat) (c : Code) (pre : List (Nat × Int)) (W : World) : Prop := c = .ret ∧ stepK out (pre.map Prod.snd) k = none ∧ SR w l0 k out Ds W
theorem SX.own {w : World} {l0 : List Node} {k : Nat} {out Ds : List Nat} {B0 : Nat} (hN : w.heap.size ≤ B0) (hD : ∀ D ∈ Ds, D < B0) (c : Code) : OwnFrom B0 (SX w l0 k out Ds c) := fun pre A B row h hg hr => ⟨h.1, h.2.1, h.2.2.own hg hr hN hD⟩
theorem SR.res {w : World} {l0 : List Node} {k : Nat} {out Ds : List Nat} {W : World} (h : SR w l0 k out Ds W) : SR w l0 k out Ds ((W.setCell ⟨w.heap.size, 0, none⟩ (.slice none 0 0)).setCell ⟨w.heap.size + 1, 0, none⟩ (.bool false)) := by
  have hs : SR w l0 k out Ds (W.setCell ⟨w.heap.size, 0, none⟩ (.slice none 0 0)) :=
    ⟨h.hb.setCell (p := ⟨w.heap.size, 0, none⟩) (Nat.le_refl _) _, h.r0.set _, h.r1.other (by omega) _, h.st.other (by omega) _, h.fil.grown (grown_set W w.heap.size 0 _) (by intro e; simp at e; omega), h.mks.set h.r0 0 _⟩
  exact ⟨hs.hb.setCell (p := ⟨w.heap.size + 1, 0, none⟩) (show w.heap.size ≤ w.heap.size + 1 by omega) _, hs.r0.other (by omega) _, hs.r1.set _, hs.st.other (by omega) _, hs.fil.grown (grown_set _ (w.heap.size + 1) 0 _) (by intro e; simp at e), hs.mks.set hs.r1 0 _⟩
theorem kept_set {B b : Nat} {W : World} (c : Array Value) (t : TypeId) (p : Nat × Nat) (hb : W.heap[b]? = some (.cells c t p)) (o : Nat) (u : Value) : KeepsFrom B W (W.setCell ⟨b, o, none⟩ u) := (KeepsOthers.setCell _ _ _).from _

end Go.Proofs.YtkelhmgdajiocaaGreatDoor
/- Walks and lemmas of this seat (FStartsOf): what each theorem says of the functions that it names. Conditions: those that each theorem states. -/
namespace Go.Proofs.YtkelhmgdajiocaaGreatDoor
set_option linter.unusedVariables false
set_option linter.unusedSimpArgs false
open Go.RowKit Go.Shelf

attribute [local go_sem] Oper.semAt_some


set_option maxRecDepth 100000 in
set_option maxHeartbeats 6400000 in
theorem implstartsOf_in (l0 : List Node) (v0 : Value) (w : World) (hn0 : l0.length ≤ 1048576) (hx0 : ∀ x ∈ l0, x.Ok) (hs0 : bulk Node.sizes l0 ≤ 1048576) (hv0 : NodeSlc w v0 l0) (hin : 1 ≤ l0.length ∧ l0.length ≤ 400) :
    CallsIn Fence.wide 6 Tryz.prog 141 #[v0] w fun e w' => ImplStartsPost w 400 (l0.map Node.kids) e w' := by
  obtain ⟨a, cap, rfl, hm, hc, hsl⟩ := hv0.shape
  have hd : decide ((1 : Int) ≤ (l0.length : Int) ∧ (l0.length : Int) ≤ 400) = true := by simp; omega
  have hin2 : decide (1 ≤ (l0.map Node.kids).length ∧ (l0.map Node.kids).length ≤ 400) = true := by simp; omega
  have hmk := run_make_row' (P := Tryz.prog) 54 3 (.int .i64 0) 8 Tryz.underlying54 Tryz.info3 rfl .i64 .i64 l0.length (by omega) (by omega)
  replace hin2 := hid hin2
  refine callsIn_of_wp_marks Tryz.func141 rfl trivial ?_ rfl
  simp only [Tryz.ntmps141, List.size_toArray, List.length_cons, List.length_nil, Nat.reduceAdd, Nat.reduceSub, Array.replicate_succ, Array.replicate_zero, List.push_toArray, List.append_toArray, List.nil_append, List.cons_append]
  gi_wp2_with fail
  refine ⟨trivial, (implwithin_in Fence.wide _ trivial rfl _ _ _ _).mono ?_⟩
  rw [hd]
  rintro e w' ⟨rfl, rfl⟩
  gi_wp2
  clear hmk hd
  refine wpIn_loop (fun A W => ∃ (u5 u6 u7 u9 u20 u21 u22 u23 u24 u25 u26 u27 u28 u29 u30 u31 u32 u33 u34 u35 u36 u37 u38 u39 u40 u41 u42 u43 u44 u45 u46 u47 u48 : Value) (k : Nat) (out Ds : List Nat), A = { tmps := #[.slice a l0.length cap, undef, .pointer (some ⟨w.heap.size, 0, none⟩), .pointer (some ⟨w.heap.size + 1, 0, none⟩), .pointer (some ⟨w.heap.size + 1 + 1 + 1, 0, none⟩), u5, u6, u7, undef, u9, .slice a l0.length cap, .int .i64 l0.length, .bool true, .bool false, .slice a l0.length cap, .int .i64 l0.length, .slice (some ⟨w.heap.size + 1 + 1, 0, none⟩) l0.length l0.length, .slice a l0.length cap, .int .i64 l0.length, .int .i64 k, u20, u21, u22, u23, u24, u25, u26, u27, u28, u29, u30, u31, u32, u33, u34, u35, u36, u37, u38, u39, u40, u41, u42, u43, u44, u45, u46, u47, u48, undef, undef, undef, undef, undef, undef, undef, undef], defers := Ds.map mark } ∧ k ≤ l0.length ∧ out.length = k ∧ Low out ∧ SR w l0 k out Ds W ∧ Hid (starts (l0.map Node.kids) = startsL out ((l0.drop k).map Node.kids))) (fun A _ => l0.length - (intOf (A.tmps.getD 19 undef)).toNat) ?start ?round
  case start =>
    refine ⟨undef, undef, undef, undef, undef, undef, undef, undef, undef, undef, undef, undef, undef, undef, undef, undef, undef, undef, undef, undef, undef, undef, undef, undef, undef, undef, undef, undef, undef, undef, undef, undef, undef, 0, [], [], rfl, by omega, rfl, Low.nil, ?_, hid rfl⟩
    have e1 := Boxed.new w 54 (.slice none 0 0)
    have e2 := Boxed.new (w.alloc (.cells #[.slice none 0 0] 54)) 4 (.bool false)
    have e3 := own_made ((w.alloc (.cells #[.slice none 0 0] 54)).alloc (.cells #[.bool false] 4)) w.heap.size l0.length 3 (by simp; omega) (by unfold maxLen; omega)
    have e4 := Boxed.new (((w.alloc (.cells #[.slice none 0 0] 54)).alloc (.cells #[.bool false] 4)).alloc (.cells (madeCells #[.int .i64 0] l0.length) 3)) 54 (.slice (some ⟨w.heap.size + 1 + 1, 0, none⟩) l0.length l0.length)
    simp only [World.size_alloc] at e2 e3 e4
    exact ⟨by repeat (first | exact Below.refl _ _ | refine Below.alloc ?_ (by first | omega | (simp; done) | (simp; omega)) _ | refine Below.drew ?_), ((e1.alloc _).alloc _).alloc _, (e2.alloc _).alloc _, e4, (Filling.made e3).below ((Below.refl _ _).alloc (Nat.le_refl _) _) (Nat.le_refl _), Marks.nil _ _⟩
  intro A wr hinv
  obtain ⟨u5, u6, u7, u9, u20, u21, u22, u23, u24, u25, u26, u27, u28, u29, u30, u31, u32, u33, u34, u35, u36, u37, u38, u39, u40, u41, u42, u43, u44, u45, u46, u47, u48, k, out, Ds, rfl, hk, hol, hlow, hsr, hrel⟩ := hinv
  have hb := hsr.hb
  have hbs := hb.size
  have hNs := hsr.st.lt
  by_cases hlt : k < l0.length
  · obtain ⟨x, ka, kc, b, off, hx, rfl, c0, c1, c2, c3, c4, hkd⟩ := hsl.at (Below.refl w.heap.size w) (Nat.le_refl _) hlt
    have hmem := List.mem_of_getElem? hx
    have hxo := hx0 x hmem
    have hxs := Nat.le_trans (bulk_mem Node.sizes hmem) hs0
    unfold Node.sizes at hxs
    have lift : ∀ {q : Nat} {u : Value}, w.cell? ⟨b, q, none⟩ = some u → wr.cell? ⟨b, q, none⟩ = some u := fun {q u} h => (hb.cell (p := ⟨b, q, none⟩) (World.block_lt_of_cell? w _ h)).trans h
    replace c0 := lift c0
    replace c1 := lift c1
    replace c2 := lift c2
    replace c3 := lift c3
    replace c4 := lift c4
    clear lift
    rw [drop_cons hx, List.map_cons] at hrel
    have HR := hrel
    clear hx hrel hmem
    have hkin : IntsIn w.heap.size w (.slice ka x.kids.length kc) x.kids := by
      obtain ⟨_, a', cap', hv, _, _, hro⟩ := hkd
      simp at hv
      obtain ⟨rfl, rfl⟩ := hv
      refine ⟨_, _, rfl, ?_⟩
      rcases hro with h | ⟨kb, koff, rfl, hro⟩
      · exact .inl (List.eq_nil_of_length_eq_zero h)
      · by_cases hz : x.kids = []
        · exact .inl hz
        · have hat : ∀ j, j < x.kids.length → w.cell? ⟨kb, koff + j, none⟩ = some (.int .i64 (x.kids.getD j 0)) := fun j hj => hro.one int1_len (show x.kids[j]? = some (x.kids.getD j 0) by rw [List.getD_eq_getElem?_getD, List.getElem?_eq_getElem hj]; rfl) rfl
          exact .inr ⟨kb, koff, rfl, World.block_lt_of_cell? w _ (hat 0 (List.length_pos_iff.2 hz)), hat⟩
    have hkl : x.kids.length ≤ 1048576 := by omega
    replace hlow := hid hlow
    replace hin := hid hin
    clear hkd hxo
    gi_wp2_with fail
    refine ⟨trivial, (back_in Fence.wide _ trivial rfl _ _ _ _).mono ?_⟩
    rintro e w' ⟨rfl, rfl⟩
    have hsr0 := ((hsr.alloc (.cells #[.int .i64 x.kind, .int .i64 x.op, .string x.text, .string x.other, .slice ka x.kids.length kc] 58)).alloc (.cells #[.int .i64 ((k : Int) - 1)] 3)).alloc (.cells #[.slice ka x.kids.length kc] 54)
    have hat := (Boxed.new (wr.alloc (.cells #[.int .i64 x.kind, .int .i64 x.op, .string x.text, .string x.other, .slice ka x.kids.length kc] 58)) 3 (.int .i64 ((k : Int) - 1))).alloc (.cells #[.slice ka x.kids.length kc] 54)
    have hbk := Boxed.new ((wr.alloc (.cells #[.int .i64 x.kind, .int .i64 x.op, .string x.text, .string x.other, .slice ka x.kids.length kc] 58)).alloc (.cells #[.int .i64 ((k : Int) - 1)] 3)) 54 (.slice ka x.kids.length kc)
    simp only [World.size_alloc] at hat hbk
    gi_wp2
    have hsz : (((wr.alloc (.cells #[.int .i64 x.kind, .int .i64 x.op, .string x.text, .string x.other, .slice ka x.kids.length kc] 58)).alloc (.cells #[.int .i64 ((k : Int) - 1)] 3)).alloc (.cells #[.slice ka x.kids.length kc] 54)).heap.size = wr.heap.size + 3 := by simp
    generalize ((wr.alloc (.cells #[.int .i64 x.kind, .int .i64 x.op, .string x.text, .string x.other, .slice ka x.kids.length kc] 58)).alloc (.cells #[.int .i64 ((k : Int) - 1)] 3)).alloc (.cells #[.slice ka x.kids.length kc] 54) = W0 at hsr0 hat hbk hsz ⊢
    have hDs : ∀ D ∈ Ds, D < W0.heap.size := fun D hD => hsr0.mks.lt hD
    have hDw : ∀ D ∈ Ds, D < wr.heap.size := fun D hD => hsr.mks.lt hD
    replace hDs := hid hDs
    replace hDw := hid hDw
    replace hsz := hid hsz
    clear c0 c1 c2 c3 c4
    refine wpIn_rangeFunc_ownG (F := Fence.wide) rfl (by omega) (gf := 173) (lb := #[.pointer (some ⟨wr.heap.size + 1 + 1, 0, none⟩)]) rfl trivial (enters_of Tryz.func173 (by kernel_rfl) rfl)
      (back_stops Fence.wide _ trivial rfl (by omega) (wr.heap.size + 1 + 1) w.heap.size _ x.kids hkl W0 hbk.lt (by have := hsz.out; omega) hbk.cell (hkin.below hsr0.hb)) KeepB.trans (keepB_b (by have := hsz.out; omega) hbk.lt) (Below.refl _ _) (fun _ => rfl)
      (SI w l0 k out Ds (wr.heap.size + 1)) (SX w l0 k out Ds) (SI.own (by have := hsz.out; omega) hDs.out) (SX.own (by have := hsz.out; omega) hDs.out) ⟨hsr0, k, rfl, hat⟩
      (fun y => { tmps := #[.slice (some ⟨b, off, none⟩) l0.length cap, undef, .pointer (some ⟨w.heap.size, 0, none⟩), .pointer (some ⟨w.heap.size + 1, 0, none⟩), .pointer (some ⟨w.heap.size + 1 + 1 + 1, 0, none⟩), .int .i64 k, .pointer (some ⟨wr.heap.size, 0, none⟩), .pointer (some ⟨wr.heap.size + 1, 0, none⟩), undef, .int .i64 y.2, .slice (some ⟨b, off, none⟩) l0.length cap, .int .i64 l0.length, .bool true, .bool false, .slice (some ⟨b, off, none⟩) l0.length cap, .int .i64 l0.length, .slice (some ⟨w.heap.size + 1 + 1, 0, none⟩) l0.length l0.length, .slice (some ⟨b, off, none⟩) l0.length cap, .int .i64 l0.length, .int .i64 k, .bool true, .int .i64 k, .pointer (some ⟨b, off + k * 5, none⟩), .agg #[.int .i64 x.kind, .int .i64 x.op, .string x.text, .string x.other, .slice ka x.kids.length kc], .int .i64 k, .int .i64 ((k : Int) - 1), .pointer (some ⟨wr.heap.size, 4, none⟩), .slice ka x.kids.length kc, .func (.func 173) #[] #[.pointer (some ⟨wr.heap.size + 1 + 1, 0, none⟩)], .int .i64 (y.1 : Int), .int .i64 y.2, u31, u32, u33, u34, u35, u36, u37, u38, u39, u40, u41, u42, u43, u44, u45, u46, u47, u48, undef, undef, undef, undef, undef, undef, undef, undef], defers := [] }) ?assign ?body ?done ?stop
    case assign =>
      intro l y W K hK
      gi_wp2
      exact hK
    case body =>
      rintro l pre y W ⟨hsr1, a1, hst, hbox⟩ _
      have ha1 := stepK_le hlow.out _ _ _ hst
      have hns := hbox.lt
      have cst := hsr1.st.cell
      by_cases hbad : y.2 = (a1 : Int) - 1 ∧ 0 < a1
      · obtain ⟨a', rfl⟩ : ∃ a', a1 = a' + 1 := ⟨a1 - 1, by omega⟩
        have hy : y.2 = (a' : Int) := by omega
        have hst2 : Hid (stepK out ((pre ++ [y]).map Prod.snd) k = some (out.getD a' 0)) := hid (by rw [List.map_append, List.map_cons, List.map_nil, hy]; exact stepK_good out hst)
        have hbox2 : Boxed W (wr.heap.size + 1) 3 (.int .i64 (a' : Int)) := by have h3 := hbox; rw [show ((a' + 1 : Nat) : Int) - 1 = (a' : Int) by omega] at h3; exact h3
        have r0 := hsr1.fil.read (nat1_at (show a' < out.length by omega))
        have hle := hlow.out.getD a'
        have cat := hbox2.cell
        have fat := hbox2.frozen
        have hla : a' < l0.length := by omega
        have hkbb : Hid (KeepB w.heap.size (wr.heap.size + 1 + 1) W (W.setCell ⟨wr.heap.size + 1, 0, none⟩ (.int .i64 ((out.getD a' 0 : Nat) - 1 : Int)))) := hid ⟨(Below.refl _ _).setCell (p := ⟨wr.heap.size + 1, 0, none⟩) (show w.heap.size ≤ wr.heap.size + 1 by omega) _, heap_setCell_other W ⟨wr.heap.size + 1, 0, none⟩ _ _ (by show wr.heap.size + 1 + 1 ≠ wr.heap.size + 1; omega)⟩
        generalize out.getD a' 0 = a2 at r0 hle hst2 hkbb
        obtain ⟨y1, y2⟩ := y
        simp only at hy
        subst hy
        clear hbad
        replace hsr1 := hid hsr1
        replace hbox2 := hid hbox2
        clear hst hbox
        gi_wp2
        exact ⟨(KeepsOthers.setCell _ _ _).from _, hkbb.out, hsr1.out.box hbox2.out (by omega) _, a2, hst2.out, hbox2.out.set _⟩
      · have hst2 : Hid (stepK out ((pre ++ [y]).map Prod.snd) k = none) := hid (by rw [List.map_append, List.map_cons, List.map_nil]; exact stepK_bad out hst (by omega))
        obtain ⟨z, hz⟩ : ∃ z, z = (a1 : Int) - 1 := ⟨_, rfl⟩
        rw [← hz] at hbox
        have cat := hbox.cell
        have hz1 : -1 ≤ z := by omega
        have hz2 : z ≤ 1048576 := by omega
        obtain ⟨y1, y2⟩ := y
        have hne : z < 0 ∨ ¬ y2 = z := by simp only at hbad; omega
        clear hbad hst
        have f0 := hsr1.r0.frozen
        have f1 := hsr1.r1.frozen
        have k0 := hsr1.r0.cell
        have k1 := hsr1.r1.cell
        have hres := hid hsr1.res
        replace hz := hid hz
        by_cases hz0 : z < 0
        · clear hne
          replace hsr1 := hid hsr1
          gi_wp2
          all_goals exact ⟨((KeepsOthers.setCell _ _ _).from _).trans ((KeepsOthers.setCell _ _ _).from _), rfl, hst2.out, hres.out⟩
        · have hne2 : (y2 == z) = false := by simp; omega
          have hne3 : (y2 != z) = true := by simp; omega
          clear hne
          replace hsr1 := hid hsr1
          gi_wp2
          all_goals exact ⟨((KeepsOthers.setCell _ _ _).from _).trans ((KeepsOthers.setCell _ _ _).from _), rfl, hst2.out, hres.out⟩
    case done =>
      rintro D ys W hD rfl ⟨hsr1, a1, hst, hbox⟩ hK
      rw [back_all] at hst
      have ha1 := stepK_le hlow.out _ _ _ hst
      have hns := hbox.lt
      have cst := hsr1.st.cell
      have hR2 := hid (HR.out.trans (startsL_go (l := (l0.drop (k + 1)).map Node.kids) (by rw [hol]; exact hst)))
      obtain ⟨z, hz⟩ : ∃ z, z = (a1 : Int) - 1 := ⟨_, rfl⟩
      rw [← hz] at hbox
      have cat := hbox.cell
      have hz1 : -1 ≤ z := by omega
      have hz2 : z ≤ 1048576 := by omega
      have hzz : z + 1 = (a1 : Int) := by omega
      obtain ⟨⟨u0, s0⟩, s1⟩ := hsr1.fil.cell k (by omega)
      have hput := hsr1.put (show out.length < l0.length by omega) a1
      have hheld : (W.setCell ⟨w.heap.size + 1 + 1, out.length, none⟩ (.int .i64 a1)).heap[D]? = some (.deferred (some [])) := (heap_setCell_other W ⟨w.heap.size + 1 + 1, out.length, none⟩ D _ (by show D ≠ w.heap.size + 1 + 1; have := hsz.out; omega)).trans hK
      have hnext : Hid (SR w l0 (k + 1) (out ++ [a1]) (D :: Ds) (W.setCell ⟨w.heap.size + 1 + 1, out.length, none⟩ (.int .i64 a1))) := hid { hput with mks := hput.mks.cons (by have := hsz.out; omega) (fun h => by have := hDs.out D h; omega) hheld }
      have hlow2 := hid (hlow.out.snoc (show a1 ≤ out.length by omega))
      rw [hol] at hnext
      replace hol := hid hol
      replace hsr1 := hid hsr1
      replace hK := hid hK
      replace hz := hid hz
      clear hput hheld hst
      gi_wp2
      refine ⟨⟨_, _, _, _, _, _, _, _, _, _, _, _, _, _, _, _, _, _, _, _, _, _, _, _, _, _, _, _, _, _, _, _, _, k + 1, out ++ [a1], D :: Ds, rfl, by omega, by have := hol.out; simp; omega, hlow2.out, hnext.out, hR2⟩, ?_⟩
      simp [intOf]
      omega
    case stop =>
      rintro D c pre W hD ⟨j, hj, rfl⟩ ⟨rfl, hst, hsr1⟩ hK
      rw [back_take _ _ hj] at hst
      have hR2 := hid (HR.out.trans (startsL_no (l := (l0.drop (k + 1)).map Node.kids) (by rw [hol]; exact stepK_take out _ _ _ hst)))
      gi_wp2
      refine leaves_marks (B := w.heap.size + 4) (D :: Ds) W (hsr1.mks.cons (by have := hsz.out; omega) (fun h => by have := hDs.out D h; omega) hK) fun W' hs => ⟨.tuple #[.slice none 0 0, .bool false], ?_, ?_⟩
      · have d1 := (hs.boxed hsr1.r0).cell
        have d2 := (hs.boxed hsr1.r1).cell
        simp [results, Tryz.results141, go_sem, d1, d2]
      · exact ⟨hsr1.hb.trans (hs.1.mono (by omega)), .slice none 0 0, by unfold startsLast; rw [hR2.out]; simp, fun s hs' => by rw [hR2.out] at hs'; cases hs'⟩
  · obtain rfl : k = l0.length := by omega
    have hR2 : Hid (starts (l0.map Node.kids) = some out) := hid (by rw [hrel.out, List.drop_of_length_le (Nat.le_refl _)]; rfl)
    have hown := hsr.fil.done (by rw [flat_len nat1 1 nat1_len, hol])
    have r0 := own_read hown (nat1_at (show l0.length - 1 < out.length by omega))
    have cst := hsr.st.cell
    have f0 := hsr.r0.frozen
    have f1 := hsr.r1.frozen
    have k0 := hsr.r0.cell
    have k1 := hsr.r1.cell
    obtain ⟨n', hn'⟩ : ∃ n', n' = l0.length - 1 := ⟨_, rfl⟩
    rw [← hn'] at r0
    generalize hval : out.getD n' 0 = val at r0
    replace hval := hid hval
    have hv : (l0.length : Int) - 1 = (n' : Int) := by omega
    have hi1 : (n' : Int) < (l0.length : Int) := by omega
    have hi2 : n' < l0.length := by omega
    replace hn' := hid hn'
    replace hol := hid hol
    replace hin := hid hin
    replace hsr := hid hsr
    replace hown := hid hown
    clear hlt hrel
    gi_wp2
    gi_region
    gi_wp2
    have hsr := hsr.out
    have hown := hown.out
    have hol := hol.out
    have g0 := hsr.r0.set (.slice (some ⟨w.heap.size + 1 + 1, 0, none⟩) l0.length l0.length)
    have g1 := hsr.r1.other (show w.heap.size + 1 ≠ w.heap.size by omega) (.slice (some ⟨w.heap.size + 1 + 1, 0, none⟩) l0.length l0.length)
    have m1 := (hsr.mks.set hsr.r0 0 (.slice (some ⟨w.heap.size + 1 + 1, 0, none⟩) l0.length l0.length)).set g1 0 (.bool ((val : Int) == 0))
    have b1 := (hsr.hb.setCell (p := ⟨w.heap.size, 0, none⟩) (Nat.le_refl _) (.slice (some ⟨w.heap.size + 1 + 1, 0, none⟩) l0.length l0.length)).setCell (p := ⟨w.heap.size + 1, 0, none⟩) (show w.heap.size ≤ w.heap.size + 1 by omega) (.bool ((val : Int) == 0))
    have o1 := (hown.kept (grown_set wr w.heap.size 0 (.slice (some ⟨w.heap.size + 1 + 1, 0, none⟩) l0.length l0.length)) (.inr (by simp [Value.ownBlock] <;> omega))).kept (grown_set _ (w.heap.size + 1) 0 (.bool ((val : Int) == 0))) (.inr (by simp [Value.ownBlock] <;> omega))
    have q0 := g0.other (show w.heap.size ≠ w.heap.size + 1 by omega) (.bool ((val : Int) == 0))
    have q1 := g1.set (.bool ((val : Int) == 0))
    refine leaves_marks (B := w.heap.size + 4) Ds _ ⟨m1.nodup, m1.held⟩ fun W' hs => ⟨.tuple #[.slice (some ⟨w.heap.size + 1 + 1, 0, none⟩) l0.length l0.length, .bool ((val : Int) == 0)], ?_, ?_⟩
    · have d1 := (hs.boxed (show Boxed (World.drew _) _ _ _ from q0)).cell
      have d2 := (hs.boxed (show Boxed (World.drew _) _ _ _ from q1)).cell
      simp [results, Tryz.results141, go_sem, d1, d2]
    · refine ⟨b1.drew.trans (hs.1.mono (by omega)), .slice (some ⟨w.heap.size + 1 + 1, 0, none⟩) l0.length l0.length, ?_, fun s hs' _ _ => ?_⟩
      · refine tup_bool ?_
        unfold startsLast
        rw [hR2.out, hin2.out, Bool.true_and, List.length_map, ← hn'.out]
        show ((val : Int) == 0) = (out.getD n' 0 == 0)
        rw [hval.out, Bool.eq_iff_iff]; simp
      · have he : s = out := by rw [hR2.out] at hs'; simpa using hs'.symm
        subst he
        rw [hol]
        exact hs.own (show (World.drew _).ownsRow _ _ _ _ _ _ from o1)

set_option maxRecDepth 100000 in
set_option maxHeartbeats 1600000 in
theorem implstartsOf_any (l0 : List Node) (v0 : Value) (w : World) (hx0 : ∀ x ∈ l0, x.Ok) (hs0 : bulk Node.sizes l0 ≤ 1048576) (hv0 : NodeSlc w v0 l0) :
    Calls Tryz.prog 141 #[v0] w fun e w' => ImplStartsPost w 400 (l0.map Node.kids) e w' := by
  have hn0 : l0.length ≤ 1048576 := Nat.le_trans (length_bulk Node.sizes l0) hs0
  by_cases hin : 1 ≤ l0.length ∧ l0.length ≤ 400
  · exact callsIn_wide.1 (implstartsOf_in l0 v0 w hn0 hx0 hs0 hv0 hin)
  obtain ⟨a, cap, rfl, hm, hc, hsl⟩ := hv0.shape
  have hd : decide ((1 : Int) ≤ (l0.length : Int) ∧ (l0.length : Int) ≤ 400) = false := by simp; omega
  have hin2 : decide (1 ≤ (l0.map Node.kids).length ∧ (l0.map Node.kids).length ≤ 400) = false := by simp; omega
  replace hin2 := hid hin2
  replace hin := hid hin
  refine callsIn_wide (n := 6).1 ?_
  refine callsIn_of_wp_marks Tryz.func141 rfl trivial ?_ rfl
  simp only [Tryz.ntmps141, List.size_toArray, List.length_cons, List.length_nil, Nat.reduceAdd, Nat.reduceSub, Array.replicate_succ, Array.replicate_zero, List.push_toArray, List.append_toArray, List.nil_append, List.cons_append]
  gi_wp2_with fail
  refine ⟨trivial, (implwithin_in Fence.wide _ trivial rfl _ _ _ _).mono ?_⟩
  rw [hd]
  rintro e w' ⟨rfl, rfl⟩
  clear hd
  gi_wp2
  have e1 := Boxed.new w 54 (.slice none 0 0)
  have e2 := Boxed.new (w.alloc (.cells #[.slice none 0 0] 54)) 4 (.bool false)
  have e1' := e1.alloc (.cells #[.bool false] 4)
  simp only [World.size_alloc] at e2
  refine leaves_marks (B := w.heap.size + 4) [] _ (Marks.nil _ _) fun W' hs => ⟨.tuple #[.slice none 0 0, .bool false], ?_, ?_⟩
  · have d1 := (hs.boxed e1').cell
    have d2 := (hs.boxed e2).cell
    simp [results, Tryz.results141, go_sem, d1, d2]
  · refine ⟨(((Below.refl w.heap.size w).alloc (Nat.le_refl _) _).alloc (by simp) _).trans (hs.1.mono (by omega)), .slice none 0 0, ?_, fun s _ h1 h2 => ?_⟩
    · rw [hin2.out, Bool.false_and]
    · rw [List.length_map] at h1 h2; exact absurd ⟨h1, h2⟩ hin.out

end Go.Proofs.YtkelhmgdajiocaaGreatDoor
/- Walks and lemmas of this seat (FNodeStarts): what each theorem says of the functions that it names. Conditions: those that each theorem states. -/
namespace Go.Proofs.YtkelhmgdajiocaaGreatDoor
set_option linter.unusedVariables false
set_option linter.unusedSimpArgs false
open Go.RowKit

set_option maxRecDepth 100000 in
set_option maxHeartbeats 1600000 in
theorem specl6Starts_any (l0 : List Node) (v0 : Value) (w : World) (hn0 : l0.length ≤ 1048576) (hx0 : ∀ x ∈ l0, x.Ok) (hv0 : NodeSlc w v0 l0) :
    Calls Tryz.prog 95 #[v0] w fun e w' => StartsPost w (l0.map Node.kids) e w' := by
  obtain ⟨a, cap, rfl, hm, hc, hsl⟩ := hv0.shape
  obtain ⟨i0, hi, hz0, hz1, hz2⟩ := info_parts Tryz.info3
  go_enter Tryz.func95, Tryz.ntmps95
  go_wp2
  go_loopw [4, 5] (fun v i wr => ∃ (k : Nat) (out : List Nat), i = .int .i64 k ∧ k ≤ l0.length ∧ out.length = k ∧ Low out ∧ Below w.heap.size w wr ∧ wr.ownsRow w.heap.size 3 1 v out.length (out.flatMap nat1) ∧ Hid (starts (l0.map Node.kids) = startsL out ((l0.drop k).map Node.kids))) (fun _ i _ => l0.length - (intOf i).toNat)
  case atStart => exact ⟨0, [], rfl, by omega, rfl, Low.nil, by repeat (first | exact Below.refl _ _ | refine Below.alloc ?_ (by first | omega | (simp; done) | (simp; omega)) _ | refine Below.drew ?_), own_new0 _ _ _, hid rfl⟩
  obtain ⟨k, out, rfl, hk, hol, hlow, hb, hown, hrel⟩ := hrel
  have hbs := hb.size
  by_cases hlt : k < l0.length
  · obtain ⟨x, ka, kc, b, off, hx, rfl, c0, c1, c2, c3, c4, hkd⟩ := hsl.at hb (Nat.le_refl _) hlt
    have hxo := hx0 x (List.mem_of_getElem? hx)
    rw [drop_cons hx, List.map_cons] at hrel
    have HR := hrel
    clear hx hrel
    obtain ⟨_, _, _, hkv, hkc, hkm, hkrow⟩ := hkd
    simp at hkv
    obtain ⟨rfl, rfl⟩ := hkv
    unfold Node.Ok at hxo
    obtain ⟨_, _, _, _, hki, hkl⟩ := hxo
    unfold maxLen at hkm hkl
    replace hlow := hid hlow
    replace hki := hid hki
    go_wp2
    go_loop [6, 7] (fun at_ j => ∃ (a q : Nat) (z : Int), at_ = .int .i64 a ∧ j = .int .i64 z ∧ z = (q : Int) - 1 ∧ q ≤ x.kids.length ∧ a ≤ k ∧ Hid (stepK out x.kids.reverse k = stepK out (x.kids.take q).reverse a)) (fun _ j => (intOf j + 1).toNat)
    case atStart => exact ⟨k, x.kids.length, _, rfl, rfl, by omega, by omega, by omega, hid (by rw [List.take_length])⟩
    obtain ⟨a, q, z, rfl, rfl, hz, hq, ha, hst⟩ := hrel
    by_cases hq0 : q = 0
    · subst hq0
      have hzn : z < 0 := by omega
      have hzd : decide (z ≥ 0) = false := by simp; omega
      have hst2 : Hid (stepK out x.kids.reverse k = some a) := hid (hst.out.trans rfl)
      clear hst hz
      have hol2 : out.length ≤ 1048576 := by omega
      replace hol := hid hol
      go_wp2_with (at_builtin; refine wpList_append_own _ rfl _ _ 54 rfl w.heap.size 3 i0 _ 1 8 Tryz.underlying54 hi hz0 hz1 hz2 rfl (by decide) _ out.length (out.flatMap nat1) rfl (hown.alloc _) _ _ _ (nat1 a) rfl rfl (new_cells_at _ _ _ _ _ rfl (by first | rfl | simp)) (by intro u hu; simp [nat1] at hu; rcases hu with rfl | rfl | rfl | rfl | rfl <;> rfl) (by unfold maxLen; omega) (by omega) (by first | omega | (simp; done) | (simp; omega)) ?_; intro v2 w2 hown2 hgr2 hiff; clear hiff; have hb2 := app_below (hb.alloc (by first | omega | (simp; done) | (simp; omega)) _) (hown.alloc _) hgr2)
      all_goals go_roundw
      all_goals first
        | (simp [intOf]; omega)
        | exact ⟨k + 1, out ++ [a], by go_num, by omega, by have := hol.out; simp; omega, hlow.out.snoc (by have := hol.out; omega), hb2, by simpa using hown2, hid (HR.out.trans (startsL_go (by rw [hol.out]; exact hst2.out)))⟩
    · obtain ⟨q', rfl⟩ : ∃ q', q = q' + 1 := ⟨q - 1, by omega⟩
      obtain rfl : z = (q' : Int) := by omega
      clear hz hq0
      obtain ⟨kid, hkid⟩ := get_of_lt (show q' < x.kids.length by omega)
      obtain ⟨kb, koff, rfl, hkro⟩ := slc_some hkrow (by omega)
      have d0 := hkro.one int1_len hkid rfl
      have hk64 := hki.out kid (List.mem_of_getElem? hkid)
      unfold I64 at hk64
      have hno := fun h => stepK_no (out := out) (a := a) hkid h
      have hgo := fun a' h => stepK_go (out := out) (a := a') hkid h
      clear hkid hkro
      by_cases hbad : kid = (a : Int) - 1 ∧ 0 < a
      · obtain ⟨a', rfl⟩ : ∃ a', a = a' + 1 := ⟨a - 1, by omega⟩
        obtain rfl : kid = (a' : Int) := by omega
        have hst2 := hid (hst.out.trans (hgo a' rfl))
        clear hst hno hgo hbad
        obtain ⟨g, cp, rfl, hcp⟩ := own_slice' hown (by omega)
        have r0 := own_read hown (nat1_at (show a' < out.length by omega))
        have hlt2 : a' < out.length := by omega
        have hle := hlow.out.getD a'
        generalize out.getD a' 0 = a2 at r0 hle hst2
        go_wp2
        all_goals go_round
        all_goals first
          | (simp [intOf]; done)
          | (simp [intOf]; omega)
          | (show ((q' : Int) - 1 + 1).toNat < ((q' : Int) + 1).toNat; omega)
          | exact ⟨a2, q', _, rfl, rfl, by omega, by omega, by omega, hst2⟩
      · have hst2 := hid (startsL_no (l := (l0.drop (k + 1)).map Node.kids) ((show _ = none from hol ▸ hst.out.trans (hno (by omega)))))
        have hR2 := hid (HR.out.trans hst2.out)
        clear hst hno hgo HR hst2
        go_wp2
        all_goals first
          | (go_ret2; exact ⟨by repeat (first | exact hb | refine Below.alloc ?_ (by first | omega | (simp; done) | (simp; omega)) _ | refine Below.drew ?_), .inl ⟨hR2.out, _, rfl⟩⟩)
          | (go_ways; sorry)
  · go_wp2
    go_ret2
    exact ⟨hb, .inr ⟨out, _, by rw [hrel.out, List.drop_of_length_le (by omega)]; rfl, rfl, hown⟩⟩

theorem specl1In_dec (a b c : Int) (w : World) : Calls Tryz.prog 52 #[.int .i64 a, .int .i64 b, .int .i64 c] w fun e w' => e = .returned (.bool (decide (b ≤ a ∧ a ≤ c))) ∧ w = w' := by
  by_cases h : b ≤ a
  · go_enter Tryz.func52, Tryz.ntmps52
    go_wp2
    go_ret
    exact ⟨ret_bool (by simp [h]), rfl⟩
  · go_enter Tryz.func52, Tryz.ntmps52
    go_wp2
    go_ret
    exact ⟨ret_bool (by simp; omega), rfl⟩


def shapeOk (l : List (List Int)) : Bool := decide (1 ≤ l.length ∧ l.length ≤ 400) && startsLast l
set_option maxRecDepth 100000 in
set_option maxHeartbeats 1600000 in
theorem specShapeOk_any (l0 : List Node) (v0 : Value) (w : World) (hx0 : ∀ x ∈ l0, x.Ok) (hn0 : bulk Node.sizes l0 ≤ 1048576) (hv0 : NodeSlc w v0 l0) :
    Calls Tryz.prog 72 #[v0] w fun e w' => e = .returned (.bool (shapeOk (l0.map Node.kids))) ∧ Below w.heap.size w w' := by
  have hv := hv0
  obtain ⟨a, cap, rfl, hm, hc, hsl⟩ := hv0.shape
  have hlen := length_bulk Node.sizes l0
  by_cases hin : 1 ≤ l0.length ∧ l0.length ≤ 400
  · have hd : decide ((1 : Int) ≤ (l0.length : Int) ∧ (l0.length : Int) ≤ 400) = true := by simp; omega
    have hw1 := specl1In_dec (l0.length : Int) 1 400 w
    rw [hd] at hw1
    have hR : Hid (shapeOk (l0.map Node.kids) = startsLast (l0.map Node.kids)) := hid (by unfold shapeOk; rw [List.length_map, show decide (1 ≤ l0.length ∧ l0.length ≤ 400) = true from by simpa using hin, Bool.true_and])
    have hcall := specl6Starts_any l0 _ w (by omega) hx0 hv
    clear hd
    go_enter Tryz.func72, Tryz.ntmps72
    go_wp2_with fail
    refine hw1.mono ?_; rintro e w1 ⟨rfl, rfl⟩
    clear hw1
    go_wp2_with fail
    refine hcall.mono ?_; rintro e w2 ⟨hb2, ⟨hno, v', rfl⟩ | ⟨s, v', hs, rfl, hown⟩⟩
    · have hR3 : Hid (shapeOk (l0.map Node.kids) = false) := hid (by rw [hR.out]; unfold startsLast; rw [hno])
      clear hno hcall
      go_wp2
      go_ret
      exact ⟨ret_bool hR3.out.symm, hb2⟩
    · have hsl2 : s.length = l0.length := by have := (starts_len hs).2; simpa using this
      have hlt0 : l0.length - 1 < s.length := by omega
      have hR3 : Hid (shapeOk (l0.map Node.kids) = (s.getD (l0.length - 1) 0 == 0)) := hid (by rw [hR.out]; unfold startsLast; rw [hs]; simp)
      obtain ⟨g, cp, rfl, hcp⟩ := own_slice' hown (by omega)
      have r0 := own_read hown (nat1_at hlt0)
      generalize s.getD (l0.length - 1) 0 = val at r0 hR3
      unfold maxLen at hcp
      obtain ⟨n', hn'⟩ : ∃ n', n' = l0.length - 1 := ⟨_, rfl⟩
      rw [← hn'] at r0
      have hv1 : (l0.length : Int) - 1 = (n' : Int) := by omega
      have hi1 : n' < s.length := by omega
      have hi2 : (n' : Int) < (s.length : Int) := by omega
      replace hn' := hid hn'
      replace hsl2 := hid hsl2
      clear hs hcall hown hlt0
      go_wp2
      go_ret
      exact ⟨ret_bool (by rw [hR3.out, Bool.eq_iff_iff]; simp), hb2⟩
  · have hd : decide ((1 : Int) ≤ (l0.length : Int) ∧ (l0.length : Int) ≤ 400) = false := by simp; omega
    have hw1 := specl1In_dec (l0.length : Int) 1 400 w
    rw [hd] at hw1
    have hR : Hid (shapeOk (l0.map Node.kids) = false) := hid (by unfold shapeOk; rw [List.length_map, show decide (1 ≤ l0.length ∧ l0.length ≤ 400) = false from by simpa using hin]; simp)
    clear hd hin
    go_enter Tryz.func72, Tryz.ntmps72
    go_wp2_with fail
    refine hw1.mono ?_; rintro e w1 ⟨rfl, rfl⟩
    clear hw1
    go_wp2
    go_ret
    exact ⟨ret_bool hR.out.symm, Below.refl _ _⟩

end Go.Proofs.YtkelhmgdajiocaaGreatDoor
/- Walks and lemmas of this seat (FShapeOk): what each theorem says of the functions that it names. Conditions: those that each theorem states. -/
namespace Go.Proofs.YtkelhmgdajiocaaGreatDoor
set_option linter.unusedVariables false
set_option linter.unusedSimpArgs false
open Go.RowKit

set_option maxRecDepth 100000 in
set_option maxHeartbeats 1600000 in
theorem implShapeOk_any (l0 : List Node) (v0 : Value) (w : World) (hx0 : ∀ x ∈ l0, x.Ok) (hn0 : bulk Node.sizes l0 ≤ 1048576) (hv0 : NodeSlc w v0 l0) :
    Calls Tryz.prog 117 #[v0] w fun e w' => e = .returned (.bool (shapeOk (l0.map Node.kids))) ∧ Below w.heap.size w w' := by
  have hcall := implstartsOf_any l0 v0 w hx0 hn0 hv0
  obtain ⟨a, cap, rfl, hm, hc, hsl⟩ := hv0.shape
  go_enter Tryz.func117, Tryz.ntmps117
  go_wp2_with fail
  refine hcall.mono ?_; rintro e w2 ⟨hb2, v', rfl, _⟩
  clear hcall
  have hval : Hid (shapeOk (l0.map Node.kids) = (decide (1 ≤ (l0.map Node.kids).length ∧ (l0.map Node.kids).length ≤ 400) && startsLast (l0.map Node.kids))) := hid rfl
  generalize (decide (1 ≤ (l0.map Node.kids).length ∧ (l0.map Node.kids).length ≤ 400) && startsLast (l0.map Node.kids)) = val at hval ⊢
  go_wp2
  go_ret
  exact ⟨ret_bool hval.out.symm, hb2⟩

end Go.Proofs.YtkelhmgdajiocaaGreatDoor
/- Walks and lemmas of this seat (FBlocks): what each theorem says of the functions that it names. Conditions: those that each theorem states. -/
namespace Go.Proofs.YtkelhmgdajiocaaGreatDoor
set_option linter.unusedVariables false
set_option linter.unusedSimpArgs false
open Go.RowKit

theorem Tree.kid_lt {t u : Tree} (h : u ∈ t.kids) : SizeOf.sizeOf u < SizeOf.sizeOf t := by
  cases t with
  | mk k o x y l =>
    have := List.sizeOf_lt_of_mem (show u ∈ l from h)
    simp
    omega
mutual
/-- The greatest number of blocks in each other. -/
def Tree.blocks : Tree → Nat
  | .mk k _ _ _ l => Tree.blocksL l + if k = 33 then 1 else 0
def Tree.blocksL : List Tree → Nat
  | [] => 0
  | t :: l => max t.blocks (Tree.blocksL l)
end
theorem Tree.blocks_eq (t : Tree) : t.blocks = Tree.blocksL t.kids + if t.kind = 33 then 1 else 0 := by
  cases t with
  | mk k o x y l => rw [Tree.blocks]; rfl
theorem Tree.blocks_mem {t : Tree} {l : List Tree} (h : t ∈ l) : t.blocks ≤ Tree.blocksL l := by
  induction l with
  | nil => simp at h
  | cons u l ih =>
    rw [Tree.blocksL]
    rcases List.mem_cons.1 h with rfl | h
    · omega
    · have := ih h; omega
theorem Tree.blocksL_le {l : List Tree} {n : Nat} (h : ∀ t ∈ l, t.blocks ≤ n) : Tree.blocksL l ≤ n := by
  induction l with
  | nil => simp [Tree.blocksL]
  | cons u l ih =>
    rw [Tree.blocksL]
    have := h u (by simp)
    have := ih fun t ht => h t (by simp [ht])
    omega
theorem treeIx_blocks_le {l : List Node} (h : Ahead l) : ∀ (i : Nat), i < l.length → (treeIx l i).blocks ≤ i + 1 := by
  intro i
  induction i using Nat.strongRecOn with
  | _ i ih =>
    intro hi
    obtain ⟨x, hx⟩ := get_of_lt hi
    rw [treeIx_eq h hx, Tree.blocks]
    have : Tree.blocksL (x.kids.map fun k => treeIx l k.toNat) ≤ i := Tree.blocksL_le fun t ht => by
      obtain ⟨k, hk, rfl⟩ := List.mem_map.1 ht
      have hk2 := h i x hx k hk
      have := ih k.toNat hk2.2 (by omega)
      omega
    split <;> omega

end Go.Proofs.YtkelhmgdajiocaaGreatDoor
/- Walks and lemmas of this seat (FBlockDepth): what each theorem says of the functions that it names. Conditions: those that each theorem states. -/
namespace Go.Proofs.YtkelhmgdajiocaaGreatDoor
set_option linter.unusedVariables false
set_option linter.unusedSimpArgs false
open Go.RowKit

theorem shapeOk_yes {l : List Node} (h : shapeOk (l.map Node.kids) = true) : 1 ≤ l.length ∧ l.length ≤ 400 ∧ ∃ s, starts (l.map Node.kids) = some s := by
  unfold shapeOk startsLast at h
  simp at h
  refine ⟨h.1.1, h.1.2, ?_⟩
  cases hs : starts (l.map Node.kids) with
  | none => rw [hs] at h; simp at h
  | some s => exact ⟨s, rfl⟩
theorem shapeOk_ahead {l : List Node} (h : shapeOk (l.map Node.kids) = true) : Ahead l := by
  obtain ⟨_, _, s, hs⟩ := shapeOk_yes h
  exact ahead_of hs
/-- The tree of a list of nodes. -/
def rootTree (l : List Node) : Tree := treeIx l (l.length - 1)

set_option maxRecDepth 100000 in
set_option maxHeartbeats 1600000 in
theorem implrootOf_any (l0 : List Node) (v0 : Value) (w : World) (hx0 : ∀ x ∈ l0, x.Ok) (hn0 : bulk Node.sizes l0 ≤ 1048576) (hv0 : NodeSlc w v0 l0) (hok : shapeOk (l0.map Node.kids) = true) :
    Calls Tryz.prog 71 #[v0] w fun e w' => TreePost w (rootTree l0) e w' := by
  obtain ⟨h1, h2, _⟩ := shapeOk_yes hok
  have hah := shapeOk_ahead hok
  obtain ⟨a, cap, rfl, hm, hc, hsl⟩ := hv0.shape
  obtain ⟨n', hn'⟩ : ∃ n', n' = l0.length - 1 := ⟨_, rfl⟩
  have hcall := hid (fun W h => impltreeAt_any l0 _ w hsl hx0 hn0 hah n' (by omega) W h)
  have hv1 : (l0.length : Int) - 1 = (n' : Int) := by omega
  have hrt : Hid (rootTree l0 = treeIx l0 n') := hid (by unfold rootTree; rw [hn'])
  replace hn' := hid hn'
  replace hok := hid hok
  go_enter Tryz.func71, Tryz.ntmps71
  go_wp2_with fail
  refine (hcall.out _ ((Below.refl _ _).alloc (Nat.le_refl _) _)).mono ?_; rintro e w2 ⟨ka, kn, kc, rfl, hb2, ht2⟩
  have hres := (hb2.block w.heap.size (by simp)).trans (heap_alloc_new w _)
  have r0 : w2.cell? ⟨w.heap.size, 0, none⟩ = some (.int .i64 0) := by simp [World.cell?, hres]
  have r1 : w2.cell? ⟨w.heap.size, 1, none⟩ = some (.int .i64 0) := by simp [World.cell?, hres]
  have r2 : w2.cell? ⟨w.heap.size, 2, none⟩ = some (.string ⟨#[]⟩) := by simp [World.cell?, hres]
  have r3 : w2.cell? ⟨w.heap.size, 3, none⟩ = some (.string ⟨#[]⟩) := by simp [World.cell?, hres]
  have r4 : w2.cell? ⟨w.heap.size, 4, none⟩ = some (.slice none 0 0) := by simp [World.cell?, hres]
  have f0 : ∀ j, w2.frozen? ⟨w.heap.size, j, none⟩ = false := fun j => by simp [World.frozen?, hres]
  have hres2 := hid hres
  clear hres
  go_wp2
  have hN := heap_setCell_at (j := 4) (u := .slice ka kn kc) (heap_setCell_at (j := 3) (u := .string (treeIx l0 n').other) (heap_setCell_at (j := 2) (u := .string (treeIx l0 n').text) (heap_setCell_at (j := 1) (u := .int .i64 (treeIx l0 n').op) (heap_setCell_at (j := 0) (u := .int .i64 (treeIx l0 n').kind) hres2.out))))
  have hW : (((((w2.setCell ⟨w.heap.size, 0, none⟩ (.int .i64 (treeIx l0 n').kind)).setCell ⟨w.heap.size, 1, none⟩ (.int .i64 (treeIx l0 n').op)).setCell ⟨w.heap.size, 2, none⟩ (.string (treeIx l0 n').text)).setCell ⟨w.heap.size, 3, none⟩ (.string (treeIx l0 n').other)).setCell ⟨w.heap.size, 4, none⟩ (.slice ka kn kc)) = storeAll w2 w.heap.size 0 [.int .i64 (treeIx l0 n').kind, .int .i64 (treeIx l0 n').op, .string (treeIx l0 n').text, .string (treeIx l0 n').other, .slice ka kn kc] := rfl
  rw [hW] at hN ⊢
  clear hW
  have hB0 : Below w.heap.size w w2 := ((Below.refl w.heap.size w).alloc (Nat.le_refl _) _).trans (hb2.mono (by simp))
  have hB := below_storeAll [.int .i64 (treeIx l0 n').kind, .int .i64 (treeIx l0 n').op, .string (treeIx l0 n').text, .string (treeIx l0 n').other, .slice ka kn kc] 0 hB0 (Nat.le_refl _)
  have hH := fun b (hb : b ≠ w.heap.size) => storeAll_other [.int .i64 (treeIx l0 n').kind, .int .i64 (treeIx l0 n').op, .string (treeIx l0 n').text, .string (treeIx l0 n').other, .slice ka kn kc] 0 (w := w2) (g := w.heap.size) hb
  generalize storeAll w2 w.heap.size 0 [.int .i64 (treeIx l0 n').kind, .int .i64 (treeIx l0 n').op, .string (treeIx l0 n').text, .string (treeIx l0 n').other, .slice ka kn kc] = W2 at hN hB hH ⊢
  have s0 : W2.cell? ⟨w.heap.size, 0, none⟩ = some (.int .i64 (treeIx l0 n').kind) := by simp [World.cell?, hN]
  have s1 : W2.cell? ⟨w.heap.size, 1, none⟩ = some (.int .i64 (treeIx l0 n').op) := by simp [World.cell?, hN]
  have s2 : W2.cell? ⟨w.heap.size, 2, none⟩ = some (.string (treeIx l0 n').text) := by simp [World.cell?, hN]
  have s3 : W2.cell? ⟨w.heap.size, 3, none⟩ = some (.string (treeIx l0 n').other) := by simp [World.cell?, hN]
  have s4 : W2.cell? ⟨w.heap.size, 4, none⟩ = some (.slice ka kn kc) := by simp [World.cell?, hN]
  have hpost : TreePost w (rootTree l0) (.returned (.agg #[.int .i64 (treeIx l0 n').kind, .int .i64 (treeIx l0 n').op, .string (treeIx l0 n').text, .string (treeIx l0 n').other, .slice ka kn kc])) W2 := by
    refine ⟨ka, kn, kc, by rw [hrt.out], hB, ?_⟩
    rw [hrt.out]
    refine ht2.keep fun b hS hlt => ⟨hH b ?_, ?_⟩ <;> (simp at hS; omega)
  exact bodyPost_ret (v := .agg #[.int .i64 (treeIx l0 n').kind, .int .i64 (treeIx l0 n').op, .string (treeIx l0 n').text, .string (treeIx l0 n').other, .slice ka kn kc]) (by simp [results, Tryz.results71, go_sem, s0, s1, s2, s3, s4]) rfl hpost

def blockDepth (l : List Node) : Nat := if shapeOk (l.map Node.kids) = true then (rootTree l).blocks else 0

end Go.Proofs.YtkelhmgdajiocaaGreatDoor
/- Walks and lemmas of this seat (FDepth): what each theorem says of the functions that it names. Conditions: those that each theorem states. -/
namespace Go.Proofs.YtkelhmgdajiocaaGreatDoor
set_option linter.unusedVariables false
set_option linter.unusedSimpArgs false
open Go.RowKit

mutual
/-- The greatest number of nodes on a path. -/
def Tree.depth : Tree → Nat
  | .mk _ _ _ _ l => Tree.depthL l + 1
def Tree.depthL : List Tree → Nat
  | [] => 0
  | t :: l => max t.depth (Tree.depthL l)
end
theorem Tree.depth_eq (t : Tree) : t.depth = Tree.depthL t.kids + 1 := by
  cases t with
  | mk k o x y l => rw [Tree.depth]; rfl
theorem Tree.depth_mem {t : Tree} {l : List Tree} (h : t ∈ l) : t.depth ≤ Tree.depthL l := by
  induction l with
  | nil => simp at h
  | cons u l ih =>
    rw [Tree.depthL]
    rcases List.mem_cons.1 h with rfl | h
    · omega
    · have := ih h; omega
theorem Tree.depthL_le {l : List Tree} {n : Nat} (h : ∀ t ∈ l, t.depth ≤ n) : Tree.depthL l ≤ n := by
  induction l with
  | nil => simp [Tree.depthL]
  | cons u l ih =>
    rw [Tree.depthL]
    have := h u (by simp)
    have := ih fun t ht => h t (by simp [ht])
    omega
theorem treeIx_depth_le {l : List Node} (h : Ahead l) : ∀ (i : Nat), i < l.length → (treeIx l i).depth ≤ i + 1 := by
  intro i
  induction i using Nat.strongRecOn with
  | _ i ih =>
    intro hi
    obtain ⟨x, hx⟩ := get_of_lt hi
    rw [treeIx_eq h hx, Tree.depth]
    have : Tree.depthL (x.kids.map fun k => treeIx l k.toNat) ≤ i := Tree.depthL_le fun t ht => by
      obtain ⟨k, hk, rfl⟩ := List.mem_map.1 ht
      have hk2 := h i x hx k hk
      have := ih k.toNat hk2.2 (by omega)
      omega
    omega

set_option maxRecDepth 100000 in
set_option maxHeartbeats 1600000 in
theorem impldepth_any (n : Nat) : ∀ (t : Tree) (kv : Value) (w : World) (S : Nat → Prop), SizeOf.sizeOf t < n → t.depth ≤ 1048576 → TreeIs S w t kv →
    Calls Tryz.prog 120 #[.agg #[.int .i64 t.kind, .int .i64 t.op, .string t.text, .string t.other, kv]] w fun e w' => e = .returned (.int .i64 (t.depth : Nat)) ∧ Below w.heap.size w w' := by
  induction n with
  | zero => intro t kv w S h; omega
  | succ n ih =>
  intro t kv w S hsz hbl ht
  obtain ⟨q, hq, ⟨_, a, cap, rfl, hc, hm, hrow⟩, hsub⟩ := ht.open
  unfold maxLen at hm
  have hbe := hid t.depth_eq
  have hbe2 := t.depth_eq
  have hql : q.length = t.kids.length := by rw [← hq]; simp
  have hkid : ∀ p ∈ q, SizeOf.sizeOf p.1 < n ∧ p.1.depth ≤ 1048576 := fun p hp => by
    have hm : p.1 ∈ t.kids := by rw [← hq]; exact List.mem_map_of_mem hp
    have h1 := Tree.kid_lt hm
    have h2 := Tree.depth_mem hm
    have : Tree.depthL t.kids ≤ t.depth := by rw [hbe2]; omega
    omega
  have hbL : Tree.depthL t.kids ≤ 1048576 := by omega
  clear hql
  replace hkid := hid hkid
  replace hsub := hid hsub
  replace hq := hid hq
  clear hbe2 ht
  replace ih := hid ih
  go_enter Tryz.func120, Tryz.ntmps120
  go_wp2
  go_loopw [3, 9] (fun v i wr => ∃ (k m : Nat), i = .int .i64 k ∧ k ≤ q.length ∧ v = .int .i64 m ∧ m ≤ 1048576 ∧ wr.heap[w.heap.size]? = some (.cells #[.int .i64 t.kind, .int .i64 t.op, .string t.text, .string t.other, .slice a q.length cap] 99 (0, 0)) ∧ Below w.heap.size w wr ∧ Hid (Tree.depthL t.kids = max m (Tree.depthL ((q.drop k).map Prod.fst)))) (fun _ i _ => q.length - (intOf i).toNat)
  case atStart => exact ⟨0, 0, rfl, by omega, rfl, by omega, heap_alloc_new w _, by repeat (first | exact Below.refl _ _ | refine Below.alloc ?_ (by first | omega | (simp; done) | (simp; omega)) _ | refine Below.drew ?_), hid (by rw [List.drop_zero, hq.out]; omega)⟩
  obtain ⟨k, m, rfl, hk, rfl, hm2, hbox, hb, hrel⟩ := hrel
  have hbs := hb.size
  by_cases hlt : k < q.length
  · obtain ⟨⟨pt, pv⟩, hp⟩ := get_of_lt hlt
    obtain ⟨b, off, rfl, _, hro⟩ := hrow.resolve_left (by omega)
    have hrw := hro.mono hb (Nat.le_refl _)
    have c0 := hrw.flat0 5 Tree.len hp rfl
    have c1 := hrw.flat 5 Tree.len hp 1 rfl
    have c2 := hrw.flat 5 Tree.len hp 2 rfl
    have c3 := hrw.flat 5 Tree.len hp 3 rfl
    have c4 := hrw.flat 5 Tree.len hp 4 rfl
    have hmem := List.mem_of_getElem? hp
    obtain ⟨pa, pn, pc, rfl⟩ := (hsub.out _ hmem).shape
    have hts := (hsub.out _ hmem).mono hb (Nat.le_refl _)
    have hks := hkid.out _ hmem
    rw [drop_cons hp, List.map_cons, Tree.depthL] at hrel
    have hcall := hid (fun o => ih.out pt _ (wr.alloc o) S hks.1 hks.2 (hts.mono ((Below.refl _ _).alloc (Nat.le_refl _) o) (Nat.le_refl _)))
    have hbk := hks.2
    replace hbox := hid hbox
    clear hp hts hks hrw hmem
    simp only at hcall hrel hbk
    generalize hpbe : Tree.depth pt = pb at hcall hrel hbk
    clear hpbe
    go_wp2_with (go_at_call 120; refine (hcall.out _).mono ?_; rintro e w2 ⟨rfl, hb2⟩)
    all_goals go_roundw
    all_goals first
      | (simp [intOf]; omega)
      | (refine ⟨k + 1, max m pb, by go_num, by omega, ?_, by omega, ?_, (show Below w.heap.size w (wr.alloc _) from hb.alloc hb.size _).trans (hb2.mono (by simp; omega)), hid (by rw [hrel.out]; omega)⟩
         · first
           | rfl
           | (congr 1; omega)
           | (by_cases hc : m < pb
              · rw [if_pos (by omega), Nat.max_eq_right (by omega)]
              · rw [if_neg (by omega), Nat.max_eq_left (by omega)])
         · have hl := (Array.getElem?_eq_some_iff.1 hbox.out).1
           exact (hb2.block _ (by simp; omega)).trans ((Below.heap_alloc _ _ _ hl).trans hbox.out))
  · obtain rfl : k = q.length := by omega
    have hR : Hid (Tree.depthL t.kids = m) := hid (by rw [hrel.out, List.drop_of_length_le (Nat.le_refl _), List.map_nil, Tree.depthL]; omega)
    clear hbox hrel
    have hB : Hid (t.depth = m + 1) := hid (by rw [hbe.out, hR.out])
    go_wp2
    go_ret
    exact ⟨ret_int (by rw [hB.out]; rfl), hb⟩

end Go.Proofs.YtkelhmgdajiocaaGreatDoor
/- Walks and lemmas of this seat (FDepth2): what each theorem says of the functions that it names. Conditions: those that each theorem states. -/
namespace Go.Proofs.YtkelhmgdajiocaaGreatDoor
set_option linter.unusedVariables false
set_option linter.unusedSimpArgs false
open Go.RowKit

def depthOf (l : List Node) : Nat := if shapeOk (l.map Node.kids) = true then (rootTree l).depth else 0
def depthTab (l : List Node) (k : Nat) : List Nat := (List.range k).map fun i => (treeIx l i).depth
theorem depthTab_len (l : List Node) (k : Nat) : (depthTab l k).length = k := by simp [depthTab]
theorem depthTab_succ (l : List Node) (k : Nat) : depthTab l (k + 1) = depthTab l k ++ [(treeIx l k).depth] := by simp [depthTab, List.range_succ]
theorem depthTab_get (l : List Node) {k j : Nat} (h : j < k) : (depthTab l k).getD j 0 = (treeIx l j).depth := by
  simp [depthTab, List.getD_eq_getElem?_getD, h]

set_option maxRecDepth 100000 in
set_option maxHeartbeats 1600000 in
theorem specDepthOf_any (l0 : List Node) (v0 : Value) (w : World) (hx0 : ∀ x ∈ l0, x.Ok) (hn0 : bulk Node.sizes l0 ≤ 1048576) (hv0 : NodeSlc w v0 l0) :
    Calls Tryz.prog 73 #[v0] w fun e w' => e = .returned (.int .i64 ((depthOf l0 : Nat))) ∧ Below w.heap.size w w' := by
  have hsh := specShapeOk_any l0 v0 w hx0 hn0 hv0
  have hv := hv0
  obtain ⟨a, cap, rfl, hm, hc, hsl⟩ := hv0.shape
  by_cases hok : shapeOk (l0.map Node.kids) = true
  · have hR : Hid (depthOf l0 = (rootTree l0).depth) := hid (by unfold depthOf; rw [if_pos hok])
    obtain ⟨h1, h2, _⟩ := shapeOk_yes hok
    have hah := hid (shapeOk_ahead hok)
    have hble := hid (treeIx_depth_le (shapeOk_ahead hok))
    obtain ⟨i0, hi, hz0, hz1, hz2⟩ := info_parts Tryz.info3
    rw [hok] at hsh
    clear hok
    go_enter Tryz.func73, Tryz.ntmps73
    go_wp2_with fail
    refine hsh.mono ?_; rintro e w1 ⟨rfl, hb1⟩
    clear hsh
    have hbs1 := hb1.size
    go_wp2
    go_loopw [3, 4] (fun v i wr => ∃ (k : Nat), i = .int .i64 k ∧ k ≤ l0.length ∧ Below w.heap.size w wr ∧ wr.ownsRow w.heap.size 3 1 v (depthTab l0 k).length ((depthTab l0 k).flatMap nat1)) (fun _ i _ => l0.length - (intOf i).toNat)
    case atStart => exact ⟨0, rfl, by omega, hb1.alloc hb1.size _, own_base (own_new0 _ _ _) hb1.size⟩
    clear hb1
    obtain ⟨k, rfl, hk, hb, hown⟩ := hrel
    have hbs := hb.size
    have hdl := depthTab_len l0 k
    by_cases hlt : k < l0.length
    · generalize hout : depthTab l0 k = out at hown hdl
      replace hout := hid hout
      obtain ⟨x, ka, kc, b, off, hx, rfl, c0, c1, c2, c3, c4, hkd⟩ := hsl.at hb (Nat.le_refl _) hlt
      have hti := hid (show (treeIx l0 k).depth = _ from (congrArg Tree.depth (treeIx_eq hah.out hx)).trans (by rw [Tree.depth]))
      have hkx := hid (hah.out k x hx)
      have hxo := hx0 x (List.mem_of_getElem? hx)
      clear hx
      obtain ⟨_, _, _, hkv, hkc, hkm, hkrow⟩ := hkd
      simp at hkv
      obtain ⟨rfl, rfl⟩ := hkv
      unfold Node.Ok at hxo
      obtain ⟨_, _, _, _, hki, hkl⟩ := hxo
      unfold maxLen at hkm hkl
      clear hki
      replace hdl := hid hdl
      go_wp2
      go_loop [5, 6] (fun n_ j => ∃ (q m : Nat), j = .int .i64 q ∧ q ≤ x.kids.length ∧ n_ = .int .i64 (m + 1 : Nat) ∧ m ≤ k ∧ Hid (Tree.depthL (x.kids.map fun k => treeIx l0 k.toNat) = max m (Tree.depthL ((x.kids.drop q).map fun k => treeIx l0 k.toNat)))) (fun _ j => x.kids.length - (intOf j).toNat)
      case atStart => exact ⟨0, 0, rfl, by omega, rfl, by omega, hid (by rw [List.drop_zero]; omega)⟩
      obtain ⟨q, m, rfl, hq, rfl, hmk, hrel⟩ := hrel
      by_cases hql : q < x.kids.length
      · obtain ⟨kid, hkid⟩ := get_of_lt hql
        obtain ⟨kb, koff, rfl, hkro⟩ := slc_some hkrow (by omega)
        have d0 := hkro.one int1_len hkid rfl
        obtain ⟨hk0, hkj⟩ := hkx.out kid (List.mem_of_getElem? hkid)
        obtain ⟨j, rfl⟩ : ∃ j : Nat, kid = (j : Int) := ⟨kid.toNat, by omega⟩
        have hj : j < k := by omega
        rw [drop_cons hkid, List.map_cons, Tree.depthL] at hrel
        have hrel2 : Hid (Tree.depthL (x.kids.map fun k => treeIx l0 k.toNat) = max m (max (treeIx l0 j).depth (Tree.depthL ((x.kids.drop (q + 1)).map fun k => treeIx l0 k.toNat)))) := hrel
        clear hkid hkro hk0 hkj hrel
        obtain ⟨g, cp, rfl, hcp⟩ := own_slice' hown (by have := hdl.out; omega)
        have r0 := own_read hown (nat1_at (show j < out.length by have := hdl.out; omega))
        rw [← hout.out, depthTab_get l0 hj] at r0
        have hbj := hble.out j (by omega)
        generalize (treeIx l0 j).depth = pb at r0 hrel2 hbj
        have hown2 := hid hown
        have hjl : j < out.length := by have := hdl.out; omega
        generalize out.length = dl at *
        clear hown
        go_wp2
        all_goals go_round
        all_goals first
          | (simp [intOf]; omega)
          | (refine ⟨q + 1, max m pb, by go_num, by omega, ?_, by omega, hid (by rw [hrel2.out]; omega)⟩
             first
               | rfl
               | (congr 1; omega)
               | (by_cases hcm : m < pb
                  · rw [if_pos (by omega), Nat.max_eq_right (by omega)]; first | rfl | (congr 1; omega)
                  · rw [if_neg (by omega), Nat.max_eq_left (by omega)]; first | rfl | (congr 1; omega)))
      · have hR2 : Hid (Tree.depthL (x.kids.map fun k => treeIx l0 k.toNat) = m) := hid (by rw [hrel.out, List.drop_of_length_le (by omega), List.map_nil, Tree.depthL]; omega)
        have hol2 : out.length ≤ 1048576 := by have := hdl.out; omega
        clear hrel
        have hB : Hid ((treeIx l0 k).depth = m + 1) := hid (by rw [hti.out, hR2.out])
        go_wp2_with (at_builtin; refine wpList_append_own _ rfl _ _ 54 rfl w.heap.size 3 i0 _ 1 8 Tryz.underlying54 hi hz0 hz1 hz2 rfl (by decide) _ out.length (out.flatMap nat1) rfl (hown.alloc _) _ _ _ (nat1 (m + 1)) rfl rfl (new_cells_at _ _ _ _ _ rfl (by first | rfl | simp)) (by intro u hu; simp [nat1] at hu; rcases hu with rfl | rfl | rfl | rfl | rfl <;> rfl) (by unfold maxLen; omega) (by omega) (by first | omega | (simp; done) | (simp; omega)) ?_; intro v2 w2 hown2 hgr2 hiff; clear hiff; have hb2 := app_below (hb.alloc (by first | omega | (simp; done) | (simp; omega)) _) (hown.alloc _) hgr2)
        all_goals go_roundw
        all_goals first
          | (simp [intOf]; omega)
          | exact ⟨k + 1, by go_num, by omega, hb2, by rw [depthTab_succ, hout.out, hB.out]; simpa using hown2⟩
    · obtain rfl : k = l0.length := by omega
      obtain ⟨n', hn'⟩ : ∃ n', n' = l0.length - 1 := ⟨_, rfl⟩
      obtain ⟨g, cp, rfl, hcp⟩ := own_slice' hown (by omega)
      have r0 := own_read hown (nat1_at (show n' < (depthTab l0 l0.length).length by omega))
      rw [depthTab_get l0 (by omega)] at r0
      have hR3 : Hid (depthOf l0 = (treeIx l0 n').depth) := hid (by rw [hR.out]; unfold rootTree; rw [hn'])
      have hv1 : (l0.length : Int) - 1 = (n' : Int) := by omega
      have hi1 : n' < (depthTab l0 l0.length).length := by omega
      have hi2 : (n' : Int) < ((depthTab l0 l0.length).length : Int) := by omega
      generalize (treeIx l0 n').depth = val at r0 hR3
      replace hn' := hid hn'
      generalize (depthTab l0 l0.length).length = dl at *
      clear hown hdl
      go_wp2
      go_ret
      exact ⟨ret_int (by rw [hR3.out]), hb⟩
  · have hR : Hid (depthOf l0 = 0) := hid (by unfold depthOf; rw [if_neg hok])
    have hok : shapeOk (l0.map Node.kids) = false := by simpa using hok
    rw [hok] at hsh
    clear hok
    go_enter Tryz.func73, Tryz.ntmps73
    go_wp2_with fail
    refine hsh.mono ?_; rintro e w1 ⟨rfl, hb1⟩
    clear hsh
    go_wp2
    go_ret
    exact ⟨ret_int (by rw [hR.out]; rfl), hb1⟩

end Go.Proofs.YtkelhmgdajiocaaGreatDoor
/- Walks and lemmas of this seat (PFields): what each theorem says of the functions that it names. Conditions: those that each theorem states. -/
namespace Go.Proofs.YtkelhmgdajiocaaGreatDoor
set_option linter.unusedVariables false
set_option linter.unusedSimpArgs false
open Go.RowKit

/-! Which fields and kids a node may have, by its kind. -/
def opLevelB (op : Int) : Int :=
  if op = 44 then 3 else if op = 45 then 4 else if op = 67 ∨ op = 46 then 6 else if op = 63 ∨ op = 48 ∨ op = 47 ∨ op = 50 ∨ op = 62 ∨ op = 49 then 7
  else if op = 99 then 8 else if op = 55 ∨ op = 56 then 9 else if op = 57 ∨ op = 58 ∨ op = 59 then 10 else if op = 60 then 12 else 0
def isAssignB (op : Int) : Bool := op == 54 || inB op 38 43
def isStepB (op : Int) : Bool := op == 51 || op == 52
def isExprB (k : Int) : Bool := inB k 1 15
def isLvalueB (k : Int) : Bool := k == 1 || k == 5 || k == 6
def isItemB (k : Int) : Bool := inB k 40 44
/-- May a node have its operator? -/
def opOk (k op : Int) : Bool :=
  if k = 9 ∨ k = 10 then isStepB op else if k = 11 then op == 55 || op == 56 || op == 61 else if k = 12 then opLevelB op != 0 else if k = 15 then isAssignB op
  else if k = 21 then op == 0 || op == 1 else if k = 42 then inB op 1 3 else if k = 43 then op == 1 || op == 3 else op == 0
/-- What a text may be: what the checks of names, numbers .. say of the node's two texts. -/
structure Says where
  name : Bool
  name2 : Bool
  num : Bool
  str : Bool
  ere : Bool
  com : Bool
  blt : Bool
  emp : Bool
  emp2 : Bool
  out : Bool
/-- May a node have its two texts? -/
def textsOk (k : Int) (s : Says) : Bool :=
  if k = 1 ∨ k = 5 ∨ k = 7 ∨ k = 13 ∨ k = 27 ∨ k = 44 then s.name && s.emp2
  else if k = 2 then s.num && s.emp2 else if k = 3 then s.str && s.emp2 else if k = 4 then s.ere && s.emp2 else if k = 34 then s.com && s.emp2
  else if k = 8 then s.blt && s.emp2 else if k = 32 then s.name && s.name2 else if k = 21 then s.emp && s.out else s.emp && s.emp2
/-- The least and the greatest number of kids. -/
def least (k op : Int) (emp2 : Bool) : Int :=
  if k = 5 ∨ k = 13 then 1 else if k = 6 ∨ k = 9 ∨ k = 10 ∨ k = 11 ∨ k = 20 ∨ k = 32 ∨ k = 40 ∨ k = 41 then 1 else if k = 12 ∨ k = 15 ∨ k = 29 ∨ k = 30 then 2 else if k = 14 then 3
  else if k = 21 then (if emp2 then op else op + 1) else if k = 28 then 2 else if k = 31 then 4 else if k = 42 then (if op = 3 then 2 else 1) else if k = 43 then (if op = 3 then 3 else 2) else if k = 44 then 1 else 0
def most (k op : Int) (emp2 : Bool) : Int :=
  if k = 5 ∨ k = 13 ∨ k = 7 ∨ k = 8 ∨ k = 27 then 6 else if k = 6 ∨ k = 9 ∨ k = 10 ∨ k = 11 ∨ k = 20 ∨ k = 32 ∨ k = 40 ∨ k = 41 then 1 else if k = 12 ∨ k = 15 ∨ k = 29 ∨ k = 30 then 2 else if k = 14 then 3
  else if k = 21 then (if emp2 then 6 else 7) else if k = 23 ∨ k = 24 then 1 else if k = 28 then 3 else if k = 31 then 4 else if k = 33 ∨ k = 45 then 400 else if k = 42 then (if op = 3 then 2 else 1) else if k = 43 then (if op = 3 then 3 else 2) else if k = 44 then 7 else 0
def knownB (k : Int) : Bool := inB k 1 16 || inB k 20 34 || inB k 40 45
/-- May a node be as it is, its kids' number with it? -/
def fieldsOk (k op : Int) (s : Says) (n : Int) : Bool := knownB k && opOk k op && textsOk k s && inB n (least k op s.emp2) (most k op s.emp2)
/-- May a kid, at its number, be of a kind? -/
def kidOkB (k op : Int) (n : Int) (j kid : Int) : Bool :=
  if k = 9 ∨ k = 10 then isLvalueB kid
  else if k = 15 then (j == 0 && isLvalueB kid) || (decide (0 < j) && isExprB kid)
  else if k = 28 ∨ k = 29 then (if 0 < j then kid == 33 else isExprB kid)
  else if k = 31 then (if j < 3 ∧ kid = 16 then true else if j = n - 1 then kid == 33 else isExprB kid)
  else if k = 30 then (if j = 0 then kid == 33 else isExprB kid)
  else if k = 32 ∨ k = 40 ∨ k = 41 then kid == 33
  else if k = 33 then isStmtB kid
  else if k = 42 then (if j = n - 1 ∧ 2 ≤ op then kid == 33 else isExprB kid)
  else if k = 43 then (if j = n - 1 ∧ op = 3 then kid == 33 else isExprB kid)
  else if k = 44 then (if j = n - 1 then kid == 33 else kid == 1)
  else if k = 45 then isItemB kid || kid == 34
  else isExprB kid
end Go.Proofs.YtkelhmgdajiocaaGreatDoor
/- Walks and lemmas of this seat (PKid): what each theorem says of the functions that it names. Conditions: those that each theorem states. -/
namespace Go.Proofs.YtkelhmgdajiocaaGreatDoor
set_option linter.unusedVariables false
set_option linter.unusedSimpArgs false
open Go.RowKit
/-- The same as the reference has it. -/
def kidOkS (k op : Int) (n : Int) (j kid : Int) : Bool :=
  if k = 9 ∨ k = 10 then isLvalueB kid
  else if k = 15 then isExprB kid && (decide (0 < j) || isLvalueB kid)
  else if k = 28 then (j == 0 && isExprB kid) || (decide (0 < j) && kid == 33)
  else if k = 29 then (j == 0 && isExprB kid) || (j == 1 && kid == 33)
  else if k = 30 then (j == 0 && kid == 33) || (j == 1 && isExprB kid)
  else if k = 31 then (decide (j < 3) && (isExprB kid || kid == 16)) || (j == 3 && kid == 33)
  else if k = 32 ∨ k = 40 ∨ k = 41 then kid == 33
  else if k = 33 then isStmtB kid
  else if k = 42 then (op == 1 && isExprB kid) || (op == 2 && kid == 33) || (op == 3 && ((j == n - 1 && kid == 33) || (!(j == n - 1) && isExprB kid)))
  else if k = 43 then (decide (j < 2) && isExprB kid) || (j == 2 && kid == 33)
  else if k = 44 then (j == n - 1 && kid == 33) || (!(j == n - 1) && kid == 1)
  else if k = 45 then isItemB kid || kid == 34
  else isExprB kid
theorem lvalue_expr {k : Int} (h : isLvalueB k = true) : isExprB k = true := by
  simp [isLvalueB] at h
  rcases h with (h | h) | h <;> subst h <;> decide
theorem kidOk_eq {k op n j kid : Int} {s : Says} (hf : fieldsOk k op s n = true) (h0 : 0 ≤ j) (hj : j < n) : kidOkS k op n j kid = kidOkB k op n j kid := by
  unfold fieldsOk at hf
  simp only [Bool.and_eq_true] at hf
  obtain ⟨⟨⟨_, ho⟩, _⟩, hn⟩ := hf
  unfold kidOkS kidOkB
  by_cases h : k = 9 ∨ k = 10
  · rw [if_pos h, if_pos h]
  rw [if_neg h, if_neg h]
  by_cases h : k = 15
  · rw [if_pos h, if_pos h]
    by_cases hj0 : j = 0
    · subst hj0
      cases hl : isLvalueB kid with
      | true => simp [lvalue_expr hl]
      | false => simp
    · have h1 : 0 < j := by omega
      simp [hj0, h1]
  rw [if_neg h, if_neg h]
  by_cases h : k = 28
  · subst h
    by_cases hj0 : j = 0
    · subst hj0; simp
    · have h1 : 0 < j := by omega
      simp [hj0, h1]
  rw [if_neg h]
  by_cases h2 : k = 29
  · subst h2
    have hn2 : n ≤ 2 := by simp [inB, most] at hn; omega
    rw [if_pos rfl, if_pos (by simp)]
    by_cases hj0 : j = 0
    · subst hj0; simp
    · have h1 : j = 1 := by omega
      subst h1; simp
  rw [if_neg h2, if_neg (show ¬ (k = 28 ∨ k = 29) by omega)]
  by_cases h : k = 30
  · subst h
    have hn2 : n ≤ 2 := by simp [inB, most] at hn; omega
    rw [if_pos rfl, if_neg (by decide), if_pos rfl]
    by_cases hj0 : j = 0
    · subst hj0; simp
    · have h1 : j = 1 := by omega
      subst h1; simp
  rw [if_neg h]
  by_cases h3 : k = 31
  · subst h3
    have hn2 : n = 4 := by simp [inB, most, least] at hn; omega
    subst hn2
    rw [if_pos rfl, if_pos rfl]
    by_cases hj3 : j = 3
    · subst hj3; simp
    · have h1 : j < 3 := by omega
      by_cases hk : kid = 16
      · subst hk; simp [h1]
      · have hb1 : (j == 3) = false := by simpa using hj3
        have hb2 : (kid == 16) = false := by simpa using hk
        simp [h1, hk, hj3, hb1, hb2]
  rw [if_neg h3, if_neg h3, if_neg h]
  by_cases h : k = 32 ∨ k = 40 ∨ k = 41
  · rw [if_pos h, if_pos h]
  rw [if_neg h, if_neg h]
  by_cases h : k = 33
  · rw [if_pos h, if_pos h]
  rw [if_neg h, if_neg h]
  by_cases h : k = 42
  · subst h
    rw [if_pos rfl, if_pos rfl]
    have ho2 : 1 ≤ op ∧ op ≤ 3 := by simpa [opOk, inB] using ho
    have hn2 : n = if op = 3 then 2 else 1 := by simp [inB, most, least] at hn; split at hn <;> split <;> omega
    rcases (show op = 1 ∨ op = 2 ∨ op = 3 by omega) with rfl | rfl | rfl
    · simp
    · simp at hn2; subst hn2
      have : j = 0 := by omega
      subst this; simp
    · simp at hn2; subst hn2
      by_cases hj1 : j = 1
      · subst hj1; simp
      · have hb1 : (j == 1) = false := by simpa using hj1
        simp [hj1, hb1]
  rw [if_neg h, if_neg h]
  by_cases h : k = 43
  · subst h
    rw [if_pos rfl, if_pos rfl]
    have ho2 : op = 1 ∨ op = 3 := by simpa [opOk] using ho
    have hn2 : n = if op = 3 then 3 else 2 := by simp [inB, most, least] at hn; split at hn <;> split <;> omega
    rcases ho2 with rfl | rfl
    · simp at hn2; subst hn2
      have : j < 2 := hj
      simp [this]; omega
    · simp at hn2; subst hn2
      by_cases hj1 : j = 2
      · subst hj1; simp
      · have : j < 2 := by omega
        have hb1 : (j == 2) = false := by simpa using hj1
        simp [hj1, this, hb1]
  rw [if_neg h, if_neg h]
  by_cases h : k = 44
  · rw [if_pos h, if_pos h]
    by_cases hj1 : j = n - 1
    · simp [hj1]
    · have hb1 : (j == n - 1) = false := by simpa using hj1
      simp [hj1, hb1]
  rw [if_neg h, if_neg h]
end Go.Proofs.YtkelhmgdajiocaaGreatDoor
/- Walks and lemmas of this seat (PTree): what each theorem says of the functions that it names. Conditions: those that each theorem states. -/
namespace Go.Proofs.YtkelhmgdajiocaaGreatDoor
set_option linter.unusedVariables false
set_option linter.unusedSimpArgs false
open Go.RowKit Go.Lib

/-! Valid trees: plain. -/
def numOk (s : ByteArray) : Bool := decide (numEnd s.data.toList = (s.size : Int))
def strOk (s : ByteArray) : Bool := decide (quoted 34 s.data.toList = (s.size : Int))
def ereEnd (l : List UInt8) : Int := if quoted 47 l = 2 then -1 else quoted 47 l
def ereOk (s : ByteArray) : Bool := decide (ereEnd s.data.toList = (s.size : Int))
def comOk (s : ByteArray) : Bool := byteI s.data.toList 0 == 35 && plain s
def outTab : List ByteArray := [⟨#[]⟩, ⟨#[62]⟩, ⟨#[62, 62]⟩, ⟨#[124]⟩]
def outB (s : ByteArray) : Bool := decide (0 ≤ findS s outTab 0)
def saysOf (a b : ByteArray) : Says := { name := nameOkB a, name2 := nameOkB b, num := numOk a, str := strOk a, ere := ereOk a, com := comOk a, blt := bltB a, emp := a.size == 0, emp2 := b.size == 0, out := outB b }
def kindAt (l : List Node) (k : Int) : Int := match l[k.toNat]? with | some x => x.kind | none => 0
/-- May the kids, from number j on, be of their kinds? -/
def kidsOk (l : List Node) (k op : Int) (n : Nat) : Nat → List Int → Bool
  | _, [] => true
  | j, kid :: ks => kidOkB k op n j (kindAt l kid) && kidsOk l k op n (j + 1) ks
def nodeFields (x : Node) : Bool := fieldsOk x.kind x.op (saysOf x.text x.other) (x.kids.length : Nat)
def nodeOk (l : List Node) (x : Node) : Bool := nodeFields x && kidsOk l x.kind x.op x.kids.length 0 x.kids
def treeOk (l : List Node) : Bool := shapeOk (l.map Node.kids) && (l.all (nodeOk l) && decide ((rootTree l).depth ≤ 40))

theorem stepK_klen {out : List Nat} (hl : Low out) : ∀ (ks : List Int) (a b : Nat), stepK out ks a = some b → ks.length ≤ a := by
  intro ks
  induction ks with
  | nil => intro a b _; simp
  | cons k ks ih =>
    intro a b h
    rw [stepK] at h
    split at h
    · simp at h
    · have := hl.getD (a - 1)
      have := ih _ _ h
      simp only [List.length_cons]
      omega
theorem startsL_klen : ∀ (l : List (List Int)) (out s : List Nat), Low out → startsL out l = some s → ∀ (i : Nat) (ks : List Int), l[i]? = some ks → ks.length ≤ out.length + i := by
  intro l
  induction l with
  | nil => intro out s _ _ i ks h; simp at h
  | cons x l ih =>
    intro out s hl hs i ks hi
    rw [startsL] at hs
    split at hs
    · simp at hs
    · rename_i a ha
      cases i with
      | zero =>
        simp at hi; subst hi
        have := stepK_klen hl _ _ _ ha
        simp at this
        omega
      | succ i =>
        have := ih _ s (hl.snoc (stepK_le hl _ _ _ ha)) hs i ks (by simpa using hi)
        simp at this
        omega
theorem shapeOk_klen {l : List Node} (h : shapeOk (l.map Node.kids) = true) {i : Nat} {x : Node} (hx : l[i]? = some x) : x.kids.length ≤ i := by
  obtain ⟨_, _, s, hs⟩ := shapeOk_yes h
  have := startsL_klen _ [] s Low.nil hs i x.kids (by rw [List.getElem?_map, hx]; rfl)
  simpa using this
theorem kindAt_of {l : List Node} {k : Nat} {x : Node} (h : l[k]? = some x) : kindAt l (k : Int) = x.kind := by unfold kindAt; rw [Int.toNat_natCast, h]
theorem treeOk_shape {l : List Node} (h : treeOk l = true) : shapeOk (l.map Node.kids) = true := by
  unfold treeOk at h; simp only [Bool.and_eq_true] at h; exact h.1
theorem treeOk_node {l : List Node} (h : treeOk l = true) {x : Node} (hx : x ∈ l) : nodeFields x = true ∧ kidsOk l x.kind x.op x.kids.length 0 x.kids = true := by
  unfold treeOk at h; simp only [Bool.and_eq_true, List.all_eq_true] at h
  have := h.2.1 x hx
  unfold nodeOk at this
  simpa using this
theorem kidsOk_at {l : List Node} {k op : Int} {n : Nat} : ∀ (ks : List Int) (j : Nat), kidsOk l k op n j ks = true → ∀ (q : Nat) (kid : Int), ks[q]? = some kid → kidOkB k op n (j + q : Nat) (kindAt l kid) = true := by
  intro ks
  induction ks with
  | nil => intro j _ q kid h; simp at h
  | cons x ks ih =>
    intro j h q kid hq
    rw [kidsOk, Bool.and_eq_true] at h
    cases q with
    | zero => simp at hq; subst hq; simpa using h.1
    | succ q =>
      have := ih (j + 1) h.2 q kid (by simpa using hq)
      rw [show j + (q + 1) = j + 1 + q by omega]; exact this
end Go.Proofs.YtkelhmgdajiocaaGreatDoor
