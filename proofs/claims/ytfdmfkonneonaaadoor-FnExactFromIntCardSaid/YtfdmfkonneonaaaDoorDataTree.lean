/- Walks and lemmas of this seat (DataTree): what each theorem says of the functions that it names. Conditions: those that each theorem states. -/
import Derived.Test.YtfdmfkonneonaaaDoorDataNode
import Derived.Test.YtfdmfkonneonaaaDoorFStarts
import Derived.Test.YtfdmfkonneonaaaDoorDataSlcS
namespace Go.Proofs.YtfdmfkonneonaaaDoor
set_option linter.unusedVariables false
set_option linter.unusedSimpArgs false
open Go.RowKit

/-- A tree whose nodes have their kids in themselves. -/
inductive Tree where
  | mk (kind op : Int) (text other : ByteArray) (kids : List Tree)
def Tree.kind : Tree → Int | .mk k _ _ _ _ => k
def Tree.op : Tree → Int | .mk _ o _ _ _ => o
def Tree.text : Tree → ByteArray | .mk _ _ t _ _ => t
def Tree.other : Tree → ByteArray | .mk _ _ _ t _ => t
def Tree.kids : Tree → List Tree | .mk _ _ _ _ l => l
def Tree.cells (p : Tree × Value) : List Value := [.int .i64 p.1.kind, .int .i64 p.1.op, .string p.1.text, .string p.1.other, p.2]
theorem Tree.len (p : Tree × Value) : (Tree.cells p).length = 5 := rfl
def Tree.val (t : Tree) (kv : Value) : Value := .agg #[.int .i64 t.kind, .int .i64 t.op, .string t.text, .string t.other, kv]
theorem Tree.mk_eta (t : Tree) : t = .mk t.kind t.op t.text t.other t.kids := by cases t; rfl

/-- The tree of node i, looking so many levels down. -/
def treeOf (l : List Node) : Nat → Nat → Tree
  | 0, _ => .mk 0 0 ⟨#[]⟩ ⟨#[]⟩ []
  | f + 1, i => match l[i]? with
    | none => .mk 0 0 ⟨#[]⟩ ⟨#[]⟩ []
    | some x => .mk x.kind x.op x.text x.other (x.kids.map fun k => treeOf l f k.toNat)
/-- Kids lie ahead of their node. -/
def Ahead (l : List Node) : Prop := ∀ (i : Nat) (x : Node), l[i]? = some x → ∀ k ∈ x.kids, 0 ≤ k ∧ k.toNat < i
theorem treeOf_fuel {l : List Node} (h : Ahead l) : ∀ (f g i : Nat), i < f → i < g → treeOf l f i = treeOf l g i := by
  intro f
  induction f with
  | zero => intro g i hi; omega
  | succ f ih =>
    intro g i hi hg
    cases g with
    | zero => omega
    | succ g =>
      unfold treeOf
      cases hx : l[i]? with
      | none => rfl
      | some x =>
        simp only
        congr 1
        apply List.map_congr_left
        intro k hk
        have := h i x hx k hk
        exact ih g k.toNat (by omega) (by omega)
/-- The tree of node i. -/
def treeIx (l : List Node) (i : Nat) : Tree := treeOf l (i + 1) i
theorem treeIx_eq {l : List Node} (h : Ahead l) {i : Nat} {x : Node} (hx : l[i]? = some x) : treeIx l i = .mk x.kind x.op x.text x.other (x.kids.map fun k => treeIx l k.toNat) := by
  unfold treeIx
  rw [treeOf, hx]
  simp only
  congr 1
  apply List.map_congr_left
  intro k hk
  have := h i x hx k hk
  exact treeOf_fuel h _ _ _ (by omega) (by omega)

theorem stepK_kids {out : List Nat} (hl : Low out) : ∀ (ks : List Int) (a b n : Nat), stepK out ks a = some b → a ≤ n → ∀ k ∈ ks, 0 ≤ k ∧ k.toNat < n := by
  intro ks
  induction ks with
  | nil => intro a b n _ _ k hk; simp at hk
  | cons k ks ih =>
    intro a b n h ha j hj
    rw [stepK] at h
    split at h
    · simp at h
    · rename_i hn
      have := hl.getD (a - 1)
      rcases List.mem_cons.1 hj with rfl | hj
      · omega
      · exact ih _ b n h (by omega) j hj
theorem startsL_kids : ∀ (l : List (List Int)) (out s : List Nat), Low out → startsL out l = some s → ∀ (i : Nat) (ks : List Int), l[i]? = some ks → ∀ k ∈ ks, 0 ≤ k ∧ k.toNat < out.length + i := by
  intro l
  induction l with
  | nil => intro out s _ _ i ks h; simp at h
  | cons x l ih =>
    intro out s hl hs i ks hi k hk
    rw [startsL] at hs
    split at hs
    · simp at hs
    · rename_i a ha
      cases i with
      | zero =>
        simp at hi; subst hi
        have := stepK_kids hl _ _ _ out.length ha (Nat.le_refl _) k (by simpa using hk)
        omega
      | succ i =>
        have := ih _ s (hl.snoc (stepK_le hl _ _ _ ha)) hs i ks (by simpa using hi) k hk
        simp at this
        omega
theorem ahead_of {l : List Node} {s : List Nat} (h : starts (l.map Node.kids) = some s) : Ahead l := fun i x hx k hk => by
  have := startsL_kids _ [] s Low.nil h i x.kids (by rw [List.getElem?_map, hx]; rfl) k hk
  simpa using this

/-- The kids' slice kv of a tree, in blocks of S. -/
inductive TreeIs (S : Nat → Prop) (w : World) : Tree → Value → Prop
  | mk {kind op : Int} {text other : ByteArray} {q : List (Tree × Value)} {kv : Value} (h1 : SlcS S w kv 5 q.length (q.flatMap Tree.cells)) (h2 : ∀ p ∈ q, TreeIs S w p.1 p.2) : TreeIs S w (.mk kind op text other (q.map Prod.fst)) kv
theorem TreeIs.open {S : Nat → Prop} {w : World} {t : Tree} {kv : Value} (h : TreeIs S w t kv) : ∃ q : List (Tree × Value), q.map Prod.fst = t.kids ∧ SlcS S w kv 5 q.length (q.flatMap Tree.cells) ∧ ∀ p ∈ q, TreeIs S w p.1 p.2 := by
  cases h with
  | mk h1 h2 => exact ⟨_, rfl, h1, h2⟩
theorem TreeIs.shape {S : Nat → Prop} {w : World} {t : Tree} {kv : Value} (h : TreeIs S w t kv) : ∃ a n cap, kv = .slice a n cap := by
  obtain ⟨_, _, ⟨_, a, cap, e, _⟩, _⟩ := h.open
  exact ⟨a, _, cap, e⟩
theorem TreeIs.close {S : Nat → Prop} {w : World} {t : Tree} {kv : Value} {q : List (Tree × Value)} (hq : q.map Prod.fst = t.kids) (h1 : SlcS S w kv 5 q.length (q.flatMap Tree.cells)) (h2 : ∀ p ∈ q, TreeIs S w p.1 p.2) : TreeIs S w t kv := by
  rw [t.mk_eta, ← hq]
  exact .mk h1 h2
theorem TreeIs.keep {S S' : Nat → Prop} {w w' : World} {t : Tree} {v : Value} (h : TreeIs S w t v) (hk : ∀ b, S b → b < w.heap.size → w'.heap[b]? = w.heap[b]? ∧ S' b) : TreeIs S' w' t v := by
  induction h with
  | mk h1 _ ih => exact .mk (h1.keep (by decide) hk) fun p hp => ih p hp
theorem TreeIs.mono {S : Nat → Prop} {B : Nat} {w w' : World} {t : Tree} {v : Value} (h : TreeIs S w t v) (hb : Below B w w') (hB : w.heap.size ≤ B) : TreeIs S w' t v :=
  h.keep fun b hS hlt => ⟨hb.block b (Nat.lt_of_lt_of_le hlt hB), hS⟩
end Go.Proofs.YtfdmfkonneonaaaDoor
