/- Walks and lemmas of this seat (DataNode): what each theorem says of the functions that it names. Conditions: those that each theorem states. -/
import Derived.Test.YtfdmfkonneonaaaDoorHInt
namespace Go.Proofs.YtfdmfkonneonaaaDoor
set_option linter.unusedVariables false
set_option linter.unusedSimpArgs false
open Go.RowKit
structure Node where
  kind : Int
  op : Int
  text : ByteArray
  other : ByteArray
  kids : List Int
def Node.cells (x : Node × Value) : List Value := [.int .i64 x.1.kind, .int .i64 x.1.op, .string x.1.text, .string x.1.other, x.2]
theorem Node.len (x : Node × Value) : (Node.cells x).length = 5 := rfl
def Node.sizes (x : Node) : Nat := x.text.size + x.other.size + x.kids.length
def Node.Ok (x : Node) : Prop := x.text.size ≤ maxLen ∧ x.other.size ≤ maxLen ∧ I64 x.kind ∧ I64 x.op ∧ (∀ k ∈ x.kids, I64 k) ∧ x.kids.length ≤ maxLen
def eqNode (x y : Node) : Bool := x.kind == y.kind && x.op == y.op && x.text.toList == y.text.toList && x.other.toList == y.other.toList && eqList eqInt x.kids y.kids
theorem eqNode_iff (x y : Node) : eqNode x y = true ↔ x = y := by
  cases x; cases y; simp [eqNode, toList_inj, and_assoc, eqList_iff eqInt eqInt_iff]
/-- v is a slice of such structs that reads as the list l. -/
def NodeSlc (w : World) (v : Value) (l : List Node) : Prop :=
  ∃ q : List (Node × Value), q.map Prod.fst = l ∧ Slc w v 5 q.length (q.flatMap Node.cells) ∧ ∀ p ∈ q, Slc w p.2 1 p.1.kids.length (p.1.kids.flatMap int1)
theorem NodeSlc.mono {B : Nat} {w w' : World} {v : Value} {l : List Node} (h : NodeSlc w v l) (hb : Below B w w') (hB : w.heap.size ≤ B) : NodeSlc w' v l := by
  obtain ⟨q, h1, h2, h3⟩ := h
  exact ⟨q, h1, h2.mono hb hB, fun p hp => (h3 p hp).mono hb hB⟩
theorem NodeSlc.shape {w : World} {v : Value} {l : List Node} (h : NodeSlc w v l) : ∃ a cap, v = .slice a l.length cap ∧ cap ≤ 9223372036854775807 ∧ l.length ≤ cap ∧ NodeSlc w (.slice a l.length cap) l := by
  obtain ⟨q, rfl, h2, h3⟩ := h
  have h4 := h2
  obtain ⟨_, a, cap, rfl, hc, hm, _⟩ := h2
  have hl : (q.map Prod.fst).length = q.length := by simp
  rw [hl]
  exact ⟨a, cap, rfl, by unfold maxLen at hm; omega, hc, q, rfl, h4, h3⟩
theorem NodeSlc.at {B : Nat} {w wr : World} {a : Option Addr} {cap : Nat} {l : List Node} (h : NodeSlc w (.slice a l.length cap) l) (hb : Below B w wr) (hB : w.heap.size ≤ B) {k : Nat} (hk : k < l.length) :
    ∃ x ka kc b off, l[k]? = some x ∧ a = some ⟨b, off, none⟩ ∧ wr.cell? ⟨b, off + k * 5, none⟩ = some (.int .i64 x.kind) ∧ wr.cell? ⟨b, off + k * 5 + 1, none⟩ = some (.int .i64 x.op) ∧ wr.cell? ⟨b, off + k * 5 + 2, none⟩ = some (.string x.text) ∧ wr.cell? ⟨b, off + k * 5 + 3, none⟩ = some (.string x.other) ∧ wr.cell? ⟨b, off + k * 5 + 4, none⟩ = some (.slice ka x.kids.length kc) ∧ Slc wr (.slice ka x.kids.length kc) 1 x.kids.length (x.kids.flatMap int1) := by
  obtain ⟨q, rfl, ⟨_, a', cap', hv, hc, hm, hrow⟩, h3⟩ := h
  simp at hv hk
  obtain ⟨rfl, rfl⟩ := hv
  obtain ⟨p, hp⟩ := get_of_lt hk
  obtain ⟨b, off, rfl, hro⟩ := slc_some hrow (by omega)
  have hrw := hro.mono hb hB
  have hkd := (h3 p (List.mem_of_getElem? hp)).mono hb hB
  have hkd2 := hkd
  obtain ⟨_, ka, kc, hkv, _⟩ := hkd2
  have hl := hrw.flat 5 Node.len hp 4 rfl
  rw [hkv] at hl hkd
  exact ⟨p.1, ka, kc, b, off, by simp [hp], rfl, hrw.flat0 5 Node.len hp rfl, hrw.flat 5 Node.len hp 1 rfl, hrw.flat 5 Node.len hp 2 rfl, hrw.flat 5 Node.len hp 3 rfl, hl, hkd⟩
/-- Such a row while it is being filled, element by element. -/
structure FillNode (w : World) (g n : Nat) (q : List (Node × Value)) : Prop where
  row : Filling w g 34 5 g n (q.flatMap Node.cells)
  kids : ∀ p ∈ q, OwnIn w (g + 1) w.heap.size 3 1 p.2 p.1.kids.length (p.1.kids.flatMap int1)
  apart : (q.map Prod.snd).Pairwise Apart
theorem FillNode.next {w w2 : World} {g n k : Nat} {q : List (Node × Value)} (h : FillNode w g n q) (hb : Below w.heap.size w w2) (x : Node) (kv : Value) (ho : w2.ownsRow w.heap.size 3 1 kv x.kids.length (x.kids.flatMap int1)) (hk : k < n) (hl : q.length = k) :
    FillNode (storeAll w2 g (k * 5) (Node.cells (x, kv))) g n (q ++ [(x, kv)]) := by
  obtain ⟨h1, h2, h3⟩ := h
  have hg := h1.base
  have hf := (h1.below hb (Nat.le_refl _)).store (k := k) (by rw [flat_len _ 5 Node.len, hl]) hk (Node.cells (x, kv)) rfl
  refine ⟨by simpa using hf, fun p hp => ?_, ?_⟩
  · have hsz : (storeAll w2 g (k * 5) (Node.cells (x, kv))).heap.size = w2.heap.size := size_storeAll _ _
    rw [hsz]
    rcases List.mem_append.1 hp with hp | hp
    · have h4 := (h2 p hp).below hb (Nat.le_refl _)
      exact ⟨own_storeAll_below _ _ h4.1 (Nat.lt_succ_self g), fun j hj => Nat.lt_of_lt_of_le (h4.2 j hj) hb.size⟩
    · simp at hp; subst hp
      refine ⟨own_storeAll_below _ _ (own_base ho (by omega)) (Nat.lt_succ_self g), fun j hj => (ho.lt j hj).2⟩
  · rw [List.map_append]
    refine pairwise_snoc h3 fun a ha => ?_
    obtain ⟨p, hp, rfl⟩ := List.mem_map.1 ha
    exact apart_of (h2 p hp).2 (fun j hj => (ho.lt j hj).1)
/-- The call's own slice of such structs, its blocks from lo to hi. -/
def OwnNode (w : World) (lo hi : Nat) (v : Value) (l : List Node) : Prop :=
  ∃ q : List (Node × Value), q.map Prod.fst = l ∧ OwnIn w lo hi 34 5 v q.length (q.flatMap Node.cells) ∧ (∀ p ∈ q, OwnIn w lo hi 3 1 p.2 p.1.kids.length (p.1.kids.flatMap int1)) ∧ (v :: q.map Prod.snd).Pairwise Apart
theorem OwnNode.slc {w : World} {lo hi : Nat} {v : Value} {l : List Node} (h : OwnNode w lo hi v l) : NodeSlc w v l := by
  obtain ⟨q, h1, h2, h3, _⟩ := h
  exact ⟨q, h1, Slc.of_own h2.1, fun p hp => Slc.of_own (h3 p hp).1⟩
theorem OwnNode.below {w w' : World} {lo hi B : Nat} {v : Value} {l : List Node} (h : OwnNode w lo hi v l) (hb : Below B w w') (hB : w.heap.size ≤ B) : OwnNode w' lo hi v l := by
  obtain ⟨q, h1, h2, h3, h4⟩ := h
  exact ⟨q, h1, h2.below hb hB, fun p hp => (h3 p hp).below hb hB, h4⟩
theorem OwnNode.fr {w w' : World} {lo hi lo' hi' : Nat} {v : Value} {l : List Node} (h : OwnNode w lo hi v l) (hf : Fr lo' hi' w w') (hd : hi ≤ lo' ∨ hi' ≤ lo) : OwnNode w' lo hi v l := by
  obtain ⟨q, h1, h2, h3, h4⟩ := h
  exact ⟨q, h1, h2.fr hf hd, fun p hp => (h3 p hp).fr hf hd, h4⟩

end Go.Proofs.YtfdmfkonneonaaaDoor
