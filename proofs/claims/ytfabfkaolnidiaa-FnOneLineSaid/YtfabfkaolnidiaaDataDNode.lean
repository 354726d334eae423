/- Walks and lemmas of this seat (DataDNode): what each theorem says of the functions that it names. Conditions: those that each theorem states. -/
import Derived.Test.YtfabfkaolnidiaaGA
namespace Go.Proofs.Ytfabfkaolnidiaa
set_option linter.unusedVariables false
set_option linter.unusedSimpArgs false
open Go.RowKit
structure DNode where
  kind : Int
  n : Int
  text : ByteArray
  kids : List Int
def DNode.cells (x : DNode × Value) : List Value := [.int .i64 x.1.kind, .int .i64 x.1.n, .string x.1.text, x.2]
theorem DNode.len (x : DNode × Value) : (DNode.cells x).length = 4 := rfl
def DNode.sizes (x : DNode) : Nat := x.text.size + x.kids.length
def DNode.Ok (x : DNode) : Prop := x.text.size ≤ maxLen ∧ I64 x.kind ∧ I64 x.n ∧ (∀ k ∈ x.kids, I64 k) ∧ x.kids.length ≤ maxLen
def eqDNode (x y : DNode) : Bool := x.kind == y.kind && x.n == y.n && x.text.toList == y.text.toList && eqList eqInt x.kids y.kids
theorem eqDNode_iff (x y : DNode) : eqDNode x y = true ↔ x = y := by
  cases x; cases y; simp [eqDNode, toList_inj, and_assoc, eqList_iff eqInt eqInt_iff]
/-- v is a slice of such structs that reads as the list l. -/
def DNodeSlc (w : World) (v : Value) (l : List DNode) : Prop :=
  ∃ q : List (DNode × Value), q.map Prod.fst = l ∧ Slc w v 4 q.length (q.flatMap DNode.cells) ∧ ∀ p ∈ q, Slc w p.2 1 p.1.kids.length (p.1.kids.flatMap int1)
theorem DNodeSlc.mono {B : Nat} {w w' : World} {v : Value} {l : List DNode} (h : DNodeSlc w v l) (hb : Below B w w') (hB : w.heap.size ≤ B) : DNodeSlc w' v l := by
  obtain ⟨q, h1, h2, h3⟩ := h
  exact ⟨q, h1, h2.mono hb hB, fun p hp => (h3 p hp).mono hb hB⟩
theorem DNodeSlc.shape {w : World} {v : Value} {l : List DNode} (h : DNodeSlc w v l) : ∃ a cap, v = .slice a l.length cap ∧ cap ≤ 9223372036854775807 ∧ l.length ≤ cap ∧ DNodeSlc w (.slice a l.length cap) l := by
  obtain ⟨q, rfl, h2, h3⟩ := h
  have h4 := h2
  obtain ⟨_, a, cap, rfl, hc, hm, _⟩ := h2
  have hl : (q.map Prod.fst).length = q.length := by simp
  rw [hl]
  exact ⟨a, cap, rfl, by unfold maxLen at hm; omega, hc, q, rfl, h4, h3⟩
theorem DNodeSlc.at {B : Nat} {w wr : World} {a : Option Addr} {cap : Nat} {l : List DNode} (h : DNodeSlc w (.slice a l.length cap) l) (hb : Below B w wr) (hB : w.heap.size ≤ B) {k : Nat} (hk : k < l.length) :
    ∃ x ka kc b off, l[k]? = some x ∧ a = some ⟨b, off, none⟩ ∧ wr.cell? ⟨b, off + k * 4, none⟩ = some (.int .i64 x.kind) ∧ wr.cell? ⟨b, off + k * 4 + 1, none⟩ = some (.int .i64 x.n) ∧ wr.cell? ⟨b, off + k * 4 + 2, none⟩ = some (.string x.text) ∧ wr.cell? ⟨b, off + k * 4 + 3, none⟩ = some (.slice ka x.kids.length kc) ∧ Slc wr (.slice ka x.kids.length kc) 1 x.kids.length (x.kids.flatMap int1) := by
  obtain ⟨q, rfl, ⟨_, a', cap', hv, hc, hm, hrow⟩, h3⟩ := h
  simp at hv hk
  obtain ⟨rfl, rfl⟩ := hv
  obtain ⟨p, hp⟩ := get_of_lt hk
  obtain ⟨b, off, rfl, hro⟩ := slc_some hrow (by omega)
  have hrw := hro.mono hb hB
  have hkd := (h3 p (List.mem_of_getElem? hp)).mono hb hB
  have hkd2 := hkd
  obtain ⟨_, ka, kc, hkv, _⟩ := hkd2
  have hl := hrw.flat 4 DNode.len hp 3 rfl
  rw [hkv] at hl hkd
  exact ⟨p.1, ka, kc, b, off, by simp [hp], rfl, hrw.flat0 4 DNode.len hp rfl, hrw.flat 4 DNode.len hp 1 rfl, hrw.flat 4 DNode.len hp 2 rfl, hl, hkd⟩
/-- Such a row while it is being filled, element by element. -/
structure FillDNode (w : World) (g n : Nat) (q : List (DNode × Value)) : Prop where
  row : Filling w g 49 4 g n (q.flatMap DNode.cells)
  kids : ∀ p ∈ q, OwnIn w (g + 1) w.heap.size 3 1 p.2 p.1.kids.length (p.1.kids.flatMap int1)
  apart : (q.map Prod.snd).Pairwise Apart
theorem FillDNode.next {w w2 : World} {g n k : Nat} {q : List (DNode × Value)} (h : FillDNode w g n q) (hb : Below w.heap.size w w2) (x : DNode) (kv : Value) (ho : w2.ownsRow w.heap.size 3 1 kv x.kids.length (x.kids.flatMap int1)) (hk : k < n) (hl : q.length = k) :
    FillDNode (storeAll w2 g (k * 4) (DNode.cells (x, kv))) g n (q ++ [(x, kv)]) := by
  obtain ⟨h1, h2, h3⟩ := h
  have hg := h1.base
  have hf := (h1.below hb (Nat.le_refl _)).store (k := k) (by rw [flat_len _ 4 DNode.len, hl]) hk (DNode.cells (x, kv)) rfl
  refine ⟨by simpa using hf, fun p hp => ?_, ?_⟩
  · have hsz : (storeAll w2 g (k * 4) (DNode.cells (x, kv))).heap.size = w2.heap.size := size_storeAll _ _
    rw [hsz]
    rcases List.mem_append.1 hp with hp | hp
    · have h4 := (h2 p hp).below hb (Nat.le_refl _)
      exact ⟨own_storeAll_below _ _ h4.1 (Nat.lt_succ_self g), fun j hj => Nat.lt_of_lt_of_le (h4.2 j hj) hb.size⟩
    · simp at hp; subst hp
      refine ⟨own_storeAll_below _ _ (own_base ho (by omega)) (Nat.lt_succ_self g), fun j hj => (ho.lt j hj).2⟩
  · rw [List.map_append]
    refine pairwise_snoc h3 fun a ha => ?_
    obtain ⟨p, hp, rfl⟩ := List.mem_map.1 ha
    exact apart_of (h2 p hp).2 (fun j hj => (ho.lt j hj).1)
/-- The call's own slice of such structs, its blocks from lo to hi. -/
def OwnDNode (w : World) (lo hi : Nat) (v : Value) (l : List DNode) : Prop :=
  ∃ q : List (DNode × Value), q.map Prod.fst = l ∧ OwnIn w lo hi 49 4 v q.length (q.flatMap DNode.cells) ∧ (∀ p ∈ q, OwnIn w lo hi 3 1 p.2 p.1.kids.length (p.1.kids.flatMap int1)) ∧ (v :: q.map Prod.snd).Pairwise Apart
theorem OwnDNode.slc {w : World} {lo hi : Nat} {v : Value} {l : List DNode} (h : OwnDNode w lo hi v l) : DNodeSlc w v l := by
  obtain ⟨q, h1, h2, h3, _⟩ := h
  exact ⟨q, h1, Slc.of_own h2.1, fun p hp => Slc.of_own (h3 p hp).1⟩
theorem OwnDNode.below {w w' : World} {lo hi B : Nat} {v : Value} {l : List DNode} (h : OwnDNode w lo hi v l) (hb : Below B w w') (hB : w.heap.size ≤ B) : OwnDNode w' lo hi v l := by
  obtain ⟨q, h1, h2, h3, h4⟩ := h
  exact ⟨q, h1, h2.below hb hB, fun p hp => (h3 p hp).below hb hB, h4⟩
theorem OwnDNode.fr {w w' : World} {lo hi lo' hi' : Nat} {v : Value} {l : List DNode} (h : OwnDNode w lo hi v l) (hf : Fr lo' hi' w w') (hd : hi ≤ lo' ∨ hi' ≤ lo) : OwnDNode w' lo hi v l := by
  obtain ⟨q, h1, h2, h3, h4⟩ := h
  exact ⟨q, h1, h2.fr hf hd, fun p hp => (h3 p hp).fr hf hd, h4⟩

end Go.Proofs.Ytfabfkaolnidiaa
