/- Walks and lemmas of this seat (FAddP): what each theorem says of the functions that it names. Conditions: those that each theorem states. -/
import Derived.Test.YtfdmfkonneonaaaDoorFPartP
import Derived.Deep.AppendLies
namespace Go.Proofs.YtfdmfkonneonaaaDoor
set_option linter.unusedVariables false
set_option linter.unusedSimpArgs false
open Go.RowKit

theorem Tree.addsTo_append : ∀ (l r : List Tree) (acc : List Node) (ks : List Int), Tree.addsTo (l ++ r) acc ks = Tree.addsTo r (Tree.addsTo l acc ks).1 (Tree.addsTo l acc ks).2 := by
  intro l
  induction l with
  | nil => intro r acc ks; rfl
  | cons t l ih => intro r acc ks; rw [List.cons_append, Tree.addsTo, ih]; rw [Tree.addsTo]
theorem Tree.addTo_eq (t : Tree) (acc : List Node) : t.addTo acc = (Tree.addsTo t.kids acc []).1 ++ [⟨t.kind, t.op, t.text, t.other, (Tree.addsTo t.kids acc []).2⟩] := by
  cases t with
  | mk k o x y l => rw [Tree.addTo]; rfl
theorem Tree.addsTo_len : ∀ (l : List Tree), (∀ t ∈ l, ∀ acc : List Node, acc.length + 1 ≤ (t.addTo acc).length) → ∀ (acc : List Node) (ks : List Int), acc.length + l.length ≤ (Tree.addsTo l acc ks).1.length ∧ (Tree.addsTo l acc ks).2.length = ks.length + l.length := by
  intro l
  induction l with
  | nil => intro _ acc ks; simp [Tree.addsTo]
  | cons t l ih =>
    intro h acc ks
    rw [Tree.addsTo]
    have h1 := h t (by simp) acc
    have h2 := ih (fun u hu => h u (by simp [hu])) (t.addTo acc) (ks ++ [((t.addTo acc).length : Int) - 1])
    simp only [List.length_cons, List.length_append, List.length_nil] at h2 ⊢
    omega
theorem Tree.addTo_len (n : Nat) : ∀ (t : Tree), SizeOf.sizeOf t < n → ∀ (acc : List Node), acc.length + 1 ≤ (t.addTo acc).length := by
  induction n with
  | zero => intro t h; omega
  | succ n ih =>
    intro t h acc
    rw [Tree.addTo_eq, List.length_append]
    have := (Tree.addsTo_len t.kids (fun u hu => ih u (by have := Tree.kid_lt hu; omega)) acc []).1
    simp
    omega
theorem Tree.adds_len (l : List Tree) (acc : List Node) (ks : List Int) : acc.length + l.length ≤ (Tree.addsTo l acc ks).1.length ∧ (Tree.addsTo l acc ks).2.length = ks.length + l.length :=
  Tree.addsTo_len l (fun t _ => Tree.addTo_len _ t (Nat.lt_succ_self _)) acc ks
theorem Tree.adds_snoc (l : List Tree) (t : Tree) (acc : List Node) : Tree.addsTo (l ++ [t]) acc [] = (t.addTo (Tree.addsTo l acc []).1, (Tree.addsTo l acc []).2 ++ [((t.addTo (Tree.addsTo l acc []).1).length : Int) - 1]) := by
  rw [Tree.addsTo_append, Tree.addsTo, Tree.addsTo]
theorem Tree.adds_le (l r : List Tree) (acc : List Node) : (Tree.addsTo l acc []).1.length + r.length ≤ (Tree.addsTo (l ++ r) acc []).1.length := by
  rw [Tree.addsTo_append]
  exact (Tree.adds_len r _ _).1

theorem own_up {w : World} {lo : Nat} {B : Nat} {e : TypeId} {s n : Nat} {v : Value} {xs : List Value} (h : w.ownsRow B e s v n xs) (hl : ∀ g, v.ownBlock = some g → lo ≤ g) : w.ownsRow lo e s v n xs := by
  refine ⟨h.1, ?_⟩
  rcases h.2 with hn | ⟨g, cap, cur, rfl, _, r⟩
  · exact .inl hn
  · exact .inr ⟨g, cap, cur, rfl, hl g rfl, r⟩
/-- The call's own nodes, each of their blocks in S. -/
structure OwnS (S : Nat → Prop) (w : World) (v : Value) (q : List (Node × Value)) : Prop where
  row : w.ownsRow 0 34 5 v q.length (q.flatMap Node.cells)
  rowS : ∀ g, v.ownBlock = some g → S g
  kids : ∀ p ∈ q, w.ownsRow 0 3 1 p.2 p.1.kids.length (p.1.kids.flatMap int1)
  kidsS : ∀ p ∈ q, ∀ g, p.2.ownBlock = some g → S g
  apart : (v :: q.map Prod.snd).Pairwise Apart
theorem OwnS.nil (S : Nat → Prop) (w : World) : OwnS S w (.slice none 0 0) [] := ⟨⟨by simp, .inl ⟨rfl, rfl⟩⟩, fun g h => by simp [Value.ownBlock] at h, by simp, by simp, by simp⟩
theorem OwnS.keep {S S' : Nat → Prop} {w w' : World} {v : Value} {q : List (Node × Value)} (h : OwnS S w v q) (hk : ∀ b, S b → b < w.heap.size → w'.heap[b]? = w.heap[b]? ∧ S' b) : OwnS S' w' v q := by
  have key : ∀ {e : TypeId} {s n : Nat} {u : Value} {xs : List Value}, w.ownsRow 0 e s u n xs → (∀ g, u.ownBlock = some g → S g) → w'.ownsRow 0 e s u n xs ∧ ∀ g, u.ownBlock = some g → S' g := by
    intro e s n u xs ho hS
    refine ⟨⟨ho.1, ?_⟩, fun g hg => (hk g (hS g hg) (ho.lt g hg).2).2⟩
    rcases ho.2 with hn | ⟨g, cap, cur, rfl, hg, hgg, r⟩
    · exact .inl hn
    · exact .inr ⟨g, cap, cur, rfl, hg, (hk g (hS g rfl) (Array.getElem?_eq_some_iff.1 hgg).1).1.trans hgg, r⟩
  exact ⟨(key h.row h.rowS).1, (key h.row h.rowS).2, fun p hp => (key (h.kids p hp) (h.kidsS p hp)).1, fun p hp => (key (h.kids p hp) (h.kidsS p hp)).2, h.apart⟩
theorem OwnS.own {S : Nat → Prop} {w : World} {lo : Nat} {v : Value} {q : List (Node × Value)} (h : OwnS S w v q) (hS : ∀ g, S g → lo ≤ g) : OwnNode w lo w.heap.size v (q.map Prod.fst) :=
  ⟨q, rfl, ⟨own_up h.row fun g hg => hS g (h.rowS g hg), fun g hg => (h.row.lt g hg).2⟩, fun p hp => ⟨own_up (h.kids p hp) fun g hg => hS g (h.kidsS p hp g hg), fun g hg => ((h.kids p hp).lt g hg).2⟩, h.apart⟩
theorem apart_ne {a b : Value} (h : ∀ g, a.ownBlock = some g → b.ownBlock ≠ some g) : Apart a b := by
  unfold Apart
  cases ha : a.ownBlock with
  | none => exact .inl rfl
  | some g => exact .inr fun e => h g ha e.symm
/-- A node is appended. -/
theorem OwnS.push {S S' : Nat → Prop} {w w' : World} {v v' kv : Value} {q : List (Node × Value)} {x : Node} (h : OwnS S w v q) (hrow : w'.ownsRow 0 34 5 v' (q.length + 1) (q.flatMap Node.cells ++ Node.cells (x, kv)))
    (hv' : ∀ g, v'.ownBlock = some g → S' g ∧ (v.ownBlock = some g ∨ w.heap.size ≤ g))
    (hkv : w'.ownsRow 0 3 1 kv x.kids.length (x.kids.flatMap int1)) (hkS : ∀ g, kv.ownBlock = some g → S' g ∧ ¬ S g ∧ g < w.heap.size)
    (hk : ∀ b, S b → b < w.heap.size → (some b ≠ v.ownBlock → w'.heap[b]? = w.heap[b]?) ∧ S' b) : OwnS S' w' v' (q ++ [(x, kv)]) := by
  have hap := List.pairwise_cons.1 h.apart
  have hne : ∀ p ∈ q, ∀ g, p.2.ownBlock = some g → some g ≠ v.ownBlock := fun p hp g hg e => by
    have := hap.1 p.2 (List.mem_map.2 ⟨p, hp, rfl⟩)
    unfold Apart at this
    rcases this with h0 | h0
    · rw [← e] at h0; cases h0
    · exact h0 (by rw [hg, e])
  refine ⟨by simpa using hrow, fun g hg => (hv' g hg).1, fun p hp => ?_, fun p hp g hg => ?_, ?_⟩
  · rcases List.mem_append.1 hp with hp | hp
    · have ho := h.kids p hp
      refine ⟨ho.1, ?_⟩
      rcases ho.2 with hn | ⟨g, cap, cur, hpv, hg, hgg, r⟩
      · exact .inl hn
      · have hgo : p.2.ownBlock = some g := by rw [hpv]; rfl
        exact .inr ⟨g, cap, cur, hpv, hg, ((hk g (h.kidsS p hp g hgo) (Array.getElem?_eq_some_iff.1 hgg).1).1 (hne p hp g hgo)).trans hgg, r⟩
    · simp at hp; subst hp; exact hkv
  · rcases List.mem_append.1 hp with hp | hp
    · exact (hk g (h.kidsS p hp g hg) ((h.kids p hp).lt g hg).2).2
    · simp at hp; subst hp; exact (hkS g hg).1
  · rw [List.map_append, List.pairwise_cons]
    refine ⟨fun a ha => ?_, pairwise_snoc hap.2 fun a ha => ?_⟩
    · refine apart_ne fun g hg => ?_
      rcases (hv' g hg).2 with hg2 | hg2
      · rcases List.mem_append.1 ha with ha | ha
        · obtain ⟨p, hp, rfl⟩ := List.mem_map.1 ha
          exact fun e => hne p hp g e hg2.symm
        · simp at ha; subst ha
          exact fun e => (hkS g e).2.1 (h.rowS g hg2)
      · rcases List.mem_append.1 ha with ha | ha
        · obtain ⟨p, hp, rfl⟩ := List.mem_map.1 ha
          exact fun e => by have := ((h.kids p hp).lt g e).2; omega
        · simp at ha; subst ha
          exact fun e => by have := (hkS g e).2.2; omega
    · obtain ⟨p, hp, rfl⟩ := List.mem_map.1 ha
      exact apart_ne fun g hg e => (hkS g e).2.1 (h.kidsS p hp g hg)
/-- What (tree).add hands back. -/
def AddPost (S : Nat → Prop) (w : World) (v : Value) (l : List Node) (e : Ending) (w' : World) : Prop :=
  ∃ v' q, e = .returned v' ∧ w.grownBy w' v.ownBlock ∧ (∀ g, v'.ownBlock = some g → v.ownBlock = some g ∨ w.heap.size ≤ g) ∧ q.map Prod.fst = l ∧ OwnS (fun g => S g ∨ w.heap.size ≤ g) w' v' q
/-- Between two rounds of (tree).add's loop. -/
structure AL (S : Nat → Prop) (t : Tree) (w : World) (kv0 : Value) (v0 : Value) (acc : List Node) (k : Nat) (v nkv : Value) (q : List (Node × Value)) (wr : World) : Prop where
  gr : w.grownBy wr v0.ownBlock
  size : w.heap.size + 1 < wr.heap.size
  box : wr.heap[w.heap.size]? = some (.cells #[.int .i64 t.kind, .int .i64 t.op, .string t.text, .string t.other, kv0] 39 (0, 0))
  nbox : wr.heap[w.heap.size + 1]? = some (.cells #[.int .i64 t.kind, .int .i64 t.op, .string t.text, .string t.other, nkv] 34 (0, 0))
  own : wr.ownsRow (w.heap.size + 1 + 1) 3 1 nkv (Tree.addsTo (t.kids.take k) acc []).2.length ((Tree.addsTo (t.kids.take k) acc []).2.flatMap int1)
  eq : q.map Prod.fst = (Tree.addsTo (t.kids.take k) acc []).1
  rowN : ∀ g, v.ownBlock = some g → v0.ownBlock = some g ∨ w.heap.size + 1 + 1 ≤ g
  nodes : OwnS (fun g => S g ∨ (w.heap.size + 1 + 1 ≤ g ∧ some g ≠ nkv.ownBlock)) wr v q
theorem cell_of_heap {w w' : World} {b o : Nat} (h : w'.heap[b]? = w.heap[b]?) : w'.cell? ⟨b, o, none⟩ = w.cell? ⟨b, o, none⟩ := by
  unfold World.cell?
  simp only [h]
theorem AL.step {S : Nat → Prop} {t : Tree} {w : World} {kv0 v0 : Value} {acc : List Node} {k m cap gg : Nat} {v v2 nkv : Value} {q q2 : List (Node × Value)} {wr w2 w3 : World} {o o2 : Obj} {ks : List Int} (h : AL S t w kv0 v0 acc k v nkv q wr)
    (hS : ∀ b, S b → b < w.heap.size) (hv0 : ∀ g, v0.ownBlock = some g → S g) (hg2 : (wr.alloc o).grownBy w2 v.ownBlock) (hr2 : ∀ g, v2.ownBlock = some g → v.ownBlock = some g ∨ (wr.alloc o).heap.size ≤ g) (hq2 : q2.map Prod.fst = (Tree.addsTo (t.kids.take (k + 1)) acc []).1)
    (hn2 : OwnS (fun g => ((S g ∨ (w.heap.size + 1 + 1 ≤ g ∧ some g ≠ nkv.ownBlock)) ∧ g < wr.heap.size) ∨ (wr.alloc o).heap.size ≤ g) w2 v2 q2)
    (hown3 : w3.ownsRow (w.heap.size + 1 + 1) 3 1 (.slice (some ⟨gg, 0, none⟩) m cap) m (ks.flatMap int1)) (hks : ks = (Tree.addsTo (t.kids.take (k + 1)) acc []).2) (hg3 : (w2.alloc o2).grownBy w3 nkv.ownBlock) (hat : nkv.ownBlock = some gg ∨ gg = w2.heap.size + 1) :
    AL S t w kv0 v0 acc (k + 1) v2 (.slice (some ⟨gg, 0, none⟩) m cap) q2 (w3.setCell ⟨w.heap.size + 1, 4, none⟩ (.slice (some ⟨gg, 0, none⟩) m cap)) := by
  have hml : m = ks.length := by
    have := hown3.1
    rw [flat_len int1 1 int1_len] at this
    omega
  have hsz := h.size
  have hs2 : wr.heap.size + 1 ≤ w2.heap.size := by have := hg2.size; simpa using this
  have hs3 : w2.heap.size + 1 ≤ w3.heap.size := by have := hg3.size; simpa using this
  have hnk : ∀ g, nkv.ownBlock = some g → w.heap.size + 1 + 1 ≤ g ∧ g < wr.heap.size := fun g hg => h.own.lt g hg
  have hvN : ∀ g, v.ownBlock = some g → (v0.ownBlock = some g ∧ g < w.heap.size) ∨ (w.heap.size + 1 + 1 ≤ g ∧ some g ≠ nkv.ownBlock) := fun g hg => by
    rcases h.nodes.rowS g hg with hs | hs
    · rcases h.rowN g hg with h1 | h1
      · exact .inl ⟨h1, hS g hs⟩
      · have := hS g hs; omega
    · exact .inr hs
  have h12 : ∀ b, b < wr.heap.size → some b ≠ v.ownBlock → w2.heap[b]? = wr.heap[b]? := fun b hb hne => (hg2.block b (by simp; omega) hne).trans (Below.heap_alloc _ _ _ hb)
  have h23 : ∀ b, b < w2.heap.size → some b ≠ nkv.ownBlock → w3.heap[b]? = w2.heap[b]? := fun b hb hne => (hg3.block b (by simp; omega) hne).trans (Below.heap_alloc _ _ _ hb)
  have hset : ∀ b, b ≠ w.heap.size + 1 → (w3.setCell ⟨w.heap.size + 1, 4, none⟩ (.slice (some ⟨gg, 0, none⟩) m cap)).heap[b]? = w3.heap[b]? := fun b hb => heap_setCell_other w3 ⟨w.heap.size + 1, 4, none⟩ b _ hb
  have hgg : w.heap.size + 1 + 1 ≤ gg := (hown3.lt gg rfl).1
  have hlow : ∀ b, b ≤ w.heap.size + 1 → w.heap.size ≤ b → some b ≠ v.ownBlock ∧ some b ≠ nkv.ownBlock := fun b hb hb2 =>
    ⟨fun e => by rcases hvN b e.symm with ⟨_, h1⟩ | ⟨h1, _⟩ <;> omega, fun e => by have := (hnk b e.symm).1; omega⟩
  refine ⟨?_, by simp; omega, ?_, ?_, ?_, hq2, fun g hg => ?_, ?_⟩
  · refine ⟨hg3.os.trans (hg2.os.trans h.gr.os), hg3.tape.trans (hg2.tape.trans h.gr.tape), hg3.output.trans (hg2.output.trans h.gr.output), by simp; omega, fun b hb hne => ?_⟩
    rw [hset b (by omega), h23 b (by omega) (fun e => by have := (hnk b e.symm).1; omega), h12 b (by omega) (fun e => by
      rcases hvN b e.symm with ⟨h1, _⟩ | ⟨h1, _⟩
      · exact hne h1.symm
      · omega)]
    exact h.gr.block b hb hne
  · rw [hset _ (by omega), h23 _ (by omega) (hlow _ (by omega) (by omega)).2, h12 _ (by omega) (hlow _ (by omega) (by omega)).1]; exact h.box
  · have := (h23 _ (by omega) (hlow _ (Nat.le_refl _) (by omega)).2).trans ((h12 _ (by omega) (hlow _ (Nat.le_refl _) (by omega)).1).trans h.nbox)
    rw [heap_setCell_at this]; rfl
  · rw [← hks, ← hml]
    exact hown3.kept (grown_set w3 (w.heap.size + 1) 4 _) (.inr (by simp [Value.ownBlock]; omega))
  · rcases hr2 g hg with h1 | h1
    · rcases hvN g h1 with ⟨h2, _⟩ | ⟨h2, _⟩
      · exact .inl h2
      · exact .inr h2
    · simp at h1; exact .inr (by omega)
  · refine hn2.keep fun b hb hlt => ?_
    have hb2 : (S b ∧ b < w.heap.size) ∨ (w.heap.size + 1 + 1 ≤ b ∧ some b ≠ nkv.ownBlock) := by
      rcases hb with ⟨hb | hb, _⟩ | hb
      · exact .inl ⟨hb, hS b hb⟩
      · exact .inr hb
      · simp at hb
        exact .inr ⟨by omega, fun e => by have := (hnk b e.symm).2; omega⟩
    have hbn : b ≠ w.heap.size + 1 := by rcases hb2 with ⟨_, h1⟩ | ⟨h1, _⟩ <;> omega
    have hbk : some b ≠ nkv.ownBlock := by
      rcases hb2 with ⟨_, h1⟩ | ⟨_, h1⟩
      · exact fun e => by have := (hnk b e.symm).1; omega
      · exact h1
    refine ⟨by rw [hset b hbn, h23 b hlt hbk], ?_⟩
    rcases hb2 with ⟨h1, _⟩ | ⟨h1, _⟩
    · exact .inl h1
    · refine .inr ⟨h1, fun e => ?_⟩
      simp [Value.ownBlock] at e
      subst e
      rcases hat with hat | hat
      · exact hbk hat.symm
      · omega
theorem AL.fin {S : Nat → Prop} {t : Tree} {w : World} {kv0 v0 : Value} {acc : List Node} {k cap gg : Nat} {v nkv : Value} {q : List (Node × Value)} {wr w3 : World} {o : Obj} {ks : List Int} (h : AL S t w kv0 v0 acc k v nkv q wr)
    (hS : ∀ b, S b → b < w.heap.size) (hks : ks = (Tree.addsTo (t.kids.take k) acc []).2)
    (hown3 : w3.ownsRow 0 34 5 (.slice (some ⟨gg, 0, none⟩) (q.length + 1) cap) (q.length + 1) (q.flatMap Node.cells ++ Node.cells (⟨t.kind, t.op, t.text, t.other, ks⟩, nkv))) (hg3 : (wr.alloc o).grownBy w3 v.ownBlock) (hat : v.ownBlock = some gg ∨ gg = wr.heap.size + 1) :
    w.grownBy w3 v0.ownBlock ∧ (∀ g, (Value.slice (some ⟨gg, 0, none⟩) (q.length + 1) cap).ownBlock = some g → v0.ownBlock = some g ∨ w.heap.size ≤ g) ∧ OwnS (fun g => S g ∨ w.heap.size ≤ g) w3 (.slice (some ⟨gg, 0, none⟩) (q.length + 1) cap) (q ++ [(⟨t.kind, t.op, t.text, t.other, ks⟩, nkv)]) := by
  have hsz := h.size
  have hs3 : wr.heap.size + 1 ≤ w3.heap.size := by have := hg3.size; simpa using this
  have hnk : ∀ g, nkv.ownBlock = some g → w.heap.size + 1 + 1 ≤ g ∧ g < wr.heap.size := fun g hg => h.own.lt g hg
  have hvN : ∀ g, v.ownBlock = some g → (v0.ownBlock = some g ∧ g < w.heap.size ∧ S g) ∨ (w.heap.size + 1 + 1 ≤ g ∧ some g ≠ nkv.ownBlock) := fun g hg => by
    rcases h.nodes.rowS g hg with hs | hs
    · rcases h.rowN g hg with h1 | h1
      · exact .inl ⟨h1, hS g hs, hs⟩
      · have := hS g hs; omega
    · exact .inr hs
  have h23 : ∀ b, b < wr.heap.size → some b ≠ v.ownBlock → w3.heap[b]? = wr.heap[b]? := fun b hb hne => (hg3.block b (by simp; omega) hne).trans (Below.heap_alloc _ _ _ hb)
  refine ⟨⟨hg3.os.trans h.gr.os, hg3.tape.trans h.gr.tape, hg3.output.trans h.gr.output, by omega, fun b hb hne => ?_⟩, fun g hg => ?_, ?_⟩
  · rw [h23 b (by omega) (fun e => by
      rcases hvN b e.symm with ⟨h1, _⟩ | ⟨h1, _⟩
      · exact hne h1.symm
      · omega)]
    exact h.gr.block b hb hne
  · simp [Value.ownBlock] at hg
    subst hg
    rcases hat with hat | hat
    · rcases hvN gg hat with ⟨h1, _⟩ | ⟨h1, _⟩
      · exact .inl h1
      · exact .inr (by omega)
    · exact .inr (by omega)
  · refine h.nodes.push hown3 (fun g hg => ?_) ?_ (fun g hg => ?_) (fun b hb hlt => ?_)
    · simp [Value.ownBlock] at hg
      subst hg
      rcases hat with hat | hat
      · refine ⟨?_, .inl hat⟩
        rcases hvN gg hat with ⟨_, _, h1⟩ | ⟨h1, _⟩
        · exact .inl h1
        · exact .inr (by omega)
      · exact ⟨.inr (by omega), .inr (by omega)⟩
    · have hown := h.own
      rw [← hks] at hown
      refine own_base ((hown.alloc o).kept hg3 ?_) (Nat.zero_le _)
      cases hno : nkv.ownBlock with
      | none => exact .inl rfl
      | some g =>
        refine .inr fun e => ?_
        rcases hvN g e.symm with ⟨_, h1, _⟩ | ⟨_, h1⟩
        · have := (hnk g hno).1; omega
        · exact h1 hno.symm
    · have hg2 := hnk g hg
      refine ⟨.inr (by omega), fun hb => ?_, hg2.2⟩
      rcases hb with hb | hb
      · have := hS g hb; omega
      · exact hb.2 hg.symm
    · refine ⟨h23 b hlt, ?_⟩
      rcases hb with hb | hb
      · exact .inl hb
      · exact .inr (by omega)
end Go.Proofs.YtfdmfkonneonaaaDoor
