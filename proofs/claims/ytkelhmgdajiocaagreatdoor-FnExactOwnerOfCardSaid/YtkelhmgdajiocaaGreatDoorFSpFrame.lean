/- Walks and lemmas of this seat (FSpFrame): what each theorem says of the functions that it names. Conditions: those that each theorem states. -/
import Derived.Test.YtkelhmgdajiocaaGreatDoorGSP
import Derived.Test.YtkelhmgdajiocaaGreatDoorGD
namespace Go.Proofs.YtkelhmgdajiocaaGreatDoor
set_option linter.unusedVariables false
set_option linter.unusedSimpArgs false
open Go.RowKit

/-! The speller: its box, its two rows, and what a call of one of its methods leaves as it was. -/
/-- Worlds that differ only in new memory, in block g and in rows of tokens and spans from B on. -/
structure Sk (g B : Nat) (w w' : World) : Prop where
  os : w'.os = w.os
  tape : w'.tape = w.tape
  output : w'.output = w.output
  size : w.heap.size ≤ w'.heap.size
  block : ∀ b, b < w.heap.size → b ≠ g → (b < B ∨ ∀ c k, w.heap[b]? ≠ some (.cells c 50 k) ∧ w.heap[b]? ≠ some (.cells c 70 k)) → w'.heap[b]? = w.heap[b]?
theorem Sk.refl (g B : Nat) (w : World) : Sk g B w w := ⟨rfl, rfl, rfl, Nat.le_refl _, fun _ _ _ _ => rfl⟩
theorem Sk.trans {g B : Nat} {a b c : World} (h : Sk g B a b) (k : Sk g B b c) : Sk g B a c :=
  ⟨k.os.trans h.os, k.tape.trans h.tape, k.output.trans h.output, Nat.le_trans h.size k.size, fun i hi hg ho => by
    have e1 := h.block i hi hg ho
    have ho2 : i < B ∨ ∀ c' k', b.heap[i]? ≠ some (.cells c' 50 k') ∧ b.heap[i]? ≠ some (.cells c' 70 k') := by rw [e1]; exact ho
    exact (k.block i (Nat.lt_of_lt_of_le hi h.size) hg ho2).trans e1⟩
theorem Sk.of_below {g B : Nat} {w w' : World} (h : Below w.heap.size w w') : Sk g B w w' := ⟨h.os, h.tape, h.output, h.size, fun i hi _ _ => h.block i hi⟩
theorem Sk.alloc {g B : Nat} {w w' : World} (h : Sk g B w w') (o : Obj) : Sk g B w (w'.alloc o) := h.trans (.of_below ((Below.refl _ _).alloc (Nat.le_refl _) o))
theorem Sk.below {g B : Nat} {w w' w2 : World} (h : Sk g B w w') (hb : Below w'.heap.size w' w2) : Sk g B w w2 := h.trans (.of_below hb)
theorem Sk.drew {g B : Nat} {w w' : World} (h : Sk g B w w') : Sk g B w w'.drew := ⟨h.os, h.tape, h.output, h.size, h.block⟩
theorem Sk.drewN {g B : Nat} {w w' : World} (h : Sk g B w w') (n : Nat) : Sk g B w (w'.drewN n) := ⟨h.os, h.tape, h.output, h.size, h.block⟩
theorem Sk.set {g B : Nat} {w w' : World} (h : Sk g B w w') (j : Nat) (u : Value) : Sk g B w (w'.setCell ⟨g, j, none⟩ u) :=
  ⟨h.os, h.tape, h.output, by simpa using h.size, fun i hi hg ho => (heap_setCell_other w' ⟨g, j, none⟩ i u hg).trans (h.block i hi hg ho)⟩
/-- An append to a row of tokens or of spans. -/
theorem Sk.app {g B s n : Nat} {e : TypeId} {w w2 : World} {v : Value} {xs : List Value} (ho : w.ownsRow B e s v n xs) (hg : w.grownBy w2 v.ownBlock) (he : e = 50 ∨ e = 70) : Sk g B w w2 := by
  refine ⟨hg.os, hg.tape, hg.output, hg.size, fun i hi _ h => hg.block i hi fun er => ?_⟩
  have h1 := (ho.lt i er.symm).1
  rcases ho.2 with ⟨rfl, _⟩ | ⟨g', cap, cur, rfl, hB, hgg, _⟩
  · cases er
  · have : i = g' := Option.some.inj er
    subst this
    rcases h with h | h
    · omega
    · rcases he with rfl | rfl
      · exact (h _ _).1 hgg
      · exact (h _ _).2 hgg
theorem Sk.low {g B b : Nat} {w w' : World} (h : Sk g B w w') (hb : b < B) (hB : B ≤ w.heap.size) (hg : b ≠ g) : w'.heap[b]? = w.heap[b]? := h.block b (by omega) hg (.inl hb)
theorem Sk.cell {g B b o : Nat} {w w' : World} (h : Sk g B w w') (hb : b < B) (hB : B ≤ w.heap.size) (hg : b ≠ g) : w'.cell? ⟨b, o, none⟩ = w.cell? ⟨b, o, none⟩ := World.cell?_of_block (a := ⟨b, o, none⟩) (h.low hb hB hg)
theorem Sk.box {g B b : Nat} {T : TypeId} {w w' : World} {c : Array Value} {k : Nat × Nat} (h : Sk g B w w') (hb : w.heap[b]? = some (.cells c T k)) (h1 : T ≠ 50) (h2 : T ≠ 70) (hg : b ≠ g) : w'.heap[b]? = some (.cells c T k) := by
  rw [h.block b (Array.getElem?_eq_some_iff.1 hb).1 hg (.inr fun c' k' => ⟨fun e1 => ?_, fun e1 => ?_⟩)]
  · exact hb
  · rw [hb] at e1; injection e1 with e1; injection e1 with _ e2 _; exact h1 e2
  · rw [hb] at e1; injection e1 with e1; injection e1 with _ e2 _; exact h2 e2
theorem Sk.tree {g B : Nat} {w w' : World} {S : Nat → Prop} {t : Tree} {v : Value} (h : Sk g B w w') (ht : TreeIs S w t v) (hS : ∀ b, S b → b < B ∧ b ≠ g) (hB : B ≤ w.heap.size) : TreeIs S w' t v :=
  ht.keep fun b hb _ => ⟨h.low (hS b hb).1 hB (hS b hb).2, hb⟩
/-- The speller's box. -/
def Sp (w : World) (g : Nat) (tv sv : Value) (full : Bool) : Prop := w.heap[g]? = some (.cells #[tv, sv, .bool full] 95 (0, 0))
theorem Sp.c0 {w : World} {g : Nat} {tv sv : Value} {f : Bool} (h : Sp w g tv sv f) : w.cell? ⟨g, 0, none⟩ = some tv := box_cell h rfl
theorem Sp.c1 {w : World} {g : Nat} {tv sv : Value} {f : Bool} (h : Sp w g tv sv f) : w.cell? ⟨g, 1, none⟩ = some sv := box_cell h rfl
theorem Sp.c2 {w : World} {g : Nat} {tv sv : Value} {f : Bool} (h : Sp w g tv sv f) : w.cell? ⟨g, 2, none⟩ = some (.bool f) := box_cell h rfl
theorem Sp.fr {w : World} {g : Nat} {tv sv : Value} {f : Bool} (h : Sp w g tv sv f) (j : Nat) : w.frozen? ⟨g, j, none⟩ = false := box_froz h
theorem Sp.lt {w : World} {g : Nat} {tv sv : Value} {f : Bool} (h : Sp w g tv sv f) : g < w.heap.size := heap_lt h
theorem Sp.s0 {w : World} {g : Nat} {tv sv : Value} {f : Bool} (h : Sp w g tv sv f) (u : Value) : Sp (w.setCell ⟨g, 0, none⟩ u) g u sv f := (heap_setCell_at h).trans rfl
theorem Sp.s1 {w : World} {g : Nat} {tv sv : Value} {f : Bool} (h : Sp w g tv sv f) (u : Value) : Sp (w.setCell ⟨g, 1, none⟩ u) g tv u f := (heap_setCell_at h).trans rfl
theorem Sp.of {w w' : World} {g : Nat} {tv sv : Value} {f : Bool} (h : Sp w g tv sv f) (he : w'.heap[g]? = w.heap[g]?) : Sp w' g tv sv f := he.trans h
theorem Sp.below {w w' : World} {g : Nat} {tv sv : Value} {f : Bool} (h : Sp w g tv sv f) (hb : Below w.heap.size w w') : Sp w' g tv sv f := h.of (hb.block g h.lt)
/-- The speller, with what it has written. -/
structure SpSt (w : World) (g B : Nat) (full : Bool) (L : List Token) (M : List Span) (tv sv : Value) : Prop where
  box : Sp w g tv sv full
  tok : w.ownsRow B 50 3 tv L.length (L.flatMap Token.cells)
  spn : w.ownsRow B 70 2 sv M.length (M.flatMap Span.cells)
theorem SpSt.below {w w' : World} {g B : Nat} {full : Bool} {L : List Token} {M : List Span} {tv sv : Value} (h : SpSt w g B full L M tv sv) (hb : Below w.heap.size w w') : SpSt w' g B full L M tv sv :=
  ⟨h.box.below hb, own_below h.tok hb (Nat.le_refl _), own_below h.spn hb (Nat.le_refl _)⟩
theorem SpSt.alloc {w : World} {g B : Nat} {full : Bool} {L : List Token} {M : List Span} {tv sv : Value} (h : SpSt w g B full L M tv sv) (o : Obj) : SpSt (w.alloc o) g B full L M tv sv := h.below ((Below.refl _ _).alloc (Nat.le_refl _) o)
theorem own_apartS {w : World} {B : Nat} {T U : TypeId} {s s' n n' : Nat} {v v' : Value} {xs xs' : List Value} (h : w.ownsRow B T s v n xs) (h' : w.ownsRow B U s' v' n' xs') (hne : T ≠ U) : v.ownBlock = none ∨ v.ownBlock ≠ v'.ownBlock := by
  rcases h.2 with ⟨rfl, _⟩ | ⟨g, cap, cur, rfl, _, hgg, _⟩
  · exact .inl rfl
  · right
    intro e
    rcases h'.2 with ⟨rfl, _⟩ | ⟨g', cap', cur', rfl, _, hgg', _⟩
    · cases e
    · have : g = g' := Option.some.inj e
      subst this
      rw [hgg] at hgg'
      injection hgg' with e1
      injection e1 with _ e2 _
      exact hne e2
theorem own_grownS {w w' : World} {B : Nat} {T U : TypeId} {s s' n n' : Nat} {v v' : Value} {xs xs' : List Value} (h : w.ownsRow B T s v n xs) (h' : w.ownsRow B U s' v' n' xs') (hne : T ≠ U) (hg : w.grownBy w' v'.ownBlock) : w'.ownsRow B T s v n xs := by
  refine ⟨h.1, ?_⟩
  have ha := own_apartS h h' hne
  rcases h.2 with h0 | ⟨g, cap, cur, rfl, hB, hgg, r⟩
  · exact .inl h0
  · refine .inr ⟨g, cap, cur, rfl, hB, ?_, r⟩
    rw [hg.block g (heap_lt hgg) ?_]
    · exact hgg
    · rcases ha with ha | ha
      · cases ha
      · exact ha
theorem own_setCellS {w : World} {B g j : Nat} {e : TypeId} {s n : Nat} {v u : Value} {xs : List Value} (h : w.ownsRow B e s v n xs) (hg : g < B) : (w.setCell ⟨g, j, none⟩ u).ownsRow B e s v n xs := by
  refine ⟨h.1, ?_⟩
  rcases h.2 with hn | ⟨r, cap, cur, rfl, hr, hgg, rr⟩
  · exact .inl hn
  · refine .inr ⟨r, cap, cur, rfl, hr, ?_, rr⟩
    rw [heap_setCell_other w ⟨g, j, none⟩ r u (by show r ≠ g; omega)]; exact hgg
theorem own_neS {w : World} {B g : Nat} {e : TypeId} {s n : Nat} {v : Value} {xs : List Value} (h : w.ownsRow B e s v n xs) (hg : g < B) : some g ≠ v.ownBlock := fun e1 => by have := (h.lt g e1.symm).1; omega
/-- Tokens written. -/
theorem SpSt.put {w w1 w2 : World} {g B : Nat} {full : Bool} {L T : List Token} {M : List Span} {tv sv v2 : Value} (h : SpSt w g B full L M tv sv) (hb : Below w.heap.size w w1) (hgB : g < B)
    (hown : w2.ownsRow B 50 3 v2 (L.length + T.length) (L.flatMap Token.cells ++ T.flatMap Token.cells)) (hg : w1.grownBy w2 tv.ownBlock) : SpSt (w2.setCell ⟨g, 0, none⟩ v2) g B full (L ++ T) M v2 sv ∧ Sk g B w (w2.setCell ⟨g, 0, none⟩ v2) := by
  have h1 := h.below hb
  refine ⟨⟨(h1.box.of (hg.block g h1.box.lt (own_neS h1.tok hgB))).s0 v2, ?_, ?_⟩, ?_⟩
  · rw [List.length_append, List.flatMap_append]
    exact own_setCellS hown hgB
  · exact own_setCellS (own_grownS h1.spn h1.tok (by decide) hg) hgB
  · exact ((Sk.of_below hb).trans (Sk.app h1.tok hg (.inl rfl))).set 0 v2
/-- A span written. -/
theorem SpSt.mark {w w1 w2 : World} {g B : Nat} {full : Bool} {L : List Token} {M : List Span} {x : Span} {tv sv v2 : Value} (h : SpSt w g B full L M tv sv) (hb : Below w.heap.size w w1) (hgB : g < B)
    (hown : w2.ownsRow B 70 2 v2 (M.length + 1) (M.flatMap Span.cells ++ x.cells)) (hg : w1.grownBy w2 sv.ownBlock) : SpSt (w2.setCell ⟨g, 1, none⟩ v2) g B full L (M ++ [x]) tv v2 ∧ Sk g B w (w2.setCell ⟨g, 1, none⟩ v2) := by
  have h1 := h.below hb
  refine ⟨⟨(h1.box.of (hg.block g h1.box.lt (own_neS h1.spn hgB))).s1 v2, ?_, ?_⟩, ?_⟩
  · exact own_setCellS (own_grownS h1.tok h1.spn (by decide) hg) hgB
  · rw [List.length_append, List.length_singleton, List.flatMap_append, List.flatMap_singleton]
    exact own_setCellS hown hgB
  · exact ((Sk.of_below hb).trans (Sk.app h1.spn hg (.inr rfl))).set 1 v2
/-- What a method of the speller leaves. -/
def SpPost (w : World) (g B : Nat) (full : Bool) (L : List Token) (M : List Span) (e : Ending) (w' : World) : Prop := e = .returned (.tuple #[]) ∧ ∃ tv sv, SpSt w' g B full L M tv sv ∧ Sk g B w w'
end Go.Proofs.YtkelhmgdajiocaaGreatDoor
