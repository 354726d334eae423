/- Walks and lemmas of this seat (FLayB): what each theorem says of the functions that it names. Conditions: those that each theorem states. -/
import Derived.Test.YtfabfkaolnidiaaPLay
import Derived.Test.YtfabfkaolnidiaaFFlat
namespace Go.Proofs.Ytfabfkaolnidiaa
set_option linter.unusedVariables false
set_option linter.unusedSimpArgs false
open Go.RowKit

/-! Worlds that differ only in new memory and in rows of one type. -/
structure Keeps (e : TypeId) (B : Nat) (w w' : World) : Prop where
  os : w'.os = w.os
  tape : w'.tape = w.tape
  output : w'.output = w.output
  size : w.heap.size ≤ w'.heap.size
  block : ∀ b, b < w.heap.size → (b < B ∨ ∀ c k, w.heap[b]? ≠ some (.cells c e k)) → w'.heap[b]? = w.heap[b]?
theorem Keeps.refl (e : TypeId) (B : Nat) (w : World) : Keeps e B w w := ⟨rfl, rfl, rfl, Nat.le_refl _, fun _ _ _ => rfl⟩
theorem Keeps.trans {e : TypeId} {B : Nat} {a b c : World} (h : Keeps e B a b) (k : Keeps e B b c) : Keeps e B a c :=
  ⟨k.os.trans h.os, k.tape.trans h.tape, k.output.trans h.output, Nat.le_trans h.size k.size, fun i hi ho => by
    have e1 := h.block i hi ho
    have ho2 : i < B ∨ ∀ c' k', b.heap[i]? ≠ some (.cells c' e k') := by rw [e1]; exact ho
    exact (k.block i (Nat.lt_of_lt_of_le hi h.size) ho2).trans e1⟩
theorem Keeps.of_below {e : TypeId} {B : Nat} {w w' : World} (h : Below w.heap.size w w') : Keeps e B w w' := ⟨h.os, h.tape, h.output, h.size, fun i hi _ => h.block i hi⟩
theorem Keeps.alloc {e : TypeId} {B : Nat} {w w' : World} (h : Keeps e B w w') (o : Obj) : Keeps e B w (w'.alloc o) := h.trans (.of_below ((Below.refl _ _).alloc (Nat.le_refl _) o))
theorem Keeps.drew {e : TypeId} {B : Nat} {w w' : World} (h : Keeps e B w w') : Keeps e B w w'.drew := ⟨h.os, h.tape, h.output, h.size, h.block⟩
theorem Keeps.app {B : Nat} {e : TypeId} {s n : Nat} {w w' : World} {v : Value} {xs : List Value} (ho : w.ownsRow B e s v n xs) (hg : w.grownBy w' v.ownBlock) : Keeps e B w w' := by
  refine ⟨hg.os, hg.tape, hg.output, hg.size, fun i hi h => hg.block i hi fun er => ?_⟩
  have h1 := (ho.lt i er.symm).1
  rcases ho.2 with ⟨rfl, _⟩ | ⟨g, cap, cur, rfl, hB, hgg, _⟩
  · cases er
  · have : i = g := Option.some.inj er
    subst this
    rcases h with h | h
    · omega
    · exact h _ _ hgg
theorem Keeps.below {e : TypeId} {B : Nat} {w w' : World} (h : Keeps e B w w') (hB : B ≤ w.heap.size) : Below B w w' := ⟨h.os, h.tape, h.output, h.size, fun i hi => h.block i (by omega) (.inl hi)⟩
theorem Keeps.own {e T : TypeId} {B B' : Nat} {s n : Nat} {w w' : World} {v : Value} {xs : List Value} (h : Keeps e B w w') (ho : w.ownsRow B' T s v n xs) (hne : T ≠ e) : w'.ownsRow B' T s v n xs := by
  refine ⟨ho.1, ?_⟩
  rcases ho.2 with h0 | ⟨g, cap, cur, rfl, hB, hgg, hc, hm, hs, ht⟩
  · exact .inl h0
  · refine .inr ⟨g, cap, cur, rfl, hB, ?_, hc, hm, hs, ht⟩
    rw [h.block g (Array.getElem?_eq_some_iff.1 hgg).1 (.inr fun c k e1 => by rw [hgg] at e1; injection e1 with e1; injection e1 with _ e2 _; exact hne e2)]
    exact hgg
theorem Keeps.box {e T : TypeId} {B b : Nat} {w w' : World} {c : Array Value} {k : Nat × Nat} (h : Keeps e B w w') (hb : w.heap[b]? = some (.cells c T k)) (hne : T ≠ e) : w'.heap[b]? = some (.cells c T k) := by
  rw [h.block b (Array.getElem?_eq_some_iff.1 hb).1 (.inr fun c' k' e1 => by rw [hb] at e1; injection e1 with e1; injection e1 with _ e2 _; exact hne e2)]
  exact hb
theorem own_cutS {w : World} {B : Nat} {e : TypeId} {s n cap k g : Nat} {xs : List Value} (h : w.ownsRow B e s (.slice (some ⟨g, 0, none⟩) n cap) n xs) (hk : k ≤ n) : w.ownsRow B e s (.slice (some ⟨g, 0, none⟩) k cap) k (xs.take (k * s)) := by
  have hx := h.1
  have hks : k * s ≤ n * s := Nat.mul_le_mul_right s hk
  refine ⟨by rw [List.length_take]; omega, ?_⟩
  rcases h.2 with ⟨e0, _⟩ | ⟨g', cap', cur, he, hb, hg, hc, hm, hs, ht⟩
  · cases e0
  · injection he with e1 _ e3
    injection e1 with e1
    injection e1 with e1
    subst e1; subst e3
    refine .inr ⟨g, cap, cur, rfl, hb, hg, by omega, hm, hs, ?_⟩
    rw [← ht, List.take_take]
    congr 1
    omega
/-- What lies on top of a row taken off. -/
theorem own_pop {α : Type} {f : α → List Value} {s : Nat} (hf : ∀ x, (f x).length = s) {w : World} {B g cap : Nat} {e : TypeId} {L : List α} {x : α} {n : Nat} (h : w.ownsRow B e s (.slice (some ⟨g, 0, none⟩) n cap) n ((L ++ [x]).flatMap f)) (hn : n = L.length + 1) :
    w.ownsRow B e s (.slice (some ⟨g, 0, none⟩) L.length cap) L.length (L.flatMap f) := by
  subst hn
  have h1 := own_cutS (k := L.length) h (by omega)
  rw [List.flatMap_append, List.take_left' (flat_len f s hf L)] at h1
  exact h1
theorem own_slice_some {w : World} {B : Nat} {e : TypeId} {s n : Nat} {v : Value} {xs : List Value} (h : w.ownsRow B e s v n xs) (hn : 0 < n) : ∃ g cap, v = .slice (some ⟨g, 0, none⟩) n cap ∧ n ≤ cap ∧ cap ≤ 9223372036854775807 ∧ B ≤ g ∧ g < w.heap.size := by
  rcases h.2 with ⟨_, h0⟩ | ⟨g, cap, cur, he, hb, hg, hc, hm, hs, ht⟩
  · omega
  · exact ⟨g, cap, he, hc, by unfold maxLen at hm; omega, hb, (Array.getElem?_eq_some_iff.1 hg).1⟩
theorem own_at {α : Type} {f : α → List Value} {s : Nat} (hf : ∀ x, (f x).length = s) {w : World} {B g cap n : Nat} {e : TypeId} {l : List α} {k j : Nat} {x : α} {u : Value} (h : w.ownsRow B e s (.slice (some ⟨g, 0, none⟩) n cap) n (l.flatMap f)) (hx : l[k]? = some x) (hj : j < s) (hu : (f x)[j]? = some u) (hn : n = l.length) : w.cell? ⟨g, k * s + j, none⟩ = some u := by
  have hk := (List.getElem?_eq_some_iff.1 hx).1
  have h2 := flat_get f s hf l k j x u hx hu
  have hlt : k * s + j < n * s := by
    have : (k + 1) * s ≤ n * s := Nat.mul_le_mul_right s (by omega)
    rw [Nat.add_mul] at this
    omega
  have h3 := h.cellAt (k * s + j) hlt
  rw [h3, h2]
theorem slc_none {w : World} {n : Nat} (e : TypeId) (s B : Nat) (h : n = 0) : w.ownsRow B e s (.slice none 0 0) n [] := by subst h; exact ⟨by simp, .inl ⟨rfl, rfl⟩⟩
end Go.Proofs.Ytfabfkaolnidiaa
