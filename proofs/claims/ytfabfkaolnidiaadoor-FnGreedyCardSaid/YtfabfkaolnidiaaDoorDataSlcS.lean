/- Walks and lemmas of this seat (DataSlcS): what each theorem says of the functions that it names. Conditions: those that each theorem states. -/
import Derived.Test.YtfabfkaolnidiaaDoorFStarts
namespace Go.Proofs.YtfabfkaolnidiaaDoor
set_option linter.unusedVariables false
set_option linter.unusedSimpArgs false
open Go.RowKit

/-- v is a slice of n elements, s cells each, in a block of S, that reads as the cells cs. -/
def SlcS (S : Nat → Prop) (w : World) (v : Value) (s n : Nat) (cs : List Value) : Prop :=
  cs.length = n * s ∧ ∃ a cap, v = .slice a n cap ∧ n ≤ cap ∧ cap ≤ maxLen ∧ (n = 0 ∨ ∃ b off, a = some ⟨b, off, none⟩ ∧ S b ∧ RowAt w b off cs)
theorem SlcS.slc {S : Nat → Prop} {w : World} {v : Value} {s n : Nat} {cs : List Value} (h : SlcS S w v s n cs) : Slc w v s n cs := by
  obtain ⟨h1, a, cap, h2, h3, h4, h5⟩ := h
  refine ⟨h1, a, cap, h2, h3, h4, ?_⟩
  rcases h5 with h5 | ⟨b, off, h5, _, h6⟩
  · exact .inl h5
  · exact .inr ⟨b, off, h5, h6⟩
theorem SlcS.keep {S S' : Nat → Prop} {w w' : World} {v : Value} {s n : Nat} {cs : List Value} (hs : 0 < s) (h : SlcS S w v s n cs) (hk : ∀ b, S b → b < w.heap.size → w'.heap[b]? = w.heap[b]? ∧ S' b) : SlcS S' w' v s n cs := by
  obtain ⟨h1, a, cap, h2, h3, h4, h5⟩ := h
  refine ⟨h1, a, cap, h2, h3, h4, ?_⟩
  rcases h5 with h5 | ⟨b, off, h5, hS, h6⟩
  · exact .inl h5
  · by_cases hn : n = 0
    · exact .inl hn
    · have hl : 0 < cs.length := by rw [h1]; exact Nat.mul_pos (Nat.pos_of_ne_zero hn) hs
      have hb := World.block_lt_of_cell? w _ (h6 0 _ (List.getElem?_eq_getElem hl))
      obtain ⟨e, hS'⟩ := hk b hS hb
      refine .inr ⟨b, off, h5, hS', fun j u hj => ?_⟩
      have := h6 j u hj
      unfold World.cell? at this ⊢
      simp only [e]
      exact this
theorem SlcS.of_own {w : World} {B : Nat} {e : TypeId} {s n : Nat} {v : Value} {xs : List Value} (h : w.ownsRow B e s v n xs) : SlcS (fun b => B ≤ b) w v s n xs := by
  refine ⟨h.1, ?_⟩
  rcases h.2 with ⟨rfl, h0⟩ | ⟨g, cap, cur, rfl, hg, hgg, hc, hm, hcs, ht⟩
  · exact ⟨none, 0, by rw [h0], by omega, by unfold maxLen; omega, .inl h0⟩
  · refine ⟨some ⟨g, 0, none⟩, cap, rfl, hc, hm, .inr ⟨g, 0, rfl, hg, fun j u hj => ?_⟩⟩
    rw [Nat.zero_add, h.cellAt j]
    · exact hj
    · have := (List.getElem?_eq_some_iff.1 hj).1
      have := h.1
      omega
end Go.Proofs.YtfabfkaolnidiaaDoor
