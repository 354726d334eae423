/- Walks and lemmas of this seat (FTokApp): what each theorem says of the functions that it names. Conditions: those that each theorem states. -/
import Derived.Test.YtkelhmgdajiocaaGreatDoorFSpellA
import Derived.Laws.OwnMore
namespace Go.Proofs.YtkelhmgdajiocaaGreatDoor
set_option linter.unusedVariables false
set_option linter.unusedSimpArgs false
open Go.RowKit

/-! Rows of tokens: a row of one's own, and what is put behind it. -/
/-- A row of tokens of one's own in new memory. -/
structure TokAt (w wr : World) (v : Value) (L : List Token) : Prop where
  hb : Below w.heap.size w wr
  own : wr.ownsRow w.heap.size 50 3 v L.length (L.flatMap Token.cells)
theorem TokAt.below {w wr w' : World} {v : Value} {L : List Token} (h : TokAt w wr v L) (hb : Below wr.heap.size wr w') : TokAt w w' v L := ⟨h.hb.trans (hb.mono h.hb.size), own_below h.own hb (Nat.le_refl _)⟩
theorem TokAt.drew {w wr : World} {v : Value} {L : List Token} (h : TokAt w wr v L) : TokAt w wr.drew v L := h.below (Below.refl _ _).drew
theorem TokAt.alloc {w wr : World} {v : Value} {L : List Token} (h : TokAt w wr v L) (o : Obj) : TokAt w (wr.alloc o) v L := h.below ((Below.refl _ _).alloc (Nat.le_refl _) o)
/-- From an elder world. -/
theorem TokAt.elder {w0 w wr : World} {v : Value} {L : List Token} (h : TokAt w wr v L) (hb : Below w0.heap.size w0 w) : TokAt w0 wr v L := ⟨hb.trans (h.hb.mono hb.size), own_base h.own hb.size⟩
theorem TokAt.lit {w wr : World} (hb : Below w.heap.size w wr) (L : List Token) (hl : L.length ≤ 1000000) (cs : Array Value) (hcs : cs.toList = L.flatMap Token.cells) : TokAt w (wr.alloc (.cells cs 50)) (.slice (some ⟨wr.heap.size, 0, none⟩) L.length L.length) L := by
  refine ⟨hb.alloc hb.size _, ?_⟩
  rw [← hcs]
  refine World.ownsRow_lit wr cs L.length hb.size (by unfold maxLen; omega) ?_
  rw [← Array.length_toList, hcs]
  exact flat_len Token.cells 3 Token.len L
theorem TokAt.shape {w wr : World} {v : Value} {L : List Token} (h : TokAt w wr v L) : ∃ a cap, v = .slice a L.length cap ∧ cap ≤ 9223372036854775807 := by
  obtain ⟨a, cap, e, hm⟩ := own_slice h.own
  exact ⟨a, cap, e, by unfold maxLen at hm; omega⟩
theorem TokAt.grown {w wr w' : World} {v v' : Value} {L R : List Token} (h : TokAt w wr v L) (hown : w'.ownsRow w.heap.size 50 3 v' (L.length + R.length) (L.flatMap Token.cells ++ R.flatMap Token.cells)) (hg : wr.grownBy w' v.ownBlock) : TokAt w w' v' (L ++ R) := by
  refine ⟨h.hb.grown hg h.hb.size (fun r e => (h.own.lt r e).1), ?_⟩
  rw [List.length_append, List.flatMap_append]
  exact hown
section
variable {ops : Array Oper} {rest : List Oper} {o : Oper} {a : Act} {Q : Exit → Act → World → Prop} {K : Act → World → Prop} {E : Prop} {w wr wB : World}
end
end Go.Proofs.YtkelhmgdajiocaaGreatDoor
