/- Walks and lemmas of this seat (HPos): what each theorem says of the functions that it names. Conditions: those that each theorem states. -/
import Derived.Test.YtkelhmgdajiocaaGreatDoorRows
import Derived.Test.YtkelhmgdajiocaaGreatDoorGA
namespace Go.Proofs.YtkelhmgdajiocaaGreatDoor
set_option linter.unusedVariables false
set_option linter.unusedSimpArgs false
open Go.RowKit


section
open Go.ChangeShapes Go.WideShapes Go.ChangeAt
variable {H : Type} {enc : TypeId × Value → H} {w : World} {spare : Nat → Bool}
theorem Tryz.cells34d : Tryz.prog.cellsOf 34 = 5 := by kernel_rfl
set_option maxRecDepth 100000 in
theorem decPos (cs : List Value) (n : Nat) (y : DataW H × List MemPlace) (h : DataW.trod enc Tryz.prog w 0 spare true n 34 cs = some y) : ∃ x : Pos, cs = x.cells ∧ x.Ok := by
  obtain ⟨xs, n', rfl, _, hlen, hxl, hf⟩ := DataW.trod_struct Tryz.underlying34 h
  obtain ⟨c0, c1, c2, c3, c4, rfl⟩ := list5 (hlen.trans Tryz.cells34d)
  clear hlen
  have h0 := hf 0 _ rfl
  rw [List.getElem?_eq_getElem (by rw [hxl]; decide)] at h0
  obtain ⟨x0, e0, _, b0⟩ := DataW.trod_int Tryz.underlying3 h0
  simp [show Tryz.prog.cellsOf 3 = 1 from by kernel_rfl] at e0
  have h1 := hf 1 _ rfl
  rw [List.getElem?_eq_getElem (by rw [hxl]; decide)] at h1
  obtain ⟨x1, e1, _⟩ := DataW.trod_bool Tryz.underlying4 h1
  simp [show Tryz.prog.cellsOf 4 = 1 from by kernel_rfl] at e1
  have h2 := hf 2 _ rfl
  rw [List.getElem?_eq_getElem (by rw [hxl]; decide)] at h2
  obtain ⟨x2, e2, _⟩ := DataW.trod_bool Tryz.underlying4 h2
  simp [show Tryz.prog.cellsOf 4 = 1 from by kernel_rfl] at e2
  have h3 := hf 3 _ rfl
  rw [List.getElem?_eq_getElem (by rw [hxl]; decide)] at h3
  obtain ⟨x3, e3, _⟩ := DataW.trod_bool Tryz.underlying4 h3
  simp [show Tryz.prog.cellsOf 4 = 1 from by kernel_rfl] at e3
  have h4 := hf 4 _ rfl
  rw [List.getElem?_eq_getElem (by rw [hxl]; decide)] at h4
  obtain ⟨x4, e4, _⟩ := DataW.trod_bool Tryz.underlying4 h4
  simp [show Tryz.prog.cellsOf 4 = 1 from by kernel_rfl] at e4
  subst e0 e1 e2 e3 e4
  exact ⟨⟨x0, x1, x2, x3, x4⟩, rfl, I64.of_wf b0⟩
set_option maxRecDepth 100000 in
theorem open_Pos {v : Value} {d : DataW H} {ps : List MemPlace} {r : Reach} {b0 : Nat} (hv : Value.okWide Tryz.prog w r b0 34 v) (h : DataW.Trod enc Tryz.prog w 0 spare true 34 v d ps) : ∃ x : Pos, v = .agg #[.int .i64 x.level, .bool x.dollar, .bool x.noIn, .bool x.noGt, .bool x.noSign] ∧ x.Ok := by
  obtain ⟨cs, rfl, _⟩ := okWide_struct Tryz.underlying34 hv
  obtain ⟨fuel, hf⟩ := h
  obtain ⟨x, hx, ok⟩ := decPos _ _ _ hf
  refine ⟨x, ?_, ok⟩
  have : cs = x.cells.toArray := by rw [← hx]; simp [Value.cells]
  rw [this]; rfl
end


set_option maxRecDepth 100000 in
theorem toPos_any (x : Pos) (w : World) :
    Calls Tryz.prog 18 #[.agg #[.int .i64 x.level, .bool x.dollar, .bool x.noIn, .bool x.noGt, .bool x.noSign]] w fun e w' => e = .returned (.agg #[.int .i64 x.level, .bool x.dollar, .bool x.noIn, .bool x.noGt, .bool x.noSign]) ∧ Below w.heap.size w w' := by
  go_enter Tryz.func18, Tryz.ntmps18
  go_wp2
  refine bodyPost_ret (v := .agg #[.int .i64 x.level, .bool x.dollar, .bool x.noIn, .bool x.noGt, .bool x.noSign]) (by simp [results, Tryz.results18, go_sem]) rfl ⟨rfl, ?_⟩
  exact (by repeat (first | exact Below.refl _ _ | refine Below.alloc ?_ (by first | omega | (simp; done) | (simp; omega)) _ | refine Below.drew ?_))

end Go.Proofs.YtkelhmgdajiocaaGreatDoor
/- Walks and lemmas of this seat (HTokenM): what each theorem says of the functions that it names. Conditions: those that each theorem states. -/
namespace Go.Proofs.YtkelhmgdajiocaaGreatDoor
set_option linter.unusedVariables false
set_option linter.unusedSimpArgs false
open Go.RowKit


end Go.Proofs.YtkelhmgdajiocaaGreatDoor
/- Walks and lemmas of this seat (HToken): what each theorem says of the functions that it names. Conditions: those that each theorem states. -/
namespace Go.Proofs.YtkelhmgdajiocaaGreatDoor
set_option linter.unusedVariables false
set_option linter.unusedSimpArgs false
open Go.RowKit
set_option maxRecDepth 100000


section
open Go.ChangeShapes Go.WideShapes Go.ChangeAt
variable {H : Type} {enc : TypeId × Value → H} {w : World} {spare : Nat → Bool}
end


end Go.Proofs.YtkelhmgdajiocaaGreatDoor
/- Walks and lemmas of this seat (HIntM): what each theorem says of the functions that it names. Conditions: those that each theorem states. -/
namespace Go.Proofs.YtkelhmgdajiocaaGreatDoor
set_option linter.unusedVariables false
set_option linter.unusedSimpArgs false
open Go.RowKit



end Go.Proofs.YtkelhmgdajiocaaGreatDoor
/- Walks and lemmas of this seat (HNodeM): what each theorem says of the functions that it names. Conditions: those that each theorem states. -/

namespace Go.Proofs.YtkelhmgdajiocaaGreatDoor
set_option linter.unusedVariables false
set_option linter.unusedSimpArgs false
open Go.RowKit


/-- The raw form of such a slice of the call's own. -/
def RawNode (w : World) (lo hi : Nat) (v : Value) (q : List (Node × Value)) : Prop :=
  RawN 3 w 58 5 lo hi v q.length (q.flatMap Node.cells) (q.map fun p => (p.2, p.1.kids))
theorem RawNode.own {w : World} {lo hi : Nat} {v : Value} {q : List (Node × Value)} (h : RawNode w lo hi v q) : OwnNode w lo hi v (q.map Prod.fst) := by
  refine ⟨q, rfl, h.row, fun p hp => h.kids (p.2, p.1.kids) (List.mem_map.2 ⟨p, hp, rfl⟩), ?_⟩
  have := h.apart
  simpa [Function.comp_def] using this
theorem OwnNode.raw {w : World} {lo hi : Nat} {v : Value} {l : List Node} (h : OwnNode w lo hi v l) : ∃ q, q.map Prod.fst = l ∧ RawNode w lo hi v q := by
  obtain ⟨q, h1, h2, h3, h4⟩ := h
  refine ⟨q, h1, h2, fun p hp => ?_, by simpa [Function.comp_def] using h4⟩
  obtain ⟨p', hp', rfl⟩ := List.mem_map.1 hp
  exact h3 p' hp'
end Go.Proofs.YtkelhmgdajiocaaGreatDoor
