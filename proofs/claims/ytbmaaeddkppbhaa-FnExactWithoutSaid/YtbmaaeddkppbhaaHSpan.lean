/- Walks and lemmas of this seat (HSpan): what each theorem says of the functions that it names. Conditions: those that each theorem states. -/
import Derived.Test.YtbmaaeddkppbhaaRows
import Derived.Test.YtbmaaeddkppbhaaLift
namespace Go.Proofs.Ytbmaaeddkppbhaa
set_option linter.unusedVariables false
set_option linter.unusedSimpArgs false
open Go.RowKit


section
open Go.ChangeShapes Go.WideShapes Go.ChangeAt
variable {H : Type} {enc : TypeId × Value → H} {w : World} {spare : Nat → Bool}
theorem Try.cells54d : Try.prog.cellsOf 54 = 2 := by kernel_rfl
theorem decSpan (cs : List Value) (n : Nat) (y : DataW H × List MemPlace) (h : DataW.trod enc Try.prog w 0 spare true n 54 cs = some y) : ∃ x : Span, cs = x.cells ∧ x.Ok := by
  obtain ⟨xs, n', rfl, _, hlen, hxl, hf⟩ := DataW.trod_struct Try.underlying54 h
  obtain ⟨c0, c1, rfl⟩ := list2 (hlen.trans Try.cells54d)
  clear hlen
  have h0 := hf 0 _ rfl
  rw [List.getElem?_eq_getElem (by rw [hxl]; decide)] at h0
  obtain ⟨x0, e0, _, b0⟩ := DataW.trod_int Try.underlying3 h0
  simp [show Try.prog.cellsOf 3 = 1 from by kernel_rfl] at e0
  have h1 := hf 1 _ rfl
  rw [List.getElem?_eq_getElem (by rw [hxl]; decide)] at h1
  obtain ⟨x1, e1, _, b1⟩ := DataW.trod_int Try.underlying3 h1
  simp [show Try.prog.cellsOf 3 = 1 from by kernel_rfl] at e1
  subst e0 e1
  exact ⟨⟨x0, x1⟩, rfl, ⟨I64.of_wf b0, I64.of_wf b1⟩⟩
theorem open_Span {v : Value} {d : DataW H} {ps : List MemPlace} {r : Reach} {b0 : Nat} (hv : Value.okWide Try.prog w r b0 54 v) (h : DataW.Trod enc Try.prog w 0 spare true 54 v d ps) : ∃ x : Span, v = .agg #[.int .i64 x.lo, .int .i64 x.hi] ∧ x.Ok := by
  obtain ⟨cs, rfl, _⟩ := okWide_struct Try.underlying54 hv
  obtain ⟨fuel, hf⟩ := h
  obtain ⟨x, hx, ok⟩ := decSpan _ _ _ hf
  refine ⟨x, ?_, ok⟩
  have : cs = x.cells.toArray := by rw [← hx]; simp [Value.cells]
  rw [this]; rfl
end


theorem toSpan_any (x : Span) (w : World) :
    Calls Try.prog 46 #[.agg #[.int .i64 x.lo, .int .i64 x.hi]] w fun e w' => e = .returned (.agg #[.int .i64 x.lo, .int .i64 x.hi]) ∧ Below w.heap.size w w' := by
  go_enter Try.func46, Try.ntmps46
  go_wp2
  refine bodyPost_ret (v := .agg #[.int .i64 x.lo, .int .i64 x.hi]) (by simp [results, Try.results46, go_sem]) rfl ⟨rfl, ?_⟩
  exact (by repeat (first | exact Below.refl _ _ | refine Below.alloc ?_ (by first | omega | (simp; done) | (simp; omega)) _ | refine Below.drew ?_))

end Go.Proofs.Ytbmaaeddkppbhaa
