/- Walks and lemmas of this seat (FTok1): what each theorem says of the functions that it names. Conditions: those that each theorem states. -/
import Derived.Test.YtkelhmgdajiocaaGreatDoorRows
import Derived.Test.YtkelhmgdajiocaaGreatDoorGA
namespace Go.Proofs.YtkelhmgdajiocaaGreatDoor
set_option linter.unusedVariables false
set_option linter.unusedSimpArgs false
open Go.RowKit

/-! Brackets. -/
def openB (k : Int) : Bool := k == 32 || k == 34 || k == 30
def shutB (k : Int) : Bool := k == 33 || k == 35 || k == 31

theorem implopens_any (k : Int) (w : World) : Calls Tryz.prog 54 #[.int .i64 k] w fun e w' => e = .returned (.bool (openB k)) ∧ w = w' := by
  go_enter Tryz.func54, Tryz.ntmps54
  go_wp2
  all_goals go_ret
  all_goals exact ⟨ret_bool (by unfold openB; simp_all), rfl⟩
theorem implshuts_any (k : Int) (w : World) : Calls Tryz.prog 53 #[.int .i64 k] w fun e w' => e = .returned (.bool (shutB k)) ∧ w = w' := by
  go_enter Tryz.func53, Tryz.ntmps53
  go_wp2
  all_goals go_ret
  all_goals exact ⟨ret_bool (by unfold shutB; simp_all), rfl⟩
/-! Operands. -/
def leafB (k : Int) : Bool := inB k 3 8
theorem implisOperand_any (t : Token) (w : World) : Calls Tryz.prog 38 #[.agg #[.int .i64 t.kind, .string t.text, .int .i64 t.at_]] w fun e w' => e = .returned (.bool (leafB t.kind)) ∧ Below w.heap.size w w' := by
  go_enter Tryz.func38, Tryz.ntmps38
  go_wp2_with (go_at_call 45; refine (implwithin_any _ _ _ _).mono ?_; rintro e w' ⟨rfl, rfl⟩)
  go_ret
  exact ⟨rfl, by repeat (first | exact Below.refl _ _ | refine Below.alloc ?_ (by first | omega | (simp; done) | (simp; omega)) _ | refine Below.drew ?_)⟩

def operands : List Token → Nat
  | [] => 0
  | x :: l => operands l + if leafB x.kind then 1 else 0

theorem ope_next {x : Token} {l : List Token} {n : Nat} {q : Nat} (h : n = q + operands (x :: l)) : (leafB x.kind = true → n = q + 1 + operands l) ∧ (leafB x.kind = false → n = q + operands l) := by
  unfold operands at h
  constructor
  · intro h'; rw [h'] at h; simp at h; omega
  · intro h'; rw [h'] at h; simp at h; omega

/-! Bare. -/
def bare (kind : Int) : List Token → Int → Bool
  | [], _ => false
  | x :: l, d => if (x.kind == kind && (d - if shutB x.kind then 1 else 0) == 0) = true then true
      else bare kind l ((d - if shutB x.kind then 1 else 0) + if openB x.kind then 1 else 0)

end Go.Proofs.YtkelhmgdajiocaaGreatDoor
