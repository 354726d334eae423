/- Walks and lemmas of this seat (PSpellLaw): what each theorem says of the functions that it names. Conditions: those that each theorem states. -/
import Derived.Test.YtkelhmgdajiocaaGreatDoorGSP
import Derived.Test.YtkelhmgdajiocaaGreatDoorFTok1
namespace Go.Proofs.YtkelhmgdajiocaaGreatDoor
set_option linter.unusedVariables false
set_option linter.unusedSimpArgs false
open Go.RowKit

/-! What the written form of an expression is like: its operands, its brackets, its first token. -/
mutual
/-- The tokens with texts of their own. -/
def Tree.yield : Tree → List Token
  | .mk k _ a _ l => (if k = 5 then [⟨6, a, 0⟩] else if k = 7 then [⟨7, a, 0⟩] else if k = 8 then [⟨8, a, 0⟩] else []) ++ (Tree.yieldL l ++ ((if k = 13 then [⟨6, a, 0⟩] else []) ++ (if (leafTok k a).kind = 0 then [] else [leafTok k a])))
def Tree.yieldL : List Tree → List Token
  | [] => []
  | t :: l => t.yield ++ Tree.yieldL l
end
/-! Brackets. -/
def Bal (kind : Int) (l : List Token) : Prop := ∀ (d : Int) (rest : List Token), 1 ≤ d → bare kind (l ++ rest) d = bare kind rest d
def Non (kind : Int) (l : List Token) : Prop := ∀ (rest : List Token), bare kind (l ++ rest) 0 = bare kind rest 0
theorem Bal.nil (kind : Int) : Bal kind [] := fun _ _ _ => rfl
theorem Non.nil (kind : Int) : Non kind [] := fun _ => rfl
theorem Bal.app {kind : Int} {a b : List Token} (ha : Bal kind a) (hb : Bal kind b) : Bal kind (a ++ b) := fun d rest h => by rw [List.append_assoc, ha d _ h, hb d _ h]
theorem Non.app {kind : Int} {a b : List Token} (ha : Non kind a) (hb : Non kind b) : Non kind (a ++ b) := fun rest => by rw [List.append_assoc, ha, hb]
theorem Bal.one {kind : Int} {x : Token} (h1 : openB x.kind = false) (h2 : shutB x.kind = false) : Bal kind [x] := fun d rest h => by
  show bare kind (x :: rest) d = _
  rw [bare, h1, h2]
  have : (d - 0 == 0) = false := by simp; omega
  simp [this]
  intro h3 h4
  omega
theorem Non.one {kind : Int} {x : Token} (h1 : openB x.kind = false) (h2 : shutB x.kind = false) (h : x.kind ≠ kind) : Non kind [x] := fun rest => by
  show bare kind (x :: rest) 0 = _
  rw [bare, h1, h2]
  simp [h]
/-! The first token. -/
def beginsB (k : Int) : Bool := k == 3 || k == 4 || k == 6 || k == 7 || k == 8 || k == 32 || k == 68
def Begins (l : List Token) : Prop := ∃ x r, l = x :: r ∧ beginsB x.kind = true
theorem Begins.app {a b : List Token} (h : Begins a) : Begins (a ++ b) := by
  obtain ⟨x, r, rfl, h2⟩ := h
  exact ⟨x, r ++ b, rfl, h2⟩
end Go.Proofs.YtkelhmgdajiocaaGreatDoor
