/- Walks and lemmas of this seat (PGlobals): what each theorem says of the functions that it names. Conditions: those that each theorem states. -/
import Derived.Test.YtgmciglaapnahaaGreatDoorGUU
import Derived.Test.YtgmciglaapnahaaGreatDoorGW
import Derived.Test.YtgmciglaapnahaaGreatDoorGU
import Derived.Test.YtgmciglaapnahaaGreatDoorGP
import Derived.Test.YtgmciglaapnahaaGreatDoorGR
import Derived.Deep.AppendLies
namespace Go.Proofs.YtgmciglaapnahaaGreatDoor
set_option linter.unusedVariables false
set_option linter.unusedSimpArgs false
open Go.RowKit Go.Lib

/-! The names that are not a function's own. -/
end Go.Proofs.YtgmciglaapnahaaGreatDoor
/- Walks and lemmas of this seat (FGlobalsS): what each theorem says of the functions that it names. Conditions: those that each theorem states. -/
namespace Go.Proofs.YtgmciglaapnahaaGreatDoor
set_option linter.unusedVariables false
set_option linter.unusedSimpArgs false
open Go.RowKit Go.Lib

end Go.Proofs.YtgmciglaapnahaaGreatDoor
/- Walks and lemmas of this seat (FGlobalsI): what each theorem says of the functions that it names. Conditions: those that each theorem states. -/
namespace Go.Proofs.YtgmciglaapnahaaGreatDoor
set_option linter.unusedVariables false
set_option linter.unusedSimpArgs false
open Go.RowKit Go.Lib

theorem containsS_slc (PL : List ByteArray) (pv : Value) (s : ByteArray) (W : World) (hn : PL.length ≤ 9223372036854775807) (h : Slc W pv 1 PL.length (PL.flatMap str1)) :
    Calls Tryz.prog 91 #[pv, .string s] W fun e w' => e = .returned (.bool (hasT PL s)) ∧ w' = W := by
  obtain ⟨_, pa, pc, rfl, hc, hm, hrow⟩ := h
  by_cases h0 : PL.length = 0
  · have hP : PL = [] := List.eq_nil_of_length_eq_zero h0
    subst hP
    exact Tryz.slices_Contains_string_empty pa pc s W
  · obtain ⟨b, off, rfl, hro⟩ := hrow.resolve_left h0
    have hhas := Tryz.slices_Contains_string b off PL.length pc PL s W (Nat.le_refl _) hn (fun j hj => by
      obtain ⟨y, hy⟩ := get_of_lt hj
      rw [hro.one str1_len hy rfl, List.getD_eq_getElem?_getD, hy]; rfl)
    have hcon : containsS (PL.take PL.length) s = hasT PL s := by rw [List.take_length]; unfold containsS; rw [idx_find]; exact find_has s PL
    rw [hcon] at hhas
    exact hhas

end Go.Proofs.YtgmciglaapnahaaGreatDoor
/- Walks and lemmas of this seat (FGlobals): what each theorem says of the functions that it names. Conditions: those that each theorem states. -/
namespace Go.Proofs.YtgmciglaapnahaaGreatDoor
set_option linter.unusedVariables false
set_option linter.unusedSimpArgs false
open Go.RowKit Go.Lib

end Go.Proofs.YtgmciglaapnahaaGreatDoor
