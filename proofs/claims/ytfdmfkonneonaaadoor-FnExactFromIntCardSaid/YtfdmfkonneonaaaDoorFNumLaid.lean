/- Walks and lemmas of this seat (FNumLaid): what each theorem says of the functions that it names. Conditions: those that each theorem states. -/
import Derived.Test.YtfdmfkonneonaaaDoorFNumeral
import Derived.Test.YtfdmfkonneonaaaDoorRows
import Derived.Stop.LaidErr
import Derived.MakeChecks
namespace Go.Proofs.YtfdmfkonneonaaaDoor
set_option linter.unusedVariables false
set_option linter.unusedSimpArgs false
open Go.RowKit Go.Lib

/-! What the listed variables of a card give a walk. -/
theorem starErr : "*" ++ "errors.errorString" = "*errors.errorString" := by decide
theorem rowErr (u : TypeId) (h : Tryd.prog.typeName? 3 u = some "*errors.errorString") : u = 78 :=
  typeName_ptr_named (nm := "errors.errorString") (by rw [starErr]; kernel_rfl) (by kernel_rfl) (by decide) u (by rw [starErr]; exact h)
theorem gES : Tryd.prog.globalNamed "strconv.ErrSyntax" = some 0 := by kernel_rfl
theorem gER : Tryd.prog.globalNamed "strconv.ErrRange" = some 1 := by kernel_rfl
theorem gESType : (Tryd.prog.globals[0]?).map (·.type) = some 50 := by kernel_rfl
theorem gERType : (Tryd.prog.globals[1]?).map (·.type) = some 50 := by kernel_rfl
theorem gPowType : (Tryd.prog.globals[2]?).map (·.type) = some 83 := by kernel_rfl
theorem cellsErr : Tryd.prog.cellsOf 80 = 1 := by kernel_rfl
theorem cellsStr : Tryd.prog.cellsOf 9 = 1 := by kernel_rfl
theorem powEnv_of {W : World} {r : List (String × DataW Unit)} (h : laidMet Tryd.prog (("internal/strconv.uint64pow10", Rows.laid_internal_strconv_uint64pow10) :: r) W) : PowEnv W :=
  tabIs_of_head (k := .u64) (zs := pow10Tab) gPow gPowType Tryd.underlying83 Tryd.underlying63 (by kernel_rfl) (by kernel_rfl) h
theorem numEnv_of {W : World} {a b : String × DataW Unit} (hL : laidMet Tryd.prog [a, b, ("internal/strconv.uint64pow10", Rows.laid_internal_strconv_uint64pow10), ("strconv.ErrRange", Rows.laid_strconv_ErrRange), ("strconv.ErrSyntax", Rows.laid_strconv_ErrSyntax)] W) : NumEnv W := by
  have h2 := hL.tail.tail
  obtain ⟨a1, s1, hv1, -, -, -⟩ := laid_sentinel h2.tail gER gERType Tryd.underlying50 rowErr Tryd.underlying78 Tryd.underlying80 rfl rfl Tryd.underlying9 cellsErr cellsStr
  obtain ⟨a0, s0, hv0, -, -, -⟩ := laid_sentinel h2.tail.tail gES gESType Tryd.underlying50 rowErr Tryd.underlying78 Tryd.underlying80 rfl rfl Tryd.underlying9 cellsErr cellsStr
  exact ⟨powEnv_of h2, ⟨_, by have h0 := World.var?_cell gES hv0 0; simpa using h0, Or.inr ⟨_, _, rfl⟩⟩, ⟨_, by have h0 := World.var?_cell gER hv1 0; simpa using h0, Or.inr ⟨_, _, rfl⟩⟩⟩
theorem powEnv_of3 {W : World} {a b : String × DataW Unit} (hL : laidMet Tryd.prog [a, b, ("internal/strconv.uint64pow10", Rows.laid_internal_strconv_uint64pow10)] W) : PowEnv W := powEnv_of hL.tail.tail
end Go.Proofs.YtfdmfkonneonaaaDoor
