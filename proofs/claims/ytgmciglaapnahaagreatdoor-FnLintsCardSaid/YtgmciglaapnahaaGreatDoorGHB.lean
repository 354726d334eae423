/- Walks and lemmas of this seat (HByte): what each theorem says of the functions that it names. Conditions: those that each theorem states. -/
import Derived.Test.YtgmciglaapnahaaGreatDoorGA
namespace Go.Proofs.YtgmciglaapnahaaGreatDoor
set_option linter.unusedVariables false
set_option linter.unusedSimpArgs false
open Go.RowKit
section
open Go.ChangeShapes Go.WideShapes Go.ChangeAt
theorem decByte {H : Type} {enc : TypeId × Value → H} {w : World} {spare : Nat → Bool} (cs : List Value) (n : Nat) (y : DataW H × List MemPlace) (h : DataW.trod enc Tryz.prog w 0 spare true n 5 cs = some y) : ∃ x : UInt8, cs = byte1 x ∧ True := by
  obtain ⟨s, rfl, _, hs⟩ := DataW.trod_int Tryz.underlying5 h
  have hr : 0 ≤ s ∧ s < 256 := by simp [Lit.wf, IntKind.min, IntKind.max, IntKind.signed, IntKind.bits] at hs; omega
  refine ⟨UInt8.ofNat s.toNat, ?_, trivial⟩
  unfold byte1
  rw [UInt8.toNat_ofNat']
  congr 2
  omega
end
theorem lawsbig_any (v : Value) (bs : List UInt8) (w : World) (hc : Slc w v 1 bs.length (bs.flatMap byte1)) :
    Calls Tryz.prog 14 #[v] w fun e w' => e = .returned (.bool (decide (1048576 < bs.length))) ∧ w' = w := by
  obtain ⟨_, a, cap, rfl, hcap, hm, hrow⟩ := hc
  unfold maxLen at hm
  go_enter Tryz.func14, Tryz.ntmps14
  go_wp2
  go_ret
  exact ⟨ret_bool (by simp; omega), rfl⟩
end Go.Proofs.YtgmciglaapnahaaGreatDoor
