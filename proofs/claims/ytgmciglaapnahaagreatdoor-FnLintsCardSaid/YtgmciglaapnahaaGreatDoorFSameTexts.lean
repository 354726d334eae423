/- Walks and lemmas of this seat (FSameTexts): what each theorem says of the functions that it names. Conditions: those that each theorem states. -/
import Derived.Test.YtgmciglaapnahaaGreatDoorGA
import Derived.BigQuiet
import Derived.WalkSmall
namespace Go.Proofs.YtgmciglaapnahaaGreatDoor
set_option linter.unusedVariables false
set_option linter.unusedSimpArgs false
open Go.RowKit

set_option maxRecDepth 100000 in
set_option maxHeartbeats 1600000 in
/-- sameTexts of two slices that read alike. -/
theorem lawssameTexts_self (L : List ByteArray) (u v : Value) (w : World) (hu : Slc w u 1 L.length (L.flatMap str1)) (hv : Slc w v 1 L.length (L.flatMap str1)) :
    Calls Tryz.prog 17 #[u, v] w fun e w' => e = .returned (.bool true) ∧ Below w.heap.size w w' := by
  obtain ⟨_, a, cap, rfl, hcap, hm, hrow⟩ := hu
  obtain ⟨_, b, cap2, rfl, hcap2, hm2, hrow2⟩ := hv
  unfold maxLen at hm hm2
  go_enter Tryz.func17, Tryz.ntmps17
  go_wp2
  go_loopw [5] (fun i wr => ∃ (k : Nat), i = .int .i64 k ∧ k ≤ L.length ∧ Below w.heap.size w wr) (fun i _ => L.length - (intOf i).toNat)
  case atStart => exact ⟨0, rfl, by omega, by repeat (first | exact Below.refl _ _ | refine Below.alloc ?_ (by first | omega | (simp; done) | (simp; omega)) _ | refine Below.drew ?_)⟩
  obtain ⟨k, rfl, hk, hb⟩ := hrel
  by_cases hlt : k < L.length
  · obtain ⟨x, hx⟩ := get_of_lt hlt
    obtain ⟨b1, off1, rfl, hro1⟩ := slc_some hrow (by omega)
    obtain ⟨b2, off2, rfl, hro2⟩ := slc_some hrow2 (by omega)
    have c1 := (hro1.mono hb (Nat.le_refl _)).one str1_len hx rfl
    have c2 := (hro2.mono hb (Nat.le_refl _)).one str1_len hx rfl
    clear hx hro1 hro2 hrow hrow2
    go_wp2_with fail
    go_quiet (fail)
    go_wp2
    all_goals go_roundw
    all_goals first
      | (simp [intOf]; omega)
      | exact ⟨k + 1, by go_num, by omega, below_drewN hb _⟩
  · go_wp2
    go_ret
    exact ⟨rfl, hb⟩
end Go.Proofs.YtgmciglaapnahaaGreatDoor
