/- Walks and lemmas of this seat (FFormN4): what each theorem says of the functions that it names. Conditions: those that each theorem states. -/
import Derived.Test.YtkelhmgdajiocaaGreatDoorGE
namespace Go.Proofs.YtkelhmgdajiocaaGreatDoor
set_option linter.unusedVariables false
set_option linter.unusedSimpArgs false
open Go.RowKit Go.Lib

set_option maxRecDepth 100000 in
set_option maxHeartbeats 3200000 in
theorem implexprForm_4 (op : Int) (text other : ByteArray) (ka : Option Addr) (kn kc : Nat) (w : World) (ht : text.size ≤ 1048576) (hE : WordEnv w) : Calls Tryz.prog 142 #[.agg #[.int .i64 4, .int .i64 op, .string text, .string other, .slice ka kn kc]] w fun e w' => e = .returned (formV 4 op text other false) ∧ Below w.heap.size w w' := by
  have hEr := hid (fun W (hb : Below w.heap.size w W) => implTokenOk_ere text 0 W ht)
  have w2 : IntKind.wrap .i64 2 = 2 := rfl
  have x2 : ∀ w : World, (Instr.index 149 (.agg #[.int .i64 3, .int .i64 4, .int .i64 5]) (.int .i64 2)).run Tryz.prog w = .ok (.int .i64 5) w := fun _ => by kernel_rfl
  go_enter Tryz.func142, Tryz.ntmps142
  go_wp2_with fail
  go_region_law (first | (go_simp; go_at_call 161; refine (hEr.out _ (by repeat (first | exact Below.refl _ _ | refine Below.alloc ?_ (by first | omega | (simp; done) | (simp; omega)) _ | refine Below.drew ?_))).mono ?_; rintro e w9 ⟨rfl, hb9⟩; have hN8 := form_box0 hb9; obtain ⟨z0, z1, z2, z3, z4⟩ := box_cells hN8; have hN9 := form_box hb9; obtain ⟨r0, r1, r2, r3, r4⟩ := box_cells hN9; have f0 := box_frozen hN9))
  all_goals go_wp2
  all_goals refine form_done (formV 4 op text other false) hN9 ?_ rfl ⟨rfl, five_below ((by repeat (first | exact Below.refl _ _ | refine Below.alloc ?_ (by first | omega | (simp; done) | (simp; omega)) _ | refine Below.drew ?_) : Below w.heap.size w _).trans (hb9.mono (by simp; omega))) (by omega)⟩
  all_goals
    intro W hW
    obtain ⟨s0, s1, s2, s3, s4⟩ := box_cells hW
    simp [results, Tryz.results142, go_sem, formV, opOk, textE, saysOf, least, most, isEmp_iff, s0, s1, s2, s3, s4]
end Go.Proofs.YtkelhmgdajiocaaGreatDoor
