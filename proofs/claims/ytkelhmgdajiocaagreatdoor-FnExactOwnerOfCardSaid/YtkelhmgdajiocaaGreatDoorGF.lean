/- Walks and lemmas of this seat (FForm): what each theorem says of the functions that it names. Conditions: those that each theorem states. -/
import Derived.Test.YtkelhmgdajiocaaGreatDoorGE
namespace Go.Proofs.YtkelhmgdajiocaaGreatDoor
set_option linter.unusedVariables false
set_option linter.unusedSimpArgs false
open Go.RowKit Go.Lib

set_option maxRecDepth 100000 in
set_option maxHeartbeats 3200000 in
theorem implexprForm_1 (op : Int) (text other : ByteArray) (ka : Option Addr) (kn kc : Nat) (w : World) (ht : text.size ≤ 1048576) (hE : WordEnv w) : Calls Tryz.prog 142 #[.agg #[.int .i64 1, .int .i64 op, .string text, .string other, .slice ka kn kc]] w fun e w' => e = .returned (formV 1 op text other false) ∧ Below w.heap.size w w' := by
  have hNm := hid (fun W (hb : Below w.heap.size w W) => implNameOk_any text W ht (hE.below hb))
  go_enter Tryz.func142, Tryz.ntmps142
  go_wp2_with fail
  go_region_law (first | (go_simp; go_at_call 160; refine (hNm.out _ (by repeat (first | exact Below.refl _ _ | refine Below.alloc ?_ (by first | omega | (simp; done) | (simp; omega)) _ | refine Below.drew ?_))).mono ?_; rintro e w9 ⟨rfl, rfl⟩))
  all_goals go_wp2
  all_goals refine bodyPost_ret (v := formV 1 op text other false) ?_ rfl ⟨rfl, by repeat (first | exact Below.refl _ _ | refine Below.alloc ?_ (by first | omega | (simp; done) | (simp; omega)) _ | refine Below.drew ?_)⟩
  all_goals first | (simp [results, Tryz.results142, go_sem, formV, opOk, textE, saysOf, least, most, isEmp_iff]; done) | (simp_all [results, Tryz.results142, go_sem, formV, opOk, textE, saysOf, least, most, isEmp_iff]; done)
set_option maxRecDepth 100000 in
set_option maxHeartbeats 3200000 in
theorem implexprForm_5 (op : Int) (text other : ByteArray) (ka : Option Addr) (kn kc : Nat) (w : World) (ht : text.size ≤ 1048576) (hE : WordEnv w) : Calls Tryz.prog 142 #[.agg #[.int .i64 5, .int .i64 op, .string text, .string other, .slice ka kn kc]] w fun e w' => e = .returned (formV 5 op text other false) ∧ Below w.heap.size w w' := by
  have hNm := hid (fun W (hb : Below w.heap.size w W) => implNameOk_any text W ht (hE.below hb))
  go_enter Tryz.func142, Tryz.ntmps142
  go_wp2_with fail
  go_region_law (first | (go_simp; go_at_call 160; refine (hNm.out _ (by repeat (first | exact Below.refl _ _ | refine Below.alloc ?_ (by first | omega | (simp; done) | (simp; omega)) _ | refine Below.drew ?_))).mono ?_; rintro e w9 ⟨rfl, rfl⟩))
  all_goals go_wp2
  all_goals refine bodyPost_ret (v := formV 5 op text other false) ?_ rfl ⟨rfl, by repeat (first | exact Below.refl _ _ | refine Below.alloc ?_ (by first | omega | (simp; done) | (simp; omega)) _ | refine Below.drew ?_)⟩
  all_goals first | (simp [results, Tryz.results142, go_sem, formV, opOk, textE, saysOf, least, most, isEmp_iff]; done) | (simp_all [results, Tryz.results142, go_sem, formV, opOk, textE, saysOf, least, most, isEmp_iff]; done)
set_option maxRecDepth 100000 in
set_option maxHeartbeats 3200000 in
theorem implexprForm_6 (op : Int) (text other : ByteArray) (ka : Option Addr) (kn kc : Nat) (w : World) (ht : text.size ≤ 1048576) (hE : WordEnv w) : Calls Tryz.prog 142 #[.agg #[.int .i64 6, .int .i64 op, .string text, .string other, .slice ka kn kc]] w fun e w' => e = .returned (formV 6 op text other false) ∧ Below w.heap.size w w' := by
  go_enter Tryz.func142, Tryz.ntmps142
  go_wp2_with fail
  all_goals refine bodyPost_ret (v := formV 6 op text other false) ?_ rfl ⟨rfl, by repeat (first | exact Below.refl _ _ | refine Below.alloc ?_ (by first | omega | (simp; done) | (simp; omega)) _ | refine Below.drew ?_)⟩
  all_goals first | (simp [results, Tryz.results142, go_sem, formV, opOk, textE, saysOf, least, most, isEmp_iff]; done) | (simp_all [results, Tryz.results142, go_sem, formV, opOk, textE, saysOf, least, most, isEmp_iff]; done)
set_option maxRecDepth 100000 in
set_option maxHeartbeats 3200000 in
theorem implexprForm_7 (op : Int) (text other : ByteArray) (ka : Option Addr) (kn kc : Nat) (w : World) (ht : text.size ≤ 1048576) (hE : WordEnv w) : Calls Tryz.prog 142 #[.agg #[.int .i64 7, .int .i64 op, .string text, .string other, .slice ka kn kc]] w fun e w' => e = .returned (formV 7 op text other false) ∧ Below w.heap.size w w' := by
  have hNm := hid (fun W (hb : Below w.heap.size w W) => implNameOk_any text W ht (hE.below hb))
  go_enter Tryz.func142, Tryz.ntmps142
  go_wp2_with fail
  go_region_law (first | (go_simp; go_at_call 160; refine (hNm.out _ (by repeat (first | exact Below.refl _ _ | refine Below.alloc ?_ (by first | omega | (simp; done) | (simp; omega)) _ | refine Below.drew ?_))).mono ?_; rintro e w9 ⟨rfl, rfl⟩))
  all_goals go_wp2
  all_goals refine bodyPost_ret (v := formV 7 op text other false) ?_ rfl ⟨rfl, by repeat (first | exact Below.refl _ _ | refine Below.alloc ?_ (by first | omega | (simp; done) | (simp; omega)) _ | refine Below.drew ?_)⟩
  all_goals first | (simp [results, Tryz.results142, go_sem, formV, opOk, textE, saysOf, least, most, isEmp_iff]; done) | (simp_all [results, Tryz.results142, go_sem, formV, opOk, textE, saysOf, least, most, isEmp_iff]; done)
set_option maxRecDepth 100000 in
set_option maxHeartbeats 3200000 in
theorem implexprForm_8 (op : Int) (text other : ByteArray) (ka : Option Addr) (kn kc : Nat) (w : World) (ht : text.size ≤ 1048576) (hE : WordEnv w) : Calls Tryz.prog 142 #[.agg #[.int .i64 8, .int .i64 op, .string text, .string other, .slice ka kn kc]] w fun e w' => e = .returned (formV 8 op text other false) ∧ Below w.heap.size w w' := by
  have hBl := hid (fun W (hb : Below w.heap.size w W) => implIsBuiltin_any text W (hE.below hb))
  go_enter Tryz.func142, Tryz.ntmps142
  go_wp2_with fail
  go_region_law (first | (go_simp; go_at_call 162; refine (hBl.out _ (by repeat (first | exact Below.refl _ _ | refine Below.alloc ?_ (by first | omega | (simp; done) | (simp; omega)) _ | refine Below.drew ?_))).mono ?_; rintro e w9 ⟨rfl, rfl⟩))
  all_goals go_wp2
  all_goals refine bodyPost_ret (v := formV 8 op text other false) ?_ rfl ⟨rfl, by repeat (first | exact Below.refl _ _ | refine Below.alloc ?_ (by first | omega | (simp; done) | (simp; omega)) _ | refine Below.drew ?_)⟩
  all_goals first | (simp [results, Tryz.results142, go_sem, formV, opOk, textE, saysOf, least, most, isEmp_iff]; done) | (simp_all [results, Tryz.results142, go_sem, formV, opOk, textE, saysOf, least, most, isEmp_iff]; done)
set_option maxRecDepth 100000 in
set_option maxHeartbeats 3200000 in
theorem implexprForm_9 (op : Int) (text other : ByteArray) (ka : Option Addr) (kn kc : Nat) (w : World) (ht : text.size ≤ 1048576) (hE : WordEnv w) : Calls Tryz.prog 142 #[.agg #[.int .i64 9, .int .i64 op, .string text, .string other, .slice ka kn kc]] w fun e w' => e = .returned (formV 9 op text other false) ∧ Below w.heap.size w w' := by
  have hSp := hid (fun W (hb : Below w.heap.size w W) => implisStep_any op W)
  go_enter Tryz.func142, Tryz.ntmps142
  go_wp2_with fail
  go_region_law (first | (go_simp; go_at_call 163; refine (hSp.out _ (by repeat (first | exact Below.refl _ _ | refine Below.alloc ?_ (by first | omega | (simp; done) | (simp; omega)) _ | refine Below.drew ?_))).mono ?_; rintro e w9 ⟨rfl, rfl⟩))
  all_goals go_wp2
  all_goals refine bodyPost_ret (v := formV 9 op text other false) ?_ rfl ⟨rfl, by repeat (first | exact Below.refl _ _ | refine Below.alloc ?_ (by first | omega | (simp; done) | (simp; omega)) _ | refine Below.drew ?_)⟩
  all_goals first | (simp [results, Tryz.results142, go_sem, formV, opOk, textE, saysOf, least, most, isEmp_iff]; done) | (simp_all [results, Tryz.results142, go_sem, formV, opOk, textE, saysOf, least, most, isEmp_iff]; done)
set_option maxRecDepth 100000 in
set_option maxHeartbeats 3200000 in
theorem implexprForm_10 (op : Int) (text other : ByteArray) (ka : Option Addr) (kn kc : Nat) (w : World) (ht : text.size ≤ 1048576) (hE : WordEnv w) : Calls Tryz.prog 142 #[.agg #[.int .i64 10, .int .i64 op, .string text, .string other, .slice ka kn kc]] w fun e w' => e = .returned (formV 10 op text other false) ∧ Below w.heap.size w w' := by
  have hSp := hid (fun W (hb : Below w.heap.size w W) => implisStep_any op W)
  go_enter Tryz.func142, Tryz.ntmps142
  go_wp2_with fail
  go_region_law (first | (go_simp; go_at_call 163; refine (hSp.out _ (by repeat (first | exact Below.refl _ _ | refine Below.alloc ?_ (by first | omega | (simp; done) | (simp; omega)) _ | refine Below.drew ?_))).mono ?_; rintro e w9 ⟨rfl, rfl⟩))
  all_goals go_wp2
  all_goals refine bodyPost_ret (v := formV 10 op text other false) ?_ rfl ⟨rfl, by repeat (first | exact Below.refl _ _ | refine Below.alloc ?_ (by first | omega | (simp; done) | (simp; omega)) _ | refine Below.drew ?_)⟩
  all_goals first | (simp [results, Tryz.results142, go_sem, formV, opOk, textE, saysOf, least, most, isEmp_iff]; done) | (simp_all [results, Tryz.results142, go_sem, formV, opOk, textE, saysOf, least, most, isEmp_iff]; done)
set_option maxRecDepth 100000 in
set_option maxHeartbeats 3200000 in
theorem implexprForm_11 (op : Int) (text other : ByteArray) (ka : Option Addr) (kn kc : Nat) (w : World) (ht : text.size ≤ 1048576) (hE : WordEnv w) : Calls Tryz.prog 142 #[.agg #[.int .i64 11, .int .i64 op, .string text, .string other, .slice ka kn kc]] w fun e w' => e = .returned (formV 11 op text other false) ∧ Below w.heap.size w w' := by
  go_enter Tryz.func142, Tryz.ntmps142
  go_wp2_with fail
  all_goals refine bodyPost_ret (v := formV 11 op text other false) ?_ rfl ⟨rfl, by repeat (first | exact Below.refl _ _ | refine Below.alloc ?_ (by first | omega | (simp; done) | (simp; omega)) _ | refine Below.drew ?_)⟩
  all_goals first | (simp [results, Tryz.results142, go_sem, formV, opOk, textE, saysOf, least, most, isEmp_iff]; done) | (simp_all [results, Tryz.results142, go_sem, formV, opOk, textE, saysOf, least, most, isEmp_iff]; done)
set_option maxRecDepth 100000 in
set_option maxHeartbeats 3200000 in
theorem implexprForm_12 (op : Int) (text other : ByteArray) (ka : Option Addr) (kn kc : Nat) (w : World) (ht : text.size ≤ 1048576) (hE : WordEnv w) : Calls Tryz.prog 142 #[.agg #[.int .i64 12, .int .i64 op, .string text, .string other, .slice ka kn kc]] w fun e w' => e = .returned (formV 12 op text other false) ∧ Below w.heap.size w w' := by
  have hOL := hid (fun W (hb : Below w.heap.size w W) => implOpLevel_any op W)
  go_enter Tryz.func142, Tryz.ntmps142
  go_wp2_with fail
  go_region_law (first | (go_simp; go_at_call 121; refine (hOL.out _ (by repeat (first | exact Below.refl _ _ | refine Below.alloc ?_ (by first | omega | (simp; done) | (simp; omega)) _ | refine Below.drew ?_))).mono ?_; rintro e w9 ⟨rfl, rfl⟩))
  all_goals go_wp2
  all_goals refine bodyPost_ret (v := formV 12 op text other false) ?_ rfl ⟨rfl, by repeat (first | exact Below.refl _ _ | refine Below.alloc ?_ (by first | omega | (simp; done) | (simp; omega)) _ | refine Below.drew ?_)⟩
  all_goals first | (simp [results, Tryz.results142, go_sem, formV, opOk, textE, saysOf, least, most, isEmp_iff]; done) | (simp_all [results, Tryz.results142, go_sem, formV, opOk, textE, saysOf, least, most, isEmp_iff]; done)
set_option maxRecDepth 100000 in
set_option maxHeartbeats 3200000 in
theorem implexprForm_13 (op : Int) (text other : ByteArray) (ka : Option Addr) (kn kc : Nat) (w : World) (ht : text.size ≤ 1048576) (hE : WordEnv w) : Calls Tryz.prog 142 #[.agg #[.int .i64 13, .int .i64 op, .string text, .string other, .slice ka kn kc]] w fun e w' => e = .returned (formV 13 op text other false) ∧ Below w.heap.size w w' := by
  have hNm := hid (fun W (hb : Below w.heap.size w W) => implNameOk_any text W ht (hE.below hb))
  go_enter Tryz.func142, Tryz.ntmps142
  go_wp2_with fail
  go_region_law (first | (go_simp; go_at_call 160; refine (hNm.out _ (by repeat (first | exact Below.refl _ _ | refine Below.alloc ?_ (by first | omega | (simp; done) | (simp; omega)) _ | refine Below.drew ?_))).mono ?_; rintro e w9 ⟨rfl, rfl⟩))
  all_goals go_wp2
  all_goals refine bodyPost_ret (v := formV 13 op text other false) ?_ rfl ⟨rfl, by repeat (first | exact Below.refl _ _ | refine Below.alloc ?_ (by first | omega | (simp; done) | (simp; omega)) _ | refine Below.drew ?_)⟩
  all_goals first | (simp [results, Tryz.results142, go_sem, formV, opOk, textE, saysOf, least, most, isEmp_iff]; done) | (simp_all [results, Tryz.results142, go_sem, formV, opOk, textE, saysOf, least, most, isEmp_iff]; done)
set_option maxRecDepth 100000 in
set_option maxHeartbeats 3200000 in
theorem implexprForm_14 (op : Int) (text other : ByteArray) (ka : Option Addr) (kn kc : Nat) (w : World) (ht : text.size ≤ 1048576) (hE : WordEnv w) : Calls Tryz.prog 142 #[.agg #[.int .i64 14, .int .i64 op, .string text, .string other, .slice ka kn kc]] w fun e w' => e = .returned (formV 14 op text other false) ∧ Below w.heap.size w w' := by
  go_enter Tryz.func142, Tryz.ntmps142
  go_wp2_with fail
  all_goals refine bodyPost_ret (v := formV 14 op text other false) ?_ rfl ⟨rfl, by repeat (first | exact Below.refl _ _ | refine Below.alloc ?_ (by first | omega | (simp; done) | (simp; omega)) _ | refine Below.drew ?_)⟩
  all_goals first | (simp [results, Tryz.results142, go_sem, formV, opOk, textE, saysOf, least, most, isEmp_iff]; done) | (simp_all [results, Tryz.results142, go_sem, formV, opOk, textE, saysOf, least, most, isEmp_iff]; done)
set_option maxRecDepth 100000 in
set_option maxHeartbeats 3200000 in
theorem implexprForm_15 (op : Int) (text other : ByteArray) (ka : Option Addr) (kn kc : Nat) (w : World) (ht : text.size ≤ 1048576) (hE : WordEnv w) : Calls Tryz.prog 142 #[.agg #[.int .i64 15, .int .i64 op, .string text, .string other, .slice ka kn kc]] w fun e w' => e = .returned (formV 15 op text other false) ∧ Below w.heap.size w w' := by
  have hAs := hid (fun W (hb : Below w.heap.size w W) => implisAssign_any op W)
  go_enter Tryz.func142, Tryz.ntmps142
  go_wp2_with fail
  go_region_law (first | (go_simp; go_at_call 164; refine (hAs.out _ (by repeat (first | exact Below.refl _ _ | refine Below.alloc ?_ (by first | omega | (simp; done) | (simp; omega)) _ | refine Below.drew ?_))).mono ?_; rintro e w9 ⟨rfl, rfl⟩))
  all_goals go_wp2
  all_goals refine bodyPost_ret (v := formV 15 op text other false) ?_ rfl ⟨rfl, by repeat (first | exact Below.refl _ _ | refine Below.alloc ?_ (by first | omega | (simp; done) | (simp; omega)) _ | refine Below.drew ?_)⟩
  all_goals first | (simp [results, Tryz.results142, go_sem, formV, opOk, textE, saysOf, least, most, isEmp_iff]; done) | (simp_all [results, Tryz.results142, go_sem, formV, opOk, textE, saysOf, least, most, isEmp_iff]; done)
end Go.Proofs.YtkelhmgdajiocaaGreatDoor
