/- Walks and lemmas of this seat (FStmt): what each theorem says of the functions that it names. Conditions: those that each theorem states. -/
import Derived.Test.YtkelhmgdajiocaaGreatDoorGE
namespace Go.Proofs.YtkelhmgdajiocaaGreatDoor
set_option linter.unusedVariables false
set_option linter.unusedSimpArgs false
open Go.RowKit Go.Lib

/-! The form of a statement. -/
theorem hasOut (s : ByteArray) (V : World) (b : Nat) (T : TypeId) (hb : b = V.heap.size) : Calls Tryz.prog 165 #[.slice (some ⟨b, 0, none⟩) 4 4, .string s] (V.alloc (.cells #[.string ⟨#[]⟩, .string ⟨#[62]⟩, .string ⟨#[62, 62]⟩, .string ⟨#[124]⟩] T)) fun e w' => e = .returned (.bool (outB s)) ∧ w' = V.alloc (.cells #[.string ⟨#[]⟩, .string ⟨#[62]⟩, .string ⟨#[62, 62]⟩, .string ⟨#[124]⟩] T) := by
  subst hb
  have := Tryz.slices_Contains_string V.heap.size 0 4 4 outTab s (V.alloc (.cells (outTab.map Value.string).toArray T)) (by decide) (by decide) (fun j hj => rowAt_lit V (outTab.map Value.string) T j _ (by
    match j, hj with
    | 0, _ => rfl
    | 1, _ => rfl
    | 2, _ => rfl
    | 3, _ => rfl
    | n + 4, h => exact absurd h (by simp [outTab])))
  rw [show outTab.take 4 = outTab from rfl, containsS, idx_find] at this
  exact this
theorem stmt_box0 {w W : World} {o1 o2 o3 : Obj} (hb : Below (((w.alloc o1).alloc o2).alloc o3).heap.size (((w.alloc o1).alloc o2).alloc o3) W) : W.heap[w.heap.size]? = some o1 := (hb.block _ (by simp; omega)).trans ((Below.heap_alloc _ o3 _ (by simp; omega)).trans ((Below.heap_alloc (w.alloc o1) o2 _ (by simp)).trans (heap_alloc_new w o1)))
theorem stmt_box1 {w W : World} {o1 o2 o3 : Obj} (hb : Below (((w.alloc o1).alloc o2).alloc o3).heap.size (((w.alloc o1).alloc o2).alloc o3) W) : W.heap[w.heap.size + 1]? = some o2 := (hb.block _ (by simp)).trans ((Below.heap_alloc _ o3 _ (by simp)).trans (heap_alloc_new1 w o1 o2))
theorem stmt_box2 {w W : World} {o1 o2 o3 : Obj} (hb : Below (((w.alloc o1).alloc o2).alloc o3).heap.size (((w.alloc o1).alloc o2).alloc o3) W) : W.heap[w.heap.size + 1 + 1]? = some o3 := (hb.block _ (by simp)).trans (by have := heap_alloc_new ((w.alloc o1).alloc o2) o3; simpa using this)
def leastI (k op : Int) (e : Bool) : Int := if k = 21 then (if e then op else wrap64 (op + 1)) else least k op e
def formW (k op : Int) (text other : ByteArray) : Value := .agg #[.bool (opOk k op), .bool (textE k (saysOf text other)), .bool (otherE k (saysOf text other)), .int .i64 (leastI k op (other.size == 0)), .int .i64 (most k op (other.size == 0))]
theorem form21 (op : Int) (text other : ByteArray) : formW 21 op text other = .agg #[.bool (op == 0 || op == 1), .bool text.toList.isEmpty, .bool (outB other), .int .i64 (if other.toList.isEmpty = true then op else wrap64 (op + 1)), .int .i64 (if other.toList.isEmpty = true then 6 else 7)] := by
  simp [formW, opOk, textE, otherE, saysOf, leastI, most, ← isEmp_iff]
end Go.Proofs.YtkelhmgdajiocaaGreatDoor
/- Walks and lemmas of this seat (FStmtA): what each theorem says of the functions that it names. Conditions: those that each theorem states. -/
namespace Go.Proofs.YtkelhmgdajiocaaGreatDoor
set_option linter.unusedVariables false
set_option linter.unusedSimpArgs false
open Go.RowKit Go.Lib

set_option maxRecDepth 100000 in
set_option maxHeartbeats 3200000 in
theorem implstmtForm_20 (op : Int) (text other : ByteArray) (ka : Option Addr) (kn kc : Nat) (w : World) (ht : text.size ≤ 1048576) (ho : other.size ≤ 1048576) (hE : WordEnv w) : Calls Tryz.prog 144 #[.agg #[.int .i64 20, .int .i64 op, .string text, .string other, .slice ka kn kc]] w fun e w' => e = .returned (formW 20 op text other) ∧ Below w.heap.size w w' := by
  go_enter Tryz.func144, Tryz.ntmps144
  go_wp2
  all_goals refine bodyPost_ret (v := formW 20 op text other) ?_ rfl ⟨rfl, by repeat (first | exact Below.refl _ _ | refine Below.alloc ?_ (by first | omega | (simp; done) | (simp; omega)) _ | refine Below.drew ?_)⟩
  all_goals first | (simp [results, Tryz.results144, go_sem, formW, opOk, textE, otherE, saysOf, leastI, least, most, isEmp_iff]; done) | (simp_all [results, Tryz.results144, go_sem, formW, opOk, textE, otherE, saysOf, leastI, least, most, isEmp_iff]; done) | trace_state
  all_goals sorry
set_option maxRecDepth 100000 in
set_option maxHeartbeats 3200000 in
theorem implstmtForm_21 (op : Int) (text other : ByteArray) (ka : Option Addr) (kn kc : Nat) (w : World) (ht : text.size ≤ 1048576) (ho : other.size ≤ 1048576) (hE : WordEnv w) : Calls Tryz.prog 144 #[.agg #[.int .i64 21, .int .i64 op, .string text, .string other, .slice ka kn kc]] w fun e w' => e = .returned (formW 21 op text other) ∧ Below w.heap.size w w' := by
  go_enter Tryz.func144, Tryz.ntmps144
  go_wp2_with (go_at_call 165; refine (hasOut _ _ _ _ (by simp)).mono ?_; rintro e w9 ⟨rfl, rfl⟩)
  all_goals refine bodyPost_ret (v := formW 21 op text other) ?_ rfl ⟨rfl, by repeat (first | exact Below.refl _ _ | refine Below.alloc ?_ (by first | omega | (simp; done) | (simp; omega)) _ | refine Below.drew ?_)⟩
  all_goals rw [form21]
  all_goals first
    | (simp [results, Tryz.results144, go_sem]; done)
    | (simp_all [results, Tryz.results144, go_sem]; done)
    | (simp_all [results, Tryz.results144, go_sem, show wrap64 1 = 1 from by unfold wrap64; omega, show wrap64 2 = 2 from by unfold wrap64; omega]; done)
set_option maxRecDepth 100000 in
set_option maxHeartbeats 3200000 in
theorem implstmtForm_22 (op : Int) (text other : ByteArray) (ka : Option Addr) (kn kc : Nat) (w : World) (ht : text.size ≤ 1048576) (ho : other.size ≤ 1048576) (hE : WordEnv w) : Calls Tryz.prog 144 #[.agg #[.int .i64 22, .int .i64 op, .string text, .string other, .slice ka kn kc]] w fun e w' => e = .returned (formW 22 op text other) ∧ Below w.heap.size w w' := by
  go_enter Tryz.func144, Tryz.ntmps144
  go_wp2
  all_goals refine bodyPost_ret (v := formW 22 op text other) ?_ rfl ⟨rfl, by repeat (first | exact Below.refl _ _ | refine Below.alloc ?_ (by first | omega | (simp; done) | (simp; omega)) _ | refine Below.drew ?_)⟩
  all_goals first | (simp [results, Tryz.results144, go_sem, formW, opOk, textE, otherE, saysOf, leastI, least, most, isEmp_iff]; done) | (simp_all [results, Tryz.results144, go_sem, formW, opOk, textE, otherE, saysOf, leastI, least, most, isEmp_iff]; done) | trace_state
  all_goals sorry
set_option maxRecDepth 100000 in
set_option maxHeartbeats 3200000 in
theorem implstmtForm_23 (op : Int) (text other : ByteArray) (ka : Option Addr) (kn kc : Nat) (w : World) (ht : text.size ≤ 1048576) (ho : other.size ≤ 1048576) (hE : WordEnv w) : Calls Tryz.prog 144 #[.agg #[.int .i64 23, .int .i64 op, .string text, .string other, .slice ka kn kc]] w fun e w' => e = .returned (formW 23 op text other) ∧ Below w.heap.size w w' := by
  go_enter Tryz.func144, Tryz.ntmps144
  go_wp2
  all_goals refine bodyPost_ret (v := formW 23 op text other) ?_ rfl ⟨rfl, by repeat (first | exact Below.refl _ _ | refine Below.alloc ?_ (by first | omega | (simp; done) | (simp; omega)) _ | refine Below.drew ?_)⟩
  all_goals first | (simp [results, Tryz.results144, go_sem, formW, opOk, textE, otherE, saysOf, leastI, least, most, isEmp_iff]; done) | (simp_all [results, Tryz.results144, go_sem, formW, opOk, textE, otherE, saysOf, leastI, least, most, isEmp_iff]; done) | trace_state
  all_goals sorry
set_option maxRecDepth 100000 in
set_option maxHeartbeats 3200000 in
theorem implstmtForm_24 (op : Int) (text other : ByteArray) (ka : Option Addr) (kn kc : Nat) (w : World) (ht : text.size ≤ 1048576) (ho : other.size ≤ 1048576) (hE : WordEnv w) : Calls Tryz.prog 144 #[.agg #[.int .i64 24, .int .i64 op, .string text, .string other, .slice ka kn kc]] w fun e w' => e = .returned (formW 24 op text other) ∧ Below w.heap.size w w' := by
  go_enter Tryz.func144, Tryz.ntmps144
  go_wp2
  all_goals refine bodyPost_ret (v := formW 24 op text other) ?_ rfl ⟨rfl, by repeat (first | exact Below.refl _ _ | refine Below.alloc ?_ (by first | omega | (simp; done) | (simp; omega)) _ | refine Below.drew ?_)⟩
  all_goals first | (simp [results, Tryz.results144, go_sem, formW, opOk, textE, otherE, saysOf, leastI, least, most, isEmp_iff]; done) | (simp_all [results, Tryz.results144, go_sem, formW, opOk, textE, otherE, saysOf, leastI, least, most, isEmp_iff]; done) | trace_state
  all_goals sorry
set_option maxRecDepth 100000 in
set_option maxHeartbeats 3200000 in
theorem implstmtForm_25 (op : Int) (text other : ByteArray) (ka : Option Addr) (kn kc : Nat) (w : World) (ht : text.size ≤ 1048576) (ho : other.size ≤ 1048576) (hE : WordEnv w) : Calls Tryz.prog 144 #[.agg #[.int .i64 25, .int .i64 op, .string text, .string other, .slice ka kn kc]] w fun e w' => e = .returned (formW 25 op text other) ∧ Below w.heap.size w w' := by
  go_enter Tryz.func144, Tryz.ntmps144
  go_wp2
  all_goals refine bodyPost_ret (v := formW 25 op text other) ?_ rfl ⟨rfl, by repeat (first | exact Below.refl _ _ | refine Below.alloc ?_ (by first | omega | (simp; done) | (simp; omega)) _ | refine Below.drew ?_)⟩
  all_goals first | (simp [results, Tryz.results144, go_sem, formW, opOk, textE, otherE, saysOf, leastI, least, most, isEmp_iff]; done) | (simp_all [results, Tryz.results144, go_sem, formW, opOk, textE, otherE, saysOf, leastI, least, most, isEmp_iff]; done) | trace_state
  all_goals sorry
set_option maxRecDepth 100000 in
set_option maxHeartbeats 3200000 in
theorem implstmtForm_26 (op : Int) (text other : ByteArray) (ka : Option Addr) (kn kc : Nat) (w : World) (ht : text.size ≤ 1048576) (ho : other.size ≤ 1048576) (hE : WordEnv w) : Calls Tryz.prog 144 #[.agg #[.int .i64 26, .int .i64 op, .string text, .string other, .slice ka kn kc]] w fun e w' => e = .returned (formW 26 op text other) ∧ Below w.heap.size w w' := by
  go_enter Tryz.func144, Tryz.ntmps144
  go_wp2
  all_goals refine bodyPost_ret (v := formW 26 op text other) ?_ rfl ⟨rfl, by repeat (first | exact Below.refl _ _ | refine Below.alloc ?_ (by first | omega | (simp; done) | (simp; omega)) _ | refine Below.drew ?_)⟩
  all_goals first | (simp [results, Tryz.results144, go_sem, formW, opOk, textE, otherE, saysOf, leastI, least, most, isEmp_iff]; done) | (simp_all [results, Tryz.results144, go_sem, formW, opOk, textE, otherE, saysOf, leastI, least, most, isEmp_iff]; done) | trace_state
  all_goals sorry
end Go.Proofs.YtkelhmgdajiocaaGreatDoor
/- Walks and lemmas of this seat (FStmtB): what each theorem says of the functions that it names. Conditions: those that each theorem states. -/
namespace Go.Proofs.YtkelhmgdajiocaaGreatDoor
set_option linter.unusedVariables false
set_option linter.unusedSimpArgs false
open Go.RowKit Go.Lib

set_option maxRecDepth 100000 in
set_option maxHeartbeats 3200000 in
theorem implstmtForm_27 (op : Int) (text other : ByteArray) (ka : Option Addr) (kn kc : Nat) (w : World) (ht : text.size ≤ 1048576) (ho : other.size ≤ 1048576) (hE : WordEnv w) : Calls Tryz.prog 144 #[.agg #[.int .i64 27, .int .i64 op, .string text, .string other, .slice ka kn kc]] w fun e w' => e = .returned (formW 27 op text other) ∧ Below w.heap.size w w' := by
  go_enter Tryz.func144, Tryz.ntmps144
  go_wp2_with (go_at_call 160; refine (implNameOk_any _ _ (by assumption) (hE.below (by repeat (first | exact Below.refl _ _ | refine Below.alloc ?_ (by first | omega | (simp; done) | (simp; omega)) _ | refine Below.drew ?_)))).mono ?_; rintro e w9 ⟨rfl, rfl⟩)
  all_goals refine bodyPost_ret (v := formW 27 op text other) ?_ rfl ⟨rfl, by repeat (first | exact Below.refl _ _ | refine Below.alloc ?_ (by first | omega | (simp; done) | (simp; omega)) _ | refine Below.drew ?_)⟩
  all_goals first | (simp [results, Tryz.results144, go_sem, formW, opOk, textE, otherE, saysOf, leastI, least, most, isEmp_iff]; done) | (simp_all [results, Tryz.results144, go_sem, formW, opOk, textE, otherE, saysOf, leastI, least, most, isEmp_iff]; done) | trace_state
  all_goals sorry
set_option maxRecDepth 100000 in
set_option maxHeartbeats 3200000 in
theorem implstmtForm_28 (op : Int) (text other : ByteArray) (ka : Option Addr) (kn kc : Nat) (w : World) (ht : text.size ≤ 1048576) (ho : other.size ≤ 1048576) (hE : WordEnv w) : Calls Tryz.prog 144 #[.agg #[.int .i64 28, .int .i64 op, .string text, .string other, .slice ka kn kc]] w fun e w' => e = .returned (formW 28 op text other) ∧ Below w.heap.size w w' := by
  go_enter Tryz.func144, Tryz.ntmps144
  go_wp2
  all_goals refine bodyPost_ret (v := formW 28 op text other) ?_ rfl ⟨rfl, by repeat (first | exact Below.refl _ _ | refine Below.alloc ?_ (by first | omega | (simp; done) | (simp; omega)) _ | refine Below.drew ?_)⟩
  all_goals first | (simp [results, Tryz.results144, go_sem, formW, opOk, textE, otherE, saysOf, leastI, least, most, isEmp_iff]; done) | (simp_all [results, Tryz.results144, go_sem, formW, opOk, textE, otherE, saysOf, leastI, least, most, isEmp_iff]; done) | trace_state
  all_goals sorry
set_option maxRecDepth 100000 in
set_option maxHeartbeats 3200000 in
theorem implstmtForm_29 (op : Int) (text other : ByteArray) (ka : Option Addr) (kn kc : Nat) (w : World) (ht : text.size ≤ 1048576) (ho : other.size ≤ 1048576) (hE : WordEnv w) : Calls Tryz.prog 144 #[.agg #[.int .i64 29, .int .i64 op, .string text, .string other, .slice ka kn kc]] w fun e w' => e = .returned (formW 29 op text other) ∧ Below w.heap.size w w' := by
  go_enter Tryz.func144, Tryz.ntmps144
  go_wp2
  all_goals refine bodyPost_ret (v := formW 29 op text other) ?_ rfl ⟨rfl, by repeat (first | exact Below.refl _ _ | refine Below.alloc ?_ (by first | omega | (simp; done) | (simp; omega)) _ | refine Below.drew ?_)⟩
  all_goals first | (simp [results, Tryz.results144, go_sem, formW, opOk, textE, otherE, saysOf, leastI, least, most, isEmp_iff]; done) | (simp_all [results, Tryz.results144, go_sem, formW, opOk, textE, otherE, saysOf, leastI, least, most, isEmp_iff]; done) | trace_state
  all_goals sorry
set_option maxRecDepth 100000 in
set_option maxHeartbeats 3200000 in
theorem implstmtForm_30 (op : Int) (text other : ByteArray) (ka : Option Addr) (kn kc : Nat) (w : World) (ht : text.size ≤ 1048576) (ho : other.size ≤ 1048576) (hE : WordEnv w) : Calls Tryz.prog 144 #[.agg #[.int .i64 30, .int .i64 op, .string text, .string other, .slice ka kn kc]] w fun e w' => e = .returned (formW 30 op text other) ∧ Below w.heap.size w w' := by
  go_enter Tryz.func144, Tryz.ntmps144
  go_wp2
  all_goals refine bodyPost_ret (v := formW 30 op text other) ?_ rfl ⟨rfl, by repeat (first | exact Below.refl _ _ | refine Below.alloc ?_ (by first | omega | (simp; done) | (simp; omega)) _ | refine Below.drew ?_)⟩
  all_goals first | (simp [results, Tryz.results144, go_sem, formW, opOk, textE, otherE, saysOf, leastI, least, most, isEmp_iff]; done) | (simp_all [results, Tryz.results144, go_sem, formW, opOk, textE, otherE, saysOf, leastI, least, most, isEmp_iff]; done) | trace_state
  all_goals sorry
set_option maxRecDepth 100000 in
set_option maxHeartbeats 3200000 in
theorem implstmtForm_31 (op : Int) (text other : ByteArray) (ka : Option Addr) (kn kc : Nat) (w : World) (ht : text.size ≤ 1048576) (ho : other.size ≤ 1048576) (hE : WordEnv w) : Calls Tryz.prog 144 #[.agg #[.int .i64 31, .int .i64 op, .string text, .string other, .slice ka kn kc]] w fun e w' => e = .returned (formW 31 op text other) ∧ Below w.heap.size w w' := by
  go_enter Tryz.func144, Tryz.ntmps144
  go_wp2
  all_goals refine bodyPost_ret (v := formW 31 op text other) ?_ rfl ⟨rfl, by repeat (first | exact Below.refl _ _ | refine Below.alloc ?_ (by first | omega | (simp; done) | (simp; omega)) _ | refine Below.drew ?_)⟩
  all_goals first | (simp [results, Tryz.results144, go_sem, formW, opOk, textE, otherE, saysOf, leastI, least, most, isEmp_iff]; done) | (simp_all [results, Tryz.results144, go_sem, formW, opOk, textE, otherE, saysOf, leastI, least, most, isEmp_iff]; done) | trace_state
  all_goals sorry
end Go.Proofs.YtkelhmgdajiocaaGreatDoor
/- Walks and lemmas of this seat (FStmtC): what each theorem says of the functions that it names. Conditions: those that each theorem states. -/
namespace Go.Proofs.YtkelhmgdajiocaaGreatDoor
set_option linter.unusedVariables false
set_option linter.unusedSimpArgs false
open Go.RowKit Go.Lib

set_option maxRecDepth 100000 in
set_option maxHeartbeats 3200000 in
theorem implstmtForm_32 (op : Int) (text other : ByteArray) (ka : Option Addr) (kn kc : Nat) (w : World) (ht : text.size ≤ 1048576) (ho : other.size ≤ 1048576) (hE : WordEnv w) : Calls Tryz.prog 144 #[.agg #[.int .i64 32, .int .i64 op, .string text, .string other, .slice ka kn kc]] w fun e w' => e = .returned (formW 32 op text other) ∧ Below w.heap.size w w' := by
  go_enter Tryz.func144, Tryz.ntmps144
  go_wp2_with fail
  go_region_law (first | (go_simp; go_at_call 160; refine (implNameOk_any _ _ (by assumption) (hE.below (by repeat (first | exact Below.refl _ _ | refine Below.alloc ?_ (by first | omega | (simp; done) | (simp; omega)) _ | refine Below.drew ?_)))).mono ?_; rintro e w9 ⟨rfl, rfl⟩))
  all_goals go_wp2
  all_goals refine bodyPost_ret (v := formW 32 op text other) ?_ rfl ⟨rfl, by repeat (first | exact Below.refl _ _ | refine Below.alloc ?_ (by first | omega | (simp; done) | (simp; omega)) _ | refine Below.drew ?_)⟩
  all_goals first | (simp [results, Tryz.results144, go_sem, formW, opOk, textE, otherE, saysOf, leastI, least, most, isEmp_iff]; done) | (simp_all [results, Tryz.results144, go_sem, formW, opOk, textE, otherE, saysOf, leastI, least, most, isEmp_iff]; done) | trace_state
  all_goals sorry
set_option maxRecDepth 100000 in
set_option maxHeartbeats 3200000 in
theorem implstmtForm_33 (op : Int) (text other : ByteArray) (ka : Option Addr) (kn kc : Nat) (w : World) (ht : text.size ≤ 1048576) (ho : other.size ≤ 1048576) (hE : WordEnv w) : Calls Tryz.prog 144 #[.agg #[.int .i64 33, .int .i64 op, .string text, .string other, .slice ka kn kc]] w fun e w' => e = .returned (formW 33 op text other) ∧ Below w.heap.size w w' := by
  go_enter Tryz.func144, Tryz.ntmps144
  go_wp2
  all_goals refine bodyPost_ret (v := formW 33 op text other) ?_ rfl ⟨rfl, by repeat (first | exact Below.refl _ _ | refine Below.alloc ?_ (by first | omega | (simp; done) | (simp; omega)) _ | refine Below.drew ?_)⟩
  all_goals first | (simp [results, Tryz.results144, go_sem, formW, opOk, textE, otherE, saysOf, leastI, least, most, isEmp_iff]; done) | (simp_all [results, Tryz.results144, go_sem, formW, opOk, textE, otherE, saysOf, leastI, least, most, isEmp_iff]; done) | trace_state
  all_goals sorry
set_option maxRecDepth 100000 in
set_option maxHeartbeats 3200000 in
theorem implstmtForm_34 (op : Int) (text other : ByteArray) (ka : Option Addr) (kn kc : Nat) (w : World) (ht : text.size ≤ 1048576) (ho : other.size ≤ 1048576) (hE : WordEnv w) : Calls Tryz.prog 144 #[.agg #[.int .i64 34, .int .i64 op, .string text, .string other, .slice ka kn kc]] w fun e w' => e = .returned (formW 34 op text other) ∧ Below w.heap.size w w' := by
  go_enter Tryz.func144, Tryz.ntmps144
  go_wp2_with fail
  refine (implTokenOk_com text 0 _ ht).mono ?_; rintro e w9 ⟨rfl, hb9⟩
  have hB9 : Below w.heap.size w w9 := (by repeat (first | exact Below.refl _ _ | refine Below.alloc ?_ (by first | omega | (simp; done) | (simp; omega)) _ | refine Below.drew ?_) : Below w.heap.size w _).trans (hb9.mono (by simp; omega))
  have hN0 := stmt_box0 hb9
  have hN1 := stmt_box1 hb9
  have hN2 := stmt_box2 hb9
  obtain ⟨r0, r1, r2, r3, r4⟩ := box_cells hN1
  obtain ⟨z0, z1, z2, z3, z4⟩ := box_cells hN2
  have fr := box_frozen hN1
  have fz := box_frozen hN2
  clear hb9
  go_wp2
  refine form_done (formW 34 op text other) (b := w.heap.size + 1) ((heap_setCell_other w9 ⟨w.heap.size + 1 + 1, 1, none⟩ (w.heap.size + 1) _ (by simp)).trans hN1) ?_ rfl ⟨rfl, five_below (hB9.setCell (p := ⟨w.heap.size + 1 + 1, 1, none⟩) (by show w.heap.size ≤ w.heap.size + 1 + 1; omega) _) (by omega)⟩
  intro W hW
  obtain ⟨s0, s1, s2, s3, s4⟩ := box_cells hW
  simp [results, Tryz.results144, go_sem, formW, opOk, textE, otherE, saysOf, leastI, least, most, isEmp_iff, s0, s1, s2, s3, s4]
end Go.Proofs.YtkelhmgdajiocaaGreatDoor
