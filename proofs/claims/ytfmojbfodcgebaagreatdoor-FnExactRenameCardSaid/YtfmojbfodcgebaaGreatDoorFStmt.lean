/- Walks and lemmas of this seat (FStmt): what each theorem says of the functions that it names. Conditions: those that each theorem states. -/
import Derived.Test.YtfmojbfodcgebaaGreatDoorGE
namespace Go.Proofs.YtfmojbfodcgebaaGreatDoor
set_option linter.unusedVariables false
set_option linter.unusedSimpArgs false
open Go.RowKit Go.Lib

/-! The form of a statement. -/
theorem hasOut (s : ByteArray) (V : World) (b : Nat) (T : TypeId) (hb : b = V.heap.size) : Calls Tryz.prog 76 #[.slice (some ⟨b, 0, none⟩) 4 4, .string s] (V.alloc (.cells #[.string ⟨#[]⟩, .string ⟨#[62]⟩, .string ⟨#[62, 62]⟩, .string ⟨#[124]⟩] T)) fun e w' => e = .returned (.bool (outB s)) ∧ w' = V.alloc (.cells #[.string ⟨#[]⟩, .string ⟨#[62]⟩, .string ⟨#[62, 62]⟩, .string ⟨#[124]⟩] T) := by
  subst hb
  have := Tryz.slices_Contains_string V.heap.size 0 4 4 outTab s (V.alloc (.cells (outTab.map Value.string).toArray T)) (by decide) (by decide) (fun j hj => rowAt_lit V (outTab.map Value.string) T j _ (by
    match j, hj with
    | 0, _ => rfl
    | 1, _ => rfl
    | 2, _ => rfl
    | 3, _ => rfl
    | n + 4, h => exact absurd h (by simp [outTab])))
  rw [show outTab.take 4 = outTab from rfl, containsS, idx_find] at this
  exact this
theorem stmt_box0 {w W : World} {o1 o2 o3 : Obj} (hb : Below (((w.alloc o1).alloc o2).alloc o3).heap.size (((w.alloc o1).alloc o2).alloc o3) W) : W.heap[w.heap.size]? = some o1 := (hb.block _ (by simp; omega)).trans ((Below.heap_alloc _ o3 _ (by simp; omega)).trans ((Below.heap_alloc (w.alloc o1) o2 _ (by simp)).trans (heap_alloc_new w o1)))
theorem stmt_box1 {w W : World} {o1 o2 o3 : Obj} (hb : Below (((w.alloc o1).alloc o2).alloc o3).heap.size (((w.alloc o1).alloc o2).alloc o3) W) : W.heap[w.heap.size + 1]? = some o2 := (hb.block _ (by simp)).trans ((Below.heap_alloc _ o3 _ (by simp)).trans (heap_alloc_new1 w o1 o2))
theorem stmt_box2 {w W : World} {o1 o2 o3 : Obj} (hb : Below (((w.alloc o1).alloc o2).alloc o3).heap.size (((w.alloc o1).alloc o2).alloc o3) W) : W.heap[w.heap.size + 1 + 1]? = some o3 := (hb.block _ (by simp)).trans (by have := heap_alloc_new ((w.alloc o1).alloc o2) o3; simpa using this)
def leastI (k op : Int) (e : Bool) : Int := if k = 21 then (if e then op else wrap64 (op + 1)) else least k op e
def formW (k op : Int) (text other : ByteArray) : Value := .agg #[.bool (opOk k op), .bool (textE k (saysOf text other)), .bool (otherE k (saysOf text other)), .int .i64 (leastI k op (other.size == 0)), .int .i64 (most k op (other.size == 0))]
theorem form21 (op : Int) (text other : ByteArray) : formW 21 op text other = .agg #[.bool (op == 0 || op == 1), .bool text.toList.isEmpty, .bool (outB other), .int .i64 (if other.toList.isEmpty = true then op else wrap64 (op + 1)), .int .i64 (if other.toList.isEmpty = true then 6 else 7)] := by
  simp [formW, opOk, textE, otherE, saysOf, leastI, most, ← isEmp_iff]
end Go.Proofs.YtfmojbfodcgebaaGreatDoor
