/- Walks and lemmas of this seat (FDocOk): what each theorem says of the functions that it names. Conditions: those that each theorem states. -/
import Derived.Test.YtfabfkaolnidiaaFDocStarts
import Derived.Test.YtfabfkaolnidiaaGC
import Derived.Test.YtfabfkaolnidiaaShelf
namespace Go.Proofs.Ytfabfkaolnidiaa
set_option linter.unusedVariables false
set_option linter.unusedSimpArgs false
open Go.RowKit

/-- May a node of a document be as it is? -/
def docNode (x : DNode) : Bool :=
  (x.kind == 1 || x.text.toList.isEmpty) && (x.kind == 4 || x.n == 0) &&
  (if x.kind = 1 then plain x.text && (x.kids.length : Int) == 0 else if x.kind = 2 ∨ x.kind = 3 then (x.kids.length : Int) == 0
   else if x.kind = 4 then decide (0 ≤ x.n ∧ x.n ≤ 40) && (x.kids.length : Int) == 1 else if x.kind = 5 then (x.kids.length : Int) == 1 else decide (x.kind = 6))

set_option maxRecDepth 100000 in
set_option maxHeartbeats 3200000 in
theorem specl15Node_any (x : DNode) (kv : Value) (w : World) (hx : x.Ok) (hn : x.sizes ≤ 1048576) (hk : Slc w kv 1 x.kids.length (x.kids.flatMap int1)) :
    Calls Try.prog 57 #[.agg #[.int .i64 x.kind, .int .i64 x.n, .string x.text, kv]] w fun e w' => e = .returned (.bool (docNode x)) ∧ Below w.heap.size w w' := by
  obtain ⟨_, ka, kc, rfl, hkc, hkm, hkrow⟩ := hk
  unfold DNode.sizes at hn
  unfold maxLen at hkm
  obtain ⟨kd, n, text, kids⟩ := x
  simp only at *
  have hkz : Hid ((kids.length : Int) = 0 ↔ kids.length = 0) := hid (by omega)
  clear hx hkrow
  by_cases k1 : kd = 1
  · subst k1
    all_goals go_enter Try.func57, Try.ntmps57
    all_goals go_wp2_with (first | (go_at_call 71; refine (specl4Plain_any _ _ (by omega)).mono ?_; rintro e w' ⟨rfl, rfl⟩) | (go_at_call 33; refine (specl1In_an _ _ _ _).mono ?_; rintro e w' ⟨rfl, rfl⟩))
    all_goals go_ret
    all_goals exact ⟨ret_bool (by first | (simp_all [docNode, plain]; done) | (simp_all [docNode, plain]; omega)), by repeat (first | exact Below.refl _ _ | refine Below.alloc ?_ (by first | omega | (simp; done) | (simp; omega)) _ | refine Below.drew ?_)⟩
  by_cases k2 : kd = 2
  · subst k2
    all_goals go_enter Try.func57, Try.ntmps57
    all_goals go_wp2_with (first | (go_at_call 71; refine (specl4Plain_any _ _ (by omega)).mono ?_; rintro e w' ⟨rfl, rfl⟩) | (go_at_call 33; refine (specl1In_an _ _ _ _).mono ?_; rintro e w' ⟨rfl, rfl⟩))
    all_goals go_ret
    all_goals exact ⟨ret_bool (by first | (simp_all [docNode, plain]; done) | (simp_all [docNode, plain]; omega)), by repeat (first | exact Below.refl _ _ | refine Below.alloc ?_ (by first | omega | (simp; done) | (simp; omega)) _ | refine Below.drew ?_)⟩
  by_cases k3 : kd = 3
  · subst k3
    all_goals go_enter Try.func57, Try.ntmps57
    all_goals go_wp2_with (first | (go_at_call 71; refine (specl4Plain_any _ _ (by omega)).mono ?_; rintro e w' ⟨rfl, rfl⟩) | (go_at_call 33; refine (specl1In_an _ _ _ _).mono ?_; rintro e w' ⟨rfl, rfl⟩))
    all_goals go_ret
    all_goals exact ⟨ret_bool (by first | (simp_all [docNode, plain]; done) | (simp_all [docNode, plain]; omega)), by repeat (first | exact Below.refl _ _ | refine Below.alloc ?_ (by first | omega | (simp; done) | (simp; omega)) _ | refine Below.drew ?_)⟩
  by_cases k4 : kd = 4
  · subst k4
    all_goals go_enter Try.func57, Try.ntmps57
    all_goals go_wp2_with (first | (go_at_call 71; refine (specl4Plain_any _ _ (by omega)).mono ?_; rintro e w' ⟨rfl, rfl⟩) | (go_at_call 33; refine (specl1In_an _ _ _ _).mono ?_; rintro e w' ⟨rfl, rfl⟩))
    all_goals go_ret
    all_goals exact ⟨ret_bool (by first | (simp_all [docNode, plain]; done) | (simp_all [docNode, plain]; omega)), by repeat (first | exact Below.refl _ _ | refine Below.alloc ?_ (by first | omega | (simp; done) | (simp; omega)) _ | refine Below.drew ?_)⟩
  by_cases k5 : kd = 5
  · subst k5
    all_goals go_enter Try.func57, Try.ntmps57
    all_goals go_wp2_with (first | (go_at_call 71; refine (specl4Plain_any _ _ (by omega)).mono ?_; rintro e w' ⟨rfl, rfl⟩) | (go_at_call 33; refine (specl1In_an _ _ _ _).mono ?_; rintro e w' ⟨rfl, rfl⟩))
    all_goals go_ret
    all_goals exact ⟨ret_bool (by first | (simp_all [docNode, plain]; done) | (simp_all [docNode, plain]; omega)), by repeat (first | exact Below.refl _ _ | refine Below.alloc ?_ (by first | omega | (simp; done) | (simp; omega)) _ | refine Below.drew ?_)⟩
  by_cases k6 : kd = 6
  · subst k6
    all_goals go_enter Try.func57, Try.ntmps57
    all_goals go_wp2_with (first | (go_at_call 71; refine (specl4Plain_any _ _ (by omega)).mono ?_; rintro e w' ⟨rfl, rfl⟩) | (go_at_call 33; refine (specl1In_an _ _ _ _).mono ?_; rintro e w' ⟨rfl, rfl⟩))
    all_goals go_ret
    all_goals exact ⟨ret_bool (by first | (simp_all [docNode, plain]; done) | (simp_all [docNode, plain]; omega)), by repeat (first | exact Below.refl _ _ | refine Below.alloc ?_ (by first | omega | (simp; done) | (simp; omega)) _ | refine Below.drew ?_)⟩
  have q1 : (kd == 1) = false := by simpa using k1
  have q2 : (kd == 2) = false := by simpa using k2
  have q3 : (kd == 3) = false := by simpa using k3
  have q4 : (kd == 4) = false := by simpa using k4
  have q5 : (kd == 5) = false := by simpa using k5
  have q6 : (kd == 6) = false := by simpa using k6
  all_goals go_enter Try.func57, Try.ntmps57
  all_goals go_wp2_with (first | (go_at_call 71; refine (specl4Plain_any _ _ (by omega)).mono ?_; rintro e w' ⟨rfl, rfl⟩) | (go_at_call 33; refine (specl1In_an _ _ _ _).mono ?_; rintro e w' ⟨rfl, rfl⟩))
  all_goals go_ret
  all_goals exact ⟨ret_bool (by first | (simp_all [docNode, plain]; done) | (simp_all [docNode, plain]; omega)), by repeat (first | exact Below.refl _ _ | refine Below.alloc ?_ (by first | omega | (simp; done) | (simp; omega)) _ | refine Below.drew ?_)⟩

set_option maxRecDepth 100000 in
set_option maxHeartbeats 3200000 in
theorem impldocNodeOk_any (x : DNode) (kv : Value) (w : World) (hx : x.Ok) (hn : x.sizes ≤ 1048576) (hk : Slc w kv 1 x.kids.length (x.kids.flatMap int1)) :
    Calls Try.prog 62 #[.agg #[.int .i64 x.kind, .int .i64 x.n, .string x.text, kv]] w fun e w' => e = .returned (.bool (docNode x)) ∧ Below w.heap.size w w' := by
  obtain ⟨_, ka, kc, rfl, hkc, hkm, hkrow⟩ := hk
  unfold DNode.sizes at hn
  unfold maxLen at hkm
  obtain ⟨kd, n, text, kids⟩ := x
  simp only at *
  have hkz : Hid ((kids.length : Int) = 0 ↔ kids.length = 0) := hid (by omega)
  clear hx hkrow
  by_cases k1 : kd = 1
  · subst k1
    all_goals go_enter Try.func62, Try.ntmps62
    all_goals go_wp2_with (first | (go_at_call 73; refine (Try.strings_Contains_one _ _ _).mono ?_; rintro e w' ⟨rfl, rfl⟩; rw [indexByte_plain]) | (go_at_call 40; refine (implwithin_an _ _ _ _).mono ?_; rintro e w' ⟨rfl, rfl⟩))
    all_goals go_ret
    all_goals exact ⟨ret_bool (by first | (simp_all [docNode, plain]; done) | (simp_all [docNode, plain]; omega)), by repeat (first | exact Below.refl _ _ | refine Below.alloc ?_ (by first | omega | (simp; done) | (simp; omega)) _ | refine Below.drew ?_)⟩
  by_cases k2 : kd = 2
  · subst k2
    all_goals go_enter Try.func62, Try.ntmps62
    all_goals go_wp2_with (first | (go_at_call 73; refine (Try.strings_Contains_one _ _ _).mono ?_; rintro e w' ⟨rfl, rfl⟩; rw [indexByte_plain]) | (go_at_call 40; refine (implwithin_an _ _ _ _).mono ?_; rintro e w' ⟨rfl, rfl⟩))
    all_goals go_ret
    all_goals exact ⟨ret_bool (by first | (simp_all [docNode, plain]; done) | (simp_all [docNode, plain]; omega)), by repeat (first | exact Below.refl _ _ | refine Below.alloc ?_ (by first | omega | (simp; done) | (simp; omega)) _ | refine Below.drew ?_)⟩
  by_cases k3 : kd = 3
  · subst k3
    all_goals go_enter Try.func62, Try.ntmps62
    all_goals go_wp2_with (first | (go_at_call 73; refine (Try.strings_Contains_one _ _ _).mono ?_; rintro e w' ⟨rfl, rfl⟩; rw [indexByte_plain]) | (go_at_call 40; refine (implwithin_an _ _ _ _).mono ?_; rintro e w' ⟨rfl, rfl⟩))
    all_goals go_ret
    all_goals exact ⟨ret_bool (by first | (simp_all [docNode, plain]; done) | (simp_all [docNode, plain]; omega)), by repeat (first | exact Below.refl _ _ | refine Below.alloc ?_ (by first | omega | (simp; done) | (simp; omega)) _ | refine Below.drew ?_)⟩
  by_cases k4 : kd = 4
  · subst k4
    all_goals go_enter Try.func62, Try.ntmps62
    all_goals go_wp2_with (first | (go_at_call 73; refine (Try.strings_Contains_one _ _ _).mono ?_; rintro e w' ⟨rfl, rfl⟩; rw [indexByte_plain]) | (go_at_call 40; refine (implwithin_an _ _ _ _).mono ?_; rintro e w' ⟨rfl, rfl⟩))
    all_goals go_ret
    all_goals exact ⟨ret_bool (by first | (simp_all [docNode, plain]; done) | (simp_all [docNode, plain]; omega)), by repeat (first | exact Below.refl _ _ | refine Below.alloc ?_ (by first | omega | (simp; done) | (simp; omega)) _ | refine Below.drew ?_)⟩
  by_cases k5 : kd = 5
  · subst k5
    all_goals go_enter Try.func62, Try.ntmps62
    all_goals go_wp2_with (first | (go_at_call 73; refine (Try.strings_Contains_one _ _ _).mono ?_; rintro e w' ⟨rfl, rfl⟩; rw [indexByte_plain]) | (go_at_call 40; refine (implwithin_an _ _ _ _).mono ?_; rintro e w' ⟨rfl, rfl⟩))
    all_goals go_ret
    all_goals exact ⟨ret_bool (by first | (simp_all [docNode, plain]; done) | (simp_all [docNode, plain]; omega)), by repeat (first | exact Below.refl _ _ | refine Below.alloc ?_ (by first | omega | (simp; done) | (simp; omega)) _ | refine Below.drew ?_)⟩
  by_cases k6 : kd = 6
  · subst k6
    all_goals go_enter Try.func62, Try.ntmps62
    all_goals go_wp2_with (first | (go_at_call 73; refine (Try.strings_Contains_one _ _ _).mono ?_; rintro e w' ⟨rfl, rfl⟩; rw [indexByte_plain]) | (go_at_call 40; refine (implwithin_an _ _ _ _).mono ?_; rintro e w' ⟨rfl, rfl⟩))
    all_goals go_ret
    all_goals exact ⟨ret_bool (by first | (simp_all [docNode, plain]; done) | (simp_all [docNode, plain]; omega)), by repeat (first | exact Below.refl _ _ | refine Below.alloc ?_ (by first | omega | (simp; done) | (simp; omega)) _ | refine Below.drew ?_)⟩
  have q1 : (kd == 1) = false := by simpa using k1
  have q2 : (kd == 2) = false := by simpa using k2
  have q3 : (kd == 3) = false := by simpa using k3
  have q4 : (kd == 4) = false := by simpa using k4
  have q5 : (kd == 5) = false := by simpa using k5
  have q6 : (kd == 6) = false := by simpa using k6
  all_goals go_enter Try.func62, Try.ntmps62
  all_goals go_wp2_with (first | (go_at_call 73; refine (Try.strings_Contains_one _ _ _).mono ?_; rintro e w' ⟨rfl, rfl⟩; rw [indexByte_plain]) | (go_at_call 40; refine (implwithin_an _ _ _ _).mono ?_; rintro e w' ⟨rfl, rfl⟩))
  all_goals go_ret
  all_goals exact ⟨ret_bool (by first | (simp_all [docNode, plain]; done) | (simp_all [docNode, plain]; omega)), by repeat (first | exact Below.refl _ _ | refine Below.alloc ?_ (by first | omega | (simp; done) | (simp; omega)) _ | refine Below.drew ?_)⟩

end Go.Proofs.Ytfabfkaolnidiaa
