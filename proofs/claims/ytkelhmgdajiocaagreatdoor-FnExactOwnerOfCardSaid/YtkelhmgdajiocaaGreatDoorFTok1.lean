/- Walks and lemmas of this seat (FTok1): what each theorem says of the functions that it names. Conditions: those that each theorem states. -/
import Derived.Test.YtkelhmgdajiocaaGreatDoorRows
import Derived.Test.YtkelhmgdajiocaaGreatDoorGA
namespace Go.Proofs.YtkelhmgdajiocaaGreatDoor
set_option linter.unusedVariables false
set_option linter.unusedSimpArgs false
open Go.RowKit

/-! Brackets. -/
def openB (k : Int) : Bool := k == 32 || k == 34 || k == 30
def shutB (k : Int) : Bool := k == 33 || k == 35 || k == 31

theorem implopens_any (k : Int) (w : World) : Calls Tryz.prog 54 #[.int .i64 k] w fun e w' => e = .returned (.bool (openB k)) ∧ w = w' := by
  go_enter Tryz.func54, Tryz.ntmps54
  go_wp2
  all_goals go_ret
  all_goals exact ⟨ret_bool (by unfold openB; simp_all), rfl⟩
theorem implshuts_any (k : Int) (w : World) : Calls Tryz.prog 53 #[.int .i64 k] w fun e w' => e = .returned (.bool (shutB k)) ∧ w = w' := by
  go_enter Tryz.func53, Tryz.ntmps53
  go_wp2
  all_goals go_ret
  all_goals exact ⟨ret_bool (by unfold shutB; simp_all), rfl⟩
/-! Operands. -/
def leafB (k : Int) : Bool := inB k 3 8
theorem implisOperand_any (t : Token) (w : World) : Calls Tryz.prog 38 #[.agg #[.int .i64 t.kind, .string t.text, .int .i64 t.at_]] w fun e w' => e = .returned (.bool (leafB t.kind)) ∧ Below w.heap.size w w' := by
  go_enter Tryz.func38, Tryz.ntmps38
  go_wp2_with (go_at_call 45; refine (implwithin_any _ _ _ _).mono ?_; rintro e w' ⟨rfl, rfl⟩)
  go_ret
  exact ⟨rfl, by repeat (first | exact Below.refl _ _ | refine Below.alloc ?_ (by first | omega | (simp; done) | (simp; omega)) _ | refine Below.drew ?_)⟩

def operands : List Token → Nat
  | [] => 0
  | x :: l => operands l + if leafB x.kind then 1 else 0

theorem ope_next {x : Token} {l : List Token} {n : Nat} {q : Nat} (h : n = q + operands (x :: l)) : (leafB x.kind = true → n = q + 1 + operands l) ∧ (leafB x.kind = false → n = q + operands l) := by
  unfold operands at h
  constructor
  · intro h'; rw [h'] at h; simp at h; omega
  · intro h'; rw [h'] at h; simp at h; omega

set_option maxRecDepth 100000 in
theorem implOperands_any (l0 : List Token) (v0 : Value) (w : World) (hx0 : ∀ x ∈ l0, x.Ok) (hn0 : bulk Token.sizes l0 ≤ 1048576) (hv0 : Slc w v0 3 l0.length (l0.flatMap Token.cells)) :
    Calls Tryz.prog 28 #[v0] w fun e w' => e = .returned (.int .i64 (operands l0)) ∧ Below w.heap.size w w' := by
  obtain ⟨_, a, cap, rfl, hc, hm, hrow⟩ := hv0
  unfold maxLen at hm
  go_enter Tryz.func28, Tryz.ntmps28
  go_wp2
  go_loopw [3, 8] (fun n i wr => ∃ (k q : Nat), i = .int .i64 k ∧ k ≤ l0.length ∧ n = .int .i64 q ∧ q ≤ k ∧ Below w.heap.size w wr ∧ Hid (operands l0 = q + operands (l0.drop k))) (fun _ i _ => l0.length - (intOf i).toNat)
  case atStart => exact ⟨0, 0, rfl, by omega, rfl, by omega, Below.refl _ _, by show operands l0 = 0 + operands l0; omega⟩
  obtain ⟨k, q, rfl, hk, rfl, hq, hb, hrel⟩ := hrel
  have hbs := hb.size
  by_cases hlt : k < l0.length
  · obtain ⟨x, hx⟩ := get_of_lt hlt
    obtain ⟨b, off, rfl, hro⟩ := slc_some hrow (by omega)
    have hrw := hro.mono hb (Nat.le_refl _)
    have c0 := hrw.flat0 3 Token.len hx rfl
    have c1 := hrw.flat 3 Token.len hx 1 rfl
    have c2 := hrw.flat 3 Token.len hx 2 rfl
    have hmem := List.mem_of_getElem? hx
    rw [drop_cons hx] at hrel
    have HX := hid hx
    clear hx
    go_wp2_with (go_at_call 38; refine (implisOperand_any x _).mono ?_; rintro e w' ⟨rfl, hb1⟩; have hb2 := (show Below w.heap.size w _ from by repeat (first | exact hb | refine Below.alloc ?_ (by first | omega | (simp; done) | (simp; omega)) _ | refine Below.drew ?_)).trans (hb1.mono (by simp; omega)))
    · go_roundw
      case rel => exact ⟨k + 1, q + 1, by go_num, by omega, by go_num, by omega, hb2, (ope_next hrel.out).1 (by assumption)⟩
      case measure => simp [intOf]; omega
    · go_roundw
      case rel => exact ⟨k + 1, q, by go_num, by omega, rfl, by omega, hb2, (ope_next hrel.out).2 (by assumption)⟩
      case measure => simp [intOf]; omega
  · go_wp2
    go_ret
    exact ⟨ret_int (by rw [hrel.out, List.drop_of_length_le (by omega)]; simp [operands]), hb⟩

/-! Bare. -/
def bare (kind : Int) : List Token → Int → Bool
  | [], _ => false
  | x :: l, d => if (x.kind == kind && (d - if shutB x.kind then 1 else 0) == 0) = true then true
      else bare kind l ((d - if shutB x.kind then 1 else 0) + if openB x.kind then 1 else 0)

set_option maxRecDepth 100000 in
theorem implBare_any (l0 : List Token) (v0 : Value) (a1 : Int) (w : World) (hx0 : ∀ x ∈ l0, x.Ok) (hn0 : bulk Token.sizes l0 ≤ 1048576) (hv0 : Slc w v0 3 l0.length (l0.flatMap Token.cells)) (ha1 : I64 a1) :
    Calls Tryz.prog 26 #[v0, .int .i64 a1] w fun e w' => e = .returned (.bool (bare a1 l0 0)) ∧ Below w.heap.size w w' := by
  obtain ⟨_, a, cap, rfl, hc, hm, hrow⟩ := hv0
  unfold maxLen at hm
  have hn := length_bulk Token.sizes l0
  go_enter Tryz.func26, Tryz.ntmps26
  go_wp2
  go_loopw [5, 10] (fun n i wr => ∃ (k : Nat) (q : Int), i = .int .i64 k ∧ k ≤ l0.length ∧ n = .int .i64 q ∧ q ≤ k ∧ -k ≤ q ∧ Below w.heap.size w wr ∧ Hid (bare a1 l0 0 = bare a1 (l0.drop k) q)) (fun _ i _ => l0.length - (intOf i).toNat)
  case atStart => exact ⟨0, 0, rfl, by omega, rfl, by omega, by omega, Below.refl _ _, hid rfl⟩
  obtain ⟨k, q, rfl, hk, rfl, hq, hq2, hb, hrel⟩ := hrel
  have hbs := hb.size
  by_cases hlt : k < l0.length
  · obtain ⟨x, hx⟩ := get_of_lt hlt
    obtain ⟨b, off, rfl, hro⟩ := slc_some hrow (by omega)
    have hrw := hro.mono hb (Nat.le_refl _)
    have c0 := hrw.flat0 3 Token.len hx rfl
    have c1 := hrw.flat 3 Token.len hx 1 rfl
    have c2 := hrw.flat 3 Token.len hx 2 rfl
    have hmem := List.mem_of_getElem? hx
    rw [drop_cons hx] at hrel
    have HX := hid hx
    clear hx
    go_wp2_with (first | (go_at_call 53; refine (implshuts_any _ _).mono ?_; rintro e w' ⟨rfl, rfl⟩) | (go_at_call 54; refine (implopens_any _ _).mono ?_; rintro e w' ⟨rfl, rfl⟩))
    all_goals first
      | (go_ret; exact ⟨ret_bool (by rw [hrel.out, bare, if_pos (by simp_all)]), by repeat (first | exact hb | refine Below.alloc ?_ (by first | omega | (simp; done) | (simp; omega)) _ | refine Below.drew ?_)⟩)
      | (go_roundw
         · exact ⟨k + 1, _, by go_num, by omega, rfl, by omega, by omega, by repeat (first | exact hb | refine Below.alloc ?_ (by first | omega | (simp; done) | (simp; omega)) _ | refine Below.drew ?_), hid (by rw [hrel.out, bare, if_neg (by simp_all)]; simp_all)⟩
         · simp [intOf]; omega)
  · go_wp2
    go_ret
    exact ⟨ret_bool (by rw [hrel.out, List.drop_of_length_le (by omega)]; simp [bare]), hb⟩

end Go.Proofs.YtkelhmgdajiocaaGreatDoor
