/- Walks and lemmas of this seat (FNestOf): what each theorem says of the functions that it names. Conditions: those that each theorem states. -/
import Derived.Test.YtbmaaeddkppbhaaRows
import Derived.Test.YtbmaaeddkppbhaaFTok1
namespace Go.Proofs.Ytbmaaeddkppbhaa
set_option linter.unusedVariables false
set_option linter.unusedSimpArgs false
open Go.RowKit

/-! NestOf. -/
theorem open_not_shut {k : Int} (h : openB k = true) : shutB k = false := by
  unfold openB at h; unfold shutB; simp at h ⊢; omega
def nestStep (x : Token) (d : Int) : Int := if openB x.kind = true then d + 1 else if shutB x.kind = true then (if d - 1 < 0 then 0 else d - 1) else d
theorem nestStep_eq {x : Token} {d r : Int} (h : (openB x.kind = true ∧ r = d + 1) ∨ (openB x.kind = false ∧ shutB x.kind = true ∧ ((d - 1 < 0 ∧ r = 0) ∨ (¬ d - 1 < 0 ∧ r = d - 1))) ∨ (openB x.kind = false ∧ shutB x.kind = false ∧ r = d)) : nestStep x d = r := by
  unfold nestStep
  rcases h with ⟨h, rfl⟩ | ⟨h, h2, h3⟩ | ⟨h, h2, rfl⟩
  · rw [if_pos h]
  · rw [h, h2]; simp; rcases h3 with ⟨h3, rfl⟩ | ⟨h3, rfl⟩
    · rw [if_pos h3]
    · rw [if_neg h3]
  · rw [h, h2]; simp
def nestOf : List Token → Nat → Int → Int
  | [], _, _ => -1
  | x :: l, k, d => if 40 < nestStep x d then k else nestOf l (k + 1) (nestStep x d)

theorem nestOf_go {x : Token} {l : List Token} {k : Nat} {d r n : Int} (hn : n = nestOf (x :: l) k d) (h : nestStep x d = r) (hr : r ≤ 40) : n = nestOf l (k + 1) r := by
  rw [hn, nestOf, h, if_neg (by omega)]
theorem nestOf_end {x : Token} {l : List Token} {k : Nat} {d r n : Int} (hn : n = nestOf (x :: l) k d) (hr : 40 < r) (h : nestStep x d = r) : n = k := by
  rw [hn, nestOf, h, if_pos hr]

set_option maxRecDepth 100000 in
theorem implNestOf_any (l0 : List Token) (v0 : Value) (w : World) (hx0 : ∀ x ∈ l0, x.Ok) (hn0 : bulk Token.sizes l0 ≤ 1048576) (hv0 : Slc w v0 3 l0.length (l0.flatMap Token.cells)) :
    Calls Try.prog 39 #[v0] w fun e w' => e = .returned (.int .i64 (nestOf l0 0 0)) ∧ Below w.heap.size w w' := by
  obtain ⟨_, a, cap, rfl, hc, hm, hrow⟩ := hv0
  unfold maxLen at hm
  have hn := length_bulk Token.sizes l0
  go_enter Try.func39, Try.ntmps39
  go_wp2
  go_loopw [3, 8] (fun n i wr => ∃ (k : Nat) (q : Int), i = .int .i64 k ∧ k ≤ l0.length ∧ n = .int .i64 q ∧ q ≤ k ∧ 0 ≤ q ∧ Below w.heap.size w wr ∧ Hid (nestOf l0 0 0 = nestOf (l0.drop k) k q)) (fun _ i _ => l0.length - (intOf i).toNat)
  case atStart => exact ⟨0, 0, rfl, by omega, rfl, by omega, by omega, Below.refl _ _, hid rfl⟩
  obtain ⟨k, q, rfl, hk, rfl, hq, hq2, hb, hrel⟩ := hrel
  have hbs := hb.size
  by_cases hlt : k < l0.length
  · obtain ⟨x, hx⟩ := get_of_lt hlt
    obtain ⟨b, off, rfl, hro⟩ := slc_some hrow (by omega)
    have hrw := hro.mono hb (Nat.le_refl _)
    have c0 := hrw.flat0 3 Token.len hx rfl
    have c1 := hrw.flat 3 Token.len hx 1 rfl
    have c2 := hrw.flat 3 Token.len hx 2 rfl
    have hmem := List.mem_of_getElem? hx
    rw [drop_cons hx] at hrel
    have HX := hid hx
    clear hx
    have hns := @open_not_shut x.kind
    go_wp2_with (first | (go_at_call 73; refine (implshuts_any _ _).mono ?_; rintro e w' ⟨rfl, rfl⟩) | (go_at_call 74; refine (implopens_any _ _).mono ?_; rintro e w' ⟨rfl, rfl⟩))
    all_goals first
      | (go_ret; exact ⟨ret_int (Eq.symm (nestOf_end hrel.out (by assumption) (nestStep_eq (by simp_all <;> omega)))), by repeat (first | exact hb | refine Below.alloc ?_ (by first | omega | (simp; done) | (simp; omega)) _ | refine Below.drew ?_)⟩)
      | (go_roundw
         · exact ⟨k + 1, _, by go_num, by omega, rfl, by omega, by omega, by repeat (first | exact hb | refine Below.alloc ?_ (by first | omega | (simp; done) | (simp; omega)) _ | refine Below.drew ?_), hid (nestOf_go hrel.out (nestStep_eq (by simp_all <;> omega)) (by assumption))⟩
         · simp [intOf]; omega)
  · go_wp2
    go_ret
    exact ⟨ret_int (by rw [hrel.out, List.drop_of_length_le (by omega)]; simp [nestOf]), hb⟩
set_option maxRecDepth 100000 in
theorem specNestOf_any (l0 : List Token) (v0 : Value) (w : World) (hx0 : ∀ x ∈ l0, x.Ok) (hn0 : bulk Token.sizes l0 ≤ 1048576) (hv0 : Slc w v0 3 l0.length (l0.flatMap Token.cells)) :
    Calls Try.prog 38 #[v0] w fun e w' => e = .returned (.int .i64 (nestOf l0 0 0)) ∧ Below w.heap.size w w' := by
  obtain ⟨_, a, cap, rfl, hc, hm, hrow⟩ := hv0
  unfold maxLen at hm
  have hn := length_bulk Token.sizes l0
  go_enter Try.func38, Try.ntmps38
  go_wp2
  go_loopw [3, 4] (fun n i wr => ∃ (k : Nat) (q : Int), i = .int .i64 k ∧ k ≤ l0.length ∧ n = .int .i64 q ∧ q ≤ k ∧ 0 ≤ q ∧ Below w.heap.size w wr ∧ Hid (nestOf l0 0 0 = nestOf (l0.drop k) k q)) (fun _ i _ => l0.length - (intOf i).toNat)
  case atStart => exact ⟨0, 0, rfl, by omega, rfl, by omega, by omega, Below.refl _ _, hid rfl⟩
  obtain ⟨k, q, rfl, hk, rfl, hq, hq2, hb, hrel⟩ := hrel
  have hbs := hb.size
  by_cases hlt : k < l0.length
  · obtain ⟨x, hx⟩ := get_of_lt hlt
    obtain ⟨b, off, rfl, hro⟩ := slc_some hrow (by omega)
    have hrw := hro.mono hb (Nat.le_refl _)
    have c0 := hrw.flat0 3 Token.len hx rfl
    have c1 := hrw.flat 3 Token.len hx 1 rfl
    have c2 := hrw.flat 3 Token.len hx 2 rfl
    have hmem := List.mem_of_getElem? hx
    rw [drop_cons hx] at hrel
    have HX := hid hx
    clear hx
    have hns := @open_not_shut x.kind
    go_wp2_with (first | (go_at_call 71; refine (specl10Close_any _ _).mono ?_; rintro e w' ⟨rfl, rfl⟩) | (go_at_call 72; refine (specl10Open_any _ _).mono ?_; rintro e w' ⟨rfl, rfl⟩))
    all_goals first
      | (go_ret; exact ⟨ret_int (Eq.symm (nestOf_end hrel.out (by assumption) (nestStep_eq (by simp_all <;> omega)))), by repeat (first | exact hb | refine Below.alloc ?_ (by first | omega | (simp; done) | (simp; omega)) _ | refine Below.drew ?_)⟩)
      | (go_roundw
         · exact ⟨k + 1, _, by go_num, by omega, rfl, by omega, by omega, by repeat (first | exact hb | refine Below.alloc ?_ (by first | omega | (simp; done) | (simp; omega)) _ | refine Below.drew ?_), hid (nestOf_go hrel.out (nestStep_eq (by simp_all <;> omega)) (by assumption))⟩
         · simp [intOf]; omega)
  · go_wp2
    go_ret
    exact ⟨ret_int (by rw [hrel.out, List.drop_of_length_le (by omega)]; simp [nestOf]), hb⟩
end Go.Proofs.Ytbmaaeddkppbhaa
