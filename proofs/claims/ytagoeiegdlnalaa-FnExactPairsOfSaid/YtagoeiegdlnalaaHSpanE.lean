/- Walks and lemmas of this seat (HSpanE): what each theorem says of the functions that it names. Conditions: those that each theorem states. -/
import Derived.Test.YtagoeiegdlnalaaRows
import Derived.Test.YtagoeiegdlnalaaLift
namespace Go.Proofs.Ytagoeiegdlnalaa
set_option linter.unusedVariables false
set_option linter.unusedSimpArgs false
open Go.RowKit


theorem eqSpan_any (x y : Span) (w : World) :
    Calls Try.prog 71 #[.agg #[.int .i64 x.lo, .int .i64 x.hi], .agg #[.int .i64 y.lo, .int .i64 y.hi]] w fun e w' => e = .returned (.bool (eqSpan x y)) ∧ Below w.heap.size w w' := by
  go_enter Try.func71, Try.ntmps71
  go_wp2
  all_goals go_ret
  all_goals exact ⟨ret_bool (by unfold eqSpan; simp_all), by repeat (first | exact Below.refl _ _ | refine Below.alloc ?_ (by first | omega | (simp; done) | (simp; omega)) _ | refine Below.drew ?_)⟩

set_option maxRecDepth 100000 in
theorem eqSpanS_any (l r : List Span) (v u : Value) (w : World) (hv : Slc w v 2 l.length (l.flatMap Span.cells)) (hu : Slc w u 2 r.length (r.flatMap Span.cells)) :
    Calls Try.prog 37 #[v, u] w fun e w' => e = .returned (.bool (eqList eqSpan l r)) ∧ Below w.heap.size w w' := by
  obtain ⟨_, a, cap, rfl, hc, hm, hrow⟩ := hv
  obtain ⟨_, a', cap', rfl, hc', hm', hrow'⟩ := hu
  unfold maxLen at hm hm'
  by_cases hlen : l.length = r.length
  · have hle : ((l.length : Int) != (r.length : Int)) = false := by rw [hlen]; simp
    have HL := hid hlen
    have hl1 : l.length ≤ r.length := by omega
    have hl2 : r.length ≤ l.length := by omega
    clear hlen
    go_enter Try.func37, Try.ntmps37
    go_wp2
    go_loopw [5] (fun i wr => ∃ (k : Nat), i = .int .i64 k ∧ k ≤ l.length ∧ Below w.heap.size w wr ∧ Hid (eqList eqSpan l r = eqLoop eqSpan (l.drop k) (r.drop k))) (fun i _ => l.length - (intOf i).toNat)
    case atStart => exact ⟨0, rfl, by omega, Below.refl _ _, by show eqList _ _ _ = _; rw [eqList, if_pos HL.out]; rfl⟩
    obtain ⟨k, rfl, hk, hb, hrel⟩ := hrel
    by_cases hlt : k < l.length
    · obtain ⟨x, hx⟩ := get_of_lt hlt
      obtain ⟨y, hy⟩ := get_of_lt (l := r) (k := k) (by omega)
      obtain ⟨b, off, rfl, hro⟩ := slc_some hrow (by omega)
      obtain ⟨b', off', rfl, hro'⟩ := slc_some hrow' (by omega)
      have hrw := hro.mono hb (Nat.le_refl _)
      have hrw' := hro'.mono hb (Nat.le_refl _)
      have c0 := hrw.flat0 2 Span.len hx rfl
      have c1 := hrw.flat 2 Span.len hx 1 rfl
      have g0 := hrw'.flat0 2 Span.len hy rfl
      have g1 := hrw'.flat 2 Span.len hy 1 rfl
      rw [drop_cons hx, drop_cons hy] at hrel
      have hkr : k < r.length := by omega
      clear hx hy
      by_cases hxy : eqSpan x y = true
      · go_wp2_with fail
        go_still_tail 8, (by kernel_rfl)
        go_wp2_with (go_at_call 71; refine (eqSpan_any x y _).mono ?_; rintro e w' ⟨rfl, hb1⟩)
        go_roundw
        case rel => exact ⟨k + 1, by go_num, by omega, hb.drew.trans (hb1.mono hb.size), by rw [hrel.out, eqLoop, if_pos hxy]; exact hid rfl⟩
        case measure => simp [intOf]; omega
      · have hxy' : eqSpan x y = false := by simpa using hxy
        go_wp2_with fail
        go_still_tail 8, (by kernel_rfl)
        go_wp2_with (go_at_call 71; refine (eqSpan_any x y _).mono ?_; rintro e w' ⟨rfl, hb1⟩)
        go_ret
        exact ⟨ret_bool (by rw [hrel.out, eqLoop, if_neg hxy]), hb.drew.trans (hb1.mono hb.size)⟩
    · go_wp2
      go_ret
      exact ⟨ret_bool (by rw [hrel.out, List.drop_of_length_le (by omega), eqLoop]; simp), hb⟩
  · have hle : ((l.length : Int) != (r.length : Int)) = true := by simp; omega
    have HL := hid hlen
    clear hlen
    go_enter Try.func37, Try.ntmps37
    go_wp2
    go_ret
    exact ⟨ret_bool (by rw [eqList, if_neg HL.out]), Below.refl _ _⟩

end Go.Proofs.Ytagoeiegdlnalaa
