/- Walks and lemmas of this seat (HSpanM): what each theorem says of the functions that it names. Conditions: those that each theorem states. -/
import Derived.Test.YtagoeiegdlnalaaRows
import Derived.Test.YtagoeiegdlnalaaHSpanE
import Derived.Test.YtagoeiegdlnalaaHMark
namespace Go.Proofs.Ytagoeiegdlnalaa
set_option linter.unusedVariables false
set_option linter.unusedSimpArgs false
open Go.RowKit


def mkSpan (q : Nat) : Span := ⟨((q : Nat) : Int), ((q + 1 : Nat) : Int)⟩
def markLSpan (q n : Nat) : List Span := (List.range n).map fun i => mkSpan (q + 2 * i)
theorem markLSpan_len (q n : Nat) : (markLSpan q n).length = n := by simp [markLSpan]
theorem markLSpan_get (q n i : Nat) (h : i < n) : (markLSpan q n)[i]? = some (mkSpan (q + 2 * i)) := by simp [markLSpan, h]
theorem markLSpan_succ (q i : Nat) : markLSpan q (i + 1) = markLSpan q i ++ [mkSpan (q + 2 * i)] := by simp [markLSpan, List.range_succ]
/-- The row while it is being marked. -/
def mixSpan (k0 : Nat) (l : List Span) (i : Nat) : List Value := (markLSpan k0 i).flatMap Span.cells ++ (l.drop i).flatMap Span.cells
theorem markSpan_step {k0 k q : Nat} {l : List Span} {x : Span} (hx : l[k]? = some x) (hq : q = k0 + 2 * k) (hk : k < l.length) :
    setAll (mixSpan k0 l k) (k * 2) [.int .i64 ((q : Int)), .int .i64 ((q : Int) + 1)] = mixSpan k0 l (k + 1) := by
  unfold mixSpan
  rw [drop_cons hx, List.flatMap_cons, setAll_mid _ _ x.cells _ _ (by rw [flat_len _ 2 Span.len, markLSpan_len]) (by simp [Span.cells]), markLSpan_succ, ← hq]
  simp [mkSpan, Span.cells]

set_option maxRecDepth 100000 in
theorem markSpanS_any {B : Nat} (l : List Span) (v : Value) (k0 : Nat) (w : World) (hn : l.length ≤ 1048576) (hk0 : k0 ≤ 1048576) (h : w.ownsRow B 84 2 v l.length (l.flatMap Span.cells)) :
    Calls Try.prog 40 #[v, .int .i64 k0] w fun e w' => e = .returned (.int .i64 ((k0 + 2 * l.length : Nat) : Int)) ∧ w.grownBy w' v.ownBlock ∧ w'.ownsRow B 84 2 v l.length ((markLSpan k0 l.length).flatMap Span.cells) := by
  obtain ⟨a, cap, rfl, hm⟩ := own_slice h
  unfold maxLen at hm
  go_enter Try.func40, Try.ntmps40
  go_wp2
  go_loopw [1, 5] (fun kv i wr => ∃ (k q : Nat), i = .int .i64 k ∧ k ≤ l.length ∧ kv = .int .i64 q ∧ q = k0 + 2 * k ∧ w.grownBy wr (Value.slice a l.length cap).ownBlock ∧ wr.ownsRow B 84 2 (.slice a l.length cap) l.length (mixSpan k0 l k)) (fun _ i _ => l.length - (intOf i).toNat)
  case atStart => exact ⟨0, k0, rfl, by omega, rfl, by omega, grown_refl _ _, by simpa [mixSpan, markLSpan] using h⟩
  obtain ⟨k, q, rfl, hk, rfl, hq, hgr, hfr⟩ := hrel
  by_cases hlt : k < l.length
  · obtain ⟨x, hx0⟩ := get_of_lt hlt
    obtain ⟨g, rfl⟩ := own_some hfr (by omega)
    have hx : Hid (l[k]? = some x) := hx0
    have hqq : q ≤ k0 + 2 * k := by omega
    have hqq2 : k0 + 2 * k ≤ q := by omega
    have HQ := hid hq
    clear hx0 hq h
    obtain ⟨⟨d0, e0⟩, z0⟩ := own_cell hfr (k * 2) (by omega)
    obtain ⟨⟨d1, e1⟩, z1⟩ := own_cell hfr (k * 2 + 1) (by omega)
    go_wp2
    go_roundw
    case rel => exact ⟨k + 1, q + 2, by go_num, by omega, by go_num, by omega, (grown_trans (grown_trans hgr (grown_set _ _ (k * 2) (.int .i64 ((q : Int))))) (grown_set _ _ (k * 2 + 1) (.int .i64 ((q : Int) + 1)))), by have h := ((hfr.stored (k * 2) (.int .i64 ((q : Int)))).1.stored (k * 2 + 1) (.int .i64 ((q : Int) + 1))).1; rw [← markSpan_step hx HQ.out (by omega)]; exact h⟩
    case measure => simp [intOf]; omega
  · go_wp2
    go_ret
    have hkl : k = l.length := by omega
    subst hkl
    exact ⟨ret_int (by rw [hq]), hgr, by simpa [mixSpan] using hfr⟩

set_option maxRecDepth 100000 in
theorem heldSpanS_any (n : Nat) (v : Value) (k0 : Nat) (w : World) (hn : n ≤ 1048576) (hk0 : k0 ≤ 1048576) (hv : Slc w v 2 n ((markLSpan k0 n).flatMap Span.cells)) :
    Calls Try.prog 41 #[v, .int .i64 k0] w fun e w' => e = .returned (.int .i64 ((k0 + 2 * n : Nat) : Int)) ∧ Below w.heap.size w w' := by
  obtain ⟨_, a, cap, rfl, hc, hm, hrow⟩ := hv
  unfold maxLen at hm
  go_enter Try.func41, Try.ntmps41
  go_wp2
  go_loopw [1, 5] (fun kv i wr => ∃ (k q : Nat), i = .int .i64 k ∧ k ≤ n ∧ kv = .int .i64 q ∧ q = k0 + 2 * k ∧ Below w.heap.size w wr) (fun _ i _ => n - (intOf i).toNat)
  case atStart => exact ⟨0, k0, rfl, by omega, rfl, by omega, Below.refl _ _⟩
  obtain ⟨k, q, rfl, hk, rfl, hq, hb⟩ := hrel
  by_cases hlt : k < n
  · have hx := markLSpan_get k0 n k hlt
    rw [← hq] at hx
    obtain ⟨b, off, rfl, hro⟩ := slc_some hrow (by omega)
    have hqq : q ≤ k0 + 2 * k := by omega
    have hqq2 : k0 + 2 * k ≤ q := by omega
    have HQ := hid hq
    have HX := hid hx
    clear hq hx
    have hrw := hro.mono hb (Nat.le_refl _)
    have c0 := hrw.flat0 2 Span.len HX.out rfl
    simp only [mkSpan] at c0
    have c1 := hrw.flat 2 Span.len HX.out 1 rfl
    simp only [mkSpan] at c1
    go_wp2
    go_roundw
    case rel => exact ⟨k + 1, q + 2, by go_num, by omega, by go_num, by omega, hb⟩
    case measure => simp [intOf]; omega
  · go_wp2
    go_ret
    have hkl : k = n := by omega
    subst hkl
    exact ⟨ret_int (by rw [hq]), hb⟩

end Go.Proofs.Ytagoeiegdlnalaa
