/- Walks and lemmas of this seat (HTokenM): what each theorem says of the functions that it names. Conditions: those that each theorem states. -/
import Derived.Test.YtbmaaeddkppbhaaRows
import Derived.Test.YtbmaaeddkppbhaaHMark
namespace Go.Proofs.Ytbmaaeddkppbhaa
set_option linter.unusedVariables false
set_option linter.unusedSimpArgs false
open Go.RowKit


def mkToken (q : Nat) : Token := ⟨((q : Nat) : Int), markT (q + 1), ((q + 2 : Nat) : Int)⟩
def markLToken (q n : Nat) : List Token := (List.range n).map fun i => mkToken (q + 3 * i)
theorem markLToken_len (q n : Nat) : (markLToken q n).length = n := by simp [markLToken]
theorem markLToken_get (q n i : Nat) (h : i < n) : (markLToken q n)[i]? = some (mkToken (q + 3 * i)) := by simp [markLToken, h]
theorem markLToken_succ (q i : Nat) : markLToken q (i + 1) = markLToken q i ++ [mkToken (q + 3 * i)] := by simp [markLToken, List.range_succ]
/-- The row while it is being marked. -/
def mixToken (k0 : Nat) (l : List Token) (i : Nat) : List Value := (markLToken k0 i).flatMap Token.cells ++ (l.drop i).flatMap Token.cells
theorem markToken_step {k0 k q : Nat} {l : List Token} {x : Token} (hx : l[k]? = some x) (hq : q = k0 + 3 * k) (hk : k < l.length) :
    setAll (mixToken k0 l k) (k * 3) [.int .i64 ((q : Int)), .string (markT (q + 1)), .int .i64 ((q : Int) + 2)] = mixToken k0 l (k + 1) := by
  unfold mixToken
  rw [drop_cons hx, List.flatMap_cons, setAll_mid _ _ x.cells _ _ (by rw [flat_len _ 3 Token.len, markLToken_len]) (by simp [Token.cells]), markLToken_succ, ← hq]
  simp [mkToken, Token.cells]

set_option maxRecDepth 100000 in
theorem markTokenS_any {B : Nat} (l : List Token) (v : Value) (k0 : Nat) (w : World) (hn : l.length ≤ 1048576) (hk0 : k0 ≤ 1048576) (h : w.ownsRow B 82 3 v l.length (l.flatMap Token.cells)) :
    Calls Try.prog 48 #[v, .int .i64 k0] w fun e w' => e = .returned (.int .i64 ((k0 + 3 * l.length : Nat) : Int)) ∧ w.grownBy w' v.ownBlock ∧ w'.ownsRow B 82 3 v l.length ((markLToken k0 l.length).flatMap Token.cells) := by
  obtain ⟨a, cap, rfl, hm⟩ := own_slice h
  unfold maxLen at hm
  go_enter Try.func48, Try.ntmps48
  go_wp2
  go_loopw [1, 5] (fun kv i wr => ∃ (k q : Nat), i = .int .i64 k ∧ k ≤ l.length ∧ kv = .int .i64 q ∧ q = k0 + 3 * k ∧ w.grownBy wr (Value.slice a l.length cap).ownBlock ∧ wr.ownsRow B 82 3 (.slice a l.length cap) l.length (mixToken k0 l k)) (fun _ i _ => l.length - (intOf i).toNat)
  case atStart => exact ⟨0, k0, rfl, by omega, rfl, by omega, grown_refl _ _, by simpa [mixToken, markLToken] using h⟩
  obtain ⟨k, q, rfl, hk, rfl, hq, hgr, hfr⟩ := hrel
  by_cases hlt : k < l.length
  · obtain ⟨x, hx0⟩ := get_of_lt hlt
    obtain ⟨g, rfl⟩ := own_some hfr (by omega)
    have hx : Hid (l[k]? = some x) := hx0
    have hqq : q ≤ k0 + 3 * k := by omega
    have hqq2 : k0 + 3 * k ≤ q := by omega
    have HQ := hid hq
    clear hx0 hq h
    obtain ⟨⟨d0, e0⟩, z0⟩ := own_cell hfr (k * 3) (by omega)
    go_wp2_with fail
    refine (markText_int _ (q + 1) _ (by omega) (by omega)).mono ?_; rintro e w2 ⟨rfl, hb2⟩
    have ho1 := own_below (hfr.stored (k * 3) (.int .i64 ((q : Int)))).1 hb2 (Nat.le_refl _)
    obtain ⟨⟨d1, e1⟩, z1⟩ := own_cell ho1 (k * 3 + 1) (by omega)
    obtain ⟨⟨d2, e2⟩, z2⟩ := own_cell ho1 (k * 3 + 2) (by omega)
    go_wp2
    go_roundw
    case rel => exact ⟨k + 1, q + 3, by go_num, by omega, by go_num, by omega, (grown_trans (grown_trans (grown_trans (grown_trans hgr (grown_set _ _ (k * 3) (.int .i64 ((q : Int))))) (grown_below hb2)) (grown_set _ _ (k * 3 + 1) (.string (markT (q + 1))))) (grown_set _ _ (k * 3 + 2) (.int .i64 ((q : Int) + 2)))), by have h := ((ho1.stored (k * 3 + 1) (.string (markT (q + 1)))).1.stored (k * 3 + 2) (.int .i64 ((q : Int) + 2))).1; rw [← markToken_step hx HQ.out (by omega)]; exact h⟩
    case measure => simp [intOf]; omega
  · go_wp2
    go_ret
    have hkl : k = l.length := by omega
    subst hkl
    exact ⟨ret_int (by rw [hq]), hgr, by simpa [mixToken] using hfr⟩

set_option maxRecDepth 100000 in
theorem heldTokenS_any (n : Nat) (v : Value) (k0 : Nat) (w : World) (hn : n ≤ 1048576) (hk0 : k0 ≤ 1048576) (hv : Slc w v 3 n ((markLToken k0 n).flatMap Token.cells)) :
    Calls Try.prog 49 #[v, .int .i64 k0] w fun e w' => e = .returned (.int .i64 ((k0 + 3 * n : Nat) : Int)) ∧ Below w.heap.size w w' := by
  obtain ⟨_, a, cap, rfl, hc, hm, hrow⟩ := hv
  unfold maxLen at hm
  go_enter Try.func49, Try.ntmps49
  go_wp2
  go_loopw [1, 5] (fun kv i wr => ∃ (k q : Nat), i = .int .i64 k ∧ k ≤ n ∧ kv = .int .i64 q ∧ q = k0 + 3 * k ∧ Below w.heap.size w wr) (fun _ i _ => n - (intOf i).toNat)
  case atStart => exact ⟨0, k0, rfl, by omega, rfl, by omega, Below.refl _ _⟩
  obtain ⟨k, q, rfl, hk, rfl, hq, hb⟩ := hrel
  by_cases hlt : k < n
  · have hx := markLToken_get k0 n k hlt
    rw [← hq] at hx
    obtain ⟨b, off, rfl, hro⟩ := slc_some hrow (by omega)
    have hqq : q ≤ k0 + 3 * k := by omega
    have hqq2 : k0 + 3 * k ≤ q := by omega
    have HQ := hid hq
    have HX := hid hx
    clear hq hx
    have hrw := hro.mono hb (Nat.le_refl _)
    have c0 := hrw.flat0 3 Token.len HX.out rfl
    simp only [mkToken] at c0
    have c1 := hrw.flat 3 Token.len HX.out 1 rfl
    simp only [mkToken] at c1
    have c2 := hrw.flat 3 Token.len HX.out 2 rfl
    simp only [mkToken] at c2
    go_wp2_with fail
    go_region_held3 (fun w2 => Below wr.heap.size wr w2 ∧ w2.cell? ⟨b, off + k * 3 + 1, none⟩ = some (.string (markT (q + 1)))) (first | exact ⟨(Below.refl _ _).drew, c1⟩ | exact keep_cell2 (by assumption) hbx0 c1 | exact keep_cell (by assumption) hbx0 c1 (Nat.le_refl _) | go_keep) (first | (go_at_call 65; refine (markText_int _ (q + 1) _ (by omega) (by omega)).mono ?_; rintro e wx0 ⟨rfl, hbx0⟩))
    have hS0 := (‹Below wr.heap.size wr wx0 ∧ _›).1
    have hrx0 := hrw.mono hS0 (Nat.le_refl _)
    have hacc0 := hb.trans (hS0.mono hb.size)
    clear c2
    have c2 := hrx0.flat 3 Token.len HX.out 2 rfl
    simp only [mkToken] at c2
    go_wp2
    go_roundw
    case rel => exact ⟨k + 1, q + 3, by go_num, by omega, by go_num, by omega, hacc0⟩
    case measure => simp [intOf]; omega
  · go_wp2
    go_ret
    have hkl : k = n := by omega
    subst hkl
    exact ⟨ret_int (by rw [hq]), hb⟩

end Go.Proofs.Ytbmaaeddkppbhaa
