/- Walks and lemmas of this seat (HTokenMk): what each theorem says of the functions that it names. Conditions: those that each theorem states. -/
import Derived.Test.YtagoeiegdlnalaaRows
import Derived.Test.YtagoeiegdlnalaaHMark
namespace Go.Proofs.Ytagoeiegdlnalaa
set_option linter.unusedVariables false
set_option linter.unusedSimpArgs false
open Go.RowKit


def mkToken (q : Nat) : Token := ⟨((q : Nat) : Int), markT (q + 1), ((q + 2 : Nat) : Int)⟩
def markLToken (q n : Nat) : List Token := (List.range n).map fun i => mkToken (q + 3 * i)
theorem markLToken_len (q n : Nat) : (markLToken q n).length = n := by simp [markLToken]
theorem markLToken_get (q n i : Nat) (h : i < n) : (markLToken q n)[i]? = some (mkToken (q + 3 * i)) := by simp [markLToken, h]
theorem markLToken_succ (q i : Nat) : markLToken q (i + 1) = markLToken q i ++ [mkToken (q + 3 * i)] := by simp [markLToken, List.range_succ]
/-- The row while it is being marked. -/
def mixToken (k0 : Nat) (l : List Token) (i : Nat) : List Value := (markLToken k0 i).flatMap Token.cells ++ (l.drop i).flatMap Token.cells
theorem markToken_step {k0 k q : Nat} {l : List Token} {x : Token} (hx : l[k]? = some x) (hq : q = k0 + 3 * k) (hk : k < l.length) :
    setAll (mixToken k0 l k) (k * 3) [.int .i64 ((q : Int)), .string (markT (q + 1)), .int .i64 ((q : Int) + 2)] = mixToken k0 l (k + 1) := by
  unfold mixToken
  rw [drop_cons hx, List.flatMap_cons, setAll_mid _ _ x.cells _ _ (by rw [flat_len _ 3 Token.len, markLToken_len]) (by simp [Token.cells]), markLToken_succ, ← hq]
  simp [mkToken, Token.cells]

set_option maxRecDepth 100000 in
theorem markTokenS_any {B : Nat} (l : List Token) (v : Value) (k0 : Nat) (w : World) (hn : l.length ≤ 1048576) (hk0 : k0 ≤ 1048576) (h : w.ownsRow B 82 3 v l.length (l.flatMap Token.cells)) :
    Calls Try.prog 39 #[v, .int .i64 k0] w fun e w' => e = .returned (.int .i64 ((k0 + 3 * l.length : Nat) : Int)) ∧ w.grownBy w' v.ownBlock ∧ w'.ownsRow B 82 3 v l.length ((markLToken k0 l.length).flatMap Token.cells) := by
  obtain ⟨a, cap, rfl, hm⟩ := own_slice h
  unfold maxLen at hm
  go_enter Try.func39, Try.ntmps39
  go_wp2
  go_loopw [1, 5] (fun kv i wr => ∃ (k q : Nat), i = .int .i64 k ∧ k ≤ l.length ∧ kv = .int .i64 q ∧ q = k0 + 3 * k ∧ w.grownBy wr (Value.slice a l.length cap).ownBlock ∧ wr.ownsRow B 82 3 (.slice a l.length cap) l.length (mixToken k0 l k)) (fun _ i _ => l.length - (intOf i).toNat)
  case atStart => exact ⟨0, k0, rfl, by omega, rfl, by omega, grown_refl _ _, by simpa [mixToken, markLToken] using h⟩
  obtain ⟨k, q, rfl, hk, rfl, hq, hgr, hfr⟩ := hrel
  by_cases hlt : k < l.length
  · obtain ⟨x, hx0⟩ := get_of_lt hlt
    obtain ⟨g, rfl⟩ := own_some hfr (by omega)
    have hx : Hid (l[k]? = some x) := hx0
    have hqq : q ≤ k0 + 3 * k := by omega
    have hqq2 : k0 + 3 * k ≤ q := by omega
    have HQ := hid hq
    clear hx0 hq h
    obtain ⟨⟨d0, e0⟩, z0⟩ := own_cell hfr (k * 3) (by omega)
    go_wp2_with fail
    refine (markText_int _ (q + 1) _ (by omega) (by omega)).mono ?_; rintro e w2 ⟨rfl, hb2⟩
    have ho1 := own_below (hfr.stored (k * 3) (.int .i64 ((q : Int)))).1 hb2 (Nat.le_refl _)
    obtain ⟨⟨d1, e1⟩, z1⟩ := own_cell ho1 (k * 3 + 1) (by omega)
    obtain ⟨⟨d2, e2⟩, z2⟩ := own_cell ho1 (k * 3 + 2) (by omega)
    go_wp2
    go_roundw
    case rel => exact ⟨k + 1, q + 3, by go_num, by omega, by go_num, by omega, (grown_trans (grown_trans (grown_trans (grown_trans hgr (grown_set _ _ (k * 3) (.int .i64 ((q : Int))))) (grown_below hb2)) (grown_set _ _ (k * 3 + 1) (.string (markT (q + 1))))) (grown_set _ _ (k * 3 + 2) (.int .i64 ((q : Int) + 2)))), by have h := ((ho1.stored (k * 3 + 1) (.string (markT (q + 1)))).1.stored (k * 3 + 2) (.int .i64 ((q : Int) + 2))).1; rw [← markToken_step hx HQ.out (by omega)]; exact h⟩
    case measure => simp [intOf]; omega
  · go_wp2
    go_ret
    have hkl : k = l.length := by omega
    subst hkl
    exact ⟨ret_int (by rw [hq]), hgr, by simpa [mixToken] using hfr⟩

end Go.Proofs.Ytagoeiegdlnalaa
