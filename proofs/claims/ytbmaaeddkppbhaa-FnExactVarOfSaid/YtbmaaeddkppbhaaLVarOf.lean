/- Walks and lemmas of this seat (LVarOf): what each theorem says of the functions that it names. Conditions: those that each theorem states. -/
import Derived.Test.YtbmaaeddkppbhaaHBind
import Derived.Test.YtbmaaeddkppbhaaFVarOf
namespace Go.Proofs.Ytbmaaeddkppbhaa
open Go.RowKit

set_option maxRecDepth 100000 in
theorem lawVarOf (l : List Bind) (v : Value) (hx : ∀ x ∈ l, x.Ok) {w : World} (hv : Slc w v 2 l.length (l.flatMap Bind.cells)) (s : ByteArray) (hs : s.size ≤ maxLen) :
    Calls Try.prog 4 #[v, .string s] w fun e w' => e = .returned (.bool true) ∧ Below w.heap.size w w' := by
  unfold maxLen at hs
  have hsz := szList_eq Bind.sizes l 1048576 (by omega)
  by_cases hbig : bulk Bind.sizes l ≤ 1048576
  · have hlen : l.length ≤ 1048576 := by unfold bulk at hbig; omega
    have hneg : (szList Bind.sizes l 1048576 < 0) = False := by rw [hsz]; simp; split <;> omega
    have hself := eqList_self eqBind eqBind_iff l
    clear hsz hbig
    go_enter Try.func4, Try.ntmps4
    go_wp2_with fail
    · go_ret
      exact ⟨rfl, Below.refl _ _⟩
    refine (szBindS_any l v 1048576 (by omega) (by omega) _ hx hv).mono ?_; rintro e w1 ⟨rfl, hb1⟩
    go_wp2_with fail
    have hv1 := hv.mono hb1 (Nat.le_refl _)
    refine (toBindS_any l v _ hlen hv1).mono ?_; rintro e w2 ⟨y2, rfl, hb2, ho2⟩
    have hB2 := hb1.trans (hb2.mono hb1.size)
    go_wp2_with fail
    refine (specVarOf_any l s y2 _ (Slc.of_own ho2)).mono ?_; rintro e w3 ⟨rfl, hb3⟩
    have hB3 := hB2.trans (hb3.mono hB2.size)
    go_wp2_with fail
    refine (toBindS_any l v _ hlen (hv.mono hB3 (Nat.le_refl _))).mono ?_; rintro e w4 ⟨y4, rfl, hb4, ho4⟩
    have hB4 := hB3.trans (hb4.mono hB3.size)
    go_wp2_with fail
    refine (implVarOf_any l s y4 _ (Slc.of_own ho4)).mono ?_; rintro e w5 ⟨rfl, hb5⟩
    have hB5 := hB4.trans (hb5.mono hB4.size)
    go_wp2_with fail
    refine (toBindS_any l v _ hlen (hv.mono hB5 (Nat.le_refl _))).mono ?_; rintro e w6 ⟨y6, rfl, hb6, ho6⟩
    have hB6 := hB5.trans (hb6.mono hB5.size)
    have hv4 := ((Slc.of_own ho4).mono hb5 (Nat.le_refl _)).mono hb6 (Nat.le_refl _)
    go_wp2_with fail
    refine (eqBindS_any l l y4 y6 _ hv4 (Slc.of_own ho6)).mono ?_; rintro e w7 ⟨rfl, hb7⟩
    have hB7 := hB6.trans (hb7.mono hB6.size)
    go_wp2_with fail
    go_ret
    exact ⟨rfl, hB7⟩
  · have hneg : (szList Bind.sizes l 1048576 < 0) = True := by rw [hsz]; simp; omega
    clear hsz hbig
    go_enter Try.func4, Try.ntmps4
    go_wp2_with (go_at_call 17; refine (szBindS_any l v 1048576 (by omega) (by omega) _ hx hv).mono ?_; rintro e w1 ⟨rfl, hb1⟩)
    · go_ret
      exact ⟨rfl, Below.refl _ _⟩
    · go_ret
      exact ⟨rfl, hb1⟩

end Go.Proofs.Ytbmaaeddkppbhaa
