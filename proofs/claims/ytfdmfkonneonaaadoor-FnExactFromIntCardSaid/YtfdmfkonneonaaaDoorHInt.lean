/- Walks and lemmas of this seat (HInt): what each theorem says of the functions that it names. Conditions: those that each theorem states. -/
import Derived.Test.YtfdmfkonneonaaaDoorRows
import Derived.Test.YtfdmfkonneonaaaDoorLift

namespace Go.Proofs.YtfdmfkonneonaaaDoor
set_option linter.unusedVariables false
set_option linter.unusedSimpArgs false
open Go.RowKit


def eqInt (x y : Int) : Bool := x == y
theorem eqInt_iff (x y : Int) : eqInt x y = true ↔ x = y := by simp [eqInt]


section
open Go.ChangeShapes Go.WideShapes Go.ChangeAt
theorem decInt {H : Type} {enc : TypeId × Value → H} {w : World} {spare : Nat → Bool} (cs : List Value) (n : Nat) (y : DataW H × List MemPlace) (h : DataW.trod enc Tryd.prog w 0 spare true n 3 cs = some y) : ∃ x : Int, cs = int1 x ∧ I64 x := by
  obtain ⟨s, rfl, _, hs⟩ := DataW.trod_int Tryd.underlying3 h
  exact ⟨s, rfl, I64.of_wf hs⟩
end


theorem Tryd.info3 : (Tryd.prog.info? 3).map (fun i => (i.zero, i.size, i.bytes)) = some (some (.int .i64 0), 1, 8) := by kernel_rfl

set_option maxRecDepth 100000 in
theorem eqIntS_any (l r : List Int) (v u : Value) (w : World) (hv : Slc w v 1 l.length (l.flatMap int1)) (hu : Slc w u 1 r.length (r.flatMap int1)) :
    Calls Tryd.prog 27 #[v, u] w fun e w' => e = .returned (.bool (eqList eqInt l r)) ∧ Below w.heap.size w w' := by
  obtain ⟨_, a, cap, rfl, hc, hm, hrow⟩ := hv
  obtain ⟨_, a', cap', rfl, hc', hm', hrow'⟩ := hu
  unfold maxLen at hm hm'
  by_cases hlen : l.length = r.length
  · have hle : ((l.length : Int) != (r.length : Int)) = false := by rw [hlen]; simp
    have HL := hid hlen
    have hl1 : l.length ≤ r.length := by omega
    have hl2 : r.length ≤ l.length := by omega
    clear hlen
    go_enter Tryd.func27, Tryd.ntmps27
    go_wp2
    go_loopw [5] (fun i wr => ∃ (k : Nat), i = .int .i64 k ∧ k ≤ l.length ∧ Below w.heap.size w wr ∧ Hid (eqList eqInt l r = eqLoop eqInt (l.drop k) (r.drop k))) (fun i _ => l.length - (intOf i).toNat)
    case atStart => exact ⟨0, rfl, by omega, Below.refl _ _, by show eqList _ _ _ = _; rw [eqList, if_pos HL.out]; rfl⟩
    obtain ⟨k, rfl, hk, hb, hrel⟩ := hrel
    by_cases hlt : k < l.length
    · obtain ⟨x, hx⟩ := get_of_lt hlt
      obtain ⟨y, hy⟩ := get_of_lt (l := r) (k := k) (by omega)
      obtain ⟨b, off, rfl, hro⟩ := slc_some hrow (by omega)
      obtain ⟨b', off', rfl, hro'⟩ := slc_some hrow' (by omega)
      have hrw := hro.mono hb (Nat.le_refl _)
      have hrw' := hro'.mono hb (Nat.le_refl _)
      have c0 := hrw.one int1_len hx rfl
      have g0 := hrw'.one int1_len hy rfl
      rw [drop_cons hx, drop_cons hy] at hrel
      have hkr : k < r.length := by omega
      clear hx hy
      by_cases hxy : eqInt x y = true
      · have hq1 : (x == y) = true := hxy
        have hq2 : (x != y) = false := by simpa [eqInt] using hxy
        go_wp2_with fail
        go_still_tail 8, (by kernel_rfl)
        go_wp2
        go_roundw
        case rel => exact ⟨k + 1, by go_num, by omega, hb.drew, by rw [hrel.out, eqLoop, if_pos hxy]; exact hid rfl⟩
        case measure => simp [intOf]; omega
      · have hq1 : (x == y) = false := by simpa [eqInt] using hxy
        have hq2 : (x != y) = true := by simpa [eqInt] using hxy
        go_wp2_with fail
        go_still_tail 8, (by kernel_rfl)
        go_wp2
        go_ret
        exact ⟨ret_bool (by rw [hrel.out, eqLoop, if_neg hxy]), hb.drew⟩
    · go_wp2
      go_ret
      exact ⟨ret_bool (by rw [hrel.out, List.drop_of_length_le (by omega), eqLoop]; simp), hb⟩
  · have hle : ((l.length : Int) != (r.length : Int)) = true := by simp; omega
    have HL := hid hlen
    clear hlen
    go_enter Tryd.func27, Tryd.ntmps27
    go_wp2
    go_ret
    exact ⟨ret_bool (by rw [eqList, if_neg HL.out]), Below.refl _ _⟩

end Go.Proofs.YtfdmfkonneonaaaDoor
