/- Walks and lemmas of this seat (HInt): what each theorem says of the functions that it names. Conditions: those that each theorem states. -/
import Derived.Test.YtfabfkaolnidiaaRows
import Derived.Test.YtfabfkaolnidiaaLift

namespace Go.Proofs.Ytfabfkaolnidiaa
set_option linter.unusedVariables false
set_option linter.unusedSimpArgs false
open Go.RowKit


def eqInt (x y : Int) : Bool := x == y
theorem eqInt_iff (x y : Int) : eqInt x y = true ↔ x = y := by simp [eqInt]


section
open Go.ChangeShapes Go.WideShapes Go.ChangeAt
theorem decInt {H : Type} {enc : TypeId × Value → H} {w : World} {spare : Nat → Bool} (cs : List Value) (n : Nat) (y : DataW H × List MemPlace) (h : DataW.trod enc Try.prog w 0 spare true n 3 cs = some y) : ∃ x : Int, cs = int1 x ∧ I64 x := by
  obtain ⟨s, rfl, _, hs⟩ := DataW.trod_int Try.underlying3 h
  exact ⟨s, rfl, I64.of_wf hs⟩
end


theorem szIntS_any (l : List Int) (v : Value) (left : Int) (h0 : 0 ≤ left) (h1 : left ≤ 1048576) (w : World) (hv : Slc w v 1 l.length (l.flatMap int1)) :
    Calls Try.prog 60 #[v, .int .i64 left] w fun e w' => e = .returned (.int .i64 (szNat l.length left)) ∧ Below w.heap.size w w' := by
  obtain ⟨_, a, cap, rfl, hc, hm, hrow⟩ := hv
  unfold maxLen at hm
  go_enter Try.func60, Try.ntmps60
  go_wp2
  all_goals go_ret
  all_goals exact ⟨ret_int (by unfold szNat; omega), Below.refl _ _⟩


theorem Try.info3 : (Try.prog.info? 3).map (fun i => (i.zero, i.size, i.bytes)) = some (some (.int .i64 0), 1, 8) := by kernel_rfl

theorem toIntS_any (l : List Int) (v : Value) (w : World) (hn : l.length ≤ 1048576) (hv : Slc w v 1 l.length (l.flatMap int1)) :
    Calls Try.prog 61 #[v] w fun e w' => ∃ v', e = .returned v' ∧ Below w.heap.size w w' ∧ w'.ownsRow w.heap.size 3 1 v' l.length (l.flatMap int1) := by
  obtain ⟨_, a, cap, rfl, hc, hm, hrow⟩ := hv
  unfold maxLen at hm
  obtain ⟨i0, hi, hz0, hz1, hz2⟩ := info_parts Try.info3
  go_enter Try.func61, Try.ntmps61
  go_wp2_with (at_make; refine wpList_make_full _ rfl _ _ 47 rfl w.heap.size 3 i0 _ 1 Try.underlying47 hi hz0 hz1 .i64 .i64 l.length l.length l.length rfl rfl rfl rfl ?c1 ?c2 ?c3 ?c4)
  case c1 => rw [hz2]; omega
  case c2 => unfold maxLen; omega
  case c3 => exact Nat.le_refl _
  case c4 =>
  intro w1 hown hgr
  have hb1 : Below w.heap.size w w1 := (Below.refl _ _).grown hgr (Nat.le_refl _) (by simp)
  have hfill := Filling.made hown
  clear hi hz0 hz1 hz2 hown hgr
  go_wp2
  go_loopw [4] (fun i wr => ∃ (k : Nat), i = .int .i64 k ∧ k ≤ l.length ∧ Below w.heap.size w wr ∧ Filling wr w.heap.size 3 1 w.heap.size l.length ((l.take k).flatMap int1)) (fun i _ => l.length - (intOf i).toNat)
  case atStart => exact ⟨0, rfl, by omega, hb1, hfill⟩
  obtain ⟨k, rfl, hk, hb, hfr⟩ := hrel
  clear hb1 hfill
  by_cases hlt : k < l.length
  · obtain ⟨x, hx⟩ := get_of_lt hlt
    obtain ⟨b, off, rfl, hro⟩ := slc_some hrow (by omega)
    have hrw := hro.mono hb (Nat.le_refl _)
    have c0 := hrw.one int1_len hx rfl
    have HX : Hid (l[k]? = some x) := hx
    clear hx
    obtain ⟨⟨d0, e0⟩, z0⟩ := hfr.cell k (by omega)
    have hnext := Filling.next int1_len hfr HX hlt
    have hnb := below_storeAll (int1 x) (k * 1) hb (Nat.le_refl _)
    rw [Nat.mul_one] at hnext hnb
    go_wp2
    go_roundw
    case rel => exact ⟨k + 1, by go_num, by omega, hnb, hnext⟩
    case measure => simp [intOf]; omega
  · go_wp2
    go_ret
    have e : l.take k = l := List.take_of_length_le (by omega)
    rw [e] at hfr
    exact ⟨_, rfl, hb, hfr.done (flat_len _ 1 int1_len l)⟩


set_option maxRecDepth 100000 in
theorem eqIntS_any (l r : List Int) (v u : Value) (w : World) (hv : Slc w v 1 l.length (l.flatMap int1)) (hu : Slc w u 1 r.length (r.flatMap int1)) :
    Calls Try.prog 67 #[v, u] w fun e w' => e = .returned (.bool (eqList eqInt l r)) ∧ Below w.heap.size w w' := by
  obtain ⟨_, a, cap, rfl, hc, hm, hrow⟩ := hv
  obtain ⟨_, a', cap', rfl, hc', hm', hrow'⟩ := hu
  unfold maxLen at hm hm'
  by_cases hlen : l.length = r.length
  · have hle : ((l.length : Int) != (r.length : Int)) = false := by rw [hlen]; simp
    have HL := hid hlen
    have hl1 : l.length ≤ r.length := by omega
    have hl2 : r.length ≤ l.length := by omega
    clear hlen
    go_enter Try.func67, Try.ntmps67
    go_wp2
    go_loopw [5] (fun i wr => ∃ (k : Nat), i = .int .i64 k ∧ k ≤ l.length ∧ Below w.heap.size w wr ∧ Hid (eqList eqInt l r = eqLoop eqInt (l.drop k) (r.drop k))) (fun i _ => l.length - (intOf i).toNat)
    case atStart => exact ⟨0, rfl, by omega, Below.refl _ _, by show eqList _ _ _ = _; rw [eqList, if_pos HL.out]; rfl⟩
    obtain ⟨k, rfl, hk, hb, hrel⟩ := hrel
    by_cases hlt : k < l.length
    · obtain ⟨x, hx⟩ := get_of_lt hlt
      obtain ⟨y, hy⟩ := get_of_lt (l := r) (k := k) (by omega)
      obtain ⟨b, off, rfl, hro⟩ := slc_some hrow (by omega)
      obtain ⟨b', off', rfl, hro'⟩ := slc_some hrow' (by omega)
      have hrw := hro.mono hb (Nat.le_refl _)
      have hrw' := hro'.mono hb (Nat.le_refl _)
      have c0 := hrw.one int1_len hx rfl
      have g0 := hrw'.one int1_len hy rfl
      rw [drop_cons hx, drop_cons hy] at hrel
      have hkr : k < r.length := by omega
      clear hx hy
      by_cases hxy : eqInt x y = true
      · have hq1 : (x == y) = true := hxy
        have hq2 : (x != y) = false := by simpa [eqInt] using hxy
        go_wp2_with fail
        go_still_tail 8, (by kernel_rfl)
        go_wp2
        go_roundw
        case rel => exact ⟨k + 1, by go_num, by omega, hb.drew, by rw [hrel.out, eqLoop, if_pos hxy]; exact hid rfl⟩
        case measure => simp [intOf]; omega
      · have hq1 : (x == y) = false := by simpa [eqInt] using hxy
        have hq2 : (x != y) = true := by simpa [eqInt] using hxy
        go_wp2_with fail
        go_still_tail 8, (by kernel_rfl)
        go_wp2
        go_ret
        exact ⟨ret_bool (by rw [hrel.out, eqLoop, if_neg hxy]), hb.drew⟩
    · go_wp2
      go_ret
      exact ⟨ret_bool (by rw [hrel.out, List.drop_of_length_le (by omega), eqLoop]; simp), hb⟩
  · have hle : ((l.length : Int) != (r.length : Int)) = true := by simp; omega
    have HL := hid hlen
    clear hlen
    go_enter Try.func67, Try.ntmps67
    go_wp2
    go_ret
    exact ⟨ret_bool (by rw [eqList, if_neg HL.out]), Below.refl _ _⟩

end Go.Proofs.Ytfabfkaolnidiaa
