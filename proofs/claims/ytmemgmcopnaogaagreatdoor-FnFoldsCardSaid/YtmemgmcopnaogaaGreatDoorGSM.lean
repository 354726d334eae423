/- Walks and lemmas of this seat (FSame): what each theorem says of the functions that it names. Conditions: those that each theorem states. -/
import Derived.Test.YtmemgmcopnaogaaGreatDoorRows
import Derived.Test.YtmemgmcopnaogaaGreatDoorGA
namespace Go.Proofs.YtmemgmcopnaogaaGreatDoor
set_option linter.unusedVariables false
set_option linter.unusedSimpArgs false
open Go.RowKit

set_option maxRecDepth 100000 in
theorem specl6Ints_any (l r : List Int) (v u : Value) (w : World) (hv : Slc w v 1 l.length (l.flatMap int1)) (hu : Slc w u 1 r.length (r.flatMap int1)) :
    Calls Tryz.prog 66 #[v, u] w fun e w' => e = .returned (.bool (eqList eqInt l r)) ∧ ∃ m, w' = w.drewN m := by
  obtain ⟨_, a, cap, rfl, hc, hm, hrow⟩ := hv
  obtain ⟨_, a', cap', rfl, hc', hm', hrow'⟩ := hu
  unfold maxLen at hm hm'
  by_cases hlen : l.length = r.length
  · have hle : ((l.length : Int) != (r.length : Int)) = false := by rw [hlen]; simp
    have HL := hid hlen
    have hl1 : l.length ≤ r.length := by omega
    have hl2 : r.length ≤ l.length := by omega
    clear hlen
    go_enter Tryz.func66, Tryz.ntmps66
    go_wp2
    go_loopw [5] (fun i wr => ∃ (k m : Nat), i = .int .i64 k ∧ k ≤ l.length ∧ Hid (wr = w.drewN m) ∧ Hid (eqList eqInt l r = eqLoop eqInt (l.drop k) (r.drop k))) (fun i _ => l.length - (intOf i).toNat)
    case atStart => exact ⟨0, 0, rfl, by omega, hid rfl, by show eqList _ _ _ = _; rw [eqList, if_pos HL.out]; rfl⟩
    obtain ⟨k, m, rfl, hk, hw, hrel⟩ := hrel
    by_cases hlt : k < l.length
    · obtain ⟨x, hx⟩ := get_of_lt hlt
      obtain ⟨y, hy⟩ := get_of_lt (l := r) (k := k) (by omega)
      obtain ⟨b, off, rfl, hro⟩ := slc_some hrow (by omega)
      obtain ⟨b', off', rfl, hro'⟩ := slc_some hrow' (by omega)
      have c0 : wr.cell? _ = _ := (by rw [hw.out]; rfl : wr.cell? _ = w.cell? _).trans (hro.one int1_len hx rfl)
      have g0 : wr.cell? _ = _ := (by rw [hw.out]; rfl : wr.cell? _ = w.cell? _).trans (hro'.one int1_len hy rfl)
      rw [drop_cons hx, drop_cons hy] at hrel
      have hkr : k < r.length := by omega
      clear hx hy
      by_cases hxy : eqInt x y = true
      · have hq1 : (x == y) = true := hxy
        have hq2 : (x != y) = false := by simpa [eqInt] using hxy
        go_wp2_with fail
        go_still_tail 8, (by kernel_rfl)
        go_wp2
        go_roundw
        case rel => exact ⟨k + 1, m + 1, by go_num, by omega, hid (by rw [hw.out]; rfl), by rw [hrel.out, eqLoop, if_pos hxy]; exact hid rfl⟩
        case measure => simp [intOf]; omega
      · have hq1 : (x == y) = false := by simpa [eqInt] using hxy
        have hq2 : (x != y) = true := by simpa [eqInt] using hxy
        go_wp2_with fail
        go_still_tail 8, (by kernel_rfl)
        go_wp2
        go_ret
        exact ⟨ret_bool (by rw [hrel.out, eqLoop, if_neg hxy]), m + 1, by rw [hw.out]; rfl⟩
    · go_wp2
      go_ret
      exact ⟨ret_bool (by rw [hrel.out, List.drop_of_length_le (by omega), eqLoop]; simp), m, hw.out⟩
  · have hle : ((l.length : Int) != (r.length : Int)) = true := by simp; omega
    have HL := hid hlen
    clear hlen
    go_enter Tryz.func66, Tryz.ntmps66
    go_wp2
    go_ret
    exact ⟨ret_bool (by rw [eqList, if_neg HL.out]), 0, rfl⟩

set_option maxRecDepth 100000 in
set_option maxHeartbeats 1000000 in
theorem specSameTree_any (l0 : List Node) (v0 : Value) (l1 : List Node) (v1 : Value) (w : World) (hx0 : ∀ x ∈ l0, x.Ok) (hn0 : bulk Node.sizes l0 ≤ 1048576) (hv0 : NodeSlc w v0 l0) (hx1 : ∀ x ∈ l1, x.Ok) (hn1 : bulk Node.sizes l1 ≤ 1048576) (hv1 : NodeSlc w v1 l1) :
    Calls Tryz.prog 19 #[v0, v1] w fun e w' => e = .returned (.bool (eqList eqNode l0 l1)) ∧ Below w.heap.size w w' := by
  obtain ⟨a, cap, rfl, hm, hc, hsl⟩ := hv0.shape
  obtain ⟨a', cap', rfl, hm', hc', hsl'⟩ := hv1.shape
  clear hv0 hv1
  by_cases hlen : l0.length = l1.length
  · have hle : ((l0.length : Int) != (l1.length : Int)) = false := by rw [hlen]; simp
    have HL := hid hlen
    have hl1 : l0.length ≤ l1.length := by omega
    have hl2 : l1.length ≤ l0.length := by omega
    clear hlen
    go_enter Tryz.func19, Tryz.ntmps19
    go_wp2
    go_loopw [5] (fun i wr => ∃ (k m : Nat), i = .int .i64 k ∧ k ≤ l0.length ∧ Hid (wr = w.drewN m) ∧ Hid (eqList eqNode l0 l1 = eqLoop eqNode (l0.drop k) (l1.drop k))) (fun i _ => l0.length - (intOf i).toNat)
    case atStart => exact ⟨0, 0, rfl, by omega, hid rfl, by show eqList _ _ _ = _; rw [eqList, if_pos HL.out]; rfl⟩
    obtain ⟨k, m, rfl, hk, hw, hrel⟩ := hrel
    have hb : Below w.heap.size w wr := by rw [hw.out]; exact ⟨rfl, rfl, rfl, Nat.le_refl _, fun _ _ => rfl⟩
    by_cases hlt : k < l0.length
    · obtain ⟨x, ka, kc, b, off, hx, rfl, c0, c1, c2, c3, c4, hkd⟩ := hsl.at hb (Nat.le_refl _) hlt
      have hkr : k < l1.length := by omega
      obtain ⟨y, ka', kc', b', off', hy, rfl, g0, g1, g2, g3, g4, hkd'⟩ := hsl'.at hb (Nat.le_refl _) hkr
      rw [drop_cons hx, drop_cons hy] at hrel
      have hkn := fun m => specl6Ints_any x.kids y.kids _ _ (wr.drewN m) hkd hkd'
      have HK := hid hkn
      clear hkn hkd hkd' hx hy
      by_cases h1 : (x.kind != y.kind) = true
      · have h1' : (x.kind == y.kind) = false := by simpa using h1
        go_wp2_with fail
        go_quiet (fail)
        go_wp2
        go_ret
        exact ⟨ret_bool (by rw [hrel.out, eqLoop, if_neg (by simp_all [eqNode])]), below_drewN hb _⟩
      have h1' : (x.kind != y.kind) = false := by simpa using h1
      by_cases h2 : (x.op != y.op) = true
      · go_wp2_with fail
        go_quiet (fail)
        go_wp2
        go_ret
        exact ⟨ret_bool (by rw [hrel.out, eqLoop, if_neg (by simp_all [eqNode])]), below_drewN hb _⟩
      have h2' : (x.op != y.op) = false := by simpa using h2
      by_cases h3 : (!(x.text.toList == y.text.toList)) = true
      · go_wp2_with fail
        go_quiet (fail)
        go_wp2
        go_ret
        exact ⟨ret_bool (by rw [hrel.out, eqLoop, if_neg (by simp_all [eqNode])]), below_drewN hb _⟩
      have h3' : (!(x.text.toList == y.text.toList)) = false := by simpa using h3
      by_cases h5 : (!(x.other.toList == y.other.toList)) = true
      · go_wp2_with fail
        go_quiet (fail)
        go_wp2
        go_ret
        exact ⟨ret_bool (by rw [hrel.out, eqLoop, if_neg (by simp_all [eqNode])]), below_drewN hb _⟩
      have h5' : (!(x.other.toList == y.other.toList)) = false := by simpa using h5
      by_cases h4 : eqList eqInt x.kids y.kids = true
      · go_wp2_with fail
        go_quiet ((go_at_call 66; exact Calls.quiet_of (HK.out _)))
        go_wp2
        go_roundw
        case rel => exact ⟨k + 1, m + nq, by go_num, by omega, hid (by rw [hw.out]; simp), by rw [hrel.out, eqLoop, if_pos (by simp_all [eqNode])]; exact hid rfl⟩
        case measure => simp [intOf]; omega
      · have h4' : eqList eqInt x.kids y.kids = false := by simpa using h4
        go_wp2_with fail
        go_quiet ((go_at_call 66; exact Calls.quiet_of (HK.out _)))
        go_wp2
        go_ret
        exact ⟨ret_bool (by rw [hrel.out, eqLoop, if_neg (by simp_all [eqNode])]), below_drewN hb _⟩
    · go_wp2
      go_ret
      exact ⟨ret_bool (by rw [hrel.out, List.drop_of_length_le (by omega), eqLoop]; simp), hb⟩
  · have hle : ((l0.length : Int) != (l1.length : Int)) = true := by simp; omega
    have HL := hid hlen
    clear hlen
    go_enter Tryz.func19, Tryz.ntmps19
    go_wp2
    go_ret
    exact ⟨ret_bool (by rw [eqList, if_neg HL.out]), Below.refl _ _⟩
end Go.Proofs.YtmemgmcopnaogaaGreatDoor
