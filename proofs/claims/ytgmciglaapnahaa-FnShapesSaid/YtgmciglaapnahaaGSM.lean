/- Walks and lemmas of this seat (FSame): what each theorem says of the functions that it names. Conditions: those that each theorem states. -/
import Derived.Test.YtgmciglaapnahaaRows
import Derived.Test.YtgmciglaapnahaaGA
import Derived.Test.YtgmciglaapnahaaGD
import Derived.Test.YtgmciglaapnahaaShelf
namespace Go.Proofs.Ytgmciglaapnahaa
set_option linter.unusedVariables false
set_option linter.unusedSimpArgs false
open Go.RowKit

set_option maxRecDepth 100000 in
theorem specl6Ints_any (l r : List Int) (v u : Value) (w : World) (hv : Slc w v 1 l.length (l.flatMap int1)) (hu : Slc w u 1 r.length (r.flatMap int1)) :
    Calls Try.prog 26 #[v, u] w fun e w' => e = .returned (.bool (eqList eqInt l r)) ∧ ∃ m, w' = w.drewN m := by
  obtain ⟨_, a, cap, rfl, hc, hm, hrow⟩ := hv
  obtain ⟨_, a', cap', rfl, hc', hm', hrow'⟩ := hu
  unfold maxLen at hm hm'
  by_cases hlen : l.length = r.length
  · have hle : ((l.length : Int) != (r.length : Int)) = false := by rw [hlen]; simp
    have HL := hid hlen
    have hl1 : l.length ≤ r.length := by omega
    have hl2 : r.length ≤ l.length := by omega
    clear hlen
    go_enter Try.func26, Try.ntmps26
    go_wp2
    go_loopw [5] (fun i wr => ∃ (k m : Nat), i = .int .i64 k ∧ k ≤ l.length ∧ Hid (wr = w.drewN m) ∧ Hid (eqList eqInt l r = eqLoop eqInt (l.drop k) (r.drop k))) (fun i _ => l.length - (intOf i).toNat)
    case atStart => exact ⟨0, 0, rfl, by omega, hid rfl, by show eqList _ _ _ = _; rw [eqList, if_pos HL.out]; rfl⟩
    obtain ⟨k, m, rfl, hk, hw, hrel⟩ := hrel
    by_cases hlt : k < l.length
    · obtain ⟨x, hx⟩ := get_of_lt hlt
      obtain ⟨y, hy⟩ := get_of_lt (l := r) (k := k) (by omega)
      obtain ⟨b, off, rfl, hro⟩ := slc_some hrow (by omega)
      obtain ⟨b', off', rfl, hro'⟩ := slc_some hrow' (by omega)
      have c0 : wr.cell? _ = _ := (by rw [hw.out]; rfl : wr.cell? _ = w.cell? _).trans (hro.one int1_len hx rfl)
      have g0 : wr.cell? _ = _ := (by rw [hw.out]; rfl : wr.cell? _ = w.cell? _).trans (hro'.one int1_len hy rfl)
      rw [drop_cons hx, drop_cons hy] at hrel
      have hkr : k < r.length := by omega
      clear hx hy
      by_cases hxy : eqInt x y = true
      · have hq1 : (x == y) = true := hxy
        have hq2 : (x != y) = false := by simpa [eqInt] using hxy
        go_wp2_with fail
        go_still_tail 8, (by kernel_rfl)
        go_wp2
        go_roundw
        case rel => exact ⟨k + 1, m + 1, by go_num, by omega, hid (by rw [hw.out]; rfl), by rw [hrel.out, eqLoop, if_pos hxy]; exact hid rfl⟩
        case measure => simp [intOf]; omega
      · have hq1 : (x == y) = false := by simpa [eqInt] using hxy
        have hq2 : (x != y) = true := by simpa [eqInt] using hxy
        go_wp2_with fail
        go_still_tail 8, (by kernel_rfl)
        go_wp2
        go_ret
        exact ⟨ret_bool (by rw [hrel.out, eqLoop, if_neg hxy]), m + 1, by rw [hw.out]; rfl⟩
    · go_wp2
      go_ret
      exact ⟨ret_bool (by rw [hrel.out, List.drop_of_length_le (by omega), eqLoop]; simp), m, hw.out⟩
  · have hle : ((l.length : Int) != (r.length : Int)) = true := by simp; omega
    have HL := hid hlen
    clear hlen
    go_enter Try.func26, Try.ntmps26
    go_wp2
    go_ret
    exact ⟨ret_bool (by rw [eqList, if_neg HL.out]), 0, rfl⟩

set_option maxRecDepth 100000 in
set_option maxHeartbeats 1000000 in
theorem specSameTree_any (l0 : List Node) (v0 : Value) (l1 : List Node) (v1 : Value) (w : World) (hx0 : ∀ x ∈ l0, x.Ok) (hn0 : bulk Node.sizes l0 ≤ 1048576) (hv0 : NodeSlc w v0 l0) (hx1 : ∀ x ∈ l1, x.Ok) (hn1 : bulk Node.sizes l1 ≤ 1048576) (hv1 : NodeSlc w v1 l1) :
    Calls Try.prog 11 #[v0, v1] w fun e w' => e = .returned (.bool (eqList eqNode l0 l1)) ∧ Below w.heap.size w w' := by
  obtain ⟨a, cap, rfl, hm, hc, hsl⟩ := hv0.shape
  obtain ⟨a', cap', rfl, hm', hc', hsl'⟩ := hv1.shape
  clear hv0 hv1
  by_cases hlen : l0.length = l1.length
  · have hle : ((l0.length : Int) != (l1.length : Int)) = false := by rw [hlen]; simp
    have HL := hid hlen
    have hl1 : l0.length ≤ l1.length := by omega
    have hl2 : l1.length ≤ l0.length := by omega
    clear hlen
    go_enter Try.func11, Try.ntmps11
    go_wp2
    go_loopw [5] (fun i wr => ∃ (k m : Nat), i = .int .i64 k ∧ k ≤ l0.length ∧ Hid (wr = w.drewN m) ∧ Hid (eqList eqNode l0 l1 = eqLoop eqNode (l0.drop k) (l1.drop k))) (fun i _ => l0.length - (intOf i).toNat)
    case atStart => exact ⟨0, 0, rfl, by omega, hid rfl, by show eqList _ _ _ = _; rw [eqList, if_pos HL.out]; rfl⟩
    obtain ⟨k, m, rfl, hk, hw, hrel⟩ := hrel
    have hb : Below w.heap.size w wr := by rw [hw.out]; exact ⟨rfl, rfl, rfl, Nat.le_refl _, fun _ _ => rfl⟩
    by_cases hlt : k < l0.length
    · obtain ⟨x, ka, kc, b, off, hx, rfl, c0, c1, c2, c3, c4, hkd⟩ := hsl.at hb (Nat.le_refl _) hlt
      have hkr : k < l1.length := by omega
      obtain ⟨y, ka', kc', b', off', hy, rfl, g0, g1, g2, g3, g4, hkd'⟩ := hsl'.at hb (Nat.le_refl _) hkr
      rw [drop_cons hx, drop_cons hy] at hrel
      have hkn := fun m => specl6Ints_any x.kids y.kids _ _ (wr.drewN m) hkd hkd'
      have HK := hid hkn
      clear hkn hkd hkd' hx hy
      by_cases h1 : (x.kind != y.kind) = true
      · have h1' : (x.kind == y.kind) = false := by simpa using h1
        go_wp2_with fail
        go_quiet (fail)
        go_wp2
        go_ret
        exact ⟨ret_bool (by rw [hrel.out, eqLoop, if_neg (by simp_all [eqNode])]), below_drewN hb _⟩
      have h1' : (x.kind != y.kind) = false := by simpa using h1
      by_cases h2 : (x.op != y.op) = true
      · go_wp2_with fail
        go_quiet (fail)
        go_wp2
        go_ret
        exact ⟨ret_bool (by rw [hrel.out, eqLoop, if_neg (by simp_all [eqNode])]), below_drewN hb _⟩
      have h2' : (x.op != y.op) = false := by simpa using h2
      by_cases h3 : (!(x.text.toList == y.text.toList)) = true
      · go_wp2_with fail
        go_quiet (fail)
        go_wp2
        go_ret
        exact ⟨ret_bool (by rw [hrel.out, eqLoop, if_neg (by simp_all [eqNode])]), below_drewN hb _⟩
      have h3' : (!(x.text.toList == y.text.toList)) = false := by simpa using h3
      by_cases h5 : (!(x.other.toList == y.other.toList)) = true
      · go_wp2_with fail
        go_quiet (fail)
        go_wp2
        go_ret
        exact ⟨ret_bool (by rw [hrel.out, eqLoop, if_neg (by simp_all [eqNode])]), below_drewN hb _⟩
      have h5' : (!(x.other.toList == y.other.toList)) = false := by simpa using h5
      by_cases h4 : eqList eqInt x.kids y.kids = true
      · go_wp2_with fail
        go_quiet ((go_at_call 26; exact Calls.quiet_of (HK.out _)))
        go_wp2
        go_roundw
        case rel => exact ⟨k + 1, m + nq, by go_num, by omega, hid (by rw [hw.out]; simp), by rw [hrel.out, eqLoop, if_pos (by simp_all [eqNode])]; exact hid rfl⟩
        case measure => simp [intOf]; omega
      · have h4' : eqList eqInt x.kids y.kids = false := by simpa using h4
        go_wp2_with fail
        go_quiet ((go_at_call 26; exact Calls.quiet_of (HK.out _)))
        go_wp2
        go_ret
        exact ⟨ret_bool (by rw [hrel.out, eqLoop, if_neg (by simp_all [eqNode])]), below_drewN hb _⟩
    · go_wp2
      go_ret
      exact ⟨ret_bool (by rw [hrel.out, List.drop_of_length_le (by omega), eqLoop]; simp), hb⟩
  · have hle : ((l0.length : Int) != (l1.length : Int)) = true := by simp; omega
    have HL := hid hlen
    clear hlen
    go_enter Try.func11, Try.ntmps11
    go_wp2
    go_ret
    exact ⟨ret_bool (by rw [eqList, if_neg HL.out]), Below.refl _ _⟩
end Go.Proofs.Ytgmciglaapnahaa
/- Walks and lemmas of this seat (FSameI): what each theorem says of the functions that it names. Conditions: those that each theorem states. -/
namespace Go.Proofs.Ytgmciglaapnahaa
set_option linter.unusedVariables false
set_option linter.unusedSimpArgs false
open Go.RowKit

/-! The program's SameTree at a list and itself. -/
theorem equalSelf (l : List Int) (u v : Value) (w : World) (hu : Slc w u 1 l.length (l.flatMap int1)) (hv : Slc w v 1 l.length (l.flatMap int1)) :
    Calls Try.prog 33 #[u, v] w fun e w' => e = .returned (.bool true) ∧ Below w.heap.size w w' := by
  obtain ⟨_, a, c, rfl, hc, hm, hr⟩ := hu
  obtain ⟨_, a2, c2, rfl, hc2, hm2, hr2⟩ := hv
  unfold maxLen at hm hm2
  by_cases h0 : l.length = 0
  · rw [h0]
    refine (Try.slices_Equal_int_empty a a2 c 0 c2 w (by omega)).mono ?_
    rintro e w' ⟨rfl, rfl⟩
    exact ⟨rfl, Below.refl _ _⟩
  · obtain ⟨b, off, rfl, hro⟩ := slc_some hr (by omega)
    obtain ⟨b2, off2, rfl, hro2⟩ := slc_some hr2 (by omega)
    refine (Try.slices_Equal_int b off l.length c b2 off2 l.length c2 l l w (Nat.le_refl _) (Nat.le_refl _) (by omega) (by omega) (fun j hj => ?_) (fun j hj => ?_)).mono ?_
    · obtain ⟨y, hy⟩ := get_of_lt hj
      rw [hro.one int1_len hy rfl, List.getD_eq_getElem?_getD, hy]; rfl
    · obtain ⟨y, hy⟩ := get_of_lt hj
      rw [hro2.one int1_len hy rfl, List.getD_eq_getElem?_getD, hy]; rfl
    · rintro e w' ⟨rfl, q, rfl⟩
      exact ⟨by simp, below_drewN (Below.refl _ _) _⟩
set_option maxRecDepth 100000 in
theorem sameClosure (x : Node) (u v : Value) (w : World) (hu : Slc w u 1 x.kids.length (x.kids.flatMap int1)) (hv : Slc w v 1 x.kids.length (x.kids.flatMap int1)) :
    Calls Try.prog 32 #[.agg #[.int .i64 x.kind, .int .i64 x.op, .string x.text, .string x.other, u], .agg #[.int .i64 x.kind, .int .i64 x.op, .string x.text, .string x.other, v]] w fun e w' => e = .returned (.bool true) ∧ Below w.heap.size w w' := by
  have hcall := hid fun W (hb : Below w.heap.size w W) => equalSelf x.kids u v W (hu.mono hb (Nat.le_refl _)) (hv.mono hb (Nat.le_refl _))
  obtain ⟨_, a, c, rfl, hc, hm, hr⟩ := hu
  obtain ⟨_, a2, c2, rfl, hc2, hm2, hr2⟩ := hv
  clear hr hr2
  have hB := hid fun o1 o2 => (((Below.refl w.heap.size w).alloc (Nat.le_refl _) o1).alloc (by simp) o2)
  have a0 : ((w.alloc (.cells #[.int .i64 x.kind, .int .i64 x.op, .string x.text, .string x.other, .slice a x.kids.length c] 35)).alloc (.cells #[.int .i64 x.kind, .int .i64 x.op, .string x.text, .string x.other, .slice a2 x.kids.length c2] 35)).heap[w.heap.size]? = some (.cells #[.int .i64 x.kind, .int .i64 x.op, .string x.text, .string x.other, .slice a x.kids.length c] 35) := (Below.heap_alloc _ _ _ (by simp)).trans (heap_alloc_new w _)
  have b0 : ((w.alloc _).alloc _).cell? ⟨w.heap.size, 0, none⟩ = some (.int .i64 x.kind) := box_cell (j := 0) a0 rfl
  have b1 : ((w.alloc _).alloc _).cell? ⟨w.heap.size, 1, none⟩ = some (.int .i64 x.op) := box_cell (j := 1) a0 rfl
  have b2 : ((w.alloc _).alloc _).cell? ⟨w.heap.size, 2, none⟩ = some (.string x.text) := box_cell (j := 2) a0 rfl
  have b3 : ((w.alloc _).alloc _).cell? ⟨w.heap.size, 3, none⟩ = some (.string x.other) := box_cell (j := 3) a0 rfl
  have b4 : ((w.alloc _).alloc _).cell? ⟨w.heap.size, 4, none⟩ = some (.slice a x.kids.length c) := box_cell (j := 4) a0 rfl
  clear a0
  go_enter Try.func32, Try.ntmps32
  go_wp2_with (go_at_call 33; refine (hcall.out _ (hB.out _ _)).mono ?_; rintro e w' ⟨rfl, hb'⟩)
  go_ret
  exact ⟨rfl, (hB.out _ _).trans (hb'.mono (hB.out _ _).size)⟩
set_option maxRecDepth 100000 in
set_option maxHeartbeats 1600000 in
theorem equalFuncSelf (l0 : List Node) (v0 v1 : Value) (w : World) (hn0 : bulk Node.sizes l0 ≤ 1048576) (hv0 : NodeSlc w v0 l0) (hv1 : NodeSlc w v1 l0) :
    Calls Try.prog 31 #[v0, v1, .func (.func 32) #[] #[]] w fun e w' => e = .returned (.bool true) ∧ Below w.heap.size w w' := by
  obtain ⟨a, cap, rfl, hm, hc, hsl⟩ := hv0.shape
  obtain ⟨a', cap', rfl, hm', hc', hsl'⟩ := hv1.shape
  have hn := length_bulk Node.sizes l0
  go_enter Try.func31, Try.ntmps31
  go_wp2
  go_loopw [17] (fun i wr => ∃ (k : Nat), i = .int .i64 k ∧ k ≤ l0.length ∧ Below w.heap.size w wr) (fun i _ => l0.length - (intOf i).toNat)
  case atStart => exact ⟨0, rfl, by omega, by repeat (first | exact Below.refl _ _ | refine Below.alloc ?_ (by first | omega | (simp; done) | (simp; omega)) _ | refine Below.drew ?_)⟩
  obtain ⟨k, rfl, hk, hb⟩ := hrel
  have hbs := hb.size
  by_cases hlt : k < l0.length
  · obtain ⟨x, ka, kc, b, off, hx, rfl, c0, c1, c2, c3, c4, hkd⟩ := hsl.at hb (Nat.le_refl _) hlt
    obtain ⟨y, kb, kd, b', off', hy, rfl, d0, d1, d2, d3, d4, hkd'⟩ := hsl'.at hb (Nat.le_refl _) hlt
    obtain rfl : x = y := by rw [hx] at hy; exact Option.some.inj hy
    have hcall := hid (fun W (h : Below wr.heap.size wr W) => sameClosure x _ _ W (hkd.mono h (Nat.le_refl _)) (hkd'.mono h (Nat.le_refl _)))
    have hB := hid fun o1 o2 => (((Below.refl wr.heap.size wr).alloc (Nat.le_refl _) o1).alloc (by simp) o2)
    have hgl := World.block_lt_of_cell? wr _ d0
    have al : ∀ {q : Addr} {u : Value} (o : Obj), wr.cell? q = some u → (wr.alloc o).cell? q = some u := fun {q u} o h => (((Below.refl wr.heap.size wr).alloc (Nat.le_refl _) o).cell (p := q) (World.block_lt_of_cell? wr _ h)).trans h
    have e0 := fun o => al o d0
    have e1 := fun o => al o d1
    have e2 := fun o => al o d2
    have e3 := fun o => al o d3
    have e4 := fun o => al o d4
    have a0 : ((wr.alloc (.cells #[.int .i64 x.kind, .int .i64 x.op, .string x.text, .string x.other, .slice ka x.kids.length kc] 35)).alloc (.cells #[.int .i64 x.kind, .int .i64 x.op, .string x.text, .string x.other, .slice kb x.kids.length kd] 35)).heap[wr.heap.size]? = some (.cells #[.int .i64 x.kind, .int .i64 x.op, .string x.text, .string x.other, .slice ka x.kids.length kc] 35) := (Below.heap_alloc _ _ _ (by simp)).trans (heap_alloc_new wr _)
    have b0 : ((wr.alloc _).alloc _).cell? ⟨wr.heap.size, 0, none⟩ = some (.int .i64 x.kind) := box_cell (j := 0) a0 rfl
    have b1 : ((wr.alloc _).alloc _).cell? ⟨wr.heap.size, 1, none⟩ = some (.int .i64 x.op) := box_cell (j := 1) a0 rfl
    have b2 : ((wr.alloc _).alloc _).cell? ⟨wr.heap.size, 2, none⟩ = some (.string x.text) := box_cell (j := 2) a0 rfl
    have b3 : ((wr.alloc _).alloc _).cell? ⟨wr.heap.size, 3, none⟩ = some (.string x.other) := box_cell (j := 3) a0 rfl
    have b4 : ((wr.alloc _).alloc _).cell? ⟨wr.heap.size, 4, none⟩ = some (.slice ka x.kids.length kc) := box_cell (j := 4) a0 rfl
    clear a0 al hx hy hkd hkd'
    go_wp2_with (go_at_call 32; refine (hcall.out _ (hB.out _ _)).mono ?_; rintro e w' ⟨rfl, hb'⟩)
    go_roundw
    case rel => exact ⟨k + 1, by go_num, by omega, hb.trans (((hB.out _ _).trans (hb'.mono (hB.out _ _).size)).mono hbs)⟩
    case measure => simp [intOf]; omega
  · go_wp2
    go_ret
    exact ⟨rfl, hb⟩
theorem implSameTree_self (l0 : List Node) (v0 v1 : Value) (w : World) (hn0 : bulk Node.sizes l0 ≤ 1048576) (hv0 : NodeSlc w v0 l0) (hv1 : NodeSlc w v1 l0) :
    Calls Try.prog 14 #[v0, v1] w fun e w' => e = .returned (.bool true) ∧ Below w.heap.size w w' := by
  have hcall := hid (equalFuncSelf l0 v0 v1 w hn0 hv0 hv1)
  obtain ⟨a, cap, rfl, hm, hc, hsl⟩ := hv0.shape
  obtain ⟨a', cap', rfl, hm', hc', hsl'⟩ := hv1.shape
  go_enter Try.func14, Try.ntmps14
  go_wp2_with (go_at_call 31; refine hcall.out.mono ?_; rintro e w' ⟨rfl, hb'⟩)
  go_ret
  exact ⟨rfl, hb'⟩
end Go.Proofs.Ytgmciglaapnahaa
