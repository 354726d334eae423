/- Walks and lemmas of this seat (FCur): what each theorem says of the functions that it names. Conditions: those that each theorem states. -/
import Derived.Test.YtgmciglaapnahaaGA
import Derived.Laws.Bits64
import Derived.WalkSmall
namespace Go.Proofs.Ytgmciglaapnahaa
set_option linter.unusedVariables false
set_option linter.unusedSimpArgs false
open Go.RowKit

/-! The cursor over the bytes of a draw. What it draws is not said, only how great it is. -/
def low8 (v : Int) : Nat := (BitVec.ofInt 64 v &&& BitVec.ofInt 64 255).toNat
theorem low8_le (v : Int) : low8 v ≤ 255 := by
  unfold low8
  rw [BitVec.toNat_and]
  exact Nat.le_trans Nat.and_le_right (by decide)
theorem bits_255 (v : Int) : bits .and .i64 v 255 = (low8 v : Int) := by
  have h := low8_le v
  show IntKind.i64.wrap (low8 v : Int) = _
  generalize low8 v = n at h
  simp [IntKind.wrap, IntKind.bits, IntKind.signed]
  omega
/-- Block p holds a cursor over the n bytes of the slice bv. -/
def CurIs (w : World) (p : Nat) (bv : Value) (n : Nat) : Prop := ∃ (i : Nat) (h : Int), i ≤ n ∧ w.heap[p]? = some (.cells #[bv, .int .i64 i, .int .i64 h] 57 (0, 0))
theorem CurIs.keep {w w' : World} {p : Nat} {bv : Value} {n : Nat} (h : CurIs w p bv n) (hb : w'.heap[p]? = w.heap[p]?) : CurIs w' p bv n := by
  obtain ⟨i, k, h1, h2⟩ := h
  exact ⟨i, k, h1, hb.trans h2⟩
theorem CurIs.lt {w : World} {p : Nat} {bv : Value} {n : Nat} (h : CurIs w p bv n) : p < w.heap.size := by
  obtain ⟨i, k, _, h2⟩ := h
  exact (Array.getElem?_eq_some_iff.1 h2).1
theorem CurIs.below {w w' : World} {p n : Nat} {bv : Value} (h : CurIs w p bv n) (hb : Below w.heap.size w w') : CurIs w' p bv n := h.keep (hb.block p h.lt)
/-- A cursor and its bytes, where the bytes lie below the cursor. -/
structure Cur (w0 w : World) (p : Nat) (bv : Value) (bs : List UInt8) : Prop where
  code : Slc w0 bv 1 bs.length (bs.flatMap byte1)
  small : bs.length ≤ 1048576
  at_ : w0.heap.size ≤ p
  old : Below w0.heap.size w0 w
  box : CurIs w p bv bs.length
theorem Cur.next {w0 w w' : World} {p : Nat} {bv : Value} {bs : List UInt8} (h : Cur w0 w p bv bs) (hg : w.grownBy w' (some p)) (hb : CurIs w' p bv bs.length) : Cur w0 w' p bv bs :=
  ⟨h.code, h.small, h.at_, h.old.grown hg h.old.size (fun r e => by simp at e; subst e; exact h.at_), hb⟩
theorem Cur.below {w0 w w' : World} {p : Nat} {bv : Value} {bs : List UInt8} (h : Cur w0 w p bv bs) (hb : Below w.heap.size w w') : Cur w0 w' p bv bs :=
  ⟨h.code, h.small, h.at_, h.old.trans (hb.mono h.old.size), h.box.below hb⟩

set_option maxRecDepth 100000 in
set_option maxHeartbeats 1600000 in
theorem specl1Byte_any (w0 w : World) (p : Nat) (bv : Value) (bs : List UInt8) (hc : Cur w0 w p bv bs) :
    Calls Try.prog 42 #[.pointer (some ⟨p, 0, none⟩)] w fun e w' => ∃ x : Nat, x ≤ 255 ∧ e = .returned (.int .i64 x) ∧ w.grownBy w' (some p) ∧ Cur w0 w' p bv bs := by
  obtain ⟨i, h, hi, hbox⟩ := hc.box
  have hc2 := hid hc
  obtain ⟨hcode, hsm, hat, hold, _⟩ := hc
  obtain ⟨_, a, cap, rfl, hcap, hm, hrow⟩ := hcode
  unfold maxLen at hm
  have hplt : p < w.heap.size := (Array.getElem?_eq_some_iff.1 hbox).1
  have c0 : w.cell? ⟨p, 0, none⟩ = some (.slice a bs.length cap) := by simp [World.cell?, hbox]
  have c1 : w.cell? ⟨p, 1, none⟩ = some (.int .i64 i) := by simp [World.cell?, hbox]
  have c2 : w.cell? ⟨p, 2, none⟩ = some (.int .i64 h) := by simp [World.cell?, hbox]
  have f0 : ∀ j, w.frozen? ⟨p, j, none⟩ = false := fun j => by simp [World.frozen?, hbox]
  have hbox2 := hid hbox
  clear hbox
  have fin : ∀ (w' : World) (i' : Nat) (h' : Int), i' ≤ bs.length → w.grownBy w' (some p) → w'.heap[p]? = some (.cells #[.slice a bs.length cap, .int .i64 i', .int .i64 h'] 57 (0, 0)) →
      w.grownBy w' (some p) ∧ Cur w0 w' p (.slice a bs.length cap) bs := fun w' i' h' hi' hg hb =>
    ⟨hg, hc2.out.next hg ⟨i', h', hi', hb⟩⟩
  replace fin := hid fin
  have step : ∀ h', ∃ W1, W1 = w.setCell ⟨p, 2, none⟩ (.int .i64 h') ∧ W1.heap[p]? = some (.cells #[.slice a bs.length cap, .int .i64 i, .int .i64 h'] 57 (0, 0)) ∧ w.grownBy W1 (some p) ∧ (∀ q o, q ≠ p → W1.cell? ⟨q, o, none⟩ = w.cell? ⟨q, o, none⟩) := fun h' => by
    refine ⟨_, rfl, (heap_setCell_at hbox2.out).trans rfl, grown_set w p 2 _, fun q o hq => ?_⟩
    unfold World.cell?
    rw [show (⟨q, o, none⟩ : Addr).block = q from rfl, heap_setCell_other w ⟨p, 2, none⟩ q _ hq]
  replace step := hid step
  by_cases hlt : i < bs.length
  · obtain ⟨b, off, rfl, hro⟩ := slc_some hrow (by omega)
    obtain ⟨y, hy⟩ := get_of_lt hlt
    have e0 := (hro.mono hold (Nat.le_refl _)).one byte1_len hy rfl
    have hyl := y.toNat_lt
    have hbp : b ≠ p := by have := World.block_lt_of_cell? w0 _ (hro.one byte1_len hy rfl); have : b < w0.heap.size := this; omega
    clear hro hrow hy
    go_enter Try.func42, Try.ntmps42
    go_wp2_with fail
    generalize wrap64 (wrap64 (h * 6364136223846793005) + 1442695040888963407) = h'
    obtain ⟨W1, hW1, hN, hG, hO⟩ := step.out h'
    rw [← hW1]
    have d0 : W1.cell? ⟨p, 0, none⟩ = some (.slice (some ⟨b, off, none⟩) bs.length cap) := box_cell hN rfl
    have d1 : W1.cell? ⟨p, 1, none⟩ = some (.int .i64 i) := box_cell hN rfl
    have d2 : W1.cell? ⟨p, 2, none⟩ = some (.int .i64 h') := box_cell hN rfl
    have df : ∀ j, W1.frozen? ⟨p, j, none⟩ = false := fun j => box_froz hN
    have e1 := (hO b (off + i) hbp).trans e0
    replace hN := hid hN
    clear c0 c1 c2 e0 hO hW1 f0 hbox2 step
    go_quiet (fail)
    go_wp2_with fail
    go_quiet (fail)
    go_wp2_with fail
    go_quiet (fail)
    go_wp2
    go_ret
    simp only [bits_255]
    refine ⟨_, low8_le _, rfl, fin.out _ (i + 1) h' (by omega) (grown_trans (grown_dN hG _) (grown_set _ p 1 _)) ?_⟩
    have := heap_setCell_at (j := 1) (u := .int .i64 ((i : Int) + 1)) hN.out
    rw [show ((i + 1 : Nat) : Int) = (i : Int) + 1 from by omega]
    exact this.trans rfl
  · have hie : i = bs.length := by omega
    go_enter Try.func42, Try.ntmps42
    go_wp2_with fail
    generalize wrap64 (wrap64 (h * 6364136223846793005) + 1442695040888963407) = h'
    obtain ⟨W1, hW1, hN, hG, hO⟩ := step.out h'
    rw [← hW1]
    have d0 : W1.cell? ⟨p, 0, none⟩ = some (.slice a bs.length cap) := box_cell hN rfl
    have d1 : W1.cell? ⟨p, 1, none⟩ = some (.int .i64 i) := box_cell hN rfl
    have d2 : W1.cell? ⟨p, 2, none⟩ = some (.int .i64 h') := box_cell hN rfl
    have df : ∀ j, W1.frozen? ⟨p, j, none⟩ = false := fun j => box_froz hN
    replace hN := hid hN
    clear c0 c1 c2 hO hW1 f0 hbox2 step hrow
    go_quiet (fail)
    go_wp2_with fail
    go_quiet (fail)
    go_wp2
    go_ret
    simp only [bits_255]
    exact ⟨_, low8_le _, rfl, fin.out _ i h' hi (grown_dN (grown_dN hG _) _) hN.out⟩
end Go.Proofs.Ytgmciglaapnahaa
/- Walks and lemmas of this seat (FCur2): what each theorem says of the functions that it names. Conditions: those that each theorem states. -/
namespace Go.Proofs.Ytgmciglaapnahaa
set_option linter.unusedVariables false
set_option linter.unusedSimpArgs false
open Go.RowKit

set_option maxRecDepth 100000 in
set_option maxHeartbeats 1600000 in
/-- A cursor over a code: a new block. -/
theorem specl1New_any (w : World) (bv : Value) (bs : List UInt8) (hc : Slc w bv 1 bs.length (bs.flatMap byte1)) (hs : bs.length ≤ 1048576) :
    Calls Try.prog 17 #[bv] w fun e w' => ∃ p, e = .returned (.pointer (some ⟨p, 0, none⟩)) ∧ Below w.heap.size w w' ∧ Cur w w' p bv bs := by
  have hcode := hid hc
  obtain ⟨_, a, cap, rfl, hcap, hm, hrow⟩ := hc
  unfold maxLen at hm
  go_enter Try.func17, Try.ntmps17
  go_wp2
  go_loop [3, 4] (fun hv i => ∃ (j : Nat) (h : Int), i = .int .i64 j ∧ hv = .int .i64 h ∧ j ≤ bs.length) (fun _ i => bs.length - (intOf i).toNat)
  case atStart => exact ⟨0, _, rfl, rfl, by omega⟩
  obtain ⟨j, h, rfl, rfl, hj⟩ := hrel
  by_cases hlt : j < bs.length
  · obtain ⟨b, off, rfl, hro⟩ := slc_some hrow (by omega)
    obtain ⟨y, hy⟩ := get_of_lt hlt
    have e0 := hro.one byte1_len hy rfl
    clear hrow hro hy
    by_cases h4 : j < 4000
    · go_wp2_with fail
      go_round
      case rel => exact ⟨j + 1, _, by go_num, rfl, by omega⟩
      case measure => simp [intOf]; omega
    · go_wp2_with fail
      go_ret
      exact ⟨w.heap.size, rfl, by repeat (first | exact Below.refl _ _ | refine Below.alloc ?_ (by first | omega | (simp; done) | (simp; omega)) _ | refine Below.drew ?_), ⟨hcode.out, hs, Nat.le_refl _, by repeat (first | exact Below.refl _ _ | refine Below.alloc ?_ (by first | omega | (simp; done) | (simp; omega)) _ | refine Below.drew ?_), 0, h, by omega, by rw [heap_alloc_new]; rfl⟩⟩
  · go_wp2_with fail
    go_ret
    exact ⟨w.heap.size, rfl, by repeat (first | exact Below.refl _ _ | refine Below.alloc ?_ (by first | omega | (simp; done) | (simp; omega)) _ | refine Below.drew ?_), ⟨hcode.out, hs, Nat.le_refl _, by repeat (first | exact Below.refl _ _ | refine Below.alloc ?_ (by first | omega | (simp; done) | (simp; omega)) _ | refine Below.drew ?_), 0, h, by omega, by rw [heap_alloc_new]; rfl⟩⟩

set_option maxRecDepth 100000 in
set_option maxHeartbeats 1600000 in
theorem specl1Below_any (w0 w : World) (p : Nat) (bv : Value) (bs : List UInt8) (n : Int) (hn : I64 n) (hc : Cur w0 w p bv bs) :
    Calls Try.prog 35 #[.pointer (some ⟨p, 0, none⟩), .int .i64 n] w fun e w' => ∃ x : Int, e = .returned (.int .i64 x) ∧ 0 ≤ x ∧ (0 < n → x < n) ∧ (n ≤ 0 → x = 0) ∧ w.grownBy w' (some p) ∧ Cur w0 w' p bv bs := by
  unfold I64 at hn
  by_cases h0 : n ≤ 0
  · go_enter Try.func35, Try.ntmps35
    go_wp2
    go_ret
    exact ⟨0, rfl, by omega, by omega, fun _ => rfl, ⟨rfl, rfl, rfl, Nat.le_refl _, fun _ _ _ => rfl⟩, hc⟩
  by_cases h1 : n ≤ 256
  · have hcall := hid (specl1Byte_any w0 w p bv bs hc)
    clear hc
    go_enter Try.func35, Try.ntmps35
    go_wp2_with fail
    refine hcall.out.mono ?_; rintro e w1 ⟨x, hx, rfl, hg, hc1⟩
    replace hg := hid hg
    replace hc1 := hid hc1
    go_wp2
    all_goals go_ret
    have hpos := Int.emod_nonneg (x : Int) (show n ≠ 0 by omega)
    have hlt := Int.emod_lt_of_pos (x : Int) (show 0 < n by omega)
    exact ⟨(x : Int) % n, rfl, hpos, fun _ => hlt, fun _ => by omega, hg.out, hc1.out⟩
  · have hcall := hid (specl1Byte_any w0 w p bv bs hc)
    clear hc
    go_enter Try.func35, Try.ntmps35
    go_wp2_with fail
    refine hcall.out.mono ?_; rintro e w1 ⟨x, hx, rfl, hg1, hc1⟩
    have hcall1 := hid (specl1Byte_any w0 w1 p bv bs hc1)
    replace hg1 := hid hg1
    clear hcall hc1
    go_wp2_with fail
    refine hcall1.out.mono ?_; rintro e w2 ⟨y, hy, rfl, hg2, hc2⟩
    have hcall2 := hid (specl1Byte_any w0 w2 p bv bs hc2)
    have hg2 := hid (grown_trans hg1.out hg2)
    clear hcall1 hc2 hg1
    go_wp2_with fail
    refine hcall2.out.mono ?_; rintro e w3 ⟨z, hz, rfl, hg3, hc3⟩
    have hcall3 := hid (specl1Byte_any w0 w3 p bv bs hc3)
    have hg3 := hid (grown_trans hg2.out hg3)
    clear hcall2 hc3 hg2
    go_wp2_with fail
    refine hcall3.out.mono ?_; rintro e w4 ⟨v, hv, rfl, hg4, hc4⟩
    have hg4 := hid (grown_trans hg3.out hg4)
    replace hc4 := hid hc4
    clear hcall3 hg3
    go_wp2
    all_goals go_ret
    refine ⟨_, rfl, ?_, fun _ => ?_, fun _ => by omega, hg4.out, hc4.out⟩
    · exact Int.emod_nonneg _ (show n ≠ 0 by omega)
    · exact Int.emod_lt_of_pos _ (show 0 < n by omega)

theorem rowAt_lit (w : World) (cs : List Value) (T : TypeId) : RowAt (w.alloc (.cells cs.toArray T)) w.heap.size 0 cs := fun j u h => by
  rw [Nat.zero_add, World.cell?_alloc_at _ _ _ _ rfl, List.getElem?_toArray]; exact h

set_option maxRecDepth 100000 in
set_option maxHeartbeats 1600000 in
theorem specl1Once_any (w0 w : World) (p : Nat) (bv : Value) (bs : List UInt8) (n : Int) (hn : I64 n) (hc : Cur w0 w p bv bs) :
    Calls Try.prog 48 #[.pointer (some ⟨p, 0, none⟩), .int .i64 n] w fun e w' => ∃ x : Bool, e = .returned (.bool x) ∧ w.grownBy w' (some p) ∧ Cur w0 w' p bv bs := by
  have hcall := hid (specl1Below_any w0 w p bv bs n hn hc)
  clear hc
  go_enter Try.func48, Try.ntmps48
  go_wp2_with fail
  refine hcall.out.mono ?_; rintro e w1 ⟨x, rfl, _, _, _, hg, hc1⟩
  replace hg := hid hg
  replace hc1 := hid hc1
  go_wp2
  all_goals go_ret
  all_goals exact ⟨_, rfl, hg.out, hc1.out⟩

set_option maxRecDepth 100000 in
set_option maxHeartbeats 1600000 in
theorem specl1Pick_any (w0 w : World) (p : Nat) (bv : Value) (bs : List UInt8) (L : List ByteArray) (b cap : Nat) (hL : 0 < L.length) (hL2 : L.length ≤ 1000) (hcap : L.length ≤ cap) (hbp : b ≠ p) (hr : RowAt w b 0 (L.flatMap str1)) (hc : Cur w0 w p bv bs) :
    Calls Try.prog 58 #[.pointer (some ⟨p, 0, none⟩), .slice (some ⟨b, 0, none⟩) L.length cap] w fun e w' => ∃ x ∈ L, e = .returned (.string x) ∧ w.grownBy w' (some p) ∧ Cur w0 w' p bv bs := by
  have hcall := hid (specl1Below_any w0 w p bv bs L.length (by unfold I64; omega) hc)
  clear hc
  have hr2 := hid hr
  go_enter Try.func58, Try.ntmps58
  go_wp2_with fail
  refine hcall.out.mono ?_; rintro e w1 ⟨x, rfl, hx0, hx1, _, hg, hc1⟩
  obtain ⟨k, rfl⟩ : ∃ k : Nat, x = (k : Int) := ⟨x.toNat, by omega⟩
  have hk : k < L.length := by have := hx1 (by omega); omega
  obtain ⟨y, hy⟩ := get_of_lt hk
  have e0 := hr2.out.one str1_len hy rfl
  have e1 : w1.cell? ⟨b, 0 + k, none⟩ = some (.string y) := by
    have hlt := World.block_lt_of_cell? w _ e0
    rw [← e0]
    unfold World.cell?
    rw [show (⟨b, 0 + k, none⟩ : Addr).block = b from rfl, hg.block b hlt (fun e => hbp (Option.some.inj e))]
  rw [Nat.zero_add] at e1
  have hmem := hid (List.mem_of_getElem? hy)
  replace hg := hid hg
  replace hc1 := hid hc1
  clear hr hx0 hx1 e0 hy hr2
  go_wp2
  all_goals go_ret
  all_goals exact ⟨y, hmem.out, rfl, hg.out, hc1.out⟩

set_option maxRecDepth 100000 in
set_option maxHeartbeats 1600000 in
theorem specl1PickInt_any (w0 w : World) (p : Nat) (bv : Value) (bs : List UInt8) (L : List Int) (b cap : Nat) (hL : 0 < L.length) (hL2 : L.length ≤ 1000) (hcap : L.length ≤ cap) (hbp : b ≠ p) (hr : RowAt w b 0 (L.flatMap int1)) (hc : Cur w0 w p bv bs) :
    Calls Try.prog 41 #[.pointer (some ⟨p, 0, none⟩), .slice (some ⟨b, 0, none⟩) L.length cap] w fun e w' => ∃ x ∈ L, e = .returned (.int .i64 x) ∧ w.grownBy w' (some p) ∧ Cur w0 w' p bv bs := by
  have hcall := hid (specl1Below_any w0 w p bv bs L.length (by unfold I64; omega) hc)
  clear hc
  have hr2 := hid hr
  go_enter Try.func41, Try.ntmps41
  go_wp2_with fail
  refine hcall.out.mono ?_; rintro e w1 ⟨x, rfl, hx0, hx1, _, hg, hc1⟩
  obtain ⟨k, rfl⟩ : ∃ k : Nat, x = (k : Int) := ⟨x.toNat, by omega⟩
  have hk : k < L.length := by have := hx1 (by omega); omega
  obtain ⟨y, hy⟩ := get_of_lt hk
  have e0 := hr2.out.one int1_len hy rfl
  have e1 : w1.cell? ⟨b, 0 + k, none⟩ = some (.int .i64 y) := by
    have hlt := World.block_lt_of_cell? w _ e0
    rw [← e0]
    unfold World.cell?
    rw [show (⟨b, 0 + k, none⟩ : Addr).block = b from rfl, hg.block b hlt (fun e => hbp (Option.some.inj e))]
  rw [Nat.zero_add] at e1
  have hmem := hid (List.mem_of_getElem? hy)
  replace hg := hid hg
  replace hc1 := hid hc1
  clear hr hx0 hx1 e0 hy hr2
  go_wp2
  all_goals go_ret
  all_goals exact ⟨y, hmem.out, rfl, hg.out, hc1.out⟩
end Go.Proofs.Ytgmciglaapnahaa
