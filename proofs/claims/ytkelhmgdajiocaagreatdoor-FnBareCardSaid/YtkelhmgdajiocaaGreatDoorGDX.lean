/- Walks and lemmas of this seat (FCurX): what each theorem says of the functions that it names. Conditions: those that each theorem states. -/
import Derived.Test.YtkelhmgdajiocaaGreatDoorGC
import Derived.Test.YtkelhmgdajiocaaGreatDoorGDR
import Derived.Test.YtkelhmgdajiocaaGreatDoorGB
import Derived.Test.YtkelhmgdajiocaaGreatDoorGD
namespace Go.Proofs.YtkelhmgdajiocaaGreatDoor
set_option linter.unusedVariables false
set_option linter.unusedSimpArgs false
open Go.RowKit

/-! The cursor, with what it draws. -/
def hOf (h : Int) : Nat := (h % 18446744073709551616).toNat
theorem hOf_lt (h : Int) : hOf h < 18446744073709551616 := by unfold hOf; omega
theorem hOf_int (h : Int) : (hOf h : Int) = h % 18446744073709551616 := by
  unfold hOf
  exact Int.toNat_of_nonneg (Int.emod_nonneg _ (by decide))
theorem wrap64_mod (v : Int) : wrap64 v % 18446744073709551616 = v % 18446744073709551616 := by
  unfold wrap64; omega
theorem lin_mod (h A C M : Int) : (h % M * A + C) % M = (h * A + C) % M := by
  rw [Int.add_emod, Int.mul_emod, Int.emod_emod, ← Int.mul_emod, ← Int.add_emod]
theorem hOf_step (h : Int) : hOf (wrap64 (wrap64 (h * 6364136223846793005) + 1442695040888963407)) = lcStep (hOf h) := by
  have e : (hOf (wrap64 (wrap64 (h * 6364136223846793005) + 1442695040888963407)) : Int) = (lcStep (hOf h) : Int) := by
    rw [hOf_int, wrap64_mod, Int.add_emod, wrap64_mod, ← Int.add_emod, ← lin_mod, ← hOf_int h]
    unfold lcStep
    generalize hOf h = n
    omega
  exact Int.ofNat.inj e
theorem low8_mod (v : Int) : (low8 v : Int) = v % 256 := by
  unfold low8
  rw [BitVec.toNat_and, BitVec.toNat_ofInt, show (BitVec.ofInt 64 255).toNat = 2 ^ 8 - 1 from rfl, Nat.and_two_pow_sub_one_eq_mod]
  have : ((2 : Nat) ^ 64 : Nat) = 18446744073709551616 := by decide
  rw [this]
  omega
theorem bits_xor (a b : Int) : bits .xor .i64 a b = IntKind.i64.wrap (((BitVec.ofInt 64 a ^^^ BitVec.ofInt 64 b).toNat : Nat) : Int) := rfl
theorem wrap_mod (n : Int) : (IntKind.i64.wrap n) % 256 = n % 256 := by
  have e : IntKind.i64.wrap n = wrap64 n := by
    unfold wrap64
    simp [IntKind.wrap, IntKind.bits, IntKind.signed]
    split <;> omega
  rw [e]; unfold wrap64; omega
theorem hOf_shift (h : Int) : (h / 8589934592 % 18446744073709551616).toNat % 256 = hOf h / 8589934592 % 256 ∧ (h / 35184372088832 % 18446744073709551616).toNat % 256 = hOf h / 35184372088832 % 256 := by
  unfold hOf
  constructor <;> omega
theorem low8_xor (h' : Int) : low8 (bits .xor .i64 (h' / 8589934592) (h' / 35184372088832)) = lcByte (hOf h') := by
  have e : (low8 (bits .xor .i64 (h' / 8589934592) (h' / 35184372088832)) : Int) = (lcByte (hOf h') : Int) := by
    rw [low8_mod, bits_xor, wrap_mod, BitVec.toNat_xor, BitVec.toNat_ofInt, BitVec.toNat_ofInt]
    have hb : lcByte (hOf h') = (hOf h' / 8589934592 % 256) ^^^ (hOf h' / 35184372088832 % 256) := by
      unfold lcByte
      rw [show (255 : Nat) = 2 ^ 8 - 1 from rfl, Nat.and_two_pow_sub_one_eq_mod, Nat.xor_mod_two_pow, Nat.shiftRight_eq_div_pow, Nat.shiftRight_eq_div_pow]
    rw [hb]
    have q : ∀ X Y : Nat, ((X ^^^ Y : Nat) : Int) % 256 = (((X % 256) ^^^ (Y % 256) : Nat) : Int) := fun X Y => by
      have := Nat.xor_mod_two_pow (a := X) (b := Y) (n := 8)
      rw [show (2 : Nat) ^ 8 = 256 from rfl] at this
      rw [← this]; omega
    rw [q, show (((2 : Nat) ^ 64 : Nat) : Int) = 18446744073709551616 from rfl, (hOf_shift h').1, (hOf_shift h').2]
  exact Int.ofNat.inj e
theorem low8_sum (a b : Nat) (ha : a ≤ 255) (hb : b ≤ 255) : low8 (wrap64 ((a : Int) + (b : Int))) = (a + b) % 256 := by
  have := low8_mod (wrap64 ((a : Int) + (b : Int)))
  unfold wrap64 at this ⊢
  omega
theorem lcByte_le (h : Nat) : lcByte h ≤ 255 := by unfold lcByte; exact Nat.and_le_right
/-- The cursor stands at s. -/
structure CurX (w0 w : World) (p : Nat) (bv : Value) (bs : List UInt8) (s : DS) : Prop where
  code : Slc w0 bv 1 bs.length (bs.flatMap byte1)
  small : bs.length ≤ 1048576
  at_ : w0.heap.size ≤ p
  old : Below w0.heap.size w0 w
  le : s.i ≤ bs.length
  box : ∃ h : Int, hOf h = s.h ∧ w.heap[p]? = some (.cells #[bv, .int .i64 s.i, .int .i64 h] 90 (0, 0))
theorem CurX.cur {w0 w : World} {p : Nat} {bv : Value} {bs : List UInt8} {s : DS} (h : CurX w0 w p bv bs s) : Cur w0 w p bv bs := by
  obtain ⟨k, _, hb⟩ := h.box
  exact ⟨h.code, h.small, h.at_, h.old, s.i, k, h.le, hb⟩
theorem Cur.x {w0 w : World} {p : Nat} {bv : Value} {bs : List UInt8} (h : Cur w0 w p bv bs) : ∃ s, CurX w0 w p bv bs s := by
  obtain ⟨i, k, hi, hb⟩ := h.box
  exact ⟨⟨hOf k, i⟩, h.code, h.small, h.at_, h.old, hi, k, rfl, hb⟩
theorem CurX.hlt {w0 w : World} {p : Nat} {bv : Value} {bs : List UInt8} {s : DS} (h : CurX w0 w p bv bs s) : s.h < 18446744073709551616 := by
  obtain ⟨k, hk, _⟩ := h.box
  rw [← hk]; exact hOf_lt k
theorem CurX.lt {w0 w : World} {p : Nat} {bv : Value} {bs : List UInt8} {s : DS} (h : CurX w0 w p bv bs s) : p < w.heap.size := h.cur.box.lt
theorem CurX.next {w0 w w' : World} {p : Nat} {bv : Value} {bs : List UInt8} {s s' : DS} (h : CurX w0 w p bv bs s) (hg : w.grownBy w' (some p)) (hi : s'.i ≤ bs.length) (hb : ∃ k : Int, hOf k = s'.h ∧ w'.heap[p]? = some (.cells #[bv, .int .i64 s'.i, .int .i64 k] 90 (0, 0))) : CurX w0 w' p bv bs s' :=
  ⟨h.code, h.small, h.at_, h.old.grown hg h.old.size (fun r e => by simp at e; subst e; exact h.at_), hi, hb⟩
theorem CurX.below {w0 w w' : World} {p : Nat} {bv : Value} {bs : List UInt8} {s : DS} (h : CurX w0 w p bv bs s) (hb : Below w.heap.size w w') : CurX w0 w' p bv bs s := by
  obtain ⟨k, hk, hx⟩ := h.box
  exact ⟨h.code, h.small, h.at_, h.old.trans (hb.mono h.old.size), h.le, k, hk, (hb.block p h.lt).trans hx⟩
theorem CurX.low {w0 w1 w2 : World} {p : Nat} {bv : Value} {bs : List UInt8} {s : DS} {r : Option Nat} (h : CurX w0 w1 p bv bs s) (hg : ∀ g, r = some g → p < g) (h2 : w1.grownBy w2 r) : CurX w0 w2 p bv bs s := by
  have hat := h.at_
  obtain ⟨k, hk, hx⟩ := h.box
  exact ⟨h.code, h.small, h.at_, h.old.grown h2 h.old.size (fun g e => by have := hg g e; omega), h.le, k, hk, (h2.block p h.lt (fun e => by have := hg p e.symm; omega)).trans hx⟩

set_option maxRecDepth 100000 in
set_option maxHeartbeats 1600000 in
theorem specl1ByteX (w0 w : World) (p : Nat) (bv : Value) (bs : List UInt8) (s : DS) (hc : CurX w0 w p bv bs s) :
    Calls Tryz.prog 85 #[.pointer (some ⟨p, 0, none⟩)] w fun e w' => e = .returned (.int .i64 ((dNext bs s).1 : Nat)) ∧ w.grownBy w' (some p) ∧ CurX w0 w' p bv bs (dNext bs s).2 := by
  obtain ⟨h, hh, hbox⟩ := hc.box
  have hi := hc.le
  have hc2 := hid hc
  obtain ⟨hcode, hsm, hat, hold, _, _⟩ := hc
  obtain ⟨_, a, cap, rfl, hcap, hm, hrow⟩ := hcode
  unfold maxLen at hm
  obtain ⟨sh, i⟩ := s
  simp only at hh hi hbox
  subst hh
  have hplt : p < w.heap.size := (Array.getElem?_eq_some_iff.1 hbox).1
  have c0 : w.cell? ⟨p, 0, none⟩ = some (.slice a bs.length cap) := by simp [World.cell?, hbox]
  have c1 : w.cell? ⟨p, 1, none⟩ = some (.int .i64 i) := by simp [World.cell?, hbox]
  have c2 : w.cell? ⟨p, 2, none⟩ = some (.int .i64 h) := by simp [World.cell?, hbox]
  have f0 : ∀ j, w.frozen? ⟨p, j, none⟩ = false := fun j => by simp [World.frozen?, hbox]
  have hbox2 := hid hbox
  clear hbox
  have hstep := hid (hOf_step h)
  replace step : Hid (∀ h', ∃ W1, W1 = w.setCell ⟨p, 2, none⟩ (.int .i64 h') ∧ W1.heap[p]? = some (.cells #[.slice a bs.length cap, .int .i64 i, .int .i64 h'] 90 (0, 0)) ∧ w.grownBy W1 (some p) ∧ (∀ q o, q ≠ p → W1.cell? ⟨q, o, none⟩ = w.cell? ⟨q, o, none⟩)) := hid fun h' => by
    refine ⟨_, rfl, (heap_setCell_at hbox2.out).trans rfl, grown_set w p 2 _, fun q o hq => ?_⟩
    unfold World.cell?
    rw [show (⟨q, o, none⟩ : Addr).block = q from rfl, heap_setCell_other w ⟨p, 2, none⟩ q _ hq]
  by_cases hlt : i < bs.length
  · obtain ⟨b, off, rfl, hro⟩ := slc_some hrow (by omega)
    obtain ⟨y, hy⟩ := get_of_lt hlt
    have e0 := (hro.mono hold (Nat.le_refl _)).one byte1_len hy rfl
    have hyl := y.toNat_lt
    have hbp : b ≠ p := by have := World.block_lt_of_cell? w0 _ (hro.one byte1_len hy rfl); have : b < w0.heap.size := this; omega
    have hdn : Hid (dNext bs ⟨hOf h, i⟩ = ((lcByte (lcStep (hOf h)) + y.toNat) % 256, ⟨lcStep (hOf h), i + 1⟩)) := hid (by
      unfold dNext
      rw [if_pos hlt]
      simp only [List.getD_eq_getElem?_getD, hy, Option.getD_some])
    clear hro hrow hy
    go_enter Tryz.func85, Tryz.ntmps85
    go_wp2_with fail
    generalize hh' : wrap64 (wrap64 (h * 6364136223846793005) + 1442695040888963407) = h' at hstep ⊢
    replace hh' := hid hh'
    obtain ⟨W1, hW1, hN, hG, hO⟩ := step.out h'
    rw [← hW1]
    have d0 : W1.cell? ⟨p, 0, none⟩ = some (.slice (some ⟨b, off, none⟩) bs.length cap) := box_cell hN rfl
    have d1 : W1.cell? ⟨p, 1, none⟩ = some (.int .i64 i) := box_cell hN rfl
    have d2 : W1.cell? ⟨p, 2, none⟩ = some (.int .i64 h') := box_cell hN rfl
    have df : ∀ j, W1.frozen? ⟨p, j, none⟩ = false := fun j => box_froz hN
    have e1 := (hO b (off + i) hbp).trans e0
    replace hN := hid hN
    clear c0 c1 c2 e0 hO hW1 f0 hbox2 step hh'
    go_quiet (fail)
    go_wp2_with fail
    go_quiet (fail)
    go_wp2_with fail
    go_quiet (fail)
    go_wp2
    go_ret
    simp only [bits_255, low8_xor, hstep.out]
    rw [hdn.out]
    have hstep' := hstep.out
    clear hdn hstep
    generalize lcStep (hOf h) = sh at *
    have hlb := lcByte_le sh
    generalize lcByte sh = lb at *
    have hfin := low8_sum lb y.toNat (by omega) (by omega)
    have key : ∀ W : World, w.grownBy W (some p) → W.heap[p]? = some (.cells #[.slice (some ⟨b, off, none⟩) bs.length cap, .int .i64 ((i : Int) + 1), .int .i64 h'] 90 (0, 0)) → w.grownBy W (some p) ∧ CurX w0 W p (.slice (some ⟨b, off, none⟩) bs.length cap) bs ⟨sh, i + 1⟩ := fun W hg hb =>
      ⟨hg, hc2.out.next hg (by show i + 1 ≤ _; omega) ⟨h', hstep', by rw [hb]; rfl⟩⟩
    refine ⟨by rw [hfin]; rfl, key _ (grown_trans (grown_dN hG _) (grown_set _ p 1 _)) ?_⟩
    exact (heap_setCell_at (j := 1) (u := .int .i64 ((i : Int) + 1)) hN.out).trans rfl
  · have hie : i = bs.length := by omega
    have hdn : Hid (dNext bs ⟨hOf h, i⟩ = (lcByte (lcStep (hOf h)), ⟨lcStep (hOf h), i⟩)) := hid (by unfold dNext; rw [if_neg hlt])
    go_enter Tryz.func85, Tryz.ntmps85
    go_wp2_with fail
    generalize hh' : wrap64 (wrap64 (h * 6364136223846793005) + 1442695040888963407) = h' at hstep ⊢
    replace hh' := hid hh'
    obtain ⟨W1, hW1, hN, hG, hO⟩ := step.out h'
    rw [← hW1]
    have d0 : W1.cell? ⟨p, 0, none⟩ = some (.slice a bs.length cap) := box_cell hN rfl
    have d1 : W1.cell? ⟨p, 1, none⟩ = some (.int .i64 i) := box_cell hN rfl
    have d2 : W1.cell? ⟨p, 2, none⟩ = some (.int .i64 h') := box_cell hN rfl
    have df : ∀ j, W1.frozen? ⟨p, j, none⟩ = false := fun j => box_froz hN
    replace hN := hid hN
    clear c0 c1 c2 hO hW1 f0 hbox2 step hrow hh'
    go_quiet (fail)
    go_wp2_with fail
    go_quiet (fail)
    go_wp2
    go_ret
    simp only [bits_255, low8_xor, hstep.out]
    rw [hdn.out]
    have hstep' := hstep.out
    clear hdn hstep
    generalize lcStep (hOf h) = sh at *
    generalize lcByte sh = lb at *
    have key : ∀ W : World, w.grownBy W (some p) → W.heap[p]? = some (.cells #[.slice a bs.length cap, .int .i64 i, .int .i64 h'] 90 (0, 0)) → w.grownBy W (some p) ∧ CurX w0 W p (.slice a bs.length cap) bs ⟨sh, i⟩ := fun W hg hb =>
      ⟨hg, hc2.out.next hg hi ⟨h', hstep', hb⟩⟩
    exact ⟨rfl, key _ (grown_dN (grown_dN hG _) _) hN.out⟩

set_option maxRecDepth 100000 in
set_option maxHeartbeats 1600000 in
theorem specl1BelowX (w0 w : World) (p : Nat) (bv : Value) (bs : List UInt8) (s : DS) (n : Int) (m : Nat) (hn : n = (m : Int)) (h0 : 0 < m) (h1 : m ≤ 256) (hc : CurX w0 w p bv bs s) :
    Calls Tryz.prog 66 #[.pointer (some ⟨p, 0, none⟩), .int .i64 n] w fun e w' => e = .returned (.int .i64 ((dNext bs s).1 % m : Nat)) ∧ w.grownBy w' (some p) ∧ CurX w0 w' p bv bs (dNext bs s).2 := by
  have hcall := hid (specl1ByteX w0 w p bv bs s hc)
  subst hn
  clear hc
  generalize (dNext bs s).1 = x at *
  generalize (dNext bs s).2 = s' at *
  go_enter Tryz.func66, Tryz.ntmps66
  go_wp2_with fail
  refine hcall.out.mono ?_; rintro e w1 ⟨rfl, hg, hc1⟩
  replace hg := hid hg
  replace hc1 := hid hc1
  go_wp2
  all_goals go_ret
  all_goals exact ⟨by first | rfl | (congr 2; omega), hg.out, hc1.out⟩
set_option maxRecDepth 100000 in
set_option maxHeartbeats 1600000 in
theorem specl1OnceX (w0 w : World) (p : Nat) (bv : Value) (bs : List UInt8) (s : DS) (n : Int) (m : Nat) (hn : n = (m : Int)) (h0 : 0 < m) (h1 : m ≤ 256) (hc : CurX w0 w p bv bs s) (y : Nat) (hy : y = (dNext bs s).1 % m) :
    Calls Tryz.prog 63 #[.pointer (some ⟨p, 0, none⟩), .int .i64 n] w fun e w' => e = .returned (.bool (y == 0)) ∧ w.grownBy w' (some p) ∧ CurX w0 w' p bv bs (dNext bs s).2 := by
  have hcall := specl1BelowX w0 w p bv bs s n m hn h0 h1 hc
  rw [← hy] at hcall
  replace hcall := hid hcall
  clear hc hy
  subst hn
  generalize (dNext bs s).2 = s' at *
  go_enter Tryz.func63, Tryz.ntmps63
  go_wp2_with fail
  refine hcall.out.mono ?_; rintro e w1 ⟨rfl, hg, hc1⟩
  replace hg := hid hg
  replace hc1 := hid hc1
  go_wp2
  all_goals go_ret
  all_goals exact ⟨ret_bool (by cases y <;> simp <;> omega), hg.out, hc1.out⟩
set_option maxRecDepth 100000 in
set_option maxHeartbeats 1600000 in
theorem specl1PickX (w0 w : World) (p : Nat) (bv : Value) (bs : List UInt8) (s : DS) (L : List ByteArray) (b cap : Nat) (hL : 0 < L.length) (hL2 : L.length ≤ 256) (hcap : L.length ≤ cap) (hbp : b ≠ p) (hr : RowAt w b 0 (L.flatMap str1)) (hc : CurX w0 w p bv bs s) :
    Calls Tryz.prog 82 #[.pointer (some ⟨p, 0, none⟩), .slice (some ⟨b, 0, none⟩) L.length cap] w fun e w' => ∃ x ∈ L, e = .returned (.string x) ∧ w.grownBy w' (some p) ∧ CurX w0 w' p bv bs (dNext bs s).2 := by
  have hcall := hid (specl1BelowX w0 w p bv bs s L.length L.length rfl hL hL2 hc)
  clear hc
  have hr2 := hid hr
  have hk := Nat.mod_lt (dNext bs s).1 hL
  generalize (dNext bs s).2 = s' at *
  generalize (dNext bs s).1 % L.length = k at *
  go_enter Tryz.func82, Tryz.ntmps82
  go_wp2_with fail
  refine hcall.out.mono ?_; rintro e w1 ⟨rfl, hg, hc1⟩
  obtain ⟨y, hy⟩ := get_of_lt hk
  have e0 := hr2.out.one str1_len hy rfl
  have e1 : w1.cell? ⟨b, 0 + k, none⟩ = some (.string y) := by
    have hlt := World.block_lt_of_cell? w _ e0
    rw [← e0]
    unfold World.cell?
    rw [show (⟨b, 0 + k, none⟩ : Addr).block = b from rfl, hg.block b hlt (fun e => hbp (Option.some.inj e))]
  rw [Nat.zero_add] at e1
  have hmem := hid (List.mem_of_getElem? hy)
  replace hg := hid hg
  replace hc1 := hid hc1
  clear hr e0 hy hr2
  go_wp2
  all_goals go_ret
  all_goals exact ⟨y, hmem.out, rfl, hg.out, hc1.out⟩
set_option maxRecDepth 100000 in
set_option maxHeartbeats 1600000 in
theorem specl1PickIntX (w0 w : World) (p : Nat) (bv : Value) (bs : List UInt8) (s : DS) (L : List Int) (b cap : Nat) (hL : 0 < L.length) (hL2 : L.length ≤ 256) (hcap : L.length ≤ cap) (hbp : b ≠ p) (hr : RowAt w b 0 (L.flatMap int1)) (hc : CurX w0 w p bv bs s) :
    Calls Tryz.prog 67 #[.pointer (some ⟨p, 0, none⟩), .slice (some ⟨b, 0, none⟩) L.length cap] w fun e w' => ∃ x ∈ L, e = .returned (.int .i64 x) ∧ w.grownBy w' (some p) ∧ CurX w0 w' p bv bs (dNext bs s).2 := by
  have hcall := hid (specl1BelowX w0 w p bv bs s L.length L.length rfl hL hL2 hc)
  clear hc
  have hr2 := hid hr
  have hk := Nat.mod_lt (dNext bs s).1 hL
  generalize (dNext bs s).2 = s' at *
  generalize (dNext bs s).1 % L.length = k at *
  go_enter Tryz.func67, Tryz.ntmps67
  go_wp2_with fail
  refine hcall.out.mono ?_; rintro e w1 ⟨rfl, hg, hc1⟩
  obtain ⟨y, hy⟩ := get_of_lt hk
  have e0 := hr2.out.one int1_len hy rfl
  have e1 : w1.cell? ⟨b, 0 + k, none⟩ = some (.int .i64 y) := by
    have hlt := World.block_lt_of_cell? w _ e0
    rw [← e0]
    unfold World.cell?
    rw [show (⟨b, 0 + k, none⟩ : Addr).block = b from rfl, hg.block b hlt (fun e => hbp (Option.some.inj e))]
  rw [Nat.zero_add] at e1
  have hmem := hid (List.mem_of_getElem? hy)
  replace hg := hid hg
  replace hc1 := hid hc1
  clear hr e0 hy hr2
  go_wp2
  all_goals go_ret
  all_goals exact ⟨y, hmem.out, rfl, hg.out, hc1.out⟩
end Go.Proofs.YtkelhmgdajiocaaGreatDoor
/- Walks and lemmas of this seat (FPartsN): what each theorem says of the functions that it names. Conditions: those that each theorem states. -/
namespace Go.Proofs.YtkelhmgdajiocaaGreatDoor
set_option linter.unusedVariables false
set_option linter.unusedSimpArgs false
open Go.RowKit

/-! Trees that are drawn: how great they are; parts while they are gathered. -/
theorem infoNSlice : (Tryz.prog.info? 26).map (fun i => (i.zero, i.size, i.bytes)) = some (some (.slice none 0 0), 1, 24) := by kernel_rfl
/-- Nodes of a drawn tree of so many nodes. -/
def NSmall (n : Nat) (x : Node) : Prop := (x.text.size ≤ 16 ∧ x.other.size ≤ 16) ∧ (0 ≤ x.kind ∧ x.kind ≤ 100) ∧ (-1 ≤ x.op ∧ x.op ≤ 200) ∧ x.kids.length ≤ 8 ∧ ∀ k ∈ x.kids, 0 ≤ k ∧ k ≤ n
theorem NSmall.mono {n m : Nat} {x : Node} (h : NSmall n x) (hm : n ≤ m) : NSmall m x := by
  obtain ⟨h1, h2, h3, h4, h5⟩ := h
  exact ⟨h1, h2, h3, h4, fun k hk => by have := h5 k hk; omega⟩
def SmallN (l : List Node) : Prop := l ≠ [] ∧ ∀ x ∈ l, NSmall l.length x
theorem SmallN.fine {l : List Node} (h : SmallN l) (hl : l.length ≤ 15000) : l ≠ [] ∧ (∀ y ∈ l, y.Ok) ∧ bulk Node.sizes l ≤ 1048576 ∧ ∀ y ∈ l, ∀ k ∈ y.kids, 0 ≤ k ∧ k ≤ 1048576 := by
  refine ⟨h.1, fun y hy => ?_, ?_, fun y hy k hk => ?_⟩
  · obtain ⟨h1, h2, h3, h4, h5⟩ := h.2 y hy
    unfold Node.Ok I64 maxLen
    refine ⟨by omega, by omega, by omega, by omega, fun k hk => by have := h5 k hk; omega, by omega⟩
  · have : ∀ (L : List Node), (∀ x ∈ L, x.sizes ≤ 40) → bulk Node.sizes L ≤ L.length * 41 := fun L => by
      induction L with
      | nil => intro _; simp [bulk]
      | cons x L ih =>
        intro hL
        have h1 := hL x (by simp)
        have h2 := ih fun y hy => hL y (by simp [hy])
        simp only [bulk, List.map_cons, List.sum_cons, List.length_cons] at *
        omega
    have := this l fun x hx => by
      obtain ⟨h1, _, _, h4, _⟩ := h.2 x hx
      unfold Node.sizes; omega
    omega
  · obtain ⟨_, _, _, _, h5⟩ := h.2 y hy
    have := h5 k hk; omega
theorem makeK_inv (ps : List (List Node)) (hp : ∀ p ∈ ps, SmallN p) : (∀ x ∈ (makeK ps).1, NSmall (makeK ps).1.length x) ∧ ∀ k ∈ (makeK ps).2, 0 ≤ k ∧ k ≤ (makeK ps).1.length := by
  unfold makeK
  suffices h : ∀ (a : List Node × List Int), ((∀ x ∈ a.1, NSmall a.1.length x) ∧ ∀ k ∈ a.2, 0 ≤ k ∧ k ≤ a.1.length) → (∀ p ∈ ps, SmallN p) → (∀ x ∈ (ps.foldl makeStep a).1, NSmall (ps.foldl makeStep a).1.length x) ∧ ∀ k ∈ (ps.foldl makeStep a).2, 0 ≤ k ∧ k ≤ (ps.foldl makeStep a).1.length from h ([], []) (by simp) hp
  clear hp
  induction ps with
  | nil => intro a h _; exact h
  | cons p ps ih =>
    intro a h hp
    rw [List.foldl_cons]
    refine ih _ ?_ fun q hq => hp q (by simp [hq])
    have hpp := hp p (by simp)
    have hpos := List.length_pos_iff.2 hpp.1
    unfold makeStep
    simp only [List.length_append, List.length_map]
    refine ⟨fun x hx => ?_, fun k hk => ?_⟩
    · rcases List.mem_append.1 hx with hx | hx
      · exact (h.1 x hx).mono (by omega)
      · obtain ⟨y, hy, rfl⟩ := List.mem_map.1 hx
        obtain ⟨h1, h2, h3, h4, h5⟩ := hpp.2 y hy
        refine ⟨h1, h2, h3, by simpa [Node.shift] using h4, fun k hk => ?_⟩
        simp only [Node.shift, List.mem_map] at hk
        obtain ⟨j, hj, rfl⟩ := hk
        have := h5 j hj; omega
    · rcases List.mem_append.1 hk with hk | hk
      · have := h.2 k hk; omega
      · simp at hk; omega
/-- Small fields. -/
def XSmall (x : Node) : Prop := (x.text.size ≤ 16 ∧ x.other.size ≤ 16) ∧ (0 ≤ x.kind ∧ x.kind ≤ 100) ∧ (-1 ≤ x.op ∧ x.op ≤ 200)
theorem makeN_small (x : Node) (ps : List (List Node)) (hx : XSmall x) (hp : ∀ p ∈ ps, SmallN p) (hl : ps.length ≤ 8) : SmallN (makeN x ps) ∧ (makeN x ps).length = (ps.map List.length).sum + 1 := by
  obtain ⟨i1, i2⟩ := makeK_inv ps hp
  have h3 := makeK_len ps
  unfold makeN
  refine ⟨⟨by simp, fun y hy => ?_⟩, by rw [List.length_append, h3.1]; rfl⟩
  rw [List.length_append, List.length_singleton]
  rcases List.mem_append.1 hy with hy | hy
  · exact (i1 y hy).mono (by omega)
  · rw [List.mem_singleton] at hy
    subst hy
    exact ⟨hx.1, hx.2.1, hx.2.2, by rw [h3.2]; exact hl, fun k hk => by have := i2 k hk; omega⟩
/-- Nodes that can be read, their blocks in S. -/
def NodeSlcX (S : Nat → Prop) (w : World) (v : Value) (l : List Node) : Prop :=
  ∃ q : List (Node × Value), q.map Prod.fst = l ∧ SlcS S w v 5 q.length (q.flatMap Node.cells) ∧ ∀ p ∈ q, SlcS S w p.2 1 p.1.kids.length (p.1.kids.flatMap int1)
theorem NodeSlcX.slc {S : Nat → Prop} {w : World} {v : Value} {l : List Node} (h : NodeSlcX S w v l) : NodeSlc w v l := by
  obtain ⟨q, h1, h2, h3⟩ := h
  exact ⟨q, h1, h2.slc, fun p hp => (h3 p hp).slc⟩
theorem NodeSlcX.keep {S S' : Nat → Prop} {w w' : World} {v : Value} {l : List Node} (h : NodeSlcX S w v l) (hk : ∀ b, S b → b < w.heap.size → w'.heap[b]? = w.heap[b]? ∧ S' b) : NodeSlcX S' w' v l := by
  obtain ⟨q, h1, h2, h3⟩ := h
  exact ⟨q, h1, h2.keep (by decide) hk, fun p hp => (h3 p hp).keep (by decide) hk⟩
theorem NodeSlcX.of_own {w : World} {lo hi : Nat} {v : Value} {l : List Node} (h : OwnNode w lo hi v l) : NodeSlcX (fun b => lo ≤ b) w v l := by
  obtain ⟨q, h1, h2, h3, _⟩ := h
  exact ⟨q, h1, SlcS.of_own h2.1, fun p hp => SlcS.of_own (h3 p hp).1⟩
theorem NodeSlcX.grown {lo p : Nat} {w w' : World} {v : Value} {l : List Node} (h : NodeSlcX (fun b => lo ≤ b) w v l) (hg : w.grownBy w' (some p)) (hp : p < lo) : NodeSlcX (fun b => lo ≤ b) w' v l :=
  h.keep fun b hS hl => ⟨hg.block b hl fun e => by have := Option.some.inj e; have hS : lo ≤ b := hS; omega, hS⟩
theorem OwnNode.lowX {w : World} {lo lo' hi : Nat} {v : Value} {l : List Node} (h : OwnNode w lo hi v l) (hl : lo' ≤ lo) : OwnNode w lo' hi v l := by
  obtain ⟨q, h1, h2, h3, h4⟩ := h
  exact ⟨q, h1, ⟨own_base h2.1 hl, h2.2⟩, fun p hp => ⟨own_base (h3 p hp).1 hl, (h3 p hp).2⟩, h4⟩
theorem grown_blw {w w1 w2 : World} {r : Option Nat} (h : w.grownBy w1 r) (hb : Below w1.heap.size w1 w2) : w.grownBy w2 r :=
  ⟨hb.os.trans h.os, hb.tape.trans h.tape, hb.output.trans h.output, Nat.le_trans h.size hb.size, fun k hk hne => (hb.block k (Nat.lt_of_lt_of_le hk h.size)).trans (h.block k hk hne)⟩
theorem grown_al {w w' : World} {r : Option Nat} (h : w.grownBy w' r) (o : Obj) : w.grownBy (w'.alloc o) r := grown_trans h (World.grownBy_alloc _ _ _)
theorem ownBlock_ne {w : World} {p B : Nat} {e : TypeId} {s n : Nat} {v : Value} {xs : List Value} (ho : w.ownsRow B e s v n xs) (hp : p < B) : v.ownBlock = none ∨ v.ownBlock ≠ some p := by
  cases hno : v.ownBlock with
  | none => exact .inl rfl
  | some g => exact .inr fun e => by have := (ho.lt g hno).1; have := Option.some.inj e; omega
/-- A part that has been drawn. -/
def PartOk (lo : Nat) (w : World) (q : List Node × Value) : Prop := NodeSlcX (fun b => lo ≤ b) w q.2 q.1 ∧ SmallN q.1 ∧ q.1.length ≤ 1300
theorem PartOk.grown {lo p : Nat} {w w' : World} {q : List Node × Value} (h : PartOk lo w q) (hg : w.grownBy w' (some p)) (hp : p < lo) : PartOk lo w' q := ⟨h.1.grown hg hp, h.2⟩
/-- While parts are drawn: the world, the cursor, the parts so far. -/
structure GX (w0 w : World) (p : Nat) (bv : Value) (bs : List UInt8) (s : DS) (ps : List (List Node × Value)) (w1 : World) : Prop where
  hp : p < w.heap.size
  gr : w.grownBy w1 (some p)
  cur : CurX w0 w1 p bv bs s
  sub : ∀ q ∈ ps, PartOk w.heap.size w1 q
theorem GX.start {w0 w : World} {p : Nat} {bv : Value} {bs : List UInt8} {s : DS} (hc : CurX w0 w p bv bs s) : GX w0 w p bv bs s [] w := ⟨hc.lt, grown_below (Below.refl _ _), hc, by simp⟩
theorem GX.step {w0 w w1 w2 : World} {p : Nat} {bv : Value} {bs : List UInt8} {s s' : DS} {ps : List (List Node × Value)} (h : GX w0 w p bv bs s ps w1) (hg : w1.grownBy w2 (some p)) (hc : CurX w0 w2 p bv bs s') : GX w0 w p bv bs s' ps w2 :=
  ⟨h.hp, grown_trans h.gr hg, hc, fun q hq => (h.sub q hq).grown hg h.hp⟩
theorem GX.alloc {w0 w w1 : World} {p : Nat} {bv : Value} {bs : List UInt8} {s : DS} {ps : List (List Node × Value)} (h : GX w0 w p bv bs s ps w1) (o : Obj) : GX w0 w p bv bs s ps (w1.alloc o) :=
  h.step (World.grownBy_alloc _ _ _) (h.cur.below ((Below.refl _ _).alloc (Nat.le_refl _) _))
/-- What a draw of nodes hands back. -/
def DrawnX (w0 w : World) (p : Nat) (bv : Value) (bs : List UInt8) (t : Draw Nat) (s : DS) (e : Ending) (w' : World) : Prop :=
  ∃ (v : Value) (l : List Node), e = .returned v ∧ w.grownBy w' (some p) ∧ CurX w0 w' p bv bs (t.run (dNext bs) s).2 ∧ OwnNode w' w.heap.size w'.heap.size v l ∧ SmallN l ∧ l.length = (t.run (dNext bs) s).1
/-- A function that draws nodes as t says. -/
def Draws (f : FuncId) (args : List Value) (t : Draw Nat) : Prop :=
  ∀ (w0 w : World) (p : Nat) (bv : Value) (bs : List UInt8) (s : DS), CurX w0 w p bv bs s → Calls Tryz.prog f (.pointer (some ⟨p, 0, none⟩) :: args).toArray w fun e w' => DrawnX w0 w p bv bs t s e w'
theorem GX.push {w0 w w1 w2 : World} {p : Nat} {bv v : Value} {bs : List UInt8} {s s' : DS} {ps : List (List Node × Value)} {l : List Node} (h : GX w0 w p bv bs s ps w1) (hg : w1.grownBy w2 (some p)) (hc : CurX w0 w2 p bv bs s') (ho : OwnNode w2 w1.heap.size w2.heap.size v l) (hs : SmallN l) (hl : l.length ≤ 1300) : GX w0 w p bv bs s' (ps ++ [(l, v)]) w2 := by
  have h2 := h.step hg hc
  refine ⟨h.hp, h2.gr, hc, fun q hq => ?_⟩
  rcases List.mem_append.1 hq with hq | hq
  · exact h2.sub q hq
  · rw [List.mem_singleton.1 hq]
    exact ⟨(NodeSlcX.of_own ho).keep fun b hS _ => ⟨rfl, by have hS : w1.heap.size ≤ b := hS; have := h.gr.size; omega⟩, hs, hl⟩
theorem own_vslice {w : World} {lo hi : Nat} {v : Value} {l : List Node} (h : OwnNode w lo hi v l) : ∃ a n c, v = .slice a n c := by
  obtain ⟨a, c, e, _⟩ := h.slc.shape
  exact ⟨a, _, c, e⟩
/-- The parts in a row of their own. -/
structure PartsX (w0 w : World) (p : Nat) (bv : Value) (bs : List UInt8) (s : DS) (v : Value) (ps : List (List Node × Value)) (wr : World) : Prop where
  hp : p < w.heap.size
  gr : w.grownBy wr (some p)
  cur : CurX w0 wr p bv bs s
  own : wr.ownsRow w.heap.size 26 1 v ps.length (ps.flatMap part1)
  sub : ∀ q ∈ ps, NodeSlcX (fun b => w.heap.size ≤ b ∧ some b ≠ v.ownBlock) wr q.2 q.1 ∧ SmallN q.1 ∧ q.1.length ≤ 1300
theorem part_flat (ps : List (List Node × Value)) : ps.flatMap part1 = ps.map Prod.snd := by
  induction ps with
  | nil => rfl
  | cons q ps ih => rw [List.flatMap_cons, ih]; rfl
theorem GX.lit {w0 w w1 : World} {p : Nat} {bv : Value} {bs : List UInt8} {s : DS} {ps : List (List Node × Value)} (h : GX w0 w p bv bs s ps w1) (cs : Array Value) (hcs : cs.toList = ps.map Prod.snd) (n : Nat) (hn : n = ps.length) (hb : n ≤ 100) : PartsX w0 w p bv bs s (.slice (some ⟨w1.heap.size, 0, none⟩) n n) ps (w1.alloc (.cells cs 26)) := by
  have ha := h.alloc (.cells cs 26)
  refine ⟨h.hp, ha.gr, ha.cur, ?_, fun q hq => ⟨(h.sub q hq).1.keep fun b hS hl => ⟨Below.heap_alloc _ _ _ hl, hS, fun e => ?_⟩, (h.sub q hq).2⟩⟩
  · rw [part_flat, ← hcs, ← hn]
    have hz : cs.size = n * 1 := by rw [← Array.length_toList, hcs, List.length_map, hn]; omega
    exact World.ownsRow_lit (size := 1) w1 cs n h.gr.size (by unfold maxLen; omega) hz
  · have : b = w1.heap.size := Option.some.inj e
    omega
theorem PartsX.start {w0 w w1 w2 : World} {p : Nat} {bv : Value} {bs : List UInt8} {s s' : DS} (h : GX w0 w p bv bs s [] w1) (hg : (w1.alloc (.cells #[] 26)).grownBy w2 (some p)) (hc : CurX w0 w2 p bv bs s') : PartsX w0 w p bv bs s' (.slice (some ⟨w1.heap.size, 0, none⟩) 0 0) [] w2 := by
  have ho : (w1.alloc (.cells #[] 26)).ownsRow w.heap.size 26 1 (.slice (some ⟨w1.heap.size, 0, none⟩) 0 0) 0 [] := own_base (own_new0 w1 _ _) h.gr.size
  exact ⟨h.hp, grown_trans (grown_al h.gr _) hg, hc, ho.kept hg (ownBlock_ne ho h.hp), by simp⟩
theorem PartsX.keep {w0 w w1 w2 : World} {p : Nat} {bv v : Value} {bs : List UInt8} {s s' : DS} {ps : List (List Node × Value)} (h : PartsX w0 w p bv bs s v ps w1) (hg : w1.grownBy w2 (some p)) (hc : CurX w0 w2 p bv bs s') : PartsX w0 w p bv bs s' v ps w2 :=
  ⟨h.hp, grown_trans h.gr hg, hc, h.own.kept hg (ownBlock_ne h.own h.hp), fun q hq => ⟨(h.sub q hq).1.keep fun b hS hl => ⟨hg.block b hl fun e => by have := Option.some.inj e; have := hS.1; have := h.hp; omega, hS⟩, (h.sub q hq).2⟩⟩
theorem PartsX.step {w0 w wr w1 w2 : World} {p : Nat} {bv : Value} {bs : List UInt8} {s s' : DS} {v v1 : Value} {ps : List (List Node × Value)} {part : List Node} {gg cap : Nat} {o : Obj} {hi : Nat} (h : PartsX w0 w p bv bs s v ps wr) (hb1 : wr.grownBy w1 (some p)) (hc1 : CurX w0 w1 p bv bs s') (ho1 : OwnNode w1 wr.heap.size hi v1 part) (hsm : SmallN part) (hln : part.length ≤ 1300)
    (hown : w2.ownsRow w.heap.size 26 1 (.slice (some ⟨gg, 0, none⟩) (ps.length + 1) cap) (ps.length + 1) (ps.flatMap part1 ++ [v1])) (hg : (w1.alloc o).grownBy w2 v.ownBlock) (hat : v.ownBlock = some gg ∨ gg = w1.heap.size + 1) :
    PartsX w0 w p bv bs s' (.slice (some ⟨gg, 0, none⟩) (ps.length + 1) cap) (ps ++ [(part, v1)]) w2 := by
  have hp := h.hp
  have hlo : ∀ r, v.ownBlock = some r → w.heap.size ≤ r ∧ r < wr.heap.size := fun r e => h.own.lt r e
  have hs1 := hb1.size
  have hsr := h.gr.size
  have h12 : ∀ b, b < w1.heap.size → some b ≠ v.ownBlock → w2.heap[b]? = w1.heap[b]? := fun b hb hne => (hg.block b (by simp; omega) hne).trans (Below.heap_alloc _ _ _ hb)
  have e1 := grown_trans h.gr hb1
  refine ⟨hp, ⟨hg.os.trans e1.os, hg.tape.trans e1.tape, hg.output.trans e1.output, by have := hg.size; simp at this; omega, fun k hk hne => (h12 k (by omega) fun e => by have := (hlo k e.symm).1; omega).trans (e1.block k hk hne)⟩, ?_, ?_, fun q hq => ?_⟩
  · exact (hc1.below ((Below.refl _ _).alloc (Nat.le_refl _) o)).low (fun g e => by have := (hlo g e).1; omega) hg
  · rw [List.length_append, List.length_singleton, List.flatMap_append]
    exact hown
  · have hgg : some gg = v.ownBlock ∨ gg = w1.heap.size + 1 := hat.imp Eq.symm id
    rcases List.mem_append.1 hq with hq | hq
    · refine ⟨(h.sub q hq).1.keep fun b hS hlt => ⟨(h12 b (by omega) hS.2).trans (hb1.block b hlt (fun e => by have := Option.some.inj e; have := hS.1; omega)), hS.1, fun e => ?_⟩, (h.sub q hq).2⟩
      have e : b = gg := Option.some.inj e
      rcases hgg with hat | hat
      · exact hS.2 (by rw [← hat, e])
      · omega
    · simp only [List.mem_singleton] at hq
      subst hq
      refine ⟨(NodeSlcX.of_own ho1).keep fun b hS hlt => ?_, hsm, hln⟩
      have hS : wr.heap.size ≤ b := hS
      refine ⟨h12 b hlt fun e => by have := (hlo b e.symm).2; omega, by omega, fun e => ?_⟩
      have e : b = gg := Option.some.inj e
      rcases hat with hat | hat
      · have := (hlo gg hat).2; omega
      · omega
theorem sum_bd {l : List (List Node)} {M : Nat} (h : ∀ p ∈ l, p.length ≤ M) : (l.map List.length).sum ≤ l.length * M := by
  induction l with
  | nil => simp
  | cons p l ih =>
    have h1 := h p (by simp)
    have h2 := ih fun q hq => h q (by simp [hq])
    simp only [List.map_cons, List.sum_cons, List.length_cons]
    rw [Nat.add_mul]; omega
/-- A node over the parts. -/
theorem make_any {w0 w wr : World} {p : Nat} {bv v : Value} {bs : List UInt8} {s : DS} {ps : List (List Node × Value)} (h : PartsX w0 w p bv bs s v ps wr) (hl : ps.length ≤ 8) (x : Node) (hx : XSmall x) :
    Calls Tryz.prog 113 #[.agg #[.int .i64 x.kind, .int .i64 x.op, .string x.text, .string x.other, .slice none 0 0], v] wr fun e w' => ∃ (v' : Value) (l : List Node), e = .returned v' ∧ w.grownBy w' (some p) ∧ CurX w0 w' p bv bs s ∧ OwnNode w' w.heap.size w'.heap.size v' l ∧ SmallN l ∧ l.length = ((ps.map Prod.fst).map List.length).sum + 1 := by
  have hsum : ((ps.map Prod.fst).map List.length).sum ≤ 10400 := by
    have := sum_bd (l := ps.map Prod.fst) (M := 1300) (fun p hp => by obtain ⟨q, hq, rfl⟩ := List.mem_map.1 hp; exact (h.sub q hq).2.2)
    have h2 : (ps.map Prod.fst).length ≤ 8 := by simpa using hl
    exact Nat.le_trans this (Nat.mul_le_mul_right 1300 h2)
  refine (specl6Make_any x (.slice none 0 0) v ps wr (Slc.of_own h.own) (fun q hq => (h.sub q hq).1.slc) (fun q hq => (h.sub q hq).2.1.fine (by have := (h.sub q hq).2.2; omega)) (by omega) ⟨_, _, _, rfl⟩).mono ?_
  rintro e w' ⟨v', rfl, hb, ho⟩
  have hmk := makeN_small x (ps.map Prod.fst) hx (fun p hp => by obtain ⟨q, hq, rfl⟩ := List.mem_map.1 hp; exact (h.sub q hq).2.1) (by simpa using hl)
  exact ⟨v', _, rfl, grown_blw h.gr hb, h.cur.below hb, ho.lowX h.gr.size, hmk.1, hmk.2⟩
/-- One node of the call's own. -/
theorem own_leafN (w : World) (x : Node) (hx : x.kids = []) : OwnNode (w.alloc (.cells #[.int .i64 x.kind, .int .i64 x.op, .string x.text, .string x.other, .slice none 0 0] 58)) w.heap.size (w.alloc (.cells #[.int .i64 x.kind, .int .i64 x.op, .string x.text, .string x.other, .slice none 0 0] 58)).heap.size (.slice (some ⟨w.heap.size, 0, none⟩) 1 1) [x] := by
  refine ⟨[(x, .slice none 0 0)], rfl, ⟨World.ownsRow_lit (size := 5) w #[.int .i64 x.kind, .int .i64 x.op, .string x.text, .string x.other, .slice none 0 0] 1 (Nat.le_refl _) (by unfold maxLen; omega) rfl, fun k hk => ?_⟩, fun p hp => ?_, ?_⟩
  · simp [Value.ownBlock] at hk; subst hk; simp
  · simp only [List.mem_singleton] at hp
    subst hp
    show OwnIn _ _ _ _ 1 (.slice none 0 0) x.kids.length (x.kids.flatMap int1)
    rw [hx]
    exact ⟨World.ownsRow_nil _ _ _ _, fun k hk => by simp [Value.ownBlock] at hk⟩
  · refine List.pairwise_cons.2 ⟨fun a ha => ?_, by simp⟩
    simp at ha; subst ha
    exact .inr (by simp [Value.ownBlock])
theorem leaf_small (x : Node) (hx : x.kids = []) (h : XSmall x) : SmallN [x] :=
  ⟨by simp, fun y hy => by simp at hy; subst hy; exact ⟨h.1, h.2.1, h.2.2, by rw [hx]; simp, by rw [hx]; simp⟩⟩
theorem leaf_drawn {w0 w w3 : World} {p : Nat} {bv : Value} {bs : List UInt8} {s : DS} {ps : List (List Node × Value)} (x : Node) (hx : x.kids = []) (hb : XSmall x) (h : GX w0 w p bv bs s ps w3) : ∃ (v' : Value) (l : List Node), Ending.returned (.slice (some ⟨w3.heap.size, 0, none⟩) 1 1) = .returned v' ∧ w.grownBy (w3.alloc (.cells #[.int .i64 x.kind, .int .i64 x.op, .string x.text, .string x.other, .slice none 0 0] 58)) (some p) ∧ CurX w0 (w3.alloc (.cells #[.int .i64 x.kind, .int .i64 x.op, .string x.text, .string x.other, .slice none 0 0] 58)) p bv bs s ∧ OwnNode (w3.alloc (.cells #[.int .i64 x.kind, .int .i64 x.op, .string x.text, .string x.other, .slice none 0 0] 58)) w.heap.size (w3.alloc (.cells #[.int .i64 x.kind, .int .i64 x.op, .string x.text, .string x.other, .slice none 0 0] 58)).heap.size v' l ∧ SmallN l ∧ l.length = 1 :=
  ⟨_, [x], rfl, (h.alloc _).gr, (h.alloc _).cur, (own_leafN w3 x hx).lowX h.gr.size, leaf_small x hx hb, rfl⟩
theorem ex_next (bs : List UInt8) (s : DS) : ∃ x s', Hid (dNext bs s = (x, s')) := ⟨_, _, hid rfl⟩
theorem belowY {w0 w w1 : World} {p : Nat} {bv : Value} {bs : List UInt8} {s s' : DS} {x : Nat} {ps : List (List Node × Value)} (h : GX w0 w p bv bs s ps w1) (hd : Hid (dNext bs s = (x, s'))) (n : Int) (m : Nat) (hn : n = (m : Int)) (h0 : 0 < m) (h1 : m ≤ 256) :
    Calls Tryz.prog 66 #[.pointer (some ⟨p, 0, none⟩), .int .i64 n] w1 fun e w' => e = .returned (.int .i64 (x % m : Nat)) ∧ GX w0 w p bv bs s' ps w' := by
  have h2 := specl1BelowX w0 w1 p bv bs s n m hn h0 h1 h.cur
  rw [hd.out] at h2
  exact h2.mono fun e w' h3 => ⟨h3.1, h.step h3.2.1 h3.2.2⟩
theorem onceY {w0 w w1 : World} {p : Nat} {bv : Value} {bs : List UInt8} {s s' : DS} {x : Nat} {ps : List (List Node × Value)} (h : GX w0 w p bv bs s ps w1) (hd : Hid (dNext bs s = (x, s'))) (n : Int) (m : Nat) (hn : n = (m : Int)) (h0 : 0 < m) (h1 : m ≤ 256) :
    Calls Tryz.prog 63 #[.pointer (some ⟨p, 0, none⟩), .int .i64 n] w1 fun e w' => e = .returned (.bool (x % m == 0)) ∧ GX w0 w p bv bs s' ps w' := by
  have h2 := specl1OnceX w0 w1 p bv bs s n m hn h0 h1 h.cur (x % m) (by rw [hd.out])
  rw [hd.out] at h2
  exact h2.mono fun e w' h3 => ⟨h3.1, h.step h3.2.1 h3.2.2⟩
theorem pickY {w0 w w1 : World} {p : Nat} {bv : Value} {bs : List UInt8} {s s' : DS} {x : Nat} {ps : List (List Node × Value)} (h : GX w0 w p bv bs s ps w1) (hd : Hid (dNext bs s = (x, s'))) (L : List ByteArray) (n : Nat) (hn : n = L.length) (hL : 0 < L.length) (hL2 : L.length ≤ 256) (cs : Array Value) (T : TypeId) (hcs : cs = (L.flatMap str1).toArray) (hz : ∀ y ∈ L, y.size ≤ 16) :
    Calls Tryz.prog 82 #[.pointer (some ⟨p, 0, none⟩), .slice (some ⟨w1.heap.size, 0, none⟩) n n] (w1.alloc (.cells cs T)) fun e w' => ∃ t : ByteArray, t.size ≤ 16 ∧ e = .returned (.string t) ∧ GX w0 w p bv bs s' ps w' := by
  subst hn hcs
  have ha := h.alloc (.cells (L.flatMap str1).toArray T)
  have h2 := specl1PickX w0 _ p bv bs s L w1.heap.size L.length hL hL2 (Nat.le_refl _) (by have := h.cur.lt; omega) (rowAt_lit w1 (L.flatMap str1) T) ha.cur
  rw [hd.out] at h2
  exact h2.mono fun e w' ⟨t, ht, h3⟩ => ⟨t, hz t ht, h3.1, ha.step h3.2.1 h3.2.2⟩
theorem pickIntY {w0 w w1 : World} {p : Nat} {bv : Value} {bs : List UInt8} {s s' : DS} {x : Nat} {ps : List (List Node × Value)} (h : GX w0 w p bv bs s ps w1) (hd : Hid (dNext bs s = (x, s'))) (L : List Int) (n : Nat) (hn : n = L.length) (hL : 0 < L.length) (hL2 : L.length ≤ 256) (cs : Array Value) (T : TypeId) (hcs : cs = (L.flatMap int1).toArray) (hz : ∀ y ∈ L, 0 ≤ y ∧ y ≤ 100) :
    Calls Tryz.prog 67 #[.pointer (some ⟨p, 0, none⟩), .slice (some ⟨w1.heap.size, 0, none⟩) n n] (w1.alloc (.cells cs T)) fun e w' => ∃ t : Int, (0 ≤ t ∧ t ≤ 100) ∧ e = .returned (.int .i64 t) ∧ GX w0 w p bv bs s' ps w' := by
  subst hn hcs
  have ha := h.alloc (.cells (L.flatMap int1).toArray T)
  have h2 := specl1PickIntX w0 _ p bv bs s L w1.heap.size L.length hL hL2 (Nat.le_refl _) (by have := h.cur.lt; omega) (rowAt_lit w1 (L.flatMap int1) T) ha.cur
  rw [hd.out] at h2
  exact h2.mono fun e w' ⟨t, ht, h3⟩ => ⟨t, hz t ht, h3.1, ha.step h3.2.1 h3.2.2⟩
/-- A draw of nodes, behind what has been drawn. -/
theorem Draws.at {f : FuncId} {args : List Value} {t : Draw Nat} {w0 w w1 : World} {p : Nat} {bv : Value} {bs : List UInt8} {s : DS} {ps : List (List Node × Value)} (hd : Draws f args t) (h : GX w0 w p bv bs s ps w1) {m b : Nat} (ht : t.Lt m b) (hm : m ≤ 1300) :
    Calls Tryz.prog f (.pointer (some ⟨p, 0, none⟩) :: args).toArray w1 fun e w' => ∃ (a : Option Addr) (n c : Nat) (l : List Node), e = .returned (.slice a n c) ∧ GX w0 w p bv bs (t.run (dNext bs) s).2 (ps ++ [(l, .slice a n c)]) w' ∧ l.length = (t.run (dNext bs) s).1 ∧ OwnNode w' w1.heap.size w'.heap.size (.slice a n c) l ∧ SmallN l ∧ w1.grownBy w' (some p) := by
  refine (hd w0 w1 p bv bs s h.cur).mono ?_
  rintro e w' ⟨v, l, rfl, hg, hc, ho, hs, hl⟩
  obtain ⟨a, n, c, rfl⟩ := own_vslice ho
  have hb := (ht.run (dNext bs) s).1
  exact ⟨a, n, c, l, rfl, h.push hg hc ho hs (by omega), hl, ho, hs, hg⟩
end Go.Proofs.YtkelhmgdajiocaaGreatDoor
/- Walks and lemmas of this seat (FDrawNA): what each theorem says of the functions that it names. Conditions: those that each theorem states. -/
namespace Go.Proofs.YtkelhmgdajiocaaGreatDoor
set_option linter.unusedVariables false
set_option linter.unusedSimpArgs false
open Go.RowKit
def words2 : List ByteArray := [⟨#[120]⟩, ⟨#[121]⟩, ⟨#[110]⟩, ⟨#[105]⟩, ⟨#[97, 114, 114]⟩, ⟨#[78, 82]⟩, ⟨#[70, 83]⟩, ⟨#[116, 111, 116, 97, 108]⟩, ⟨#[97, 49]⟩, ⟨#[95, 116]⟩, ⟨#[99, 111, 117, 110, 116]⟩]
def nums4 : List ByteArray := [⟨#[48]⟩, ⟨#[49]⟩, ⟨#[52, 50]⟩, ⟨#[51, 46, 53]⟩, ⟨#[46, 53]⟩, ⟨#[55, 46]⟩, ⟨#[49, 101, 51]⟩, ⟨#[50, 69, 45, 52]⟩, ⟨#[49, 48, 46, 50, 53, 101, 43, 49]⟩]
def strs4 : List ByteArray := [⟨#[34, 34]⟩, ⟨#[34, 97, 34]⟩, ⟨#[34, 120, 32, 121, 34]⟩, ⟨#[34, 113, 92, 34, 113, 34]⟩, ⟨#[34, 92, 110, 34]⟩, ⟨#[34, 35, 110, 111, 34]⟩, ⟨#[34, 47, 34]⟩]
def eres4 : List ByteArray := [⟨#[47, 97, 47]⟩, ⟨#[47, 94, 120, 43, 36, 47]⟩, ⟨#[47, 97, 92, 47, 98, 47]⟩, ⟨#[47, 61, 47]⟩, ⟨#[47, 32, 47]⟩, ⟨#[47, 91, 48, 45, 57, 93, 47]⟩]
theorem drawY {f : FuncId} {args : List Value} {t : Draw Nat} {w0 w w1 : World} {p : Nat} {bv : Value} {bs : List UInt8} {s s' : DS} {n : Nat} {ps : List (List Node × Value)} (hd : Draws f args t) (h : GX w0 w p bv bs s ps w1) (hr : Hid (t.run (dNext bs) s = (n, s'))) {m b : Nat} (ht : t.Lt m b) (hm : m ≤ 1300) :
    Calls Tryz.prog f (.pointer (some ⟨p, 0, none⟩) :: args).toArray w1 fun e w' => ∃ (a : Option Addr) (k c : Nat) (l : List Node), e = .returned (.slice a k c) ∧ GX w0 w p bv bs s' (ps ++ [(l, .slice a k c)]) w' ∧ l.length = n := by
  refine (hd.at h ht hm).mono ?_
  rintro e w' ⟨a, k, c, l, rfl, hg, hl, _⟩
  rw [hr.out] at hg hl
  exact ⟨a, k, c, l, rfl, hg, hl⟩
set_option maxRecDepth 100000 in
set_option maxHeartbeats 6400000 in
theorem wordY {w0 w w1 : World} {p : Nat} {bv : Value} {bs : List UInt8} {s s' : DS} {x : Nat} {ps : List (List Node × Value)} (h : GX w0 w p bv bs s ps w1) (hd : Hid (dNext bs s = (x, s'))) :
    Calls Tryz.prog 114 #[.pointer (some ⟨p, 0, none⟩)] w1 fun e w' => ∃ t : ByteArray, t.size ≤ 16 ∧ e = .returned (.string t) ∧ GX w0 w p bv bs s' ps w' := by
  replace h := hid h
  go_enter Tryz.func114, Tryz.ntmps114
  go_wp2_with fail
  refine (pickY h.out hd words2 words2.length rfl (by decide) (by decide) _ _ rfl (by decide)).mono ?_
  rintro e w2 ⟨t, ht, rfl, gx⟩
  replace gx := hid gx
  go_wp2
  go_ret
  exact ⟨t, ht, rfl, gx.out⟩
set_option maxRecDepth 100000 in
set_option maxHeartbeats 6400000 in
theorem numY {w0 w w1 : World} {p : Nat} {bv : Value} {bs : List UInt8} {s s' : DS} {x : Nat} {ps : List (List Node × Value)} (h : GX w0 w p bv bs s ps w1) (hd : Hid (dNext bs s = (x, s'))) :
    Calls Tryz.prog 137 #[.pointer (some ⟨p, 0, none⟩)] w1 fun e w' => ∃ t : ByteArray, t.size ≤ 16 ∧ e = .returned (.string t) ∧ GX w0 w p bv bs s' ps w' := by
  replace h := hid h
  go_enter Tryz.func137, Tryz.ntmps137
  go_wp2_with fail
  refine (pickY h.out hd nums4 nums4.length rfl (by decide) (by decide) _ _ rfl (by decide)).mono ?_
  rintro e w2 ⟨t, ht, rfl, gx⟩
  replace gx := hid gx
  go_wp2
  go_ret
  exact ⟨t, ht, rfl, gx.out⟩
set_option maxRecDepth 100000 in
set_option maxHeartbeats 6400000 in
theorem strY {w0 w w1 : World} {p : Nat} {bv : Value} {bs : List UInt8} {s s' : DS} {x : Nat} {ps : List (List Node × Value)} (h : GX w0 w p bv bs s ps w1) (hd : Hid (dNext bs s = (x, s'))) :
    Calls Tryz.prog 138 #[.pointer (some ⟨p, 0, none⟩)] w1 fun e w' => ∃ t : ByteArray, t.size ≤ 16 ∧ e = .returned (.string t) ∧ GX w0 w p bv bs s' ps w' := by
  replace h := hid h
  go_enter Tryz.func138, Tryz.ntmps138
  go_wp2_with fail
  refine (pickY h.out hd strs4 strs4.length rfl (by decide) (by decide) _ _ rfl (by decide)).mono ?_
  rintro e w2 ⟨t, ht, rfl, gx⟩
  replace gx := hid gx
  go_wp2
  go_ret
  exact ⟨t, ht, rfl, gx.out⟩
set_option maxRecDepth 100000 in
set_option maxHeartbeats 6400000 in
theorem ereY {w0 w w1 : World} {p : Nat} {bv : Value} {bs : List UInt8} {s s' : DS} {x : Nat} {ps : List (List Node × Value)} (h : GX w0 w p bv bs s ps w1) (hd : Hid (dNext bs s = (x, s'))) :
    Calls Tryz.prog 139 #[.pointer (some ⟨p, 0, none⟩)] w1 fun e w' => ∃ t : ByteArray, t.size ≤ 16 ∧ e = .returned (.string t) ∧ GX w0 w p bv bs s' ps w' := by
  replace h := hid h
  go_enter Tryz.func139, Tryz.ntmps139
  go_wp2_with fail
  refine (pickY h.out hd eres4 eres4.length rfl (by decide) (by decide) _ _ rfl (by decide)).mono ?_
  rintro e w2 ⟨t, ht, rfl, gx⟩
  replace gx := hid gx
  go_wp2
  go_ret
  exact ⟨t, ht, rfl, gx.out⟩
theorem rn_leaf0 {nx : DS → Nat × DS} {s0 s1 s2 : DS} {x0 x1 : Nat}  (a_q0 : nx s0 = (x0, s1)) (a_hv0 : x0 % 7 = 0) (a_q1 : nx s1 = (x1, s2)) : Draw.run nx (dLeaf) s0 = (1, s2) := by
  simp [dLeaf, Draw.run, Draw.run_bind, skip, a_q0, a_hv0, a_q1]
  try omega
theorem rn_leaf1 {nx : DS → Nat × DS} {s0 s1 s2 : DS} {x0 x1 : Nat}  (a_q0 : nx s0 = (x0, s1)) (a_hv0 : x0 % 7 = 1) (a_q1 : nx s1 = (x1, s2)) : Draw.run nx (dLeaf) s0 = (1, s2) := by
  simp [dLeaf, Draw.run, Draw.run_bind, skip, a_q0, a_hv0, a_q1]
  try omega
theorem rn_leaf2y {nx : DS → Nat × DS} {s0 s1 s2 s3 : DS} {x0 x1 x2 : Nat}  (a_q0 : nx s0 = (x0, s1)) (a_hv0 : x0 % 7 = 2) (a_q1 : nx s1 = (x1, s2)) (a_hz1 : x1 % 2 = 0) (a_q2 : nx s2 = (x2, s3)) : Draw.run nx (dLeaf) s0 = (1, s3) := by
  simp [dLeaf, Draw.run, Draw.run_bind, skip, a_q0, a_hv0, a_q1, a_hz1, a_q2]
  try omega
theorem rn_leaf2n {nx : DS → Nat × DS} {s0 s1 s2 s3 : DS} {x0 x1 x2 : Nat}  (a_q0 : nx s0 = (x0, s1)) (a_hv0 : x0 % 7 = 2) (a_q1 : nx s1 = (x1, s2)) (a_hz1 : ¬ x1 % 2 = 0) (a_q2 : nx s2 = (x2, s3)) : Draw.run nx (dLeaf) s0 = (1, s3) := by
  simp [dLeaf, Draw.run, Draw.run_bind, skip, a_q0, a_hv0, a_q1, a_hz1, a_q2]
  try omega
theorem rn_leaf3 {nx : DS → Nat × DS} {s0 s1 s2 : DS} {x0 x1 : Nat}  (a_q0 : nx s0 = (x0, s1)) (a_hv0 : x0 % 7 = 3) (a_q1 : nx s1 = (x1, s2)) : Draw.run nx (dLeaf) s0 = (1, s2) := by
  simp [dLeaf, Draw.run, Draw.run_bind, skip, a_q0, a_hv0, a_q1]
  try omega
theorem rn_leaf4 {nx : DS → Nat × DS} {s0 s1 s2 : DS} {x0 x1 : Nat}  (a_q0 : nx s0 = (x0, s1)) (a_hv0 : x0 % 7 = 4) (a_q1 : nx s1 = (x1, s2)) : Draw.run nx (dLeaf) s0 = (1, s2) := by
  simp [dLeaf, Draw.run, Draw.run_bind, skip, a_q0, a_hv0, a_q1]
  try omega
theorem rn_leaf5 {nx : DS → Nat × DS} {s0 s1 s2 : DS} {x0 x1 : Nat}  (a_q0 : nx s0 = (x0, s1)) (a_hv0 : x0 % 7 = 5) (a_q1 : nx s1 = (x1, s2)) : Draw.run nx (dLeaf) s0 = (1, s2) := by
  simp [dLeaf, Draw.run, Draw.run_bind, skip, a_q0, a_hv0, a_q1]
  try omega
theorem rn_leaf6 {nx : DS → Nat × DS} {s0 s1 s2 : DS} {x0 x1 : Nat}  (a_q0 : nx s0 = (x0, s1)) (a_hv0 : x0 % 7 = 6) (a_q1 : nx s1 = (x1, s2)) : Draw.run nx (dLeaf) s0 = (1, s2) := by
  simp [dLeaf, Draw.run, Draw.run_bind, skip, a_q0, a_hv0, a_q1]
  try omega
set_option maxRecDepth 100000 in
set_option maxHeartbeats 6400000 in
theorem leaf_draws : Draws 111 [] dLeaf := by
  intro w0 w p bv bs s0 hc
  have g0 := hid (GX.start hc)
  clear hc
  show Calls Tryz.prog 111 #[.pointer (some ⟨p, 0, none⟩)] w _
  go_enter Tryz.func111, Tryz.ntmps111
  obtain ⟨x0, s1, q0⟩ := ex_next bs s0
  go_wp2_with fail
  refine (belowY g0.out q0 _ 7 rfl (by omega) (by omega)).mono ?_
  rintro e w1 ⟨rfl, gx⟩
  have g1 := hid gx
  clear gx g0
  have hy0 := Nat.mod_lt x0 (show 0 < 7 by omega)
  generalize hv0 : x0 % 7 = y0 at hy0 ⊢
  replace hv0 := hid hv0
  obtain rfl | rfl | rfl | rfl | rfl | rfl | rfl : y0 = 0 ∨ y0 = 1 ∨ y0 = 2 ∨ y0 = 3 ∨ y0 = 4 ∨ y0 = 5 ∨ y0 = 6 := by omega
  · obtain ⟨x1, s2, q1⟩ := ex_next bs s1
    go_wp2_with fail
    refine (numY g1.out q1).mono ?_
    rintro e w2 ⟨t1, ht1, rfl, gx⟩
    have g2 := hid gx
    clear gx g1
    have hlf := hid (leaf_drawn ⟨2, 0, t1, ⟨#[]⟩, []⟩ rfl ⟨⟨ht1, by show 0 ≤ 16; omega⟩, by simp, by simp⟩ g2.out)
    go_wp2
    go_ret
    have hmod := rn_leaf0 (nx := dNext bs)  q0.out hv0.out q1.out
    obtain ⟨v, l, e1, h1, h2, h3, h4, h5⟩ := hlf.out
    exact ⟨v, l, e1, h1, by rw [hmod]; exact h2, h3, h4, by rw [hmod, h5]⟩
  · obtain ⟨x1, s2, q1⟩ := ex_next bs s1
    go_wp2_with fail
    refine (strY g1.out q1).mono ?_
    rintro e w2 ⟨t1, ht1, rfl, gx⟩
    have g2 := hid gx
    clear gx g1
    have hlf := hid (leaf_drawn ⟨3, 0, t1, ⟨#[]⟩, []⟩ rfl ⟨⟨ht1, by show 0 ≤ 16; omega⟩, by simp, by simp⟩ g2.out)
    go_wp2
    go_ret
    have hmod := rn_leaf1 (nx := dNext bs)  q0.out hv0.out q1.out
    obtain ⟨v, l, e1, h1, h2, h3, h4, h5⟩ := hlf.out
    exact ⟨v, l, e1, h1, by rw [hmod]; exact h2, h3, h4, by rw [hmod, h5]⟩
  · obtain ⟨x1, s2, q1⟩ := ex_next bs s1
    go_wp2_with fail
    refine (onceY g1.out q1 _ 2 rfl (by omega) (by omega)).mono ?_
    rintro e w2 ⟨rfl, gx⟩
    have g2 := hid gx
    clear gx g1
    by_cases hz1 : x1 % 2 = 0
    · have hb1 : (x1 % 2 == 0) = true := by simpa using hz1
      rw [hb1]
      clear hb1
      replace hz1 := hid hz1
      obtain ⟨x2, s3, q2⟩ := ex_next bs s2
      go_wp2_with fail
      refine (ereY g2.out q2).mono ?_
      rintro e w3 ⟨t2, ht2, rfl, gx⟩
      have g3 := hid gx
      clear gx g2
      have hlf := hid (leaf_drawn ⟨4, 0, t2, ⟨#[]⟩, []⟩ rfl ⟨⟨ht2, by show 0 ≤ 16; omega⟩, by simp, by simp⟩ g3.out)
      go_wp2
      go_ret
      have hmod := rn_leaf2y (nx := dNext bs)  q0.out hv0.out q1.out hz1.out q2.out
      obtain ⟨v, l, e1, h1, h2, h3, h4, h5⟩ := hlf.out
      exact ⟨v, l, e1, h1, by rw [hmod]; exact h2, h3, h4, by rw [hmod, h5]⟩
    · have hb1 : (x1 % 2 == 0) = false := by simpa using hz1
      rw [hb1]
      clear hb1
      replace hz1 := hid hz1
      obtain ⟨x2, s3, q2⟩ := ex_next bs s2
      go_wp2_with fail
      refine (wordY g2.out q2).mono ?_
      rintro e w3 ⟨t2, ht2, rfl, gx⟩
      have g3 := hid gx
      clear gx g2
      have hlf := hid (leaf_drawn ⟨1, 0, t2, ⟨#[]⟩, []⟩ rfl ⟨⟨ht2, by show 0 ≤ 16; omega⟩, by simp, by simp⟩ g3.out)
      go_wp2
      go_ret
      have hmod := rn_leaf2n (nx := dNext bs)  q0.out hv0.out q1.out hz1.out q2.out
      obtain ⟨v, l, e1, h1, h2, h3, h4, h5⟩ := hlf.out
      exact ⟨v, l, e1, h1, by rw [hmod]; exact h2, h3, h4, by rw [hmod, h5]⟩
  · obtain ⟨x1, s2, q1⟩ := ex_next bs s1
    go_wp2_with fail
    refine (wordY g1.out q1).mono ?_
    rintro e w2 ⟨t1, ht1, rfl, gx⟩
    have g2 := hid gx
    clear gx g1
    have hlf := hid (leaf_drawn ⟨1, 0, t1, ⟨#[]⟩, []⟩ rfl ⟨⟨ht1, by show 0 ≤ 16; omega⟩, by simp, by simp⟩ g2.out)
    go_wp2
    go_ret
    have hmod := rn_leaf3 (nx := dNext bs)  q0.out hv0.out q1.out
    obtain ⟨v, l, e1, h1, h2, h3, h4, h5⟩ := hlf.out
    exact ⟨v, l, e1, h1, by rw [hmod]; exact h2, h3, h4, by rw [hmod, h5]⟩
  · obtain ⟨x1, s2, q1⟩ := ex_next bs s1
    go_wp2_with fail
    refine (wordY g1.out q1).mono ?_
    rintro e w2 ⟨t1, ht1, rfl, gx⟩
    have g2 := hid gx
    clear gx g1
    have hlf := hid (leaf_drawn ⟨1, 0, t1, ⟨#[]⟩, []⟩ rfl ⟨⟨ht1, by show 0 ≤ 16; omega⟩, by simp, by simp⟩ g2.out)
    go_wp2
    go_ret
    have hmod := rn_leaf4 (nx := dNext bs)  q0.out hv0.out q1.out
    obtain ⟨v, l, e1, h1, h2, h3, h4, h5⟩ := hlf.out
    exact ⟨v, l, e1, h1, by rw [hmod]; exact h2, h3, h4, by rw [hmod, h5]⟩
  · obtain ⟨x1, s2, q1⟩ := ex_next bs s1
    go_wp2_with fail
    refine (wordY g1.out q1).mono ?_
    rintro e w2 ⟨t1, ht1, rfl, gx⟩
    have g2 := hid gx
    clear gx g1
    have hlf := hid (leaf_drawn ⟨1, 0, t1, ⟨#[]⟩, []⟩ rfl ⟨⟨ht1, by show 0 ≤ 16; omega⟩, by simp, by simp⟩ g2.out)
    go_wp2
    go_ret
    have hmod := rn_leaf5 (nx := dNext bs)  q0.out hv0.out q1.out
    obtain ⟨v, l, e1, h1, h2, h3, h4, h5⟩ := hlf.out
    exact ⟨v, l, e1, h1, by rw [hmod]; exact h2, h3, h4, by rw [hmod, h5]⟩
  · obtain ⟨x1, s2, q1⟩ := ex_next bs s1
    go_wp2_with fail
    refine (wordY g1.out q1).mono ?_
    rintro e w2 ⟨t1, ht1, rfl, gx⟩
    have g2 := hid gx
    clear gx g1
    have hlf := hid (leaf_drawn ⟨1, 0, t1, ⟨#[]⟩, []⟩ rfl ⟨⟨ht1, by show 0 ≤ 16; omega⟩, by simp, by simp⟩ g2.out)
    go_wp2
    go_ret
    have hmod := rn_leaf6 (nx := dNext bs)  q0.out hv0.out q1.out
    obtain ⟨v, l, e1, h1, h2, h3, h4, h5⟩ := hlf.out
    exact ⟨v, l, e1, h1, by rw [hmod]; exact h2, h3, h4, by rw [hmod, h5]⟩
theorem rn_lval0 {nx : DS → Nat × DS} {s0 s1 s2 s3 : DS} {n2 x0 x1 : Nat} (e1 e2 : Draw Nat) (a_q0 : nx s0 = (x0, s1)) (a_hv0 : x0 % 4 = 0) (a_q1 : nx s1 = (x1, s2)) (a_q2 : Draw.run nx (e1) s2 = (n2, s3)) : Draw.run nx (dLval e1 e2) s0 = (n2 + 1, s3) := by
  simp [dLval, Draw.run, Draw.run_bind, skip, a_q0, a_hv0, a_q1, a_q2]
  try omega
theorem rn_lval1 {nx : DS → Nat × DS} {s0 s1 s2 : DS} {n1 x0 : Nat} (e1 e2 : Draw Nat) (a_q0 : nx s0 = (x0, s1)) (a_hv0 : x0 % 4 = 1) (a_q1 : Draw.run nx (e2) s1 = (n1, s2)) : Draw.run nx (dLval e1 e2) s0 = (n1 + 1, s2) := by
  simp [dLval, Draw.run, Draw.run_bind, skip, a_q0, a_hv0, a_q1]
  try omega
theorem rn_lval2 {nx : DS → Nat × DS} {s0 s1 s2 : DS} {x0 x1 : Nat} (e1 e2 : Draw Nat) (a_q0 : nx s0 = (x0, s1)) (a_hv0 : x0 % 4 = 2) (a_q1 : nx s1 = (x1, s2)) : Draw.run nx (dLval e1 e2) s0 = (1, s2) := by
  simp [dLval, Draw.run, Draw.run_bind, skip, a_q0, a_hv0, a_q1]
  try omega
theorem rn_lval3 {nx : DS → Nat × DS} {s0 s1 s2 : DS} {x0 x1 : Nat} (e1 e2 : Draw Nat) (a_q0 : nx s0 = (x0, s1)) (a_hv0 : x0 % 4 = 3) (a_q1 : nx s1 = (x1, s2)) : Draw.run nx (dLval e1 e2) s0 = (1, s2) := by
  simp [dLval, Draw.run, Draw.run_bind, skip, a_q0, a_hv0, a_q1]
  try omega
set_option maxRecDepth 100000 in
set_option maxHeartbeats 6400000 in
theorem lval_draws (k : Int) (hk : -10 ≤ k ∧ k ≤ 10) {e1 e2 : Draw Nat} {m1 b1 m2 b2 : Nat} (h1 : Draws 84 [.int .i64 (k - 1)] e1) (h2 : Draws 84 [.int .i64 (k - 2)] e2) (l1 : e1.Lt m1 b1) (l2 : e2.Lt m2 b2) (hm1 : m1 ≤ 1300) (hm2 : m2 ≤ 1300) : Draws 112 [.int .i64 k] (dLval e1 e2) := by
  intro w0 w p bv bs s0 hc
  have g0 := hid (GX.start hc)
  clear hc
  show Calls Tryz.prog 112 #[.pointer (some ⟨p, 0, none⟩), .int .i64 k] w _
  go_enter Tryz.func112, Tryz.ntmps112
  obtain ⟨x0, s1, q0⟩ := ex_next bs s0
  go_wp2_with fail
  refine (belowY g0.out q0 _ 4 rfl (by omega) (by omega)).mono ?_
  rintro e w1 ⟨rfl, gx⟩
  have g1 := hid gx
  clear gx g0
  have hy0 := Nat.mod_lt x0 (show 0 < 4 by omega)
  generalize hv0 : x0 % 4 = y0 at hy0 ⊢
  replace hv0 := hid hv0
  obtain rfl | rfl | rfl | rfl : y0 = 0 ∨ y0 = 1 ∨ y0 = 2 ∨ y0 = 3 := by omega
  · obtain ⟨x1, s2, q1⟩ := ex_next bs s1
    go_wp2_with fail
    refine (wordY g1.out q1).mono ?_
    rintro e w2 ⟨t1, ht1, rfl, gx⟩
    have g2 := hid gx
    clear gx g1
    obtain ⟨n2, s3, q2⟩ : ∃ n s', Hid (Draw.run (dNext bs) (e1) s2 = (n, s')) := ⟨_, _, hid rfl⟩
    go_wp2_with fail
    refine (drawY h1 g2.out q2 l1 (by omega)).mono ?_
    rintro e w3 ⟨a2, b2, c2, l2, rfl, gx, hl2⟩
    have g3 := hid gx
    clear gx g2
    go_wp2_with fail
    refine (make_any (g3.out.lit #[.slice a2 b2 c2] rfl 1 rfl (by omega)) (by simp) ⟨5, 0, t1, ⟨#[]⟩, []⟩ ⟨⟨ht1, by show 0 ≤ 16; omega⟩, by simp, by simp⟩).mono ?_
    rintro e w9 ⟨v, l, rfl, h1, h2, h3, h4, h5⟩
    go_wp2
    go_ret
    have hmod := rn_lval0 (nx := dNext bs) e1 e2 q0.out hv0.out q1.out q2.out
    exact ⟨v, l, rfl, h1, by rw [hmod]; exact h2, h3, h4, by rw [hmod, h5]; simp [hl2]; try omega⟩
  · obtain ⟨n1, s2, q1⟩ : ∃ n s', Hid (Draw.run (dNext bs) (e2) s1 = (n, s')) := ⟨_, _, hid rfl⟩
    go_wp2_with fail
    refine (drawY h2 g1.out q1 l2 (by omega)).mono ?_
    rintro e w2 ⟨a1, b1, c1, l1, rfl, gx, hl1⟩
    have g2 := hid gx
    clear gx g1
    go_wp2_with fail
    refine (make_any (g2.out.lit #[.slice a1 b1 c1] rfl 1 rfl (by omega)) (by simp) ⟨6, 0, ⟨#[]⟩, ⟨#[]⟩, []⟩ ⟨⟨by show 0 ≤ 16; omega, by show 0 ≤ 16; omega⟩, by simp, by simp⟩).mono ?_
    rintro e w9 ⟨v, l, rfl, h1, h2, h3, h4, h5⟩
    go_wp2
    go_ret
    have hmod := rn_lval1 (nx := dNext bs) e1 e2 q0.out hv0.out q1.out
    exact ⟨v, l, rfl, h1, by rw [hmod]; exact h2, h3, h4, by rw [hmod, h5]; simp [hl1]; try omega⟩
  · obtain ⟨x1, s2, q1⟩ := ex_next bs s1
    go_wp2_with fail
    refine (wordY g1.out q1).mono ?_
    rintro e w2 ⟨t1, ht1, rfl, gx⟩
    have g2 := hid gx
    clear gx g1
    have hlf := hid (leaf_drawn ⟨1, 0, t1, ⟨#[]⟩, []⟩ rfl ⟨⟨ht1, by show 0 ≤ 16; omega⟩, by simp, by simp⟩ g2.out)
    go_wp2
    go_ret
    have hmod := rn_lval2 (nx := dNext bs) e1 e2 q0.out hv0.out q1.out
    obtain ⟨v, l, e1, h1, h2, h3, h4, h5⟩ := hlf.out
    exact ⟨v, l, e1, h1, by rw [hmod]; exact h2, h3, h4, by rw [hmod, h5]⟩
  · obtain ⟨x1, s2, q1⟩ := ex_next bs s1
    go_wp2_with fail
    refine (wordY g1.out q1).mono ?_
    rintro e w2 ⟨t1, ht1, rfl, gx⟩
    have g2 := hid gx
    clear gx g1
    have hlf := hid (leaf_drawn ⟨1, 0, t1, ⟨#[]⟩, []⟩ rfl ⟨⟨ht1, by show 0 ≤ 16; omega⟩, by simp, by simp⟩ g2.out)
    go_wp2
    go_ret
    have hmod := rn_lval3 (nx := dNext bs) e1 e2 q0.out hv0.out q1.out
    obtain ⟨v, l, e1, h1, h2, h3, h4, h5⟩ := hlf.out
    exact ⟨v, l, e1, h1, by rw [hmod]; exact h2, h3, h4, by rw [hmod, h5]⟩
set_option maxRecDepth 100000 in
set_option maxHeartbeats 6400000 in
theorem list_parts (k : Int) (hk : -10 ≤ k ∧ k ≤ 10) {e_ : Draw Nat} {m b : Nat} (he : Draws 84 [.int .i64 k] e_) (lt : e_.Lt m b) (hm : m ≤ 1300) (least span : Nat) (le mo : Int) (hle : Hid (le = (least : Int))) (hmo : Hid (mo - le + 1 = (span : Int))) (hlb : 0 ≤ le ∧ le ≤ 3) (hmb : 0 ≤ mo ∧ mo ≤ 3) (hs0 : 0 < span) (hs1 : least + span ≤ 5)
    {w0 w : World} {p : Nat} {bv : Value} {bs : List UInt8} {s0 s9 : DS} {n9 : Nat} (hc : CurX w0 w p bv bs s0) (hr : Hid ((dList e_ least span).run (dNext bs) s0 = (n9, s9))) :
    Calls Tryz.prog 115 #[.pointer (some ⟨p, 0, none⟩), .int .i64 le, .int .i64 mo, .int .i64 k] w fun e w' => ∃ (a : Option Addr) (n c : Nat) (ps : List (List Node × Value)), e = .returned (.slice a n c) ∧ PartsX w0 w p bv bs s9 (.slice a n c) ps w' ∧ n = ps.length ∧ ps.length ≤ 4 ∧ ((ps.map Prod.fst).map List.length).sum = n9 := by
  have g0 := hid (GX.start hc)
  obtain ⟨x0, s1, q0⟩ := ex_next bs s0
  obtain ⟨i0, hi, hz0, hz1, hz2⟩ := info_parts infoNSlice
  have hpw := hc.lt
  clear hc
  have hbc := specl1BelowX w0 (w.alloc (.cells #[] 26)) p bv bs s0 (mo - le + 1) span (by rw [hmo.out]) hs0 (by omega) (g0.out.alloc _).cur
  rw [q0.out] at hbc
  have hy := Nat.mod_lt x0 hs0
  have hr1 : Hid ((dTimes e_ (least + x0 % span) 0).run (dNext bs) s1 = (n9, s9)) := hid (by
    have := hr.out
    unfold dList at this
    simp only [Draw.run, q0.out] at this
    exact this)
  clear hr
  simp only at hbc
  generalize x0 % span = y at *
  replace hbc := hid hbc
  go_enter Tryz.func115, Tryz.ntmps115
  go_wp2_with fail
  refine hbc.out.mono ?_
  rintro e w1 ⟨rfl, hg1, hc1⟩
  have hp0 := hid (PartsX.start g0.out hg1 hc1)
  clear hg1 hc1 hbc g0
  go_wp2
  go_loopw [9, 10] (fun v i wr => ∃ (ps : List (List Node × Value)) (j : Nat) (sj : DS) (v' : Value), v = v' ∧ i = .int .i64 j ∧ ps.length + j ≤ 4 ∧ Hid ((dTimes e_ j ((ps.map Prod.fst).map List.length).sum).run (dNext bs) sj = (n9, s9)) ∧ Hid (PartsX w0 w p bv bs sj v' ps wr)) (fun _ i _ => (intOf i).toNat)
  case atStart => exact ⟨[], least + y, s1, _, rfl, by congr 1; have := hle.out; omega, by simp; omega, hr1, hp0⟩
  clear hp0 hr1
  obtain ⟨ps, j, sj, v0, rfl, rfl, hm0, hrun, hpd⟩ := hrel
  rename World => wo
  by_cases hj : 0 < j
  · obtain ⟨j', rfl⟩ : ∃ j', j = j' + 1 := ⟨j - 1, by omega⟩
    go_wp2_with fail
    refine (he w0 wo p bv bs sj hpd.out.cur).mono ?_
    rintro e w5 ⟨v1, l1, rfl, hg5, hc5, ho5, hs5, hl5⟩
    have hlb : l1.length ≤ 1300 := by have := (lt.run (dNext bs) sj).1; omega
    have hrun2 : Hid ((dTimes e_ j' (((ps ++ [(l1, v1)]).map Prod.fst).map List.length).sum).run (dNext bs) (Draw.run (dNext bs) e_ sj).2 = (n9, s9)) := hid (by
      have := hrun.out
      rw [dTimes, Draw.run_bind] at this
      simp only [List.map_append, List.map_cons, List.map_nil, List.sum_append, List.sum_cons, List.sum_nil, Nat.add_zero, hl5]
      exact this)
    have hown := hpd.out.own.kept hg5 (ownBlock_ne hpd.out.own hpw)
    have hsz := hpd.out.gr.size
    have hsz5 := hg5.size
    obtain ⟨a1, n1, c1, rfl⟩ := own_vslice ho5
    replace hown := hid hown
    replace ho5 := hid ho5
    replace hg5 := hid hg5
    replace hc5 := hid hc5
    clear hrun hl5
    go_wp2_with (at_builtin; refine Hid.out ?_)
    refine hid ?_
    refine wpList_append_lies _ (by rfl) _ _ _ (by rfl) w.heap.size 26 i0 _ 1 24 Tryz.underlying127 hi hz0 hz1 hz2 rfl (by omega) _ ps.length (ps.flatMap part1) (by rfl) (hown.out.alloc _) ⟨w5.heap.size, 0, none⟩ 1 1 [.slice a1 n1 c1] (by rfl) (by rfl) (World.news_of_block (cs := #[.slice a1 n1 c1]) (t := 26) (fr := (0, 0)) (heap_alloc_new w5 _)) (by simp [Value.oneCell']) (by omega) (by unfold maxLen; omega) (by omega) (by simp; omega) (w5.heap.size + 1) (by simp) ?_
    intro gg cap w6 hown6 hg6 hat hlt6
    have hpd2 := hid (hpd.out.step hg5.out hc5.out ho5.out hs5 hlb hown6 hg6 hat)
    clear hpd hown6 hg6 hat hown hg5 hc5 ho5
    go_wp2
    all_goals go_roundw
    all_goals first
      | (simp only [intOf]; omega)
      | exact ⟨_, j', _, _, rfl, by first | rfl | (congr 1; omega), by simp; omega, hrun2, hpd2⟩
  · obtain rfl : j = 0 := by omega
    obtain ⟨va, vc, rfl, _⟩ := own_slice hpd.out.own
    have hfin := hrun.out
    rw [dTimes] at hfin
    simp only [Draw.run, Prod.mk.injEq] at hfin
    obtain ⟨hf1, rfl⟩ := hfin
    replace hf1 := hid hf1
    clear hrun
    go_wp2
    go_ret
    exact ⟨_, _, _, ps, rfl, hpd.out, rfl, by omega, hf1.out⟩
end Go.Proofs.YtkelhmgdajiocaaGreatDoor
