/- Walks and lemmas of this seat (FPlain): what each theorem says of the functions that it names. Conditions: those that each theorem states. -/
import Derived.Test.YtkelhmgdajiocaaGreatDoorGA
import Derived.Lib.Bytealg
import Derived.Laws.Bits64
import Derived.WalkSmall
import Derived.Test.YtkelhmgdajiocaaGreatDoorShelf
namespace Go.Proofs.YtkelhmgdajiocaaGreatDoor
set_option linter.unusedVariables false
set_option linter.unusedSimpArgs false
open Go.RowKit

/-- No newline in a text. -/
def plainL (l : List UInt8) : Bool := l.all (fun c => c != 10)
def plain (s : ByteArray) : Bool := plainL s.data.toList
theorem indexByte_plain (l : List UInt8) : decide (0 ≤ Lib.indexByte l 10) = !plainL l := by
  induction l with
  | nil => simp [Lib.indexByte, plainL]
  | cons c l ih =>
    unfold Lib.indexByte plainL
    by_cases h : c = 10
    · subst h; simp
    · have h1 : (c == 10) = false := by simpa using h
      rw [h1]
      by_cases h2 : Lib.indexByte l 10 = -1
      · rw [h2] at ih ⊢
        simp [plainL, h] at ih ⊢
        exact fun x hx => ih x hx
      · have hge : ∀ l : List UInt8, -1 ≤ Lib.indexByte l 10 := by
          intro l; induction l with
          | nil => simp [Lib.indexByte]
          | cons c l ih => unfold Lib.indexByte; split <;> (try split) <;> simp_all <;> omega
        have := hge l
        have h3 : (Lib.indexByte l 10 == -1) = false := by simpa using h2
        have h4 : 0 ≤ Lib.indexByte l 10 := by omega
        rw [h3]
        simp [plainL, h] at ih ⊢
        have h5 : 0 ≤ Lib.indexByte l 10 + 1 := by omega
        simp [h4] at ih
        simp [h5]
        exact .inr ih
theorem getByte {s : ByteArray} {k : Nat} (h : k < s.size) : s.data.toList[k]? = some s[k] := by
  rw [List.getElem?_eq_getElem (by simpa using h)]; rfl
theorem plain_stop {s : ByteArray} {k : Nat} (h : k < s.size) (h2 : ((s[k]).toNat : Int) = 10) : plainL (s.data.toList.drop k) = false := by
  rw [drop_cons (getByte h)]
  have : s[k] = 10 := UInt8.toNat_inj.1 (by simpa using (show (s[k]).toNat = 10 by omega))
  simp [plainL, this]
theorem plain_go {s : ByteArray} {k : Nat} (h : k < s.size) (h2 : ¬ ((s[k]).toNat : Int) = 10) : plainL (s.data.toList.drop k) = plainL (s.data.toList.drop (k + 1)) := by
  rw [drop_cons (getByte h)]
  have : ¬ s[k] = 10 := fun e => h2 (by rw [e]; rfl)
  simp [plainL, this]

theorem specl4Plain_any (s : ByteArray) (w : World) (hs : s.size ≤ 1048576) :
    Calls Tryz.prog 153 #[.string s] w fun e w' => e = .returned (.bool (plain s)) ∧ w = w' := by
  go_enter Tryz.func153, Tryz.ntmps153
  go_wp2
  go_loop [3] (fun i => ∃ k : Nat, i = .int .i64 k ∧ k ≤ s.size ∧ Hid (plain s = plainL (s.data.toList.drop k))) (fun i => s.size - (intOf i).toNat)
  case atStart => exact ⟨0, rfl, by omega, hid rfl⟩
  obtain ⟨k, rfl, hk, hrel⟩ := hrel
  by_cases hlt : k < s.size
  · by_cases h10 : ((s[k]).toNat : Int) = 10
    · have hr := hid (hrel.out.trans (plain_stop hlt h10))
      go_wp2
      go_ret
      exact ⟨ret_bool hr.out.symm, rfl⟩
    · have hr := hid (hrel.out.trans (plain_go hlt h10))
      go_wp2
      go_round
      case rel => exact ⟨k + 1, by go_num, by omega, hr⟩
      case measure => simp [intOf]; omega
  · go_wp2
    go_ret
    exact ⟨ret_bool (by rw [hrel.out, List.drop_of_length_le (by simp; omega)]; rfl), rfl⟩


end Go.Proofs.YtkelhmgdajiocaaGreatDoor
/- Walks and lemmas of this seat (FScan): what each theorem says of the functions that it names. Conditions: those that each theorem states. -/
namespace Go.Proofs.YtkelhmgdajiocaaGreatDoor
set_option linter.unusedVariables false
set_option linter.unusedSimpArgs false
open Go.RowKit

/-! Scanning a text, both sides. -/
theorem sByte {s : ByteArray} {k : Nat} (h : k < s.size) : s.data.toList[k]? = some s[k] := by
  rw [List.getElem?_eq_getElem (by simpa using h)]; rfl
theorem byteI_s {s : ByteArray} {k : Nat} (h : k < s.size) : byteI s.data.toList k = ((s[k]).toNat : Int) := byteI_at (sByte h)
theorem byteI_no {s : ByteArray} {k : Int} (h : k < 0 ∨ (s.size : Int) ≤ k) : byteI s.data.toList k = -1 := byteI_out h

theorem wrap_byte (c : UInt8) : wrap64 (c.toNat : Int) = (c.toNat : Int) := by have := c.toNat_lt; unfold wrap64; omega
theorem implIsDigit_any (b : Int) (w : World) : Calls Tryz.prog 190 #[.int .i64 b] w fun e w' => e = .returned (.bool (isDigitB b)) ∧ w' = w := by
  go_enter Tryz.func190, Tryz.ntmps190
  go_wp2
  all_goals go_ret
  all_goals exact ⟨ret_bool (by unfold isDigitB inB; simp_all <;> omega), rfl⟩
theorem specIsDigit_any (b : Int) (w : World) : Calls Tryz.prog 182 #[.int .i64 b] w fun e w' => e = .returned (.bool (isDigitB b)) ∧ w' = w := by
  go_enter Tryz.func182, Tryz.ntmps182
  go_wp2_with (go_at_call 52; refine (specl1In_any _ _ _ _).mono ?_; rintro e w' ⟨rfl, rfl⟩)
  go_ret
  exact ⟨rfl, rfl⟩
theorem implbyteAt_any (s : ByteArray) (k : Int) (w : World) (hs : s.size ≤ 1048576) : Calls Tryz.prog 187 #[.string s, .int .i64 k] w fun e w' => e = .returned (.int .i64 (byteI s.data.toList k)) ∧ w' = w := by
  by_cases h : 0 ≤ k ∧ k < s.size
  · obtain ⟨n, rfl⟩ : ∃ n : Nat, k = n := ⟨k.toNat, by omega⟩
    have hlt : n < s.size := by omega
    have hv := hid (byteI_s hlt)
    have hin : inB (n : Int) 0 ((s.size : Int) - 1) = true := by unfold inB; simp; omega
    go_enter Tryz.func187, Tryz.ntmps187
    go_wp2_with (go_at_call 45; refine (implwithin_any _ _ _ _).mono ?_; rintro e w' ⟨rfl, rfl⟩; rw [hin])
    go_ret
    exact ⟨ret_int (by rw [hv.out]; exact wrap_byte _), rfl⟩
  · have hv := hid (byteI_no (s := s) (k := k) (by omega))
    have hin : inB k 0 ((s.size : Int) - 1) = false := by unfold inB; simp; omega
    clear h
    go_enter Tryz.func187, Tryz.ntmps187
    go_wp2_with (go_at_call 45; refine (implwithin_any _ _ _ _).mono ?_; rintro e w' ⟨rfl, rfl⟩; rw [hin])
    go_ret
    exact ⟨ret_int hv.out.symm, rfl⟩
theorem specl4Byte_any (s : ByteArray) (k : Int) (w : World) (hs : s.size ≤ 1048576) : Calls Tryz.prog 171 #[.string s, .int .i64 k] w fun e w' => e = .returned (.int .i64 (byteI s.data.toList k)) ∧ w' = w := by
  by_cases h : 0 ≤ k ∧ k < s.size
  · obtain ⟨n, rfl⟩ : ∃ n : Nat, k = n := ⟨k.toNat, by omega⟩
    have hlt : n < s.size := by omega
    have hv := hid (byteI_s hlt)
    clear h
    go_enter Tryz.func171, Tryz.ntmps171
    go_wp2
    go_ret
    exact ⟨ret_int (by rw [hv.out]; exact wrap_byte _), rfl⟩
  · have hv := hid (byteI_no (s := s) (k := k) (by omega))
    by_cases hk : k < 0
    · clear h
      go_enter Tryz.func171, Tryz.ntmps171
      go_wp2
      go_ret
      exact ⟨ret_int hv.out.symm, rfl⟩
    · have hk2 : (s.size : Int) ≤ k := by omega
      clear h
      go_enter Tryz.func171, Tryz.ntmps171
      go_wp2
      go_ret
      exact ⟨ret_int hv.out.symm, rfl⟩

set_option maxRecDepth 100000 in
theorem impldigitsEnd_any (s : ByteArray) (k : Int) (w : World) (hs : s.size ≤ 1048576) (h0 : 0 ≤ k) (hk : k ≤ 2097152) : Calls Tryz.prog 186 #[.string s, .int .i64 k] w fun e w' => e = .returned (.int .i64 (k + digI s.data.toList k)) ∧ w' = w := by
  have hle : ∀ j, 0 ≤ j → isDigitB (byteI s.data.toList j) = true → j < s.size := fun j hj h => by
    rcases Int.lt_or_le j s.size with h' | h'
    · exact h'
    · rw [byteI_no (.inr h')] at h; simp [isDigitB, inB] at h
  go_enter Tryz.func186, Tryz.ntmps186
  go_wp2
  go_loop [1] (fun i => ∃ j : Int, i = .int .i64 j ∧ k ≤ j ∧ j ≤ k + 1048577 ∧ Hid (k + digI s.data.toList k = j + digI s.data.toList j) ∧ (j ≤ s.size ∨ j = k)) (fun i => (s.size + 1 : Nat) - (intOf i).toNat)
  case atStart => exact ⟨k, rfl, by omega, by omega, hid rfl, .inr rfl⟩
  obtain ⟨j, rfl, hj, hj2, hrel, hjs⟩ := hrel
  by_cases hd : isDigitB (byteI s.data.toList j) = true
  · have hjl := hle j (by omega) hd
    have hR := hid (dig_go (by omega) hd)
    clear hle
    go_wp2_with (first | (go_at_call 187; refine (implbyteAt_any _ _ _ hs).mono ?_; rintro e w' ⟨rfl, rfl⟩) | (go_at_call 190; refine (implIsDigit_any _ _).mono ?_; rintro e w' ⟨rfl, rfl⟩; rw [hd]))
    go_round
    case rel => exact ⟨j + 1, by go_num, by omega, by omega, hid (by rw [hrel.out, hR.out]; omega), .inl (by omega)⟩
    case measure => simp [intOf]; omega
  · have hd : isDigitB (byteI s.data.toList j) = false := by simpa using hd
    have hR := hid (dig_stop (by omega) hd)
    clear hle
    go_wp2_with (first | (go_at_call 187; refine (implbyteAt_any _ _ _ hs).mono ?_; rintro e w' ⟨rfl, rfl⟩) | (go_at_call 190; refine (implIsDigit_any _ _).mono ?_; rintro e w' ⟨rfl, rfl⟩; rw [hd]))
    go_ret
    exact ⟨ret_int (by rw [hrel.out, hR.out]; omega), rfl⟩
set_option maxRecDepth 100000 in
theorem specl4Digits_any (s : ByteArray) (k : Int) (w : World) (hs : s.size ≤ 1048576) (h0 : 0 ≤ k) (hk : k ≤ 2097152) : Calls Tryz.prog 170 #[.string s, .int .i64 k] w fun e w' => e = .returned (.int .i64 (k + digI s.data.toList k)) ∧ w' = w := by
  have hle : ∀ j, 0 ≤ j → isDigitB (byteI s.data.toList j) = true → j < s.size := fun j hj h => by
    rcases Int.lt_or_le j s.size with h' | h'
    · exact h'
    · rw [byteI_no (.inr h')] at h; simp [isDigitB, inB] at h
  go_enter Tryz.func170, Tryz.ntmps170
  go_wp2
  go_loop [1] (fun i => ∃ j : Int, i = .int .i64 j ∧ k ≤ j ∧ j ≤ k + 1048577 ∧ Hid (k + digI s.data.toList k = j + digI s.data.toList j) ∧ (j ≤ s.size ∨ j = k)) (fun i => (s.size + 1 : Nat) - (intOf i).toNat)
  case atStart => exact ⟨k, rfl, by omega, by omega, hid rfl, .inr rfl⟩
  obtain ⟨j, rfl, hj, hj2, hrel, hjs⟩ := hrel
  by_cases hd : isDigitB (byteI s.data.toList j) = true
  · have hjl := hle j (by omega) hd
    have hR := hid (dig_go (by omega) hd)
    clear hle
    go_wp2_with (first | (go_at_call 171; refine (specl4Byte_any _ _ _ hs).mono ?_; rintro e w' ⟨rfl, rfl⟩) | (go_at_call 182; refine (specIsDigit_any _ _).mono ?_; rintro e w' ⟨rfl, rfl⟩; rw [hd]))
    go_round
    case rel => exact ⟨j + 1, by go_num, by omega, by omega, hid (by rw [hrel.out, hR.out]; omega), .inl (by omega)⟩
    case measure => simp [intOf]; omega
  · have hd : isDigitB (byteI s.data.toList j) = false := by simpa using hd
    have hR := hid (dig_stop (by omega) hd)
    clear hle
    go_wp2_with (first | (go_at_call 171; refine (specl4Byte_any _ _ _ hs).mono ?_; rintro e w' ⟨rfl, rfl⟩) | (go_at_call 182; refine (specIsDigit_any _ _).mono ?_; rintro e w' ⟨rfl, rfl⟩; rw [hd]))
    go_ret
    exact ⟨ret_int (by rw [hrel.out, hR.out]; omega), rfl⟩
end Go.Proofs.YtkelhmgdajiocaaGreatDoor
/- Walks and lemmas of this seat (FCur): what each theorem says of the functions that it names. Conditions: those that each theorem states. -/
namespace Go.Proofs.YtkelhmgdajiocaaGreatDoor
set_option linter.unusedVariables false
set_option linter.unusedSimpArgs false
open Go.RowKit

/-! The cursor over the bytes of a draw. What it draws is not said, only how great it is. -/
def low8 (v : Int) : Nat := (BitVec.ofInt 64 v &&& BitVec.ofInt 64 255).toNat
theorem low8_le (v : Int) : low8 v ≤ 255 := by
  unfold low8
  rw [BitVec.toNat_and]
  exact Nat.le_trans Nat.and_le_right (by decide)
theorem bits_255 (v : Int) : bits .and .i64 v 255 = (low8 v : Int) := by
  have h := low8_le v
  show IntKind.i64.wrap (low8 v : Int) = _
  generalize low8 v = n at h
  simp [IntKind.wrap, IntKind.bits, IntKind.signed]
  omega
/-- Block p holds a cursor over the n bytes of the slice bv. -/
def CurIs (w : World) (p : Nat) (bv : Value) (n : Nat) : Prop := ∃ (i : Nat) (h : Int), i ≤ n ∧ w.heap[p]? = some (.cells #[bv, .int .i64 i, .int .i64 h] 90 (0, 0))
theorem CurIs.keep {w w' : World} {p : Nat} {bv : Value} {n : Nat} (h : CurIs w p bv n) (hb : w'.heap[p]? = w.heap[p]?) : CurIs w' p bv n := by
  obtain ⟨i, k, h1, h2⟩ := h
  exact ⟨i, k, h1, hb.trans h2⟩
theorem CurIs.lt {w : World} {p : Nat} {bv : Value} {n : Nat} (h : CurIs w p bv n) : p < w.heap.size := by
  obtain ⟨i, k, _, h2⟩ := h
  exact (Array.getElem?_eq_some_iff.1 h2).1
theorem CurIs.below {w w' : World} {p n : Nat} {bv : Value} (h : CurIs w p bv n) (hb : Below w.heap.size w w') : CurIs w' p bv n := h.keep (hb.block p h.lt)
/-- A cursor and its bytes, where the bytes lie below the cursor. -/
structure Cur (w0 w : World) (p : Nat) (bv : Value) (bs : List UInt8) : Prop where
  code : Slc w0 bv 1 bs.length (bs.flatMap byte1)
  small : bs.length ≤ 1048576
  at_ : w0.heap.size ≤ p
  old : Below w0.heap.size w0 w
  box : CurIs w p bv bs.length
theorem Cur.next {w0 w w' : World} {p : Nat} {bv : Value} {bs : List UInt8} (h : Cur w0 w p bv bs) (hg : w.grownBy w' (some p)) (hb : CurIs w' p bv bs.length) : Cur w0 w' p bv bs :=
  ⟨h.code, h.small, h.at_, h.old.grown hg h.old.size (fun r e => by simp at e; subst e; exact h.at_), hb⟩
theorem Cur.below {w0 w w' : World} {p : Nat} {bv : Value} {bs : List UInt8} (h : Cur w0 w p bv bs) (hb : Below w.heap.size w w') : Cur w0 w' p bv bs :=
  ⟨h.code, h.small, h.at_, h.old.trans (hb.mono h.old.size), h.box.below hb⟩

set_option maxRecDepth 100000 in
set_option maxHeartbeats 1600000 in
theorem specl1Byte_any (w0 w : World) (p : Nat) (bv : Value) (bs : List UInt8) (hc : Cur w0 w p bv bs) :
    Calls Tryz.prog 85 #[.pointer (some ⟨p, 0, none⟩)] w fun e w' => ∃ x : Nat, x ≤ 255 ∧ e = .returned (.int .i64 x) ∧ w.grownBy w' (some p) ∧ Cur w0 w' p bv bs := by
  obtain ⟨i, h, hi, hbox⟩ := hc.box
  have hc2 := hid hc
  obtain ⟨hcode, hsm, hat, hold, _⟩ := hc
  obtain ⟨_, a, cap, rfl, hcap, hm, hrow⟩ := hcode
  unfold maxLen at hm
  have hplt : p < w.heap.size := (Array.getElem?_eq_some_iff.1 hbox).1
  have c0 : w.cell? ⟨p, 0, none⟩ = some (.slice a bs.length cap) := by simp [World.cell?, hbox]
  have c1 : w.cell? ⟨p, 1, none⟩ = some (.int .i64 i) := by simp [World.cell?, hbox]
  have c2 : w.cell? ⟨p, 2, none⟩ = some (.int .i64 h) := by simp [World.cell?, hbox]
  have f0 : ∀ j, w.frozen? ⟨p, j, none⟩ = false := fun j => by simp [World.frozen?, hbox]
  have hbox2 := hid hbox
  clear hbox
  have fin : ∀ (w' : World) (i' : Nat) (h' : Int), i' ≤ bs.length → w.grownBy w' (some p) → w'.heap[p]? = some (.cells #[.slice a bs.length cap, .int .i64 i', .int .i64 h'] 90 (0, 0)) →
      w.grownBy w' (some p) ∧ Cur w0 w' p (.slice a bs.length cap) bs := fun w' i' h' hi' hg hb =>
    ⟨hg, hc2.out.next hg ⟨i', h', hi', hb⟩⟩
  replace fin := hid fin
  have step : ∀ h', ∃ W1, W1 = w.setCell ⟨p, 2, none⟩ (.int .i64 h') ∧ W1.heap[p]? = some (.cells #[.slice a bs.length cap, .int .i64 i, .int .i64 h'] 90 (0, 0)) ∧ w.grownBy W1 (some p) ∧ (∀ q o, q ≠ p → W1.cell? ⟨q, o, none⟩ = w.cell? ⟨q, o, none⟩) := fun h' => by
    refine ⟨_, rfl, (heap_setCell_at hbox2.out).trans rfl, grown_set w p 2 _, fun q o hq => ?_⟩
    unfold World.cell?
    rw [show (⟨q, o, none⟩ : Addr).block = q from rfl, heap_setCell_other w ⟨p, 2, none⟩ q _ hq]
  replace step := hid step
  by_cases hlt : i < bs.length
  · obtain ⟨b, off, rfl, hro⟩ := slc_some hrow (by omega)
    obtain ⟨y, hy⟩ := get_of_lt hlt
    have e0 := (hro.mono hold (Nat.le_refl _)).one byte1_len hy rfl
    have hyl := y.toNat_lt
    have hbp : b ≠ p := by have := World.block_lt_of_cell? w0 _ (hro.one byte1_len hy rfl); have : b < w0.heap.size := this; omega
    clear hro hrow hy
    go_enter Tryz.func85, Tryz.ntmps85
    go_wp2_with fail
    generalize wrap64 (wrap64 (h * 6364136223846793005) + 1442695040888963407) = h'
    obtain ⟨W1, hW1, hN, hG, hO⟩ := step.out h'
    rw [← hW1]
    have d0 : W1.cell? ⟨p, 0, none⟩ = some (.slice (some ⟨b, off, none⟩) bs.length cap) := box_cell hN rfl
    have d1 : W1.cell? ⟨p, 1, none⟩ = some (.int .i64 i) := box_cell hN rfl
    have d2 : W1.cell? ⟨p, 2, none⟩ = some (.int .i64 h') := box_cell hN rfl
    have df : ∀ j, W1.frozen? ⟨p, j, none⟩ = false := fun j => box_froz hN
    have e1 := (hO b (off + i) hbp).trans e0
    replace hN := hid hN
    clear c0 c1 c2 e0 hO hW1 f0 hbox2 step
    go_quiet (fail)
    go_wp2_with fail
    go_quiet (fail)
    go_wp2_with fail
    go_quiet (fail)
    go_wp2
    go_ret
    simp only [bits_255]
    refine ⟨_, low8_le _, rfl, fin.out _ (i + 1) h' (by omega) (grown_trans (grown_dN hG _) (grown_set _ p 1 _)) ?_⟩
    have := heap_setCell_at (j := 1) (u := .int .i64 ((i : Int) + 1)) hN.out
    rw [show ((i + 1 : Nat) : Int) = (i : Int) + 1 from by omega]
    exact this.trans rfl
  · have hie : i = bs.length := by omega
    go_enter Tryz.func85, Tryz.ntmps85
    go_wp2_with fail
    generalize wrap64 (wrap64 (h * 6364136223846793005) + 1442695040888963407) = h'
    obtain ⟨W1, hW1, hN, hG, hO⟩ := step.out h'
    rw [← hW1]
    have d0 : W1.cell? ⟨p, 0, none⟩ = some (.slice a bs.length cap) := box_cell hN rfl
    have d1 : W1.cell? ⟨p, 1, none⟩ = some (.int .i64 i) := box_cell hN rfl
    have d2 : W1.cell? ⟨p, 2, none⟩ = some (.int .i64 h') := box_cell hN rfl
    have df : ∀ j, W1.frozen? ⟨p, j, none⟩ = false := fun j => box_froz hN
    replace hN := hid hN
    clear c0 c1 c2 hO hW1 f0 hbox2 step hrow
    go_quiet (fail)
    go_wp2_with fail
    go_quiet (fail)
    go_wp2
    go_ret
    simp only [bits_255]
    exact ⟨_, low8_le _, rfl, fin.out _ i h' hi (grown_dN (grown_dN hG _) _) hN.out⟩
end Go.Proofs.YtkelhmgdajiocaaGreatDoor
/- Walks and lemmas of this seat (FCur2): what each theorem says of the functions that it names. Conditions: those that each theorem states. -/
namespace Go.Proofs.YtkelhmgdajiocaaGreatDoor
set_option linter.unusedVariables false
set_option linter.unusedSimpArgs false
open Go.RowKit

set_option maxRecDepth 100000 in
set_option maxHeartbeats 1600000 in
/-- A cursor over a code: a new block. -/
theorem specl1New_any (w : World) (bv : Value) (bs : List UInt8) (hc : Slc w bv 1 bs.length (bs.flatMap byte1)) (hs : bs.length ≤ 1048576) :
    Calls Tryz.prog 46 #[bv] w fun e w' => ∃ p, e = .returned (.pointer (some ⟨p, 0, none⟩)) ∧ Below w.heap.size w w' ∧ Cur w w' p bv bs := by
  have hcode := hid hc
  obtain ⟨_, a, cap, rfl, hcap, hm, hrow⟩ := hc
  unfold maxLen at hm
  go_enter Tryz.func46, Tryz.ntmps46
  go_wp2
  go_loop [3, 4] (fun hv i => ∃ (j : Nat) (h : Int), i = .int .i64 j ∧ hv = .int .i64 h ∧ j ≤ bs.length) (fun _ i => bs.length - (intOf i).toNat)
  case atStart => exact ⟨0, _, rfl, rfl, by omega⟩
  obtain ⟨j, h, rfl, rfl, hj⟩ := hrel
  by_cases hlt : j < bs.length
  · obtain ⟨b, off, rfl, hro⟩ := slc_some hrow (by omega)
    obtain ⟨y, hy⟩ := get_of_lt hlt
    have e0 := hro.one byte1_len hy rfl
    clear hrow hro hy
    by_cases h4 : j < 4000
    · go_wp2_with fail
      go_round
      case rel => exact ⟨j + 1, _, by go_num, rfl, by omega⟩
      case measure => simp [intOf]; omega
    · go_wp2_with fail
      go_ret
      exact ⟨w.heap.size, rfl, by repeat (first | exact Below.refl _ _ | refine Below.alloc ?_ (by first | omega | (simp; done) | (simp; omega)) _ | refine Below.drew ?_), ⟨hcode.out, hs, Nat.le_refl _, by repeat (first | exact Below.refl _ _ | refine Below.alloc ?_ (by first | omega | (simp; done) | (simp; omega)) _ | refine Below.drew ?_), 0, h, by omega, by rw [heap_alloc_new]; rfl⟩⟩
  · go_wp2_with fail
    go_ret
    exact ⟨w.heap.size, rfl, by repeat (first | exact Below.refl _ _ | refine Below.alloc ?_ (by first | omega | (simp; done) | (simp; omega)) _ | refine Below.drew ?_), ⟨hcode.out, hs, Nat.le_refl _, by repeat (first | exact Below.refl _ _ | refine Below.alloc ?_ (by first | omega | (simp; done) | (simp; omega)) _ | refine Below.drew ?_), 0, h, by omega, by rw [heap_alloc_new]; rfl⟩⟩

set_option maxRecDepth 100000 in
set_option maxHeartbeats 1600000 in
theorem specl1Below_any (w0 w : World) (p : Nat) (bv : Value) (bs : List UInt8) (n : Int) (hn : I64 n) (hc : Cur w0 w p bv bs) :
    Calls Tryz.prog 66 #[.pointer (some ⟨p, 0, none⟩), .int .i64 n] w fun e w' => ∃ x : Int, e = .returned (.int .i64 x) ∧ 0 ≤ x ∧ (0 < n → x < n) ∧ (n ≤ 0 → x = 0) ∧ w.grownBy w' (some p) ∧ Cur w0 w' p bv bs := by
  unfold I64 at hn
  by_cases h0 : n ≤ 0
  · go_enter Tryz.func66, Tryz.ntmps66
    go_wp2
    go_ret
    exact ⟨0, rfl, by omega, by omega, fun _ => rfl, ⟨rfl, rfl, rfl, Nat.le_refl _, fun _ _ _ => rfl⟩, hc⟩
  by_cases h1 : n ≤ 256
  · have hcall := hid (specl1Byte_any w0 w p bv bs hc)
    clear hc
    go_enter Tryz.func66, Tryz.ntmps66
    go_wp2_with fail
    refine hcall.out.mono ?_; rintro e w1 ⟨x, hx, rfl, hg, hc1⟩
    replace hg := hid hg
    replace hc1 := hid hc1
    go_wp2
    all_goals go_ret
    have hpos := Int.emod_nonneg (x : Int) (show n ≠ 0 by omega)
    have hlt := Int.emod_lt_of_pos (x : Int) (show 0 < n by omega)
    exact ⟨(x : Int) % n, rfl, hpos, fun _ => hlt, fun _ => by omega, hg.out, hc1.out⟩
  · have hcall := hid (specl1Byte_any w0 w p bv bs hc)
    clear hc
    go_enter Tryz.func66, Tryz.ntmps66
    go_wp2_with fail
    refine hcall.out.mono ?_; rintro e w1 ⟨x, hx, rfl, hg1, hc1⟩
    have hcall1 := hid (specl1Byte_any w0 w1 p bv bs hc1)
    replace hg1 := hid hg1
    clear hcall hc1
    go_wp2_with fail
    refine hcall1.out.mono ?_; rintro e w2 ⟨y, hy, rfl, hg2, hc2⟩
    have hcall2 := hid (specl1Byte_any w0 w2 p bv bs hc2)
    have hg2 := hid (grown_trans hg1.out hg2)
    clear hcall1 hc2 hg1
    go_wp2_with fail
    refine hcall2.out.mono ?_; rintro e w3 ⟨z, hz, rfl, hg3, hc3⟩
    have hcall3 := hid (specl1Byte_any w0 w3 p bv bs hc3)
    have hg3 := hid (grown_trans hg2.out hg3)
    clear hcall2 hc3 hg2
    go_wp2_with fail
    refine hcall3.out.mono ?_; rintro e w4 ⟨v, hv, rfl, hg4, hc4⟩
    have hg4 := hid (grown_trans hg3.out hg4)
    replace hc4 := hid hc4
    clear hcall3 hg3
    go_wp2
    all_goals go_ret
    refine ⟨_, rfl, ?_, fun _ => ?_, fun _ => by omega, hg4.out, hc4.out⟩
    · exact Int.emod_nonneg _ (show n ≠ 0 by omega)
    · exact Int.emod_lt_of_pos _ (show 0 < n by omega)

theorem rowAt_lit (w : World) (cs : List Value) (T : TypeId) : RowAt (w.alloc (.cells cs.toArray T)) w.heap.size 0 cs := fun j u h => by
  rw [Nat.zero_add, World.cell?_alloc_at _ _ _ _ rfl, List.getElem?_toArray]; exact h

set_option maxRecDepth 100000 in
set_option maxHeartbeats 1600000 in
theorem specl1Once_any (w0 w : World) (p : Nat) (bv : Value) (bs : List UInt8) (n : Int) (hn : I64 n) (hc : Cur w0 w p bv bs) :
    Calls Tryz.prog 63 #[.pointer (some ⟨p, 0, none⟩), .int .i64 n] w fun e w' => ∃ x : Bool, e = .returned (.bool x) ∧ w.grownBy w' (some p) ∧ Cur w0 w' p bv bs := by
  have hcall := hid (specl1Below_any w0 w p bv bs n hn hc)
  clear hc
  go_enter Tryz.func63, Tryz.ntmps63
  go_wp2_with fail
  refine hcall.out.mono ?_; rintro e w1 ⟨x, rfl, _, _, _, hg, hc1⟩
  replace hg := hid hg
  replace hc1 := hid hc1
  go_wp2
  all_goals go_ret
  all_goals exact ⟨_, rfl, hg.out, hc1.out⟩

set_option maxRecDepth 100000 in
set_option maxHeartbeats 1600000 in
theorem specl1Pick_any (w0 w : World) (p : Nat) (bv : Value) (bs : List UInt8) (L : List ByteArray) (b cap : Nat) (hL : 0 < L.length) (hL2 : L.length ≤ 1000) (hcap : L.length ≤ cap) (hbp : b ≠ p) (hr : RowAt w b 0 (L.flatMap str1)) (hc : Cur w0 w p bv bs) :
    Calls Tryz.prog 82 #[.pointer (some ⟨p, 0, none⟩), .slice (some ⟨b, 0, none⟩) L.length cap] w fun e w' => ∃ x ∈ L, e = .returned (.string x) ∧ w.grownBy w' (some p) ∧ Cur w0 w' p bv bs := by
  have hcall := hid (specl1Below_any w0 w p bv bs L.length (by unfold I64; omega) hc)
  clear hc
  have hr2 := hid hr
  go_enter Tryz.func82, Tryz.ntmps82
  go_wp2_with fail
  refine hcall.out.mono ?_; rintro e w1 ⟨x, rfl, hx0, hx1, _, hg, hc1⟩
  obtain ⟨k, rfl⟩ : ∃ k : Nat, x = (k : Int) := ⟨x.toNat, by omega⟩
  have hk : k < L.length := by have := hx1 (by omega); omega
  obtain ⟨y, hy⟩ := get_of_lt hk
  have e0 := hr2.out.one str1_len hy rfl
  have e1 : w1.cell? ⟨b, 0 + k, none⟩ = some (.string y) := by
    have hlt := World.block_lt_of_cell? w _ e0
    rw [← e0]
    unfold World.cell?
    rw [show (⟨b, 0 + k, none⟩ : Addr).block = b from rfl, hg.block b hlt (fun e => hbp (Option.some.inj e))]
  rw [Nat.zero_add] at e1
  have hmem := hid (List.mem_of_getElem? hy)
  replace hg := hid hg
  replace hc1 := hid hc1
  clear hr hx0 hx1 e0 hy hr2
  go_wp2
  all_goals go_ret
  all_goals exact ⟨y, hmem.out, rfl, hg.out, hc1.out⟩

set_option maxRecDepth 100000 in
set_option maxHeartbeats 1600000 in
theorem specl1PickInt_any (w0 w : World) (p : Nat) (bv : Value) (bs : List UInt8) (L : List Int) (b cap : Nat) (hL : 0 < L.length) (hL2 : L.length ≤ 1000) (hcap : L.length ≤ cap) (hbp : b ≠ p) (hr : RowAt w b 0 (L.flatMap int1)) (hc : Cur w0 w p bv bs) :
    Calls Tryz.prog 67 #[.pointer (some ⟨p, 0, none⟩), .slice (some ⟨b, 0, none⟩) L.length cap] w fun e w' => ∃ x ∈ L, e = .returned (.int .i64 x) ∧ w.grownBy w' (some p) ∧ Cur w0 w' p bv bs := by
  have hcall := hid (specl1Below_any w0 w p bv bs L.length (by unfold I64; omega) hc)
  clear hc
  have hr2 := hid hr
  go_enter Tryz.func67, Tryz.ntmps67
  go_wp2_with fail
  refine hcall.out.mono ?_; rintro e w1 ⟨x, rfl, hx0, hx1, _, hg, hc1⟩
  obtain ⟨k, rfl⟩ : ∃ k : Nat, x = (k : Int) := ⟨x.toNat, by omega⟩
  have hk : k < L.length := by have := hx1 (by omega); omega
  obtain ⟨y, hy⟩ := get_of_lt hk
  have e0 := hr2.out.one int1_len hy rfl
  have e1 : w1.cell? ⟨b, 0 + k, none⟩ = some (.int .i64 y) := by
    have hlt := World.block_lt_of_cell? w _ e0
    rw [← e0]
    unfold World.cell?
    rw [show (⟨b, 0 + k, none⟩ : Addr).block = b from rfl, hg.block b hlt (fun e => hbp (Option.some.inj e))]
  rw [Nat.zero_add] at e1
  have hmem := hid (List.mem_of_getElem? hy)
  replace hg := hid hg
  replace hc1 := hid hc1
  clear hr hx0 hx1 e0 hy hr2
  go_wp2
  all_goals go_ret
  all_goals exact ⟨y, hmem.out, rfl, hg.out, hc1.out⟩
end Go.Proofs.YtkelhmgdajiocaaGreatDoor
/- Walks and lemmas of this seat (FNames): what each theorem says of the functions that it names. Conditions: those that each theorem states. -/
namespace Go.Proofs.YtkelhmgdajiocaaGreatDoor
set_option linter.unusedVariables false
set_option linter.unusedSimpArgs false
open Go.RowKit Go.Lib

/-! Names, both sides. -/
theorem implIsLetter_any (b : Int) (w : World) : Calls Tryz.prog 184 #[.int .i64 b] w fun e w' => e = .returned (.bool (isLetterB b)) ∧ w' = w := by
  go_enter Tryz.func184, Tryz.ntmps184
  go_wp2
  all_goals go_ret
  all_goals exact ⟨ret_bool (by unfold isLetterB inB; first | (simp_all; done) | (simp_all; omega) | (rw [Bool.eq_iff_iff]; simp; omega)), rfl⟩
theorem specIsLetter_any (b : Int) (w : World) : Calls Tryz.prog 169 #[.int .i64 b] w fun e w' => e = .returned (.bool (isLetterB b)) ∧ w' = w := by
  unfold isLetterB
  cases hb1 : inB b 97 122 <;> cases hb2 : inB b 65 90
  all_goals go_enter Tryz.func169, Tryz.ntmps169
  all_goals go_wp2_with (go_at_call 52; refine (specl1In_any _ _ _ _).mono ?_; rintro e w' ⟨rfl, rfl⟩; first | rw [hb1] | rw [hb2])
  all_goals go_ret
  all_goals exact ⟨ret_bool (by simp), rfl⟩
theorem implIsWordByte_any (b : Int) (w : World) : Calls Tryz.prog 183 #[.int .i64 b] w fun e w' => e = .returned (.bool (isWordB b)) ∧ w' = w := by
  unfold isWordB
  have h1 := implIsLetter_any b w
  have h2 := implIsDigit_any b w
  cases hb1 : isLetterB b <;> rw [hb1] at h1 <;> clear hb1
  all_goals generalize isDigitB b = d at h2 ⊢
  all_goals go_enter Tryz.func183, Tryz.ntmps183
  all_goals go_wp2_with (first | (go_at_call 184; refine h1.mono ?_; rintro e w' ⟨rfl, rfl⟩) | (go_at_call 190; refine h2.mono ?_; rintro e w' ⟨rfl, rfl⟩))
  all_goals go_ret
  all_goals exact ⟨ret_bool (by simp_all), rfl⟩
theorem specIsWordByte_any (b : Int) (w : World) : Calls Tryz.prog 168 #[.int .i64 b] w fun e w' => e = .returned (.bool (isWordB b)) ∧ w' = w := by
  unfold isWordB
  have h1 := specIsLetter_any b w
  have h2 := specIsDigit_any b w
  cases hb1 : isLetterB b <;> rw [hb1] at h1 <;> clear hb1
  all_goals generalize isDigitB b = d at h2 ⊢
  all_goals go_enter Tryz.func168, Tryz.ntmps168
  all_goals go_wp2_with (first | (go_at_call 169; refine h1.mono ?_; rintro e w' ⟨rfl, rfl⟩) | (go_at_call 182; refine h2.mono ?_; rintro e w' ⟨rfl, rfl⟩))
  all_goals go_ret
  all_goals exact ⟨ret_bool (by simp_all), rfl⟩

theorem slc_lit (w : World) (cs : List Value) (T : TypeId) (n : Nat) (hc : cs.length = n * 1) (hn : n ≤ maxLen) : Slc (w.alloc (.cells cs.toArray T)) (.slice (some ⟨w.heap.size, 0, none⟩) n n) 1 n cs :=
  ⟨hc, _, _, rfl, Nat.le_refl _, hn, .inr ⟨_, _, rfl, rowAt_lit w cs T⟩⟩

set_option maxRecDepth 100000 in
theorem specl3Words_any (w : World) : Calls Tryz.prog 131 #[] w fun e w' => ∃ v, e = .returned v ∧ Slc w' v 1 kwTab.length (kwTab.flatMap str1) ∧ Below w.heap.size w w' := by
  go_enter Tryz.func131, Tryz.ntmps131
  go_wp2
  go_ret
  exact ⟨_, rfl, slc_lit w (kwTab.flatMap str1) _ _ rfl (by unfold maxLen; decide), (Below.refl _ _).alloc (Nat.le_refl _) _⟩
set_option maxRecDepth 100000 in
theorem specl3Builtins_any (w : World) : Calls Tryz.prog 158 #[] w fun e w' => ∃ v, e = .returned v ∧ Slc w' v 1 bltTab.length (bltTab.flatMap str1) ∧ Below w.heap.size w w' := by
  go_enter Tryz.func158, Tryz.ntmps158
  go_wp2
  go_ret
  exact ⟨_, rfl, slc_lit w (bltTab.flatMap str1) _ _ rfl (by unfold maxLen; decide), (Below.refl _ _).alloc (Nat.le_refl _) _⟩

theorem specKeywordOf_any (s : ByteArray) (w : World) : Calls Tryz.prog 152 #[.string s] w fun e w' => e = .returned (.int .i64 (kwOf s)) ∧ Below w.heap.size w w' := by
  have h1 := findS_lo s kwTab 0
  have h2 := findS_hi s kwTab 0
  have hk : Hid (kwOf s = if findS s kwTab 0 < 0 then 0 else 10 + findS s kwTab 0) := hid rfl
  have hf := hid fun v w hv => specl3Find_any kwTab v s w (by decide) hv
  rw [show ((0 + kwTab.length : Nat) : Int) = 17 from rfl] at h2
  generalize findS s kwTab 0 = k at h1 h2 hk hf
  go_enter Tryz.func152, Tryz.ntmps152
  go_wp2_with fail
  refine (specl3Words_any _).mono ?_; rintro e w1 ⟨v, rfl, hv, hb⟩
  have hf2 := hf.out v w1 hv
  obtain ⟨_, a, cap, rfl, _⟩ := hv
  go_wp2_with fail
  refine hf2.mono ?_; rintro e w2 ⟨rfl, rfl⟩
  go_wp2
  all_goals go_ret
  · exact ⟨ret_int (by rw [hk.out, if_pos (by omega)]), hb⟩
  · exact ⟨ret_int (by rw [hk.out, if_neg (by omega)]), hb⟩
theorem specIsBuiltin_any (s : ByteArray) (w : World) : Calls Tryz.prog 129 #[.string s] w fun e w' => e = .returned (.bool (bltB s)) ∧ Below w.heap.size w w' := by
  have hk : Hid (bltB s = decide (0 ≤ findS s bltTab 0)) := hid rfl
  have hf := hid fun v w hv => specl3Find_any bltTab v s w (by decide) hv
  generalize findS s bltTab 0 = k at hk hf
  go_enter Tryz.func129, Tryz.ntmps129
  go_wp2_with fail
  refine (specl3Builtins_any _).mono ?_; rintro e w1 ⟨v, rfl, hv, hb⟩
  have hf2 := hf.out v w1 hv
  obtain ⟨_, a, cap, rfl, _⟩ := hv
  go_wp2_with fail
  refine hf2.mono ?_; rintro e w2 ⟨rfl, rfl⟩
  go_wp2
  go_ret
  exact ⟨ret_bool (by rw [hk.out]), hb⟩

theorem idxKw (s : ByteArray) (w : World) (hE : WordEnv w) : Calls Tryz.prog 180 #[.slice (some ⟨0, 0, none⟩) 17 17, .string s] w fun e w' => e = .returned (.int .i64 (findS s kwTab 0)) ∧ w' = w := by
  have := Tryz.slices_Index_string 0 0 17 17 kwTab s w (by decide) (by decide) (fun j hj => hE.kwCell j hj)
  rw [show kwTab.take 17 = kwTab from rfl, idx_find] at this
  exact this
theorem hasBlt (s : ByteArray) (w : World) (hE : WordEnv w) : Calls Tryz.prog 165 #[.slice (some ⟨2, 0, none⟩) 21 21, .string s] w fun e w' => e = .returned (.bool (bltB s)) ∧ w' = w := by
  have := Tryz.slices_Contains_string 2 0 21 21 bltTab s w (by decide) (by decide) (fun j hj => hE.bltCell j hj)
  rw [show bltTab.take 21 = bltTab from rfl, containsS, idx_find] at this
  exact this
theorem implKeywordOf_any (s : ByteArray) (w : World) (hE : WordEnv w) : Calls Tryz.prog 175 #[.string s] w fun e w' => e = .returned (.int .i64 (kwOf s)) ∧ w' = w := by
  have h1 := findS_lo s kwTab 0
  have h2 := findS_hi s kwTab 0
  have hk : Hid (kwOf s = if findS s kwTab 0 < 0 then 0 else 10 + findS s kwTab 0) := hid rfl
  have hf := hid (idxKw s w hE)
  rw [show ((0 + kwTab.length : Nat) : Int) = 17 from rfl] at h2
  generalize findS s kwTab 0 = k at h1 h2 hk hf
  go_enter Tryz.func175, Tryz.ntmps175
  go_wp2_with fail
  refine hf.out.mono ?_; rintro e w2 ⟨rfl, rfl⟩
  go_wp2
  all_goals go_ret
  · exact ⟨ret_int (by rw [hk.out, if_pos (by omega)]), rfl⟩
  · exact ⟨ret_int (by rw [hk.out, if_neg (by omega)]), rfl⟩
theorem implIsBuiltin_any (s : ByteArray) (w : World) (hE : WordEnv w) : Calls Tryz.prog 162 #[.string s] w fun e w' => e = .returned (.bool (bltB s)) ∧ w' = w := by
  have hf := hid (hasBlt s w hE)
  go_enter Tryz.func162, Tryz.ntmps162
  go_wp2_with fail
  refine hf.out.mono ?_; rintro e w2 ⟨rfl, rfl⟩
  go_wp2
  go_ret
  exact ⟨rfl, rfl⟩
end Go.Proofs.YtkelhmgdajiocaaGreatDoor
/- Walks and lemmas of this seat (FNames2): what each theorem says of the functions that it names. Conditions: those that each theorem states. -/
namespace Go.Proofs.YtkelhmgdajiocaaGreatDoor
set_option linter.unusedVariables false
set_option linter.unusedSimpArgs false
open Go.RowKit Go.Lib

theorem byteI_s0 {s : ByteArray} (h : 0 < s.size) : byteI s.data.toList 0 = ((s[0]).toNat : Int) := byteI_s h

set_option maxRecDepth 100000 in
theorem specNameShape_any (s : ByteArray) (w : World) (hs : s.size ≤ 1048576) : Calls Tryz.prog 151 #[.string s] w fun e w' => e = .returned (.bool (nameShape s)) ∧ w' = w := by
  go_enter Tryz.func151, Tryz.ntmps151
  go_wp2
  go_loop [3] (fun i => ∃ k : Nat, i = .int .i64 k ∧ k ≤ s.size ∧ Hid (wordsB s.data.toList = wordsB (s.data.toList.drop k))) (fun i => s.size - (RowKit.intOf i).toNat)
  case atStart => exact ⟨0, rfl, by omega, hid rfl⟩
  obtain ⟨k, rfl, hk, hrel⟩ := hrel
  by_cases hlt : k < s.size
  · have hby := sByte hlt
    have hcall := specIsWordByte_any ((s[k]).toNat : Int) w
    by_cases hd : isWordB ((s[k]).toNat : Int) = true
    · have hR := hid (hrel.out.trans (wordsB_go hby hd))
      rw [hd] at hcall
      clear hby hrel hd
      go_wp2_with (go_at_call 168; rw [wrap_byte]; refine hcall.mono ?_; rintro e w' ⟨rfl, rfl⟩)
      go_round
      case rel => exact ⟨k + 1, by go_num, by omega, hR⟩
      case measure => simp [RowKit.intOf]; omega
    · have hd : isWordB ((s[k]).toNat : Int) = false := by simpa using hd
      have hR : Hid (nameShape s = false) := hid (by unfold nameShape; rw [hrel.out, wordsB_stop hby hd, Bool.false_and])
      rw [hd] at hcall
      clear hby hrel hd
      go_wp2_with (go_at_call 168; rw [wrap_byte]; refine hcall.mono ?_; rintro e w' ⟨rfl, rfl⟩)
      go_ret
      exact ⟨ret_bool hR.out.symm, rfl⟩
  · have hR : Hid (nameShape s = (inB s.size 1 12 && isLetterB (byteI s.data.toList 0))) := hid (by unfold nameShape; rw [hrel.out, List.drop_of_length_le (by simp; omega)]; rfl)
    have hin := specl1In_any (s.size : Int) 1 12 w
    clear hrel
    by_cases h : 1 ≤ s.size ∧ s.size ≤ 12
    · have h0 : 0 < s.size := by omega
      have hcall := specIsLetter_any ((s[0]).toNat : Int) w
      rw [byteI_s0 h0] at hR
      rw [show inB (s.size : Int) 1 12 = true from by unfold inB; simp; omega] at hin hR
      generalize isLetterB ((s[0]).toNat : Int) = bl at hcall hR
      go_wp2_with (first | (go_at_call 52; refine hin.mono ?_; rintro e w' ⟨rfl, rfl⟩) | (go_at_call 169; rw [wrap_byte]; refine hcall.mono ?_; rintro e w' ⟨rfl, rfl⟩))
      go_ret
      exact ⟨ret_bool (by rw [hR.out, Bool.true_and]), rfl⟩
    · rw [show inB (s.size : Int) 1 12 = false from by unfold inB; simp; omega] at hin hR
      clear h
      go_wp2_with (go_at_call 52; refine hin.mono ?_; rintro e w' ⟨rfl, rfl⟩)
      go_ret
      exact ⟨ret_bool (by rw [hR.out, Bool.false_and]), rfl⟩
set_option maxRecDepth 100000 in
theorem implNameShape_any (s : ByteArray) (w : World) (hs : s.size ≤ 1048576) : Calls Tryz.prog 174 #[.string s] w fun e w' => e = .returned (.bool (nameShape s)) ∧ w' = w := by
  go_enter Tryz.func174, Tryz.ntmps174
  go_wp2
  go_loop [6] (fun i => ∃ k : Nat, i = .int .i64 k ∧ k ≤ s.size ∧ Hid (wordsB s.data.toList = wordsB (s.data.toList.drop k))) (fun i => s.size - (RowKit.intOf i).toNat)
  case atStart => exact ⟨0, rfl, by omega, hid rfl⟩
  obtain ⟨k, rfl, hk, hrel⟩ := hrel
  by_cases hlt : k < s.size
  · have hby := sByte hlt
    have hcall := implIsWordByte_any ((s[k]).toNat : Int) w
    by_cases hd : isWordB ((s[k]).toNat : Int) = true
    · have hR := hid (hrel.out.trans (wordsB_go hby hd))
      rw [hd] at hcall
      clear hby hrel hd
      go_wp2_with (go_at_call 183; rw [wrap_byte]; refine hcall.mono ?_; rintro e w' ⟨rfl, rfl⟩)
      go_round
      case rel => exact ⟨k + 1, by go_num, by omega, hR⟩
      case measure => simp [RowKit.intOf]; omega
    · have hd : isWordB ((s[k]).toNat : Int) = false := by simpa using hd
      have hR : Hid (nameShape s = false) := hid (by unfold nameShape; rw [hrel.out, wordsB_stop hby hd, Bool.false_and])
      rw [hd] at hcall
      clear hby hrel hd
      go_wp2_with (go_at_call 183; rw [wrap_byte]; refine hcall.mono ?_; rintro e w' ⟨rfl, rfl⟩)
      go_ret
      exact ⟨ret_bool hR.out.symm, rfl⟩
  · have hR : Hid (nameShape s = (inB s.size 1 12 && isLetterB (byteI s.data.toList 0))) := hid (by unfold nameShape; rw [hrel.out, List.drop_of_length_le (by simp; omega)]; rfl)
    have hin := implwithin_any (s.size : Int) 1 12 w
    clear hrel
    by_cases h : 1 ≤ s.size ∧ s.size ≤ 12
    · have h0 : 0 < s.size := by omega
      have hcall := implIsLetter_any ((s[0]).toNat : Int) w
      rw [byteI_s0 h0] at hR
      rw [show inB (s.size : Int) 1 12 = true from by unfold inB; simp; omega] at hin hR
      generalize isLetterB ((s[0]).toNat : Int) = bl at hcall hR
      go_wp2_with (first | (go_at_call 45; refine hin.mono ?_; rintro e w' ⟨rfl, rfl⟩) | (go_at_call 184; rw [wrap_byte]; refine hcall.mono ?_; rintro e w' ⟨rfl, rfl⟩))
      go_ret
      exact ⟨ret_bool (by rw [hR.out, Bool.true_and]), rfl⟩
    · rw [show inB (s.size : Int) 1 12 = false from by unfold inB; simp; omega] at hin hR
      clear h
      go_wp2_with (go_at_call 45; refine hin.mono ?_; rintro e w' ⟨rfl, rfl⟩)
      go_ret
      exact ⟨ret_bool (by rw [hR.out, Bool.false_and]), rfl⟩

theorem implNameOk_any (s : ByteArray) (w : World) (hs : s.size ≤ 1048576) (hE : WordEnv w) : Calls Tryz.prog 160 #[.string s] w fun e w' => e = .returned (.bool (nameOkB s)) ∧ w' = w := by
  have c1 := implNameShape_any s w hs
  have c2 := implKeywordOf_any s w hE
  have c3 := implIsBuiltin_any s w hE
  unfold nameOkB
  generalize nameShape s = b1 at c1 ⊢
  generalize kwOf s = k at c2 ⊢
  generalize bltB s = b3 at c3 ⊢
  cases b1
  all_goals go_enter Tryz.func160, Tryz.ntmps160
  all_goals go_wp2_with (first | (go_at_call 174; refine c1.mono ?_; rintro e w' ⟨rfl, rfl⟩) | (go_at_call 175; refine c2.mono ?_; rintro e w' ⟨rfl, rfl⟩) | (go_at_call 162; refine c3.mono ?_; rintro e w' ⟨rfl, rfl⟩))
  all_goals go_ret
  all_goals exact ⟨ret_bool (by simp_all), rfl⟩
theorem specNameOk_any (s : ByteArray) (w : World) (hs : s.size ≤ 1048576) : Calls Tryz.prog 127 #[.string s] w fun e w' => e = .returned (.bool (nameOkB s)) ∧ Below w.heap.size w w' := by
  have c1 := specNameShape_any s w hs
  have c2 := specKeywordOf_any s w
  have c3 := specIsBuiltin_any s
  unfold nameOkB
  generalize nameShape s = b1 at c1 ⊢
  generalize kwOf s = k at c2 ⊢
  generalize bltB s = b3 at c3 ⊢
  cases b1
  all_goals go_enter Tryz.func127, Tryz.ntmps127
  all_goals go_wp2_with (first | (go_at_call 151; refine c1.mono ?_; rintro e w' ⟨rfl, rfl⟩) | (go_at_call 152; refine c2.mono ?_; rintro e w1 ⟨rfl, hb1⟩) | (go_at_call 129; refine (c3 _).mono ?_; rintro e w2 ⟨rfl, hb2⟩))
  all_goals go_ret
  all_goals first
    | exact ⟨ret_bool (by simp_all), Below.refl _ _⟩
    | exact ⟨ret_bool (by simp_all), hb1.trans (hb2.mono hb1.size)⟩
    | exact ⟨ret_bool (by simp_all), hb1⟩
end Go.Proofs.YtkelhmgdajiocaaGreatDoor
/- Walks and lemmas of this seat (FQuoted): what each theorem says of the functions that it names. Conditions: those that each theorem states. -/
namespace Go.Proofs.YtkelhmgdajiocaaGreatDoor
set_option linter.unusedVariables false
set_option linter.unusedSimpArgs false
open Go.RowKit

theorem qEnd_nil (q : Int) (i : Nat) : qEnd q i [] = -1 := by rw [qEnd.eq_def]
theorem qEnd_past {q : Int} {l : List UInt8} {i : Nat} (h : l.length ≤ i) : qEnd q i (l.drop i) = -1 := by rw [List.drop_eq_nil_of_le h, qEnd_nil]
theorem qEnd_escnl2 {q : Int} {l : List UInt8} {i : Nat} {c : UInt8} (h : l[i]? = some c) (h2 : ¬ (c.toNat : Int) = q) (h3 : (c.toNat : Int) = 92) (h4 : byteI l ((i : Int) + 1) = 10) : qEnd q i (l.drop i) = -1 ∧ qEnd q (i + 1) (l.drop (i + 1)) = -1 := by
  unfold byteI at h4
  rw [if_neg (by omega), show ((i : Int) + 1).toNat = i + 1 by omega] at h4
  cases hd : l[i + 1]? with
  | none => rw [hd] at h4; simp at h4
  | some d =>
    rw [hd] at h4
    have h4 : (d.toNat : Int) = 10 := h4
    have hnl := qEnd_nl (q := q) hd h4
    refine ⟨?_, hnl⟩
    rw [drop_cons h, qEnd.eq_def]
    simp only
    rw [if_neg (by omega), if_neg h2, if_pos h3, drop_cons hd]
    simp only
    rw [if_pos h4]

set_option maxRecDepth 100000 in
set_option maxHeartbeats 1600000 in
theorem implquotedEnd_zero (s : ByteArray) (q : Int) (w : World) (hs : s.size ≤ 1048576) (hq : 11 ≤ q) (hq2 : q ≤ 255) : Calls Tryz.prog 188 #[.string s, .int .i64 0, .int .i64 q] w fun e w' => e = .returned (.int .i64 (quoted q s.data.toList)) ∧ w' = w := by
  have hB : ∀ k : Int, Calls Tryz.prog 187 #[.string s, .int .i64 k] w fun e w' => e = .returned (.int .i64 (byteI s.data.toList k)) ∧ w' = w := fun k => implbyteAt_any s k w hs
  have hb0 := byteI_lo s.data.toList 0
  by_cases h0 : byteI s.data.toList 0 = q
  · have hR : Hid (quoted q s.data.toList = qEnd q 1 (s.data.toList.drop 1)) := hid (by unfold quoted; rw [if_pos h0])
    have hB0 := hB 0
    rw [h0] at hB0
    have hs1 : 1 ≤ s.size := by
      rcases Nat.eq_zero_or_pos s.size with h | h
      · rw [byteI_no (.inr (by omega))] at h0; omega
      · exact h
    replace hB := hid hB
    clear h0 hb0
    go_enter Tryz.func188, Tryz.ntmps188
    go_wp2_with (go_at_call 187; refine Calls.mono (by assumption) ?_; rintro e w' ⟨rfl, rfl⟩)
    clear hB0
    go_loop [7] (fun i => ∃ j : Nat, i = .int .i64 j ∧ 1 ≤ j ∧ j ≤ s.size + 1 ∧ Hid (quoted q s.data.toList = qEnd q j (s.data.toList.drop j))) (fun i => s.size + 1 - (intOf i).toNat)
    case atStart => exact ⟨1, rfl, by omega, by omega, hR⟩
    obtain ⟨j, rfl, hj1, hj2, hrel⟩ := hrel
    clear hR
    by_cases hlt : j < s.size
    · have hby := sByte hlt
      have hc256 := (s[j]).toNat_lt
      by_cases hn : ((s[j]).toNat : Int) = 10
      · have hR : Hid (quoted q s.data.toList = -1) := hid (by rw [hrel.out, qEnd_nl hby hn])
        clear hby hrel
        go_wp2
        go_ret
        exact ⟨ret_int hR.out.symm, rfl⟩
      by_cases hqq : ((s[j]).toNat : Int) = q
      · have hR : Hid (quoted q s.data.toList = (j : Int) + 1) := hid (by rw [hrel.out, qEnd_hit hby hn hqq])
        clear hby hrel
        go_wp2
        go_ret
        exact ⟨ret_int hR.out.symm, rfl⟩
      by_cases he : ((s[j]).toNat : Int) = 92
      · have hBj := hB.out ((j : Int) + 1)
        by_cases hnl : byteI s.data.toList ((j : Int) + 1) = 10
        · have hR : Hid (quoted q s.data.toList = qEnd q (j + 1) (s.data.toList.drop (j + 1))) := hid (by have := qEnd_escnl2 hby hqq he hnl; rw [hrel.out, this.1, this.2])
          rw [hnl] at hBj
          clear hby hrel
          go_wp2_with (go_at_call 187; refine Calls.mono (by assumption) ?_; rintro e w' ⟨rfl, rfl⟩)
          go_round
          case rel => exact ⟨j + 1, by go_num, by omega, by omega, hR⟩
          case measure => simp [intOf]; omega
        · have hR : Hid (quoted q s.data.toList = qEnd q (j + 2) (s.data.toList.drop (j + 2))) := hid (by rw [hrel.out, qEnd_esc hby hqq he hnl])
          clear hby hrel
          generalize byteI s.data.toList ((j : Int) + 1) = bb at hBj hnl
          go_wp2_with (go_at_call 187; refine Calls.mono (by assumption) ?_; rintro e w' ⟨rfl, rfl⟩)
          go_round
          case rel => exact ⟨j + 2, by go_num, by omega, by omega, hR⟩
          case measure => simp [intOf]; omega
      · have hR : Hid (quoted q s.data.toList = qEnd q (j + 1) (s.data.toList.drop (j + 1))) := hid (by rw [hrel.out, qEnd_next hby hn hqq he])
        clear hby hrel
        go_wp2
        go_round
        case rel => exact ⟨j + 1, by go_num, by omega, by omega, hR⟩
        case measure => simp [intOf]; omega
    · have hR : Hid (quoted q s.data.toList = -1) := hid (by rw [hrel.out, qEnd_past (by show s.size ≤ j; omega)])
      clear hrel
      go_wp2
      go_ret
      exact ⟨ret_int hR.out.symm, rfl⟩
  · have hR : Hid (quoted q s.data.toList = -1) := hid (by unfold quoted; rw [if_neg h0])
    have hB0 := hB 0
    generalize byteI s.data.toList 0 = b0 at hB0 h0 hb0
    clear hB
    go_enter Tryz.func188, Tryz.ntmps188
    go_wp2_with (go_at_call 187; refine Calls.mono (by assumption) ?_; rintro e w' ⟨rfl, rfl⟩)
    go_ret
    exact ⟨ret_int hR.out.symm, rfl⟩
set_option maxRecDepth 100000 in
set_option maxHeartbeats 1600000 in
theorem specl4Quoted_zero (s : ByteArray) (q : Int) (w : World) (hs : s.size ≤ 1048576) (hq : 11 ≤ q) (hq2 : q ≤ 255) : Calls Tryz.prog 172 #[.string s, .int .i64 0, .int .i64 q] w fun e w' => e = .returned (.int .i64 (quoted q s.data.toList)) ∧ w' = w := by
  have hB : ∀ k : Int, Calls Tryz.prog 171 #[.string s, .int .i64 k] w fun e w' => e = .returned (.int .i64 (byteI s.data.toList k)) ∧ w' = w := fun k => specl4Byte_any s k w hs
  have hb0 := byteI_lo s.data.toList 0
  by_cases h0 : byteI s.data.toList 0 = q
  · have hR : Hid (quoted q s.data.toList = qEnd q 1 (s.data.toList.drop 1)) := hid (by unfold quoted; rw [if_pos h0])
    have hB0 := hB 0
    rw [h0] at hB0
    have hs1 : 1 ≤ s.size := by
      rcases Nat.eq_zero_or_pos s.size with h | h
      · rw [byteI_no (.inr (by omega))] at h0; omega
      · exact h
    replace hB := hid hB
    clear h0 hb0
    go_enter Tryz.func172, Tryz.ntmps172
    go_wp2_with (go_at_call 171; refine Calls.mono (by assumption) ?_; rintro e w' ⟨rfl, rfl⟩)
    clear hB0
    go_loop [7] (fun i => ∃ j : Nat, i = .int .i64 j ∧ 1 ≤ j ∧ j ≤ s.size + 1 ∧ Hid (quoted q s.data.toList = qEnd q j (s.data.toList.drop j))) (fun i => s.size + 1 - (intOf i).toNat)
    case atStart => exact ⟨1, rfl, by omega, by omega, hR⟩
    obtain ⟨j, rfl, hj1, hj2, hrel⟩ := hrel
    clear hR
    by_cases hlt : j < s.size
    · have hby := sByte hlt
      have hc256 := (s[j]).toNat_lt
      by_cases hn : ((s[j]).toNat : Int) = 10
      · have hR : Hid (quoted q s.data.toList = -1) := hid (by rw [hrel.out, qEnd_nl hby hn])
        clear hby hrel
        go_wp2
        go_ret
        exact ⟨ret_int hR.out.symm, rfl⟩
      by_cases hqq : ((s[j]).toNat : Int) = q
      · have hR : Hid (quoted q s.data.toList = (j : Int) + 1) := hid (by rw [hrel.out, qEnd_hit hby hn hqq])
        clear hby hrel
        go_wp2
        go_ret
        exact ⟨ret_int hR.out.symm, rfl⟩
      by_cases he : ((s[j]).toNat : Int) = 92
      · have hBj := hB.out ((j : Int) + 1)
        by_cases hnl : byteI s.data.toList ((j : Int) + 1) = 10
        · have hR : Hid (quoted q s.data.toList = -1) := hid (by have := qEnd_escnl2 hby hqq he hnl; rw [hrel.out, this.1])
          rw [hnl] at hBj
          clear hby hrel
          go_wp2_with (go_at_call 171; refine Calls.mono (by assumption) ?_; rintro e w' ⟨rfl, rfl⟩)
          go_ret
          exact ⟨ret_int hR.out.symm, rfl⟩
        · have hR : Hid (quoted q s.data.toList = qEnd q (j + 2) (s.data.toList.drop (j + 2))) := hid (by rw [hrel.out, qEnd_esc hby hqq he hnl])
          clear hby hrel
          generalize byteI s.data.toList ((j : Int) + 1) = bb at hBj hnl
          go_wp2_with (go_at_call 171; refine Calls.mono (by assumption) ?_; rintro e w' ⟨rfl, rfl⟩)
          go_round
          case rel => exact ⟨j + 2, by go_num, by omega, by omega, hR⟩
          case measure => simp [intOf]; omega
      · have hR : Hid (quoted q s.data.toList = qEnd q (j + 1) (s.data.toList.drop (j + 1))) := hid (by rw [hrel.out, qEnd_next hby hn hqq he])
        clear hby hrel
        go_wp2
        go_round
        case rel => exact ⟨j + 1, by go_num, by omega, by omega, hR⟩
        case measure => simp [intOf]; omega
    · have hR : Hid (quoted q s.data.toList = -1) := hid (by rw [hrel.out, qEnd_past (by show s.size ≤ j; omega)])
      clear hrel
      go_wp2
      go_ret
      exact ⟨ret_int hR.out.symm, rfl⟩
  · have hR : Hid (quoted q s.data.toList = -1) := hid (by unfold quoted; rw [if_neg h0])
    have hB0 := hB 0
    generalize byteI s.data.toList 0 = b0 at hB0 h0 hb0
    clear hB
    go_enter Tryz.func172, Tryz.ntmps172
    go_wp2_with (go_at_call 171; refine Calls.mono (by assumption) ?_; rintro e w' ⟨rfl, rfl⟩)
    go_ret
    exact ⟨ret_int hR.out.symm, rfl⟩
end Go.Proofs.YtkelhmgdajiocaaGreatDoor
