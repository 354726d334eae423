/- Walks and lemmas of this seat (FMaskI): what each theorem says of the functions that it names. Conditions: those that each theorem states. -/
import Derived.Test.YtfabfkaolnidiaaFLayI0
namespace Go.Proofs.Ytfabfkaolnidiaa
set_option linter.unusedVariables false
set_option linter.unusedSimpArgs false
open Go.RowKit

/-- Is the group of this number flat? -/
def maskB (m k : Nat) : Bool := m / 2 ^ k % 2 == 1
def maskDec (m : Nat) : Nat → List LIt → LIt → Bool := fun _ _ x => maskB m x.d.group.toNat

theorem bits_and1 (a : Nat) (ha : a < 9223372036854775808) : bits .and .i64 (a : Int) 1 = ((a % 2 : Nat) : Int) := by
  have h1 : (BitVec.ofInt 64 (a : Int)).toNat = a := by
    rw [BitVec.ofInt_natCast, BitVec.toNat_ofNat]; exact Nat.mod_eq_of_lt (by omega)
  have h2 : (BitVec.ofInt 64 ((1 : Nat) : Int)).toNat = 1 := by
    rw [BitVec.ofInt_natCast, BitVec.toNat_ofNat]
  show IntKind.i64.wrap ((BitVec.ofInt 64 (a : Int) &&& BitVec.ofInt 64 ((1 : Nat) : Int)).toNat : Int) = _
  rw [BitVec.toNat_and, h1, h2, Nat.and_one_is_mod, wrap_nat _ (by omega)]
theorem mask_test (m k : Nat) (hm : m ≤ 1000) : (bits .and .i64 ((m : Int) / 2 ^ k) 1 == 1) = maskB m k := by
  have h1 : (m : Int) / 2 ^ k = ((m / 2 ^ k : Nat) : Int) := by push_cast; rfl
  have h2 : m / 2 ^ k ≤ m := Nat.div_le_self _ _
  rw [h1, bits_and1 _ (by omega)]
  unfold maskB
  rcases Nat.mod_two_eq_zero_or_one (m / 2 ^ k) with h | h <;> rw [h] <;> rfl

set_option maxRecDepth 100000 in
set_option maxHeartbeats 3200000 in
theorem maskClosure (mb pb m gk : Nat) (ok : Bool) (W : World) (x : Doc) (kv : Value) (S : Nat → Prop) (hm : m ≤ 1000) (hg : x.group = (gk : Int)) (hgk : gk ≤ 8)
    (h1 : W.cell? ⟨mb, 0, none⟩ = some (.int .i64 m)) (h2 : W.heap[pb]? = some (.cells #[.bool ok] 4 (0, 0))) (hd : DocIs S W x kv) (hms : x.mass ≤ 100000000000) :
    Calls Try.prog 50 #[.agg #[.int .i64 x.kind, .int .i64 x.n, .string x.text, kv, .int .i64 x.group], .pointer (some ⟨mb, 0, none⟩), .pointer (some ⟨pb, 0, none⟩)] W fun e W' => e = .returned (.bool (maskB m gk)) ∧ FrB (some pb) W W' ∧ PB W' (some pb) (ok && (!maskB m gk || x.flat.isSome)) := by
  obtain ⟨xa, xn, xc, rfl⟩ := hd.shape
  have hflt := hid fun (o : Obj) => implflat_any _ x (.slice xa xn xc) (W.alloc o) S (Nat.lt_succ_self _) hms (hd.mono ((Below.refl _ _).alloc (Nat.le_refl _) o) (Nat.le_refl _))
  rw [hg] at hflt ⊢
  have q1 := fun o => carryA o h1
  have g0 : (0 : Int) ≤ (gk : Int) := by omega
  have g1 : (gk : Int) ≤ 64 := by omega
  have hmk := mask_test m gk hm
  have hml := World.block_lt_of_cell? W _ h1
  have hpl : pb < W.heap.size := heap_lt h2
  replace h2 := hid h2
  generalize maskB m gk = b at hmk ⊢
  cases b with
  | false =>
    go_enter Try.func50, Try.ntmps50
    go_wp2
    go_ret
    exact ⟨rfl, frB_of ((Below.refl _ _).alloc (Nat.le_refl _) _), by
      have h9 : PB W (some pb) ok := h2.out
      simpa using h9.below ((Below.refl _ _).alloc (Nat.le_refl _) _)⟩
  | true =>
    cases ok
    all_goals go_enter Try.func50, Try.ntmps50
    all_goals go_wp2_with (go_at_call 44; refine (hflt.out _).mono ?_; rintro e w2 ⟨rfl, hb2⟩; have hB2 := ((Below.refl W.heap.size W).alloc (Nat.le_refl _) _).trans (hb2.mono (by simp)); have hp2 := (hB2.block pb hpl).trans h2.out; have p0 : w2.cell? ⟨pb, 0, none⟩ = some (.bool _) := box_cell hp2 rfl; have p1 : w2.frozen? ⟨pb, 0, none⟩ = false := box_froz hp2; replace hB2 := hid hB2; replace hp2 := hid hp2)
    all_goals go_ret
    all_goals exact (by
      refine ⟨rfl, ⟨hB2.out.os, hB2.out.tape, hB2.out.output, by simpa using hB2.out.size, fun i hi hne => (heap_setCell_other w2 ⟨pb, 0, none⟩ i _ (fun e => hne (congrArg some e))).trans (hB2.out.block i hi)⟩, ?_⟩
      first
        | (have h9 := heap_setCell_at (j := 0) (u := .bool x.flat.isSome) hp2.out
           simpa [PB] using h9)
        | (have h9 := heap_setCell_at (j := 0) (u := .bool false) hp2.out
           simpa [PB] using h9))
end Go.Proofs.Ytfabfkaolnidiaa
