/- Walks and lemmas of this seat (FLine): what each theorem says of the functions that it names. Conditions: those that each theorem states. -/
import Derived.Test.YtfabfkaolnidiaaFLayW
import Derived.Test.YtfabfkaolnidiaaShelf
namespace Go.Proofs.Ytfabfkaolnidiaa
set_option linter.unusedVariables false
set_option linter.unusedSimpArgs false
open Go.RowKit

set_option maxRecDepth 100000 in
set_option maxHeartbeats 3200000 in
theorem implline_any (g B : Nat) (ov : Value) (c : Int) (tv : Value) (acc : List UInt8) (n : Nat) (w : World)
    (hbox : Wr w g ov c tv) (hgB : g < B) (hB : B ≤ w.heap.size) (hown : w.ownsRow B 5 1 ov acc.length (acc.flatMap byte1)) (hl : acc.length ≤ 100000000000) (hn : n ≤ 1000000) :
    Calls Try.prog 64 #[.pointer (some ⟨g, 0, none⟩), .int .i64 n] w fun e w' => e = .returned (.tuple #[]) ∧ ∃ ov', Wr w' g ov' n tv ∧ w'.ownsRow B 5 1 ov' (acc ++ brk n).length ((acc ++ brk n).flatMap byte1) ∧ Lk g 5 B w w' := by
  obtain ⟨i0, hi, hz0, hz1, hz2⟩ := info_parts Try.info5
  obtain ⟨sb, hsb⟩ : ∃ sb : ByteArray, sb = ⟨(Lib.repeatL (⟨#[32]⟩ : ByteArray).data.toList n).toArray⟩ := ⟨_, rfl⟩
  have hrl : Lib.repeatL (⟨#[32]⟩ : ByteArray).data.toList n = List.replicate n 32 := by
    have := Lib.repeatL_replicate 32 1 n
    rw [Nat.mul_one] at this
    exact this
  have hss : sb.size = n := by rw [hsb, hrl]; show (List.replicate n (32 : UInt8)).toArray.size = n; simp
  have hsc : Hid (Lib.strCells sb = (List.replicate n 32).flatMap byte1) := hid (by rw [strCells_eq, hsb, hrl])
  have hrep := hid fun W => Try.strings_Repeat ⟨#[32]⟩ n W (by omega) (by show 1 * n ≤ _; omega)
  rw [← hsb] at hrep
  clear hsb hrl
  have t0 := hbox.c0
  have f0 := hbox.fr 0
  have hgl := hbox.lt
  have hbox2 := hid hbox
  clear hbox
  go_enter Try.func64, Try.ntmps64
  go_wp2_with (at_builtin; refine Hid.out ?_)
  refine hid ?_
  refine wpList_append_own _ rfl _ _ 38 rfl B 5 i0 _ 1 1 Try.underlying38 hi hz0 hz1 hz2 rfl (by decide) _ acc.length (acc.flatMap byte1) rfl (hown.alloc _) _ _ _ (byte1 10) rfl rfl (new_cells_at _ _ _ _ _ rfl (by first | rfl | simp)) (by intro u hu; simp [byte1] at hu; subst hu; rfl) (by unfold maxLen; omega) (by omega) (by simp; omega) ?_
  intro v1 w1 hown1 hgr1 hiff1
  have hL1 : Hid (Lk g 5 B w w1) := hid (((Lk.refl _ _ _ _).alloc _).trans (Lk.app (hown.alloc _) hgr1))
  have hW1 : Wr w1 g ov c tv := (hbox2.out.alloc _).of (grown_at (hown.alloc _) hgr1 hgB (by simp; omega))
  have ho1 : w1.ownsRow B 5 1 v1 (acc ++ [10]).length ((acc ++ [10]).flatMap byte1) := by simpa using hown1
  have hs1 := hL1.out.size
  have hal : (acc ++ [10]).length = acc.length + 1 := by simp
  have hbk : Hid (acc ++ brk n = (acc ++ [10]) ++ List.replicate n 32) := hid (by simp [brk])
  have hbl : Hid ((acc ++ brk n).length = (acc ++ [10]).length + n) := hid (by rw [hbk.out, List.length_append, List.length_replicate])
  obtain ⟨A, hA⟩ : ∃ A, A = acc ++ [10] := ⟨_, rfl⟩
  rw [← hA] at ho1 hal hbk hbl
  clear hgr1 hiff1 hown1 t0 f0 hown hA
  have hal2 := hid hal
  have hAl : A.length ≤ 100000000001 := by omega
  clear hal
  replace hss := hid hss
  have hsn : sb.size ≤ 1000000 := by have := hss.out; omega
  go_wp2_with (first
    | (go_at_call 74; refine (hrep.out _).mono ?_; rintro e w2 ⟨rfl, hb2⟩; have hW2 := hW1.below hb2; have ho2 := own_below ho1 hb2 (Nat.le_refl _); have hs2 := hb2.size; have hgl2 := hW2.lt)
    | (at_builtin; refine Lib.wpList_append_own_string _ rfl _ _ 38 9 rfl B 5 i0 Try.underlying38 Try.underlying9 hi hz0 hz1 hz2 v1 A.length (A.flatMap byte1) rfl ho2 sb rfl (by unfold maxLen; omega) (by omega) (by omega) ?_; intro v3 w3 hown3 hgr3 hiff; obtain ⟨va, vc, rfl, hvm⟩ := own_slice hown3; have hW3 : Wr w3 g ov c tv := hW2.of (grown_at ho2 hgr3 hgB hgl2); have q2 := hW3.c0; have q3 := hW3.fr 0; have hW4 := hW3.s0 (.slice va (A.length + sb.size) vc); have r2 := hW4.c1; have r3 := hW4.fr 1; replace hW4 := hid hW4; clear hW3))
  all_goals go_end0
  all_goals exact (by
    have hL3 : Lk g 5 B w w3 := (hL1.out.trans (Lk.of_below hb2)).trans (Lk.app ho2 hgr3)
    refine ⟨rfl, _, hW4.out.s1 n, ?_, (hL3.set 0 _).set 1 _⟩
    rw [hbl.out, hbk.out, List.flatMap_append, ← hsc.out, ← hss.out]
    exact own_setCell (own_setCell hown3 hgB) hgB)
end Go.Proofs.Ytfabfkaolnidiaa
