/- Walks and lemmas of this seat (HNode): what each theorem says of the functions that it names. Conditions: those that each theorem states. -/

import Derived.Test.YtfdmfkonneonaaaDoorRows
import Derived.Test.YtfdmfkonneonaaaDoorHInt

import Derived.Test.YtfdmfkonneonaaaDoorDataNode
namespace Go.Proofs.YtfdmfkonneonaaaDoor
set_option linter.unusedVariables false
set_option linter.unusedSimpArgs false
open Go.RowKit

section
open Go.ChangeShapes Go.WideShapes Go.ChangeAt
variable {H : Type} {enc : TypeId × Value → H} {w : World} {spare : Nat → Bool}
/-- A []int among the cells of a struct. -/
theorem kidsNode {cs : List Value} {n : Nat} {y : DataW H × List MemPlace} (h : DataW.trod enc Tryd.prog w 0 spare true n 32 cs = some y) : ∃ (kv : Value) (ks : List Int), cs = [kv] ∧ Slc w kv 1 ks.length (ks.flatMap int1) ∧ (∀ k ∈ ks, I64 k) ∧ ks.length ≤ maxLen := by
  have hsh : ∃ a len cap, cs = [.slice a len cap] := by
    rcases DataW.trod_slice Tryd.underlying32 h with ⟨h0, _⟩ | ⟨a, len, cap, _, _, _, _, h0, _⟩
    · exact ⟨_, _, _, h0⟩
    · exact ⟨_, _, _, h0⟩
  obtain ⟨a, len, cap, rfl⟩ := hsh
  obtain ⟨ks, h1, h2⟩ := open_rows (f := int1) (Q := I64) int1_len (by decide) Tryd.underlying32 (by kernel_rfl) decInt (v := .slice a len cap) ⟨_, _, _, rfl⟩ ⟨n, h⟩
  have h3 := h1
  obtain ⟨_, a', cap', _, h4, h5, _⟩ := h3
  exact ⟨_, ks, rfl, h1, h2, Nat.le_trans h4 h5⟩
end


theorem Tryd.info34 : (Tryd.prog.info? 34).map (fun i => (i.zero, i.size, i.bytes)) = some (some (.agg #[.int .i64 0, .int .i64 0, .string ⟨#[]⟩, .string ⟨#[]⟩, .slice none 0 0]), 5, 72) := by kernel_rfl

theorem eqNode_any (x y : Node) (kx ky : Value) (w : World) (hkx : Slc w kx 1 x.kids.length (x.kids.flatMap int1)) (hky : Slc w ky 1 y.kids.length (y.kids.flatMap int1)) :
    Calls Tryd.prog 17 #[.agg #[.int .i64 x.kind, .int .i64 x.op, .string x.text, .string x.other, kx], .agg #[.int .i64 y.kind, .int .i64 y.op, .string y.text, .string y.other, ky]] w fun e w' => e = .returned (.bool (eqNode x y)) ∧ Below w.heap.size w w' := by
  have hbx : Below w.heap.size w ((w.alloc (.cells #[.int .i64 x.kind, .int .i64 x.op, .string x.text, .string x.other, kx] 34)).alloc (.cells #[.int .i64 y.kind, .int .i64 y.op, .string y.text, .string y.other, ky] 34)) := by repeat (first | exact Below.refl _ _ | refine Below.alloc ?_ (by first | omega | (simp; done) | (simp; omega)) _ | refine Below.drew ?_)
  have hkx1 := hkx.mono hbx (Nat.le_refl _)
  have hky1 := hky.mono hbx (Nat.le_refl _)
  clear hkx hky
  go_enter Tryd.func17, Tryd.ntmps17
  go_wp2_with fail
  all_goals first
    | (go_ret; exact ⟨ret_bool (by unfold eqNode; simp_all), hbx⟩)
    | (refine (eqIntS_any x.kids y.kids kx ky _ hkx1 hky1).mono ?_; rintro e w2 ⟨rfl, hb2⟩
       go_wp2
       all_goals go_ret
       all_goals exact ⟨ret_bool (by unfold eqNode; simp_all), hbx.trans (hb2.mono hbx.size)⟩)

set_option maxRecDepth 100000 in
theorem eqNodeS_any (l r : List Node) (v u : Value) (w : World) (hv : NodeSlc w v l) (hu : NodeSlc w u r) :
    Calls Tryd.prog 7 #[v, u] w fun e w' => e = .returned (.bool (eqList eqNode l r)) ∧ Below w.heap.size w w' := by
  obtain ⟨ql, rfl, ⟨_, a, cap, rfl, hc, hm, hrow⟩, hkl⟩ := hv
  obtain ⟨qr, rfl, ⟨_, a', cap', rfl, hc', hm', hrow'⟩, hkr⟩ := hu
  unfold maxLen at hm hm'
  by_cases hlen : ql.length = qr.length
  · have hle : ((ql.length : Int) != (qr.length : Int)) = false := by rw [hlen]; simp
    have HL := hid hlen
    have hl1 : ql.length ≤ qr.length := by omega
    have hl2 : qr.length ≤ ql.length := by omega
    clear hlen
    go_enter Tryd.func7, Tryd.ntmps7
    go_wp2
    go_loopw [5] (fun i wr => ∃ (k : Nat), i = .int .i64 k ∧ k ≤ ql.length ∧ Below w.heap.size w wr ∧ Hid (eqList eqNode (ql.map Prod.fst) (qr.map Prod.fst) = eqLoop eqNode ((ql.drop k).map Prod.fst) ((qr.drop k).map Prod.fst))) (fun i _ => ql.length - (intOf i).toNat)
    case atStart => exact ⟨0, rfl, by omega, Below.refl _ _, by show eqList _ _ _ = _; rw [eqList, if_pos (by simpa using HL.out)]; rfl⟩
    obtain ⟨k, rfl, hk, hb, hrel⟩ := hrel
    by_cases hlt : k < ql.length
    · obtain ⟨x, hx⟩ := get_of_lt hlt
      obtain ⟨y, hy⟩ := get_of_lt (l := qr) (k := k) (by omega)
      obtain ⟨b, off, rfl, hro⟩ := slc_some hrow (by omega)
      obtain ⟨b', off', rfl, hro'⟩ := slc_some hrow' (by omega)
      have hrw := hro.mono hb (Nat.le_refl _)
      have hrw' := hro'.mono hb (Nat.le_refl _)
      have c0 := hrw.flat0 5 Node.len hx rfl
      have c1 := hrw.flat 5 Node.len hx 1 rfl
      have c2 := hrw.flat 5 Node.len hx 2 rfl
      have c3 := hrw.flat 5 Node.len hx 3 rfl
      have c4 := hrw.flat 5 Node.len hx 4 rfl
      have g0 := hrw'.flat0 5 Node.len hy rfl
      have g1 := hrw'.flat 5 Node.len hy 1 rfl
      have g2 := hrw'.flat 5 Node.len hy 2 rfl
      have g3 := hrw'.flat 5 Node.len hy 3 rfl
      have g4 := hrw'.flat 5 Node.len hy 4 rfl
      have hkx := (hkl x (List.mem_of_getElem? hx)).mono hb (Nat.le_refl _)
      have hky := (hkr y (List.mem_of_getElem? hy)).mono hb (Nat.le_refl _)
      rw [drop_cons hx, drop_cons hy, List.map_cons, List.map_cons] at hrel
      have hkr : k < qr.length := by omega
      clear hx hy
      by_cases hxy : eqNode x.1 y.1 = true
      · go_wp2_with fail
        go_still_tail 8, (by kernel_rfl)
        go_wp2_with (go_at_call 17; refine (eqNode_any x.1 y.1 x.2 y.2 _ (hkx.drew) (hky.drew)).mono ?_; rintro e w' ⟨rfl, hb1⟩)
        go_roundw
        case rel => exact ⟨k + 1, by go_num, by omega, hb.drew.trans (hb1.mono hb.size), by rw [hrel.out, eqLoop, if_pos hxy]; exact hid rfl⟩
        case measure => simp [intOf]; omega
      · have hxy' : eqNode x.1 y.1 = false := by simpa using hxy
        go_wp2_with fail
        go_still_tail 8, (by kernel_rfl)
        go_wp2_with (go_at_call 17; refine (eqNode_any x.1 y.1 x.2 y.2 _ (hkx.drew) (hky.drew)).mono ?_; rintro e w' ⟨rfl, hb1⟩)
        go_ret
        exact ⟨ret_bool (by rw [hrel.out, eqLoop, if_neg hxy]), hb.drew.trans (hb1.mono hb.size)⟩
    · go_wp2
      go_ret
      exact ⟨ret_bool (by rw [hrel.out, List.drop_of_length_le (l := ql) (by omega)]; simp [eqLoop]), hb⟩
  · have hle : ((ql.length : Int) != (qr.length : Int)) = true := by simp; omega
    have HL := hid hlen
    clear hlen
    go_enter Tryd.func7, Tryd.ntmps7
    go_wp2
    go_ret
    exact ⟨ret_bool (by rw [eqList, if_neg (by simpa using HL.out)]), Below.refl _ _⟩

end Go.Proofs.YtfdmfkonneonaaaDoor
