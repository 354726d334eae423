/- Walks and lemmas of this seat (HNodeH): what each theorem says of the functions that it names. Conditions: those that each theorem states. -/
import Derived.Test.YtmemgmcopnaogaaGreatDoorGA
namespace Go.Proofs.YtmemgmcopnaogaaGreatDoor
set_option linter.unusedVariables false
set_option linter.unusedSimpArgs false
open Go.RowKit

theorem markLNode_get {l : List Node} : ∀ {k : Nat} {x : Node}, l[k]? = some x → ∀ u, (markLNode u l)[k]? = some (mkNode (endNode u (l.take k)) x) := by
  induction l with
  | nil => intro k x h; simp at h
  | cons y l ih =>
    intro k x h u
    cases k with
    | zero => simp at h; subst h; simp [markLNode, endNode]
    | succ k => simp only [markLNode, List.getElem?_cons_succ, List.take_succ_cons, endNode]; exact ih (by simpa using h) _
theorem cell_up {B : Nat} {w w' : World} {a : Addr} {u : Value} (hb : Below B w w') (hB : w.heap.size ≤ B) (h : w.cell? a = some u) : w'.cell? a = some u :=
  (hb.cell (Nat.lt_of_lt_of_le (World.block_lt_of_cell? w _ h) hB)).trans h

set_option maxRecDepth 100000 in
set_option maxHeartbeats 3200000 in
theorem heldNodeS_any (l : List Node) (v : Value) (k0 : Nat) (w : World) (hn : bulk Node.sizes l ≤ 1048576) (hk0 : k0 ≤ 5242880) (hv : NodeSlc w v (markLNode k0 l)) :
    Calls Tryz.prog 26 #[v, .int .i64 k0] w fun e w' => e = .returned (.int .i64 (endNode k0 l : Nat)) ∧ Below w.heap.size w w' := by
  obtain ⟨a, cap, rfl, hm, hc, hsl⟩ := hv.shape
  rw [markLNode_len] at hsl hc ⊢
  have hat := fun (wr : World) (hb : Below w.heap.size w wr) (k : Nat) (hk : k < l.length) => NodeSlc.at (w := w) (wr := wr) (k := k) (l := markLNode k0 l) (by rw [markLNode_len]; exact hsl) hb (Nat.le_refl _) (by rw [markLNode_len]; exact hk)
  have hlb := length_bulk Node.sizes l
  replace hat := hid hat
  clear hsl hv
  go_enter Tryz.func26, Tryz.ntmps26
  go_wp2
  go_loopw [1, 5] (fun kv i wr => ∃ (k u : Nat), i = .int .i64 k ∧ k ≤ l.length ∧ kv = .int .i64 u ∧ u ≤ 16777216 - 2097152 ∧ Hid (u = endNode k0 (l.take k)) ∧ Below w.heap.size w wr) (fun _ i _ => l.length - (intOf i).toNat)
  case atStart => exact ⟨0, k0, rfl, by omega, rfl, by omega, hid rfl, Below.refl _ _⟩
  obtain ⟨k, u, rfl, hk, rfl, hu, HU, hb⟩ := hrel
  by_cases hlt : k < l.length
  · obtain ⟨x, hx⟩ := get_of_lt hlt
    obtain ⟨x', ka, kc, b, off, hx', rfl, c0, c1, c2, c3, c4, hkd⟩ := hat.out wr hb k hlt
    rw [markLNode_get hx, ← HU.out] at hx'
    obtain rfl : mkNode u x = x' := by simpa using hx'
    clear hx'
    have hxs := Nat.le_trans (bulk_mem Node.sizes (List.mem_of_getElem? hx)) hn
    unfold Node.sizes at hxs
    have hend := endNode_take hx k0
    rw [← HU.out] at hend
    have hle := endNode_le (l.take (k + 1)) k0
    have hle2 := sum_take_le Node.sizes l (k + 1)
    have hle3 : (l.take (k + 1)).length ≤ l.length := by rw [List.length_take]; exact Nat.min_le_right _ _
    have hbound : u + 4 + x.kids.length ≤ 16777216 - 2097152 := by
      rw [← hend]
      unfold bulk at hn
      omega
    replace hend := hid hend
    have hkl : (mkNode u x).kids.length = x.kids.length := by simp [mkNode, markLInt_len]
    rw [hkl] at c4 hkd
    have hkd2 : Slc wr (.slice ka x.kids.length kc) 1 x.kids.length ((markLInt (u + 4) x.kids.length).flatMap int1) := hkd
    clear hkl hkd hx hle hle2 hle3
    simp only [mkNode] at c0 c1 c2 c3
    generalize x.kids.length = nk at *
    go_wp2_with fail
    go_region_held3 (fun w2 => Below wr.heap.size wr w2 ∧ w2.cell? ⟨b, off + k * 5 + 2, none⟩ = some (.string (markT (u + 2)))) (first | exact ⟨(Below.refl _ _).drew, c2⟩ | exact keep_cell2 (by assumption) hbx0 c2 | exact keep_cell (by assumption) hbx0 c2 (Nat.le_refl _) | go_keep) (first | (go_at_call 72; refine (markText_int _ (u + 2) _ (by omega) (by omega)).mono ?_; rintro e wx0 ⟨rfl, hbx0⟩))
    have hS0 := (‹Below wr.heap.size wr wx0 ∧ _›).1
    have hB0 := hb.trans (hS0.mono hb.size)
    have d3 := cell_up hS0 (Nat.le_refl _) c3
    have d4 := cell_up hS0 (Nat.le_refl _) c4
    have hk0' := hkd2.mono hS0 (Nat.le_refl _)
    clear c0 c1 c2 c3 c4 hkd2
    go_wp2_with fail
    go_region_held3 (fun w2 => Below wx0.heap.size wx0 w2 ∧ w2.cell? ⟨b, off + k * 5 + 3, none⟩ = some (.string (markT (u + 3)))) (first | exact ⟨(Below.refl _ _).drew, d3⟩ | exact keep_cell2 (by assumption) hbx1 d3 | exact keep_cell (by assumption) hbx1 d3 (Nat.le_refl _) | go_keep) (first | (go_at_call 72; refine (markText_int _ (u + 3) _ (by omega) (by omega)).mono ?_; rintro e wx1 ⟨rfl, hbx1⟩))
    have hS1 := (‹Below wx0.heap.size wx0 wx1 ∧ _›).1
    have hB1 := hB0.trans (hS1.mono hB0.size)
    have e4 := cell_up hS1 (Nat.le_refl _) d4
    have hk1' := hid (hk0'.mono hS1 (Nat.le_refl _))
    clear d3 d4 hk0'
    go_wp2_with fail
    refine (heldIntS_any nk _ (u + 4) _ (by omega) (by omega) hk1'.out).mono ?_; rintro e wx2 ⟨rfl, hbx2⟩
    go_wp2
    go_roundw
    case rel => exact ⟨k + 1, u + 4 + nk, by go_num, by omega, by go_num, hbound, hid hend.out.symm, hB1.trans (hbx2.mono hB1.size)⟩
    case measure => simp [intOf]; omega
  · go_wp2
    go_ret
    exact ⟨ret_int (by rw [HU.out, List.take_of_length_le (by omega)]), hb⟩

end Go.Proofs.YtmemgmcopnaogaaGreatDoor
