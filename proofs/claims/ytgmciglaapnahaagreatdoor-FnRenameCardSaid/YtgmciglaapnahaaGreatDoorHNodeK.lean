/- Walks and lemmas of this seat (HNodeK): what each theorem says of the functions that it names. Conditions: those that each theorem states. -/
import Derived.Test.YtgmciglaapnahaaGreatDoorHNodeH
namespace Go.Proofs.YtgmciglaapnahaaGreatDoor
set_option linter.unusedVariables false
set_option linter.unusedSimpArgs false
open Go.RowKit

/-! Marks of nodes whose texts may be of any size. -/
def Node.kls (x : Node) : Nat := x.kids.length
theorem endNode_leK (l : List Node) : ∀ u, endNode u l ≤ u + 4 * l.length + (l.map Node.kls).sum := by
  induction l with
  | nil => intro u; simp [endNode]
  | cons x l ih =>
    intro u
    have := ih (u + 4 + x.kids.length)
    simp only [endNode, List.map_cons, List.sum_cons, List.length_cons]
    have h2 : x.kids.length ≤ Node.kls x := by exact Nat.le_refl _
    omega
set_option maxRecDepth 100000 in
set_option maxHeartbeats 2000000 in
theorem markNodeK_any {lo hi : Nat} (l : List Node) (v : Value) (k0 : Nat) (w : World) (hn : bulk Node.kls l ≤ 1048576) (hk0 : k0 ≤ 5242880) (h : OwnNode w lo hi v l) :
    Calls Tryz.prog 67 #[v, .int .i64 k0] w fun e w' => e = .returned (.int .i64 (endNode k0 l : Nat)) ∧ Fr lo hi w w' ∧ OwnNode w' lo hi v (markLNode k0 l) := by
  obtain ⟨q, rfl, hraw⟩ := h.raw
  clear h
  obtain ⟨a, cap, rfl, hm⟩ := own_slice hraw.row.1
  unfold maxLen at hm
  have hlb := length_bulk Node.kls (q.map Prod.fst)
  rw [List.length_map] at hlb
  go_enter Tryz.func67, Tryz.ntmps67
  go_wp2
  go_loopw [1, 5] (fun kv i wr => ∃ (k u : Nat) (r : List (Node × Value)), i = .int .i64 k ∧ k ≤ q.length ∧ kv = .int .i64 u ∧ u ≤ 16777216 - 2097152 ∧ Hid (u = endNode k0 ((q.map Prod.fst).take k)) ∧ Fr lo hi w wr ∧ RawNode wr lo hi (.slice a q.length cap) r ∧ r.length = q.length ∧ Hid (r.drop k = q.drop k) ∧ Hid ((r.map Prod.fst).take k = markLNode k0 ((q.map Prod.fst).take k))) (fun _ i _ => q.length - (intOf i).toNat)
  case atStart => exact ⟨0, k0, q, rfl, by omega, rfl, by omega, hid rfl, Fr.refl _ _ _, hraw, rfl, hid rfl, hid rfl⟩
  obtain ⟨k, u, r, rfl, hk, rfl, hu, HU, hfr, hR0, hrl, hdrop, htake⟩ := hrel
  have HRL := hid hrl
  have hrl1 : r.length ≤ q.length := by omega
  have hrl2 : q.length ≤ r.length := by omega
  by_cases hlt : k < q.length
  · obtain ⟨p, hp⟩ := get_of_lt (l := r) (k := k) (by omega)
    have hR : RawN 3 wr 40 5 lo hi (.slice a q.length cap) r.length (r.flatMap Node.cells) (r.map fun p => (p.2, p.1.kids)) := hR0
    rw [hrl] at hR
    clear hrl hR0
    obtain ⟨g, rfl⟩ := own_some hR.row.1 (by omega)
    have hcl : p.1.kids.length ≤ 1048576 := by
      have hq : q[k]? = some p := by have := congrArg (fun z => z[0]?) hdrop.out; simp at this; rw [← this]; exact hp
      have := bulk_mem Node.kls (List.mem_map_of_mem (f := Prod.fst) (List.mem_of_getElem? hq))
      unfold Node.kls at this hn
      omega
    have HP := hid hp
    clear hp hraw
    obtain ⟨⟨d0, e0⟩, z0⟩ := hR.cell (k * 5) (by omega)
    obtain ⟨⟨d1, e1⟩, z1⟩ := hR.cell (k * 5 + 1) (by omega)
    go_wp2_with fail
    refine (markText_int _ (u + 2) _ (by omega) (by omega)).mono ?_; rintro e x1 ⟨rfl, hx1⟩
    have hR1 := ((hR.set (k * 5) (.int .i64 ((u : Int)))).set (k * 5 + 1) (.int .i64 ((u : Int) + 1))).below hx1 (Nat.le_refl _)
    have hF1 := (((((hfr).trans (hR.fr_set (k * 5) (.int .i64 ((u : Int)))))).trans ((hR.set (k * 5) (.int .i64 ((u : Int)))).fr_set (k * 5 + 1) (.int .i64 ((u : Int) + 1))))).trans (Fr.of_below (lo := lo) (hi := hi) hx1)
    obtain ⟨⟨d2, e2⟩, z2⟩ := hR1.cell (k * 5 + 2) (by omega)
    go_wp2_with fail
    refine (markText_int _ (u + 3) _ (by omega) (by omega)).mono ?_; rintro e x2 ⟨rfl, hx2⟩
    have hR2 := (hR1.set (k * 5 + 2) (.string (markT (u + 2)))).below hx2 (Nat.le_refl _)
    have hF2 := (((hF1).trans (hR1.fr_set (k * 5 + 2) (.string (markT (u + 2)))))).trans (Fr.of_below (lo := lo) (hi := hi) hx2)
    obtain ⟨⟨d3, e3⟩, z3⟩ := hR2.cell (k * 5 + 3) (by omega)
    have hRZ := hid (hR2.set (k * 5 + 3) (.string (markT (u + 3))))
    have hFZ := hid ((hF2).trans (hR2.fr_set (k * 5 + 3) (.string (markT (u + 3)))))
    have hxs := flat_setNode HP.out [.int .i64 ((u : Int)), .int .i64 ((u : Int) + 1), .string (markT (u + 2)), .string (markT (u + 3))] rfl (mkNode u p.1, p.2) rfl
    simp only [setAll] at hxs
    have hRY := hRZ.out
    rw [hxs] at hRY
    have hkv : (r.map fun p => (p.2, p.1.kids))[k]? = some (p.2, p.1.kids) := by rw [List.getElem?_map, HP.out]; rfl
    have hown0 : World.ownsRow _ lo 3 1 p.2 p.1.kids.length (p.1.kids.flatMap int1) := (hRY.kids _ (List.mem_of_getElem? hkv)).1
    have hown := hid hown0
    have hcell := hRY.read (flat_get Node.cells 5 Node.len (r.set k (mkNode u p.1, p.2)) k 4 (mkNode u p.1, p.2) p.2 (by rw [List.getElem?_set, if_pos rfl, if_pos (by omega)]) rfl)
    have HKV := hid hkv
    have HRY := hid hRY
    have HXS := hid hxs
    clear hxs hkv hRY hown0
    obtain ⟨ka, kc, hpk, _⟩ := own_slice hown.out
    rw [hpk] at hcell
    go_wp2_with (go_at_call 160; rw [← hpk]; refine (markIntS_any p.1.kids p.2 (u + 4) _ (by omega) (by omega) hown.out).mono ?_; rintro e wz ⟨rfl, hgz, hoz⟩)
    have hRM := HRY.out.mark HKV.out hgz (ks' := markLInt (u + 4) p.1.kids.length) (by rw [markLInt_len]; exact hoz)
    have hRF : RawNode wz lo hi (.slice (some ⟨g, 0, none⟩) q.length cap) (r.set k (mkNode u p.1, p.2)) := by
      unfold RawNode; rw [List.length_set, HRL.out, List.map_set]; exact hRM
    have hFR := hFZ.out.trans (HRY.out.fr_mark (List.mem_of_getElem? HKV.out) hgz)
    have hq : q[k]? = some p := by have := congrArg (fun z => z[0]?) hdrop.out; simp at this; rw [← this]; exact HP.out
    have hq1 : (q.map Prod.fst)[k]? = some p.1 := by rw [List.getElem?_map, hq]; rfl
    have hend := endNode_take hq1 k0
    rw [← HU.out] at hend
    have hle := endNode_leK ((q.map Prod.fst).take (k + 1)) k0
    have hle2 := sum_take_le Node.kls (q.map Prod.fst) (k + 1)
    have hle3 : ((q.map Prod.fst).take (k + 1)).length ≤ q.length := by rw [List.length_take, List.length_map]; exact Nat.min_le_right _ _
    have hbound : u + 4 + p.1.kids.length ≤ 16777216 - 2097152 := by
      rw [← hend]
      unfold bulk at hn
      rw [List.length_map] at hn
      omega
    go_roundw
    case rel =>
      refine ⟨k + 1, u + 4 + p.1.kids.length, r.set k (mkNode u p.1, p.2), by go_num, by omega, by go_num, hbound, hid hend.symm, hFR, hRF, by rw [List.length_set]; exact HRL.out, hid ?_, hid ?_⟩
      · rw [List.drop_set_of_lt (by omega)]
        have := congrArg (List.drop 1) hdrop.out
        simpa using this
      · rw [markLNode_take hq1, ← HU.out, take_next (x := mkNode u p.1) (by rw [List.getElem?_map, List.getElem?_set, if_pos rfl, if_pos (by omega)]; rfl), List.map_set, take_set_self, htake.out]
    case measure => simp [intOf]; omega
  · go_wp2
    go_ret
    have hkq : k = q.length := by omega
    subst hkq
    have e1 : (q.map Prod.fst).take q.length = q.map Prod.fst := List.take_of_length_le (by simp)
    have e2 : (r.map Prod.fst).take q.length = r.map Prod.fst := List.take_of_length_le (by simp; omega)
    rw [e1, e2] at htake
    rw [e1] at HU
    refine ⟨ret_int (by rw [HU.out]), hfr, ?_⟩
    rw [← htake.out]; exact hR0.own

set_option maxRecDepth 100000 in
set_option maxHeartbeats 3200000 in
theorem heldNodeK_any (l : List Node) (v : Value) (k0 : Nat) (w : World) (hn : bulk Node.kls l ≤ 1048576) (hk0 : k0 ≤ 5242880) (hv : NodeSlc w v (markLNode k0 l)) :
    Calls Tryz.prog 68 #[v, .int .i64 k0] w fun e w' => e = .returned (.int .i64 (endNode k0 l : Nat)) ∧ Below w.heap.size w w' := by
  obtain ⟨a, cap, rfl, hm, hc, hsl⟩ := hv.shape
  rw [markLNode_len] at hsl hc ⊢
  have hat := fun (wr : World) (hb : Below w.heap.size w wr) (k : Nat) (hk : k < l.length) => NodeSlc.at (w := w) (wr := wr) (k := k) (l := markLNode k0 l) (by rw [markLNode_len]; exact hsl) hb (Nat.le_refl _) (by rw [markLNode_len]; exact hk)
  have hlb := length_bulk Node.kls l
  replace hat := hid hat
  clear hsl hv
  go_enter Tryz.func68, Tryz.ntmps68
  go_wp2
  go_loopw [1, 5] (fun kv i wr => ∃ (k u : Nat), i = .int .i64 k ∧ k ≤ l.length ∧ kv = .int .i64 u ∧ u ≤ 16777216 - 2097152 ∧ Hid (u = endNode k0 (l.take k)) ∧ Below w.heap.size w wr) (fun _ i _ => l.length - (intOf i).toNat)
  case atStart => exact ⟨0, k0, rfl, by omega, rfl, by omega, hid rfl, Below.refl _ _⟩
  obtain ⟨k, u, rfl, hk, rfl, hu, HU, hb⟩ := hrel
  by_cases hlt : k < l.length
  · obtain ⟨x, hx⟩ := get_of_lt hlt
    obtain ⟨x', ka, kc, b, off, hx', rfl, c0, c1, c2, c3, c4, hkd⟩ := hat.out wr hb k hlt
    rw [markLNode_get hx, ← HU.out] at hx'
    obtain rfl : mkNode u x = x' := by simpa using hx'
    clear hx'
    have hxs := Nat.le_trans (bulk_mem Node.kls (List.mem_of_getElem? hx)) hn
    unfold Node.kls at hxs
    have hend := endNode_take hx k0
    rw [← HU.out] at hend
    have hle := endNode_leK (l.take (k + 1)) k0
    have hle2 := sum_take_le Node.kls l (k + 1)
    have hle3 : (l.take (k + 1)).length ≤ l.length := by rw [List.length_take]; exact Nat.min_le_right _ _
    have hbound : u + 4 + x.kids.length ≤ 16777216 - 2097152 := by
      rw [← hend]
      unfold bulk at hn
      omega
    replace hend := hid hend
    have hkl : (mkNode u x).kids.length = x.kids.length := by simp [mkNode, markLInt_len]
    rw [hkl] at c4 hkd
    have hkd2 : Slc wr (.slice ka x.kids.length kc) 1 x.kids.length ((markLInt (u + 4) x.kids.length).flatMap int1) := hkd
    clear hkl hkd hx hle hle2 hle3
    simp only [mkNode] at c0 c1 c2 c3
    generalize x.kids.length = nk at *
    go_wp2_with fail
    go_region_held3 (fun w2 => Below wr.heap.size wr w2 ∧ w2.cell? ⟨b, off + k * 5 + 2, none⟩ = some (.string (markT (u + 2)))) (first | exact ⟨(Below.refl _ _).drew, c2⟩ | exact keep_cell2 (by assumption) hbx0 c2 | exact keep_cell (by assumption) hbx0 c2 (Nat.le_refl _) | go_keep) (first | (go_at_call 159; refine (markText_int _ (u + 2) _ (by omega) (by omega)).mono ?_; rintro e wx0 ⟨rfl, hbx0⟩))
    have hS0 := (‹Below wr.heap.size wr wx0 ∧ _›).1
    have hB0 := hb.trans (hS0.mono hb.size)
    have d3 := cell_up hS0 (Nat.le_refl _) c3
    have d4 := cell_up hS0 (Nat.le_refl _) c4
    have hk0' := hkd2.mono hS0 (Nat.le_refl _)
    clear c0 c1 c2 c3 c4 hkd2
    go_wp2_with fail
    go_region_held3 (fun w2 => Below wx0.heap.size wx0 w2 ∧ w2.cell? ⟨b, off + k * 5 + 3, none⟩ = some (.string (markT (u + 3)))) (first | exact ⟨(Below.refl _ _).drew, d3⟩ | exact keep_cell2 (by assumption) hbx1 d3 | exact keep_cell (by assumption) hbx1 d3 (Nat.le_refl _) | go_keep) (first | (go_at_call 159; refine (markText_int _ (u + 3) _ (by omega) (by omega)).mono ?_; rintro e wx1 ⟨rfl, hbx1⟩))
    have hS1 := (‹Below wx0.heap.size wx0 wx1 ∧ _›).1
    have hB1 := hB0.trans (hS1.mono hB0.size)
    have e4 := cell_up hS1 (Nat.le_refl _) d4
    have hk1' := hid (hk0'.mono hS1 (Nat.le_refl _))
    clear d3 d4 hk0'
    go_wp2_with fail
    refine (heldIntS_any nk _ (u + 4) _ (by omega) (by omega) hk1'.out).mono ?_; rintro e wx2 ⟨rfl, hbx2⟩
    go_wp2
    go_roundw
    case rel => exact ⟨k + 1, u + 4 + nk, by go_num, by omega, by go_num, hbound, hid hend.out.symm, hB1.trans (hbx2.mono hB1.size)⟩
    case measure => simp [intOf]; omega
  · go_wp2
    go_ret
    exact ⟨ret_int (by rw [HU.out, List.take_of_length_le (by omega)]), hb⟩

end Go.Proofs.YtgmciglaapnahaaGreatDoor
