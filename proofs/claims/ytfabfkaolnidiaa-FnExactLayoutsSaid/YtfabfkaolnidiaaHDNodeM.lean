/- Walks and lemmas of this seat (HDNodeM): what each theorem says of the functions that it names. Conditions: those that each theorem states. -/

import Derived.Test.YtfabfkaolnidiaaRows
import Derived.Test.YtfabfkaolnidiaaHIntM
import Derived.Test.YtfabfkaolnidiaaHMark
import Derived.Test.YtfabfkaolnidiaaDataDNode
namespace Go.Proofs.Ytfabfkaolnidiaa
set_option linter.unusedVariables false
set_option linter.unusedSimpArgs false
open Go.RowKit


/-- A marked struct; the number behind it; the marked list, the number behind that. -/
def mkDNode (u : Nat) (x : DNode) : DNode := ⟨((u : Nat) : Int), ((u + 1 : Nat) : Int), markT (u + 2), markLInt (u + 3) x.kids.length⟩
def markLDNode : Nat → List DNode → List DNode
  | _, [] => []
  | u, x :: l => mkDNode u x :: markLDNode (u + 3 + x.kids.length) l
def endDNode : Nat → List DNode → Nat
  | u, [] => u
  | u, x :: l => endDNode (u + 3 + x.kids.length) l
theorem markLDNode_len (l : List DNode) : ∀ u, (markLDNode u l).length = l.length := by
  induction l with
  | nil => intro u; rfl
  | cons x l ih => intro u; simp [markLDNode, ih]
theorem endDNode_le (l : List DNode) : ∀ u, endDNode u l ≤ u + 3 * l.length + (l.map DNode.sizes).sum := by
  induction l with
  | nil => intro u; simp [endDNode]
  | cons x l ih =>
    intro u
    have := ih (u + 3 + x.kids.length)
    simp only [endDNode, List.map_cons, List.sum_cons, List.length_cons]
    have h2 : x.kids.length ≤ DNode.sizes x := by unfold DNode.sizes; omega
    omega
theorem endDNode_take {l : List DNode} {k : Nat} {x : DNode} (h : l[k]? = some x) : ∀ u, endDNode u (l.take (k + 1)) = endDNode u (l.take k) + 3 + x.kids.length := by
  induction l generalizing k with
  | nil => simp at h
  | cons y l ih =>
    intro u
    cases k with
    | zero => simp at h; subst h; simp [endDNode]
    | succ k => simp only [List.take_succ_cons, endDNode]; exact ih (by simpa using h) _
theorem markLDNode_take {l : List DNode} {k : Nat} {x : DNode} (h : l[k]? = some x) : ∀ u, markLDNode u (l.take (k + 1)) = markLDNode u (l.take k) ++ [mkDNode (endDNode u (l.take k)) x] := by
  induction l generalizing k with
  | nil => simp at h
  | cons y l ih =>
    intro u
    cases k with
    | zero => simp at h; subst h; simp [endDNode, markLDNode]
    | succ k => simp only [List.take_succ_cons, endDNode, markLDNode, List.cons_append]; rw [ih (by simpa using h) _]
/-- The raw form of such a slice of the call's own. -/
def RawDNode (w : World) (lo hi : Nat) (v : Value) (q : List (DNode × Value)) : Prop :=
  RawN 3 w 49 4 lo hi v q.length (q.flatMap DNode.cells) (q.map fun p => (p.2, p.1.kids))
theorem RawDNode.own {w : World} {lo hi : Nat} {v : Value} {q : List (DNode × Value)} (h : RawDNode w lo hi v q) : OwnDNode w lo hi v (q.map Prod.fst) := by
  refine ⟨q, rfl, h.row, fun p hp => h.kids (p.2, p.1.kids) (List.mem_map.2 ⟨p, hp, rfl⟩), ?_⟩
  have := h.apart
  simpa [Function.comp_def] using this
theorem OwnDNode.raw {w : World} {lo hi : Nat} {v : Value} {l : List DNode} (h : OwnDNode w lo hi v l) : ∃ q, q.map Prod.fst = l ∧ RawDNode w lo hi v q := by
  obtain ⟨q, h1, h2, h3, h4⟩ := h
  refine ⟨q, h1, h2, fun p hp => ?_, by simpa [Function.comp_def] using h4⟩
  obtain ⟨p', hp', rfl⟩ := List.mem_map.1 hp
  exact h3 p' hp'
theorem flat_setDNode {q : List (DNode × Value)} {k : Nat} {p : DNode × Value} (h : q[k]? = some p) (us : List Value) (hu : us.length = 3) (p' : DNode × Value) (hp' : DNode.cells p' = us ++ [p.2]) :
    setAll (q.flatMap DNode.cells) (k * 4) us = (q.set k p').flatMap DNode.cells := by
  have hk := (List.getElem?_eq_some_iff.1 h).1
  have e1 : q = q.take k ++ p :: q.drop (k + 1) := by rw [← drop_cons h, List.take_append_drop]
  have e2 : q.set k p' = q.take k ++ p' :: q.drop (k + 1) := by rw [List.set_eq_take_append_cons_drop, if_pos hk]
  rw [e2, List.flatMap_append, List.flatMap_cons, hp']
  have e3 : q.flatMap DNode.cells = (q.take k).flatMap DNode.cells ++ ((DNode.cells p).take 3 ++ ([p.2] ++ (q.drop (k + 1)).flatMap DNode.cells)) := by
    conv => lhs; rw [e1]
    rw [List.flatMap_append, List.flatMap_cons]
    simp [DNode.cells]
  rw [e3, setAll_mid us _ _ _ _ (by rw [flat_len _ 4 DNode.len, List.length_take, Nat.min_eq_left (by omega)]) (by rw [hu]; rfl)]
  simp


set_option maxRecDepth 100000 in
set_option maxHeartbeats 2000000 in
theorem markDNodeS_any {lo hi : Nat} (l : List DNode) (v : Value) (k0 : Nat) (w : World) (hn : bulk DNode.sizes l ≤ 1048576) (hk0 : k0 ≤ 5242880) (h : OwnDNode w lo hi v l) :
    Calls Try.prog 18 #[v, .int .i64 k0] w fun e w' => e = .returned (.int .i64 (endDNode k0 l : Nat)) ∧ Fr lo hi w w' ∧ OwnDNode w' lo hi v (markLDNode k0 l) := by
  obtain ⟨q, rfl, hraw⟩ := h.raw
  clear h
  obtain ⟨a, cap, rfl, hm⟩ := own_slice hraw.row.1
  unfold maxLen at hm
  have hlb := length_bulk DNode.sizes (q.map Prod.fst)
  rw [List.length_map] at hlb
  go_enter Try.func18, Try.ntmps18
  go_wp2
  go_loopw [1, 5] (fun kv i wr => ∃ (k u : Nat) (r : List (DNode × Value)), i = .int .i64 k ∧ k ≤ q.length ∧ kv = .int .i64 u ∧ u ≤ 16777216 - 2097152 ∧ Hid (u = endDNode k0 ((q.map Prod.fst).take k)) ∧ Fr lo hi w wr ∧ RawDNode wr lo hi (.slice a q.length cap) r ∧ r.length = q.length ∧ Hid (r.drop k = q.drop k) ∧ Hid ((r.map Prod.fst).take k = markLDNode k0 ((q.map Prod.fst).take k))) (fun _ i _ => q.length - (intOf i).toNat)
  case atStart => exact ⟨0, k0, q, rfl, by omega, rfl, by omega, hid rfl, Fr.refl _ _ _, hraw, rfl, hid rfl, hid rfl⟩
  obtain ⟨k, u, r, rfl, hk, rfl, hu, HU, hfr, hR0, hrl, hdrop, htake⟩ := hrel
  have HRL := hid hrl
  have hrl1 : r.length ≤ q.length := by omega
  have hrl2 : q.length ≤ r.length := by omega
  by_cases hlt : k < q.length
  · obtain ⟨p, hp⟩ := get_of_lt (l := r) (k := k) (by omega)
    have hR : RawN 3 wr 49 4 lo hi (.slice a q.length cap) r.length (r.flatMap DNode.cells) (r.map fun p => (p.2, p.1.kids)) := hR0
    rw [hrl] at hR
    clear hrl hR0
    obtain ⟨g, rfl⟩ := own_some hR.row.1 (by omega)
    have hcl : p.1.kids.length ≤ 1048576 := by
      have hq : q[k]? = some p := by have := congrArg (fun z => z[0]?) hdrop.out; simp at this; rw [← this]; exact hp
      have := bulk_mem DNode.sizes (List.mem_map_of_mem (f := Prod.fst) (List.mem_of_getElem? hq))
      unfold DNode.sizes at this hn
      omega
    have HP := hid hp
    clear hp hraw
    obtain ⟨⟨d0, e0⟩, z0⟩ := hR.cell (k * 4) (by omega)
    obtain ⟨⟨d1, e1⟩, z1⟩ := hR.cell (k * 4 + 1) (by omega)
    go_wp2_with fail
    refine (markText_int _ (u + 2) _ (by omega) (by omega)).mono ?_; rintro e x1 ⟨rfl, hx1⟩
    have hR1 := ((hR.set (k * 4) (.int .i64 ((u : Int)))).set (k * 4 + 1) (.int .i64 ((u : Int) + 1))).below hx1 (Nat.le_refl _)
    have hF1 := (((((hfr).trans (hR.fr_set (k * 4) (.int .i64 ((u : Int)))))).trans ((hR.set (k * 4) (.int .i64 ((u : Int)))).fr_set (k * 4 + 1) (.int .i64 ((u : Int) + 1))))).trans (Fr.of_below (lo := lo) (hi := hi) hx1)
    obtain ⟨⟨d2, e2⟩, z2⟩ := hR1.cell (k * 4 + 2) (by omega)
    have hRZ := hid (hR1.set (k * 4 + 2) (.string (markT (u + 2))))
    have hFZ := hid ((hF1).trans (hR1.fr_set (k * 4 + 2) (.string (markT (u + 2)))))
    have hxs := flat_setDNode HP.out [.int .i64 ((u : Int)), .int .i64 ((u : Int) + 1), .string (markT (u + 2))] rfl (mkDNode u p.1, p.2) rfl
    simp only [setAll] at hxs
    have hRY := hRZ.out
    rw [hxs] at hRY
    have hkv : (r.map fun p => (p.2, p.1.kids))[k]? = some (p.2, p.1.kids) := by rw [List.getElem?_map, HP.out]; rfl
    have hown0 : World.ownsRow _ lo 3 1 p.2 p.1.kids.length (p.1.kids.flatMap int1) := (hRY.kids _ (List.mem_of_getElem? hkv)).1
    have hown := hid hown0
    have hcell := hRY.read (flat_get DNode.cells 4 DNode.len (r.set k (mkDNode u p.1, p.2)) k 3 (mkDNode u p.1, p.2) p.2 (by rw [List.getElem?_set, if_pos rfl, if_pos (by omega)]) rfl)
    have HKV := hid hkv
    have HRY := hid hRY
    have HXS := hid hxs
    clear hxs hkv hRY hown0
    obtain ⟨ka, kc, hpk, _⟩ := own_slice hown.out
    rw [hpk] at hcell
    go_wp2_with (go_at_call 52; rw [← hpk]; refine (markIntS_any p.1.kids p.2 (u + 3) _ (by omega) (by omega) hown.out).mono ?_; rintro e wz ⟨rfl, hgz, hoz⟩)
    have hRM := HRY.out.mark HKV.out hgz (ks' := markLInt (u + 3) p.1.kids.length) (by rw [markLInt_len]; exact hoz)
    have hRF : RawDNode wz lo hi (.slice (some ⟨g, 0, none⟩) q.length cap) (r.set k (mkDNode u p.1, p.2)) := by
      unfold RawDNode; rw [List.length_set, HRL.out, List.map_set]; exact hRM
    have hFR := hFZ.out.trans (HRY.out.fr_mark (List.mem_of_getElem? HKV.out) hgz)
    have hq : q[k]? = some p := by have := congrArg (fun z => z[0]?) hdrop.out; simp at this; rw [← this]; exact HP.out
    have hq1 : (q.map Prod.fst)[k]? = some p.1 := by rw [List.getElem?_map, hq]; rfl
    have hend := endDNode_take hq1 k0
    rw [← HU.out] at hend
    have hle := endDNode_le ((q.map Prod.fst).take (k + 1)) k0
    have hle2 := sum_take_le DNode.sizes (q.map Prod.fst) (k + 1)
    have hle3 : ((q.map Prod.fst).take (k + 1)).length ≤ q.length := by rw [List.length_take, List.length_map]; exact Nat.min_le_right _ _
    have hbound : u + 3 + p.1.kids.length ≤ 16777216 - 2097152 := by
      rw [← hend]
      unfold bulk at hn
      rw [List.length_map] at hn
      omega
    go_roundw
    case rel =>
      refine ⟨k + 1, u + 3 + p.1.kids.length, r.set k (mkDNode u p.1, p.2), by go_num, by omega, by go_num, hbound, hid hend.symm, hFR, hRF, by rw [List.length_set]; exact HRL.out, hid ?_, hid ?_⟩
      · rw [List.drop_set_of_lt (by omega)]
        have := congrArg (List.drop 1) hdrop.out
        simpa using this
      · rw [markLDNode_take hq1, ← HU.out, take_next (x := mkDNode u p.1) (by rw [List.getElem?_map, List.getElem?_set, if_pos rfl, if_pos (by omega)]; rfl), List.map_set, take_set_self, htake.out]
    case measure => simp [intOf]; omega
  · go_wp2
    go_ret
    have hkq : k = q.length := by omega
    subst hkq
    have e1 : (q.map Prod.fst).take q.length = q.map Prod.fst := List.take_of_length_le (by simp)
    have e2 : (r.map Prod.fst).take q.length = r.map Prod.fst := List.take_of_length_le (by simp; omega)
    rw [e1, e2] at htake
    rw [e1] at HU
    refine ⟨ret_int (by rw [HU.out]), hfr, ?_⟩
    rw [← htake.out]; exact hR0.own

end Go.Proofs.Ytfabfkaolnidiaa
