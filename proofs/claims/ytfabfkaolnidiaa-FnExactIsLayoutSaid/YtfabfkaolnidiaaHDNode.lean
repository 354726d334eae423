/- Walks and lemmas of this seat (HDNode): what each theorem says of the functions that it names. Conditions: those that each theorem states. -/

import Derived.Test.YtfabfkaolnidiaaRows
import Derived.Test.YtfabfkaolnidiaaHInt

import Derived.Test.YtfabfkaolnidiaaDataDNode
namespace Go.Proofs.Ytfabfkaolnidiaa
set_option linter.unusedVariables false
set_option linter.unusedSimpArgs false
open Go.RowKit

section
open Go.ChangeShapes Go.WideShapes Go.ChangeAt
variable {H : Type} {enc : TypeId × Value → H} {w : World} {spare : Nat → Bool}
theorem Try.cells52d : Try.prog.cellsOf 52 = 4 := by kernel_rfl
/-- A []int among the cells of a struct. -/
theorem kidsDNode {cs : List Value} {n : Nat} {y : DataW H × List MemPlace} (h : DataW.trod enc Try.prog w 0 spare true n 47 cs = some y) : ∃ (kv : Value) (ks : List Int), cs = [kv] ∧ Slc w kv 1 ks.length (ks.flatMap int1) ∧ (∀ k ∈ ks, I64 k) ∧ ks.length ≤ maxLen := by
  have hsh : ∃ a len cap, cs = [.slice a len cap] := by
    rcases DataW.trod_slice Try.underlying47 h with ⟨h0, _⟩ | ⟨a, len, cap, _, _, _, _, h0, _⟩
    · exact ⟨_, _, _, h0⟩
    · exact ⟨_, _, _, h0⟩
  obtain ⟨a, len, cap, rfl⟩ := hsh
  obtain ⟨ks, h1, h2⟩ := open_rows (f := int1) (Q := I64) int1_len (by decide) Try.underlying47 (by kernel_rfl) decInt (v := .slice a len cap) ⟨_, _, _, rfl⟩ ⟨n, h⟩
  have h3 := h1
  obtain ⟨_, a', cap', _, h4, h5, _⟩ := h3
  exact ⟨_, ks, rfl, h1, h2, Nat.le_trans h4 h5⟩
theorem decDNode (cs : List Value) (n : Nat) (y : DataW H × List MemPlace) (h : DataW.trod enc Try.prog w 0 spare true n 52 cs = some y) : ∃ x : DNode × Value, cs = DNode.cells x ∧ x.1.Ok ∧ Slc w x.2 1 x.1.kids.length (x.1.kids.flatMap int1) := by
  obtain ⟨xs, n', rfl, _, hlen, hxl, hf⟩ := DataW.trod_struct Try.underlying52 h
  obtain ⟨c0, c1, c2, c3, rfl⟩ := list4 (hlen.trans Try.cells52d)
  clear hlen
  have h0 := hf 0 _ rfl
  rw [List.getElem?_eq_getElem (by rw [hxl]; decide)] at h0
  obtain ⟨x0, e0, _, b0⟩ := DataW.trod_int Try.underlying3 h0
  simp [show Try.prog.cellsOf 3 = 1 from by kernel_rfl] at e0
  have h1 := hf 1 _ rfl
  rw [List.getElem?_eq_getElem (by rw [hxl]; decide)] at h1
  obtain ⟨x1, e1, _, b1⟩ := DataW.trod_int Try.underlying3 h1
  simp [show Try.prog.cellsOf 3 = 1 from by kernel_rfl] at e1
  have h2 := hf 2 _ rfl
  rw [List.getElem?_eq_getElem (by rw [hxl]; decide)] at h2
  obtain ⟨x2, e2, _, b2⟩ := DataW.trod_string Try.underlying9 h2
  simp [show Try.prog.cellsOf 9 = 1 from by kernel_rfl] at e2
  have h3 := hf 3 _ rfl
  rw [List.getElem?_eq_getElem (by rw [hxl]; decide)] at h3
  obtain ⟨kv, ks, e3, s3, i3, m3⟩ := kidsDNode h3
  simp [show Try.prog.cellsOf 47 = 1 from by kernel_rfl] at e3
  subst e0 e1 e2 e3
  exact ⟨(⟨x0, x1, x2, ks⟩, _), rfl, ⟨b2, I64.of_wf b0, I64.of_wf b1, i3, m3⟩, s3⟩
theorem open_DNodes {v : Value} {d : DataW H} {ps : List MemPlace} (hv : ∃ a len cap, v = .slice a len cap) (h : DataW.Trod enc Try.prog w 0 spare true 22 v d ps) : ∃ l : List DNode, DNodeSlc w v l ∧ ∀ x ∈ l, x.Ok := by
  obtain ⟨q, h1, h2⟩ := open_rows (f := DNode.cells) (Q := fun x => x.1.Ok ∧ Slc w x.2 1 x.1.kids.length (x.1.kids.flatMap int1)) DNode.len (by decide) Try.underlying22 Try.cells52d decDNode hv h
  refine ⟨q.map Prod.fst, ⟨q, rfl, h1, fun p hp => (h2 p hp).2⟩, fun x hx => ?_⟩
  obtain ⟨p, hp, rfl⟩ := List.mem_map.1 hx
  exact (h2 p hp).1
end


theorem szDNode_any (x : DNode) (kv : Value) (left : Int) (h0 : 0 ≤ left) (h1 : left ≤ 1048576) (hs : x.Ok) (w : World) (hk : Slc w kv 1 x.kids.length (x.kids.flatMap int1)) :
    Calls Try.prog 32 #[.agg #[.int .i64 x.kind, .int .i64 x.n, .string x.text, kv], .int .i64 left] w fun e w' => e = .returned (.int .i64 (szNat x.sizes left)) ∧ Below w.heap.size w w' := by
  unfold DNode.Ok maxLen at hs
  obtain ⟨hs0, _, _, _, hkl⟩ := hs
  have hbx : Below w.heap.size w (w.alloc (.cells #[.int .i64 x.kind, .int .i64 x.n, .string x.text, kv] 52)) := (Below.refl _ _).alloc (Nat.le_refl _) _
  have hk1 := hk.mono hbx (Nat.le_refl _)
  clear hk
  go_enter Try.func32, Try.ntmps32
  go_wp2_with fail
  all_goals first
    | (go_ret; exact ⟨ret_int (by unfold DNode.sizes szNat; omega), hbx⟩)
    | (refine (szIntS_any x.kids kv _ (by omega) (by omega) _ hk1).mono ?_; rintro e w2 ⟨rfl, hb2⟩
       have hp1 := szNat_le x.kids.length (left - x.text.size)
       have hp2 := szNat_lo x.kids.length (left - x.text.size)
       go_wp2
       all_goals go_ret
       all_goals exact ⟨ret_int (by unfold DNode.sizes; unfold szNat at *; omega), hbx.trans (hb2.mono hbx.size)⟩)

theorem szDNodeS_any (l : List DNode) (v : Value) (left : Int) (h0 : 0 ≤ left) (h1 : left ≤ 1048576) (w : World) (hs : ∀ x ∈ l, x.Ok) (hv : DNodeSlc w v l) :
    Calls Try.prog 8 #[v, .int .i64 left] w fun e w' => e = .returned (.int .i64 (szList DNode.sizes l left)) ∧ Below w.heap.size w w' := by
  obtain ⟨q, rfl, ⟨_, a, cap, rfl, hc, hm, hrow⟩, hkids⟩ := hv
  have hll : (q.map Prod.fst).length = q.length := by simp
  unfold maxLen at hm
  go_enter Try.func8, Try.ntmps8
  go_wp2
  · go_ret
    exact ⟨ret_int (by rw [szList, if_pos (by omega)]), Below.refl _ _⟩
  · rename_i hge _
    have hge' : ¬ (left - (q.map Prod.fst).length < 0) := by omega
    have HL := hid hll
    clear hll
    go_loopw [1, 5] (fun v i wr => ∃ (k : Nat) (u : Int), i = .int .i64 k ∧ k ≤ q.length ∧ v = .int .i64 u ∧ 0 ≤ u ∧ u ≤ 1048576 ∧ Below w.heap.size w wr ∧ Hid (szList DNode.sizes (q.map Prod.fst) left = szLoop DNode.sizes ((q.drop k).map Prod.fst) u)) (fun _ i _ => q.length - (intOf i).toNat)
    case atStart => exact ⟨0, _, rfl, by omega, rfl, by omega, by omega, Below.refl _ _, by show szList _ _ _ = _; rw [szList, if_neg hge', HL.out]; rfl⟩
    obtain ⟨k, u, rfl, hk, rfl, q0, q1, hb, hrel⟩ := hrel
    by_cases hlt : k < q.length
    · obtain ⟨p, hx⟩ := get_of_lt hlt
      obtain ⟨b, off, rfl, hro⟩ := slc_some hrow (by omega)
      have hrw := hro.mono hb (Nat.le_refl _)
      have c0 := hrw.flat0 4 DNode.len hx rfl
      have c1 := hrw.flat 4 DNode.len hx 1 rfl
      have c2 := hrw.flat 4 DNode.len hx 2 rfl
      have c3 := hrw.flat 4 DNode.len hx 3 rfl
      have hmem := List.mem_of_getElem? hx
      have hxs := hs p.1 (List.mem_map_of_mem hmem)
      have hkd := (hkids p hmem).mono hb (Nat.le_refl _)
      have hp1 := szNat_le p.1.sizes u
      have hp2 := szNat_lo p.1.sizes u
      rw [drop_cons hx, List.map_cons] at hrel
      clear hx
      go_wp2_with (go_at_call 32; refine (szDNode_any p.1 p.2 u (by omega) (by omega) hxs _ hkd).mono ?_; rintro e w' ⟨rfl, hb1⟩)
      · go_ret
        exact ⟨ret_int (by rw [hrel.out, szLoop, if_pos (by omega)]), hb.trans (hb1.mono hb.size)⟩
      · go_roundw
        case rel => exact ⟨k + 1, _, by go_num, by omega, rfl, by omega, by omega, hb.trans (hb1.mono hb.size), by rw [hrel.out, szLoop, if_neg (by omega)]; exact hid rfl⟩
        case measure => simp [intOf]; omega
    · go_wp2
      go_ret
      exact ⟨ret_int (by rw [hrel.out, List.drop_of_length_le (by omega)]; rfl), hb⟩


theorem toDNode_any (x : DNode) (kv : Value) (w : World) (hn : x.kids.length ≤ 1048576) (hk : Slc w kv 1 x.kids.length (x.kids.flatMap int1)) :
    Calls Try.prog 38 #[.agg #[.int .i64 x.kind, .int .i64 x.n, .string x.text, kv]] w fun e w' => ∃ kv', e = .returned (.agg #[.int .i64 x.kind, .int .i64 x.n, .string x.text, kv']) ∧ Below w.heap.size w w' ∧ w'.ownsRow w.heap.size 3 1 kv' x.kids.length (x.kids.flatMap int1) := by
  go_enter Try.func38, Try.ntmps38
  go_wp2_with fail
  refine (toIntS_any x.kids kv _ hn (hk.mono (B := w.heap.size) (by repeat (first | exact Below.refl _ _ | refine Below.alloc ?_ (by first | omega | (simp; done) | (simp; omega)) _ | refine Below.drew ?_)) (Nat.le_refl _))).mono ?_; rintro e w2 ⟨kv', rfl, hb2, ho2⟩
  have hsz := hb2.size
  have hB := (show Below w.heap.size w _ from by repeat (first | exact Below.refl _ _ | refine Below.alloc ?_ (by first | omega | (simp; done) | (simp; omega)) _ | refine Below.drew ?_)).trans (hb2.mono (by simp <;> omega))
  have u0 := (hb2.cell (p := ⟨w.heap.size + 1, 0, none⟩) (by simp <;> omega)).trans (box3_1 _ _ _ _ _ _ 0)
  have v0 := (hb2.cell (p := ⟨w.heap.size + 1 + 1, 0, none⟩) (by simp <;> omega)).trans (box3_2 _ _ _ _ _ _ 0)
  have p0 := (hb2.frozen (p := ⟨w.heap.size + 1, 0, none⟩) (by simp <;> omega)).trans (box3_f1 _ _ _ _ _ _ 0)
  have q0 := (hb2.frozen (p := ⟨w.heap.size + 1 + 1, 0, none⟩) (by simp <;> omega)).trans (box3_f2 _ _ _ _ _ _ 0)
  have u1 := (hb2.cell (p := ⟨w.heap.size + 1, 1, none⟩) (by simp <;> omega)).trans (box3_1 _ _ _ _ _ _ 1)
  have v1 := (hb2.cell (p := ⟨w.heap.size + 1 + 1, 1, none⟩) (by simp <;> omega)).trans (box3_2 _ _ _ _ _ _ 1)
  have p1 := (hb2.frozen (p := ⟨w.heap.size + 1, 1, none⟩) (by simp <;> omega)).trans (box3_f1 _ _ _ _ _ _ 1)
  have q1 := (hb2.frozen (p := ⟨w.heap.size + 1 + 1, 1, none⟩) (by simp <;> omega)).trans (box3_f2 _ _ _ _ _ _ 1)
  have u2 := (hb2.cell (p := ⟨w.heap.size + 1, 2, none⟩) (by simp <;> omega)).trans (box3_1 _ _ _ _ _ _ 2)
  have v2 := (hb2.cell (p := ⟨w.heap.size + 1 + 1, 2, none⟩) (by simp <;> omega)).trans (box3_2 _ _ _ _ _ _ 2)
  have p2 := (hb2.frozen (p := ⟨w.heap.size + 1, 2, none⟩) (by simp <;> omega)).trans (box3_f1 _ _ _ _ _ _ 2)
  have q2 := (hb2.frozen (p := ⟨w.heap.size + 1 + 1, 2, none⟩) (by simp <;> omega)).trans (box3_f2 _ _ _ _ _ _ 2)
  have u3 := (hb2.cell (p := ⟨w.heap.size + 1, 3, none⟩) (by simp <;> omega)).trans (box3_1 _ _ _ _ _ _ 3)
  have v3 := (hb2.cell (p := ⟨w.heap.size + 1 + 1, 3, none⟩) (by simp <;> omega)).trans (box3_2 _ _ _ _ _ _ 3)
  have p3 := (hb2.frozen (p := ⟨w.heap.size + 1, 3, none⟩) (by simp <;> omega)).trans (box3_f1 _ _ _ _ _ _ 3)
  have q3 := (hb2.frozen (p := ⟨w.heap.size + 1 + 1, 3, none⟩) (by simp <;> omega)).trans (box3_f2 _ _ _ _ _ _ 3)
  simp at u0 v0 u1 v1 u2 v2 u3 v3
  simp only [box3_size] at hsz ho2
  clear hb2
  obtain ⟨ka, kc, rfl, _⟩ := own_slice ho2
  go_wp2
  refine bodyPost_ret (v := .agg #[.int .i64 x.kind, .int .i64 x.n, .string x.text, .slice ka x.kids.length kc]) (by simp [results, Try.results38, go_sem, u0, u1, u2, u3]) rfl ⟨_, rfl, ?_, ?_⟩
  · repeat (first | with_reducible exact hB | refine Below.setCell ?_ (by dsimp only; omega) _)
  · refine own_base (B := w.heap.size + 3) ?_ (by omega)
    repeat (first | with_reducible exact ho2 | refine ownsRow_setCell_below ?_ (by dsimp only; omega) _)

theorem Try.info49 : (Try.prog.info? 49).map (fun i => (i.zero, i.size, i.bytes)) = some (some (.agg #[.int .i64 0, .int .i64 0, .string ⟨#[]⟩, .slice none 0 0]), 4, 56) := by kernel_rfl

set_option maxRecDepth 100000 in
theorem toDNodeS_any (l : List DNode) (v : Value) (w : World) (hn : bulk DNode.sizes l ≤ 1048576) (hv : DNodeSlc w v l) :
    Calls Try.prog 10 #[v] w fun e w' => ∃ v', e = .returned v' ∧ Below w.heap.size w w' ∧ OwnDNode w' w.heap.size w'.heap.size v' l := by
  obtain ⟨q, rfl, ⟨_, a, cap, rfl, hc, hm, hrow⟩, hkids⟩ := hv
  have hlq := length_bulk DNode.sizes (q.map Prod.fst)
  simp only [List.length_map] at hlq
  unfold maxLen at hm
  obtain ⟨i0, hi, hz0, hz1, hz2⟩ := info_parts Try.info49
  go_enter Try.func10, Try.ntmps10
  go_wp2_with (at_make; refine wpList_make_full _ rfl _ _ 26 rfl w.heap.size 49 i0 _ 4 Try.underlying26 hi hz0 hz1 .i64 .i64 q.length q.length q.length rfl rfl rfl rfl ?c1 ?c2 ?c3 ?c4)
  case c1 => rw [hz2]; omega
  case c2 => unfold maxLen; omega
  case c3 => exact Nat.le_refl _
  case c4 =>
  intro w1 hown hgr
  have hb1 : Below w.heap.size w w1 := (Below.refl _ _).grown hgr (Nat.le_refl _) (by simp)
  have hfill : FillDNode w1 w.heap.size q.length [] := ⟨Filling.made hown, by simp, List.Pairwise.nil⟩
  clear hi hz0 hz1 hz2 hown hgr
  go_wp2
  go_loopw [4] (fun i wr => ∃ (k : Nat) (r : List (DNode × Value)), i = .int .i64 k ∧ k ≤ q.length ∧ r.length = k ∧ Below w.heap.size w wr ∧ FillDNode wr w.heap.size q.length r ∧ Hid (r.map Prod.fst = (q.take k).map Prod.fst)) (fun i _ => q.length - (intOf i).toNat)
  case atStart => exact ⟨0, [], rfl, by omega, rfl, hb1, hfill, hid rfl⟩
  obtain ⟨k, r, rfl, hk, hrk, hb, hfr, hrel⟩ := hrel
  have HRK := hid hrk
  clear hb1 hfill hrk
  by_cases hlt : k < q.length
  · obtain ⟨p, hx⟩ := get_of_lt hlt
    obtain ⟨b, off, rfl, hro⟩ := slc_some hrow (by omega)
    have hrw := hro.mono hb (Nat.le_refl _)
    have c0 := hrw.flat0 4 DNode.len hx rfl
    have c1 := hrw.flat 4 DNode.len hx 1 rfl
    have c2 := hrw.flat 4 DNode.len hx 2 rfl
    have c3 := hrw.flat 4 DNode.len hx 3 rfl
    have hmem := List.mem_of_getElem? hx
    have hkd := (hkids p hmem).mono hb (Nat.le_refl _)
    have hkl : p.1.kids.length ≤ 1048576 := by
      have := bulk_mem DNode.sizes (List.mem_map_of_mem (f := Prod.fst) hmem)
      unfold DNode.sizes at this hn
      omega
    have HX : Hid (q[k]? = some p) := hx
    clear hx
    go_wp2_with (go_at_call 38; refine (toDNode_any p.1 p.2 _ hkl hkd).mono ?_; rintro e w2 ⟨kv, rfl, hb2, hok⟩; obtain ⟨ka, kc, rfl, hkc⟩ := own_slice hok; have hf2 := hfr.row.below hb2 (Nat.le_refl _); obtain ⟨⟨d0, e0⟩, z0⟩ := hf2.cell (k * 4) (by omega); obtain ⟨⟨d1, e1⟩, z1⟩ := hf2.cell (k * 4 + 1) (by omega); obtain ⟨⟨d2, e2⟩, z2⟩ := hf2.cell (k * 4 + 2) (by omega); obtain ⟨⟨d3, e3⟩, z3⟩ := hf2.cell (k * 4 + 3) (by omega); have hnx := hfr.next hb2 p.1 _ hok hlt HRK.out; have hnb := below_storeAll (DNode.cells (p.1, .slice ka p.1.kids.length kc)) (k * 4) (hb.trans (hb2.mono hb.size)) (Nat.le_refl _); simp only [DNode.cells, storeAll] at hnx hnb)
    go_roundw
    case rel => refine ⟨k + 1, r ++ [(p.1, .slice ka p.1.kids.length kc)], by go_num, by omega, by simp [HRK.out], hnb, hnx, hid (by rw [List.map_append, hrel.out, take_next HX.out, List.map_append]; rfl)⟩
    case measure => simp [intOf]; omega
  · go_wp2
    go_ret
    have hkq : k = q.length := by omega
    subst hkq
    obtain ⟨f1, f2, f3⟩ := hfr
    have hd := f1.done (by rw [flat_len _ 4 DNode.len, HRK.out])
    refine ⟨_, rfl, hb, r, ?_, ?_, fun p hp => (f2 p hp).wide (Nat.le_succ _) (Nat.le_refl _), ?_⟩
    · rw [hrel.out, List.take_of_length_le (Nat.le_refl _)]
    · rw [HRK.out]; exact OwnIn.of_own hd
    · refine List.pairwise_cons.2 ⟨fun a ha => ?_, f3⟩
      obtain ⟨p, hp, rfl⟩ := List.mem_map.1 ha
      refine apart_of (n := w.heap.size + 1) (fun j hj => ?_) (fun j hj => ((f2 p hp).1.lt j hj).1)
      simp [Value.ownBlock] at hj; omega


theorem eqDNode_any (x y : DNode) (kx ky : Value) (w : World) (hkx : Slc w kx 1 x.kids.length (x.kids.flatMap int1)) (hky : Slc w ky 1 y.kids.length (y.kids.flatMap int1)) :
    Calls Try.prog 46 #[.agg #[.int .i64 x.kind, .int .i64 x.n, .string x.text, kx], .agg #[.int .i64 y.kind, .int .i64 y.n, .string y.text, ky]] w fun e w' => e = .returned (.bool (eqDNode x y)) ∧ Below w.heap.size w w' := by
  have hbx : Below w.heap.size w ((w.alloc (.cells #[.int .i64 x.kind, .int .i64 x.n, .string x.text, kx] 49)).alloc (.cells #[.int .i64 y.kind, .int .i64 y.n, .string y.text, ky] 49)) := by repeat (first | exact Below.refl _ _ | refine Below.alloc ?_ (by first | omega | (simp; done) | (simp; omega)) _ | refine Below.drew ?_)
  have hkx1 := hkx.mono hbx (Nat.le_refl _)
  have hky1 := hky.mono hbx (Nat.le_refl _)
  clear hkx hky
  go_enter Try.func46, Try.ntmps46
  go_wp2_with fail
  all_goals first
    | (go_ret; exact ⟨ret_bool (by unfold eqDNode; simp_all), hbx⟩)
    | (refine (eqIntS_any x.kids y.kids kx ky _ hkx1 hky1).mono ?_; rintro e w2 ⟨rfl, hb2⟩
       go_wp2
       all_goals go_ret
       all_goals exact ⟨ret_bool (by unfold eqDNode; simp_all), hbx.trans (hb2.mono hbx.size)⟩)

set_option maxRecDepth 100000 in
theorem eqDNodeS_any (l r : List DNode) (v u : Value) (w : World) (hv : DNodeSlc w v l) (hu : DNodeSlc w u r) :
    Calls Try.prog 12 #[v, u] w fun e w' => e = .returned (.bool (eqList eqDNode l r)) ∧ Below w.heap.size w w' := by
  obtain ⟨ql, rfl, ⟨_, a, cap, rfl, hc, hm, hrow⟩, hkl⟩ := hv
  obtain ⟨qr, rfl, ⟨_, a', cap', rfl, hc', hm', hrow'⟩, hkr⟩ := hu
  unfold maxLen at hm hm'
  by_cases hlen : ql.length = qr.length
  · have hle : ((ql.length : Int) != (qr.length : Int)) = false := by rw [hlen]; simp
    have HL := hid hlen
    have hl1 : ql.length ≤ qr.length := by omega
    have hl2 : qr.length ≤ ql.length := by omega
    clear hlen
    go_enter Try.func12, Try.ntmps12
    go_wp2
    go_loopw [5] (fun i wr => ∃ (k : Nat), i = .int .i64 k ∧ k ≤ ql.length ∧ Below w.heap.size w wr ∧ Hid (eqList eqDNode (ql.map Prod.fst) (qr.map Prod.fst) = eqLoop eqDNode ((ql.drop k).map Prod.fst) ((qr.drop k).map Prod.fst))) (fun i _ => ql.length - (intOf i).toNat)
    case atStart => exact ⟨0, rfl, by omega, Below.refl _ _, by show eqList _ _ _ = _; rw [eqList, if_pos (by simpa using HL.out)]; rfl⟩
    obtain ⟨k, rfl, hk, hb, hrel⟩ := hrel
    by_cases hlt : k < ql.length
    · obtain ⟨x, hx⟩ := get_of_lt hlt
      obtain ⟨y, hy⟩ := get_of_lt (l := qr) (k := k) (by omega)
      obtain ⟨b, off, rfl, hro⟩ := slc_some hrow (by omega)
      obtain ⟨b', off', rfl, hro'⟩ := slc_some hrow' (by omega)
      have hrw := hro.mono hb (Nat.le_refl _)
      have hrw' := hro'.mono hb (Nat.le_refl _)
      have c0 := hrw.flat0 4 DNode.len hx rfl
      have c1 := hrw.flat 4 DNode.len hx 1 rfl
      have c2 := hrw.flat 4 DNode.len hx 2 rfl
      have c3 := hrw.flat 4 DNode.len hx 3 rfl
      have g0 := hrw'.flat0 4 DNode.len hy rfl
      have g1 := hrw'.flat 4 DNode.len hy 1 rfl
      have g2 := hrw'.flat 4 DNode.len hy 2 rfl
      have g3 := hrw'.flat 4 DNode.len hy 3 rfl
      have hkx := (hkl x (List.mem_of_getElem? hx)).mono hb (Nat.le_refl _)
      have hky := (hkr y (List.mem_of_getElem? hy)).mono hb (Nat.le_refl _)
      rw [drop_cons hx, drop_cons hy, List.map_cons, List.map_cons] at hrel
      have hkr : k < qr.length := by omega
      clear hx hy
      by_cases hxy : eqDNode x.1 y.1 = true
      · go_wp2_with fail
        go_still_tail 8, (by kernel_rfl)
        go_wp2_with (go_at_call 46; refine (eqDNode_any x.1 y.1 x.2 y.2 _ (hkx.drew) (hky.drew)).mono ?_; rintro e w' ⟨rfl, hb1⟩)
        go_roundw
        case rel => exact ⟨k + 1, by go_num, by omega, hb.drew.trans (hb1.mono hb.size), by rw [hrel.out, eqLoop, if_pos hxy]; exact hid rfl⟩
        case measure => simp [intOf]; omega
      · have hxy' : eqDNode x.1 y.1 = false := by simpa using hxy
        go_wp2_with fail
        go_still_tail 8, (by kernel_rfl)
        go_wp2_with (go_at_call 46; refine (eqDNode_any x.1 y.1 x.2 y.2 _ (hkx.drew) (hky.drew)).mono ?_; rintro e w' ⟨rfl, hb1⟩)
        go_ret
        exact ⟨ret_bool (by rw [hrel.out, eqLoop, if_neg hxy]), hb.drew.trans (hb1.mono hb.size)⟩
    · go_wp2
      go_ret
      exact ⟨ret_bool (by rw [hrel.out, List.drop_of_length_le (l := ql) (by omega)]; simp [eqLoop]), hb⟩
  · have hle : ((ql.length : Int) != (qr.length : Int)) = true := by simp; omega
    have HL := hid hlen
    clear hlen
    go_enter Try.func12, Try.ntmps12
    go_wp2
    go_ret
    exact ⟨ret_bool (by rw [eqList, if_neg (by simpa using HL.out)]), Below.refl _ _⟩

end Go.Proofs.Ytfabfkaolnidiaa
