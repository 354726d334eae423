/- Walks and lemmas of this seat (FShift): what each theorem says of the functions that it names. Conditions: those that each theorem states. -/
import Derived.Test.YtfdmfkonneonaaaDoorFAddP
import Derived.Test.YtfdmfkonneonaaaDoorHNode
import Derived.Deep.RegionLaw
import Derived.Deep.DrawnRows
namespace Go.Proofs.YtfdmfkonneonaaaDoor
set_option linter.unusedVariables false
set_option linter.unusedSimpArgs false
open Go.RowKit

attribute [local go_sem ↓] Go.wp_at_zero Go.wp_at_succ


/-- Within a round of l6Shift: the box of the node, its kids so far. -/
structure SL (wr : World) (x : Node) (d : Int) (k : Nat) (nkv : Value) (w2 : World) : Prop where
  hb : Below wr.heap.size wr w2
  box : w2.heap[wr.heap.size]? = some (.cells #[.int .i64 x.kind, .int .i64 x.op, .string x.text, .string x.other, nkv] 34 (0, 0))
  own : w2.ownsRow (wr.heap.size + 1) 3 1 nkv k (((x.kids.take k).map (· + d)).flatMap int1)
theorem SL.step {wr w2 w3 : World} {x : Node} {d kid : Int} {k cap gg : Nat} {nkv : Value} {o : Obj} (h : SL wr x d k nkv w2) (hown : w3.ownsRow (wr.heap.size + 1) 3 1 (.slice (some ⟨gg, 0, none⟩) (k + 1) cap) (k + 1) (((x.kids.take k).map (· + d)).flatMap int1 ++ [.int .i64 (kid + d)]))
    (hg : (w2.alloc o).grownBy w3 nkv.ownBlock) (hk : x.kids.take (k + 1) = x.kids.take k ++ [kid]) :
    SL wr x d (k + 1) (.slice (some ⟨gg, 0, none⟩) (k + 1) cap) (w3.setCell ⟨wr.heap.size, 4, none⟩ (.slice (some ⟨gg, 0, none⟩) (k + 1) cap)) := by
  have hnk : ∀ g, nkv.ownBlock = some g → wr.heap.size + 1 ≤ g ∧ g < w2.heap.size := fun g hg => h.own.lt g hg
  have hgg := (hown.lt gg rfl).1
  have hlt : wr.heap.size < w2.heap.size := (Array.getElem?_eq_some_iff.1 h.box).1
  refine ⟨?_, ?_, ?_⟩
  · exact ((h.hb.alloc h.hb.size o).grown hg (by simp; omega) (fun r e => by have := (hnk r e).1; omega)).setCell (p := ⟨wr.heap.size, 4, none⟩) (Nat.le_refl _) _
  · have := (hg.block wr.heap.size (by simp; omega) (fun e => by have := (hnk _ e.symm).1; omega)).trans ((Below.heap_alloc _ _ _ hlt).trans h.box)
    rw [heap_setCell_at this]; rfl
  · rw [hk, List.map_append, List.flatMap_append]
    exact hown.kept (grown_set w3 wr.heap.size 4 _) (.inr (by simp [Value.ownBlock]; omega))

set_option maxRecDepth 100000 in
set_option maxHeartbeats 3200000 in
theorem specl6Shift_any (l0 : List Node) (v0 : Value) (d : Int) (w : World) (hx0 : ∀ x ∈ l0, x.Ok) (hn0 : bulk Node.sizes l0 ≤ 1048576) (hv0 : NodeSlc w v0 l0) (hd : ∀ x ∈ l0, ∀ k ∈ x.kids, I64 (k + d)) :
    Calls Tryd.prog 23 #[v0, .int .i64 d] w fun e w' => ∃ v', e = .returned v' ∧ Below w.heap.size w w' ∧ OwnNode w' w.heap.size w'.heap.size v' (l0.map (Node.shift d)) := by
  obtain ⟨a, cap, rfl, hm, hc, hsl⟩ := hv0.shape
  have hlen := Nat.le_trans (length_bulk Node.sizes l0) hn0
  obtain ⟨i0, hi, hz0, hz1, hz2⟩ := info_parts Tryd.info3
  obtain ⟨i1, hj, hy0, hy1, hy2⟩ := info_parts Tryd.info34
  replace hd := hid hd
  go_enter Tryd.func23, Tryd.ntmps23
  go_wp2
  go_loopw [5, 6] (fun v i wr => ∃ (k : Nat) (q : List (Node × Value)), i = .int .i64 k ∧ k ≤ l0.length ∧ q.length = k ∧ Below w.heap.size w wr ∧ Hid (q.map Prod.fst = (l0.take k).map (Node.shift d)) ∧ OwnS (fun g => w.heap.size ≤ g) wr v q) (fun _ i _ => l0.length - (intOf i).toNat)
  case atStart => exact ⟨0, [], rfl, by omega, rfl, by repeat (first | exact Below.refl _ _ | refine Below.alloc ?_ (by first | omega | (simp; done) | (simp; omega)) _ | refine Below.drew ?_), hid rfl, ⟨own_base (own_new0 _ _ _) (Nat.zero_le _), fun g hg => by simp [Value.ownBlock] at hg; omega, by simp, by simp, by simp⟩⟩
  obtain ⟨k, q, rfl, hk, hqk, hb, hqe, hown⟩ := hrel
  obtain ⟨wo, rfl⟩ : ∃ wo : World, wo = wr := ⟨_, rfl⟩
  have hbs := hb.size
  by_cases hlt : k < l0.length
  · obtain ⟨x, ka, kc, b, off, hx, rfl, c0, c1, c2, c3, c4, hkd⟩ := hsl.at hb (Nat.le_refl _) hlt
    have htk := hid (take_next hx)
    have hmem := List.mem_of_getElem? hx
    have hdx := hid (hd.out x hmem)
    have hxs := Nat.le_trans (bulk_mem Node.sizes hmem) hn0
    unfold Node.sizes at hxs
    have hAl : ∀ {q : Nat} {u : Value} (o : Obj), wo.cell? ⟨b, q, none⟩ = some u → (wo.alloc o).cell? ⟨b, q, none⟩ = some u := fun {q u} o h => (((Below.refl wo.heap.size wo).alloc (Nat.le_refl _) o).cell (p := ⟨b, q, none⟩) (World.block_lt_of_cell? wo _ h)).trans h
    obtain ⟨_, _, _, hkv, hkc, hkm, hkrow⟩ := hkd
    simp at hkv
    obtain ⟨rfl, rfl⟩ := hkv
    unfold maxLen at hkm
    replace hown := hid hown
    replace hqk := hid hqk
    have c4' := hid c4
    clear hx hmem hAl
    go_wp2
    go_loopw [8] (fun j w2 => ∃ (m : Nat) (nkv : Value), j = .int .i64 m ∧ m ≤ x.kids.length ∧ SL wo x d m nkv w2) (fun j _ => x.kids.length - (intOf j).toNat)
    case atStart =>
      refine ⟨0, .slice (some ⟨wo.heap.size + 1, 0, none⟩) 0 0, rfl, by omega, ⟨by repeat (first | exact Below.refl _ _ | refine Below.alloc ?_ (by first | omega | (simp; done) | (simp; omega)) _ | refine Below.drew ?_), ?_, ?_⟩⟩
      · exact (Below.heap_alloc _ _ _ (by simp)).trans (heap_alloc_new wo _)
      · have := own_new0 (wo.alloc (.cells #[.int .i64 x.kind, .int .i64 x.op, .string x.text, .string x.other, .slice (some ⟨wo.heap.size + 1, 0, none⟩) 0 0] 34)) 3 1
        simpa using this
    clear c0 c1 c2 c3 c4
    obtain ⟨m, nkv, rfl, hm2, hsl2⟩ := hrel
    have hb2 := hsl2.hb
    have hbs2 := hb2.size
    have hbx := hsl2.box
    have hlb : wo.heap.size < wr.heap.size := (Array.getElem?_eq_some_iff.1 hbx).1
    have c4 := (hb2.cell (p := ⟨b, off + k * 5 + 4, none⟩) (World.block_lt_of_cell? wo _ c4'.out)).trans c4'.out
    by_cases hlm : m < x.kids.length
    · obtain ⟨kid, hkid⟩ := get_of_lt hlm
      obtain ⟨kb, koff, rfl, hkro⟩ := slc_some hkrow (by omega)
      have d0 := (hkro.mono hb2 (Nat.le_refl _)).one int1_len hkid rfl
      have hki := hdx.out kid (List.mem_of_getElem? hkid)
      have hwr := wrap_in (kid + d) hki
      have hkt := hid (take_next hkid)
      have n0 : wr.cell? ⟨wo.heap.size, 4, none⟩ = some nkv := by simp [World.cell?, hbx]
      have n1 : wr.frozen? ⟨wo.heap.size, 4, none⟩ = false := by simp [World.frozen?, hbx]
      have hne : Hid (some wo.heap.size ≠ nkv.ownBlock) := hid fun e => by have := (hsl2.own.lt _ e.symm).1; omega
      have hi1 : (m : Int) < (x.kids.length : Int) := by omega
      have hi2 : (k : Int) < (l0.length : Int) := by omega
      have al : ∀ {q : Addr} {u : Value} (o : Obj), q.spot = none → wr.cell? q = some u → (wr.alloc o).cell? q = some u := fun {q u} o _ h => (((Below.refl wr.heap.size wr).alloc (Nat.le_refl _) o).cell (p := q) (World.block_lt_of_cell? wr _ h)).trans h
      have m0 := fun o => al o rfl n0
      have m1 := fun o => (((Below.refl wr.heap.size wr).alloc (Nat.le_refl _) o).frozen (p := ⟨wo.heap.size, 4, none⟩) hlb).trans n1
      have hml : m ≤ 1048576 := by omega
      have hnl := hid hki
      clear hkid hkro hki hbx al
      replace hsl2 := hid hsl2
      go_wp2_with fail
      go_region_law
        (first
          | (refine step_append_lies _ (by rfl) _ _ _ (by rfl) (wo.heap.size + 1) 3 i0 _ 1 8 Tryd.underlying32 hi hz0 hz1 hz2 rfl (by omega) nkv m (((x.kids.take m).map (· + d)).flatMap int1) (by rfl) ((hsl2.out.own.alloc _).drew)
              ⟨wr.heap.size, 0, none⟩ 1 1 [.int .i64 (kid + d)] (by rfl) (by rfl) (World.news_of_block (cs := #[.int .i64 (kid + d)]) (t := 3) (fr := (0, 0)) (heap_alloc_new wr _)) (by simp [Value.oneCell'])
              (by omega) (by unfold maxLen; omega) (by omega) (by simp; omega) (wr.heap.size + 1) (by simp) ?_; intro gg cap2 w3 hown3 hgrow hat hlt3; have q2 := (hgrow.cell_far _ (by simp; omega) hne.out).trans (m0 _); have q3 := (hgrow.frozen_far _ (by simp; omega) hne.out).trans (m1 _)))
      all_goals go_wp2
      all_goals go_roundw
      all_goals first
        | (simp [intOf]; omega)
        | exact ⟨m + 1, _, by go_num, by omega, hsl2.out.step hown3 ⟨hgrow.os, hgrow.tape, hgrow.output, hgrow.size, hgrow.block⟩ hkt.out⟩
    · obtain rfl : m = x.kids.length := by omega
      obtain ⟨va, vc, rfl, hvm⟩ := own_slice hown.out.row
      obtain ⟨na, nc, rfl, hnm⟩ := own_slice hsl2.own
      have hO := hid (hown.out.keep (S' := fun g => w.heap.size ≤ g ∧ g < wo.heap.size) (w' := wr) fun b' hS hl => ⟨hb2.block b' hl, hS, hl⟩)
      have hnk := hid (fun g (hg : (Value.slice na x.kids.length nc).ownBlock = some g) => hsl2.own.lt g hg)
      have hkv := hid (show wr.ownsRow (wo.heap.size + 1) 3 1 (.slice na x.kids.length nc) (Node.shift d x).kids.length ((Node.shift d x).kids.flatMap int1) by
        have := hsl2.own
        rw [List.take_length] at this
        simpa [Node.shift] using this)
      have p0 : wr.cell? ⟨wo.heap.size, 0, none⟩ = some (.int .i64 x.kind) := by simp [World.cell?, hbx]
      have p1 : wr.cell? ⟨wo.heap.size, 1, none⟩ = some (.int .i64 x.op) := by simp [World.cell?, hbx]
      have p2 : wr.cell? ⟨wo.heap.size, 2, none⟩ = some (.string x.text) := by simp [World.cell?, hbx]
      have p3 : wr.cell? ⟨wo.heap.size, 3, none⟩ = some (.string x.other) := by simp [World.cell?, hbx]
      have p4 : wr.cell? ⟨wo.heap.size, 4, none⟩ = some (.slice na x.kids.length nc) := by simp [World.cell?, hbx]
      have hql : q.length ≤ 1048576 := by have := hqk.out; omega
      have hx63 : q.length + 1 ≤ maxLen := by unfold maxLen; omega
      have hx47 : (q.length + 1) * 72 ≤ 140737488355328 := by omega
      have hBr := hid (hb.trans (hb2.mono hb.size))
      clear hbx hsl2
      go_wp2_with (at_builtin; refine wpList_append_lies _ (by rfl) _ _ _ (by rfl) 0 34 i1 _ 5 72 Tryd.underlying22 hj hy0 hy1 hy2 rfl (by omega) (.slice va q.length vc) q.length (q.flatMap Node.cells) (by rfl) (hO.out.row.alloc _) ⟨wr.heap.size, 0, none⟩ 1 1 [.int .i64 x.kind, .int .i64 x.op, .string x.text, .string x.other, .slice na x.kids.length nc] (by rfl) (by rfl) (World.news_of_block (cs := #[.int .i64 x.kind, .int .i64 x.op, .string x.text, .string x.other, .slice na x.kids.length nc]) (t := 34) (fr := (0, 0)) (heap_alloc_new wr _)) (by simp [Value.oneCell']) (by omega) hx63 hx47 (by omega) (wr.heap.size + 1) (by simp) ?_; intro gg cap3 w3 hown3 hg3 hat hlt3)
      all_goals go_roundw
      all_goals first
        | (simp [intOf]; omega)
        | (refine ⟨k + 1, q ++ [(Node.shift d x, .slice na x.kids.length nc)], by go_num, by omega, by rw [List.length_append, hqk.out]; rfl, (hBr.out.alloc hBr.out.size _).grown hg3 (by have := hBr.out.size; simp; omega) (fun r e => (hO.out.rowS r e).1), hid (by rw [List.map_append, hqe.out, htk.out, List.map_append]; rfl), ?_⟩
           have h23 : ∀ b', b' < wr.heap.size → some b' ≠ (Value.slice va q.length vc).ownBlock → w3.heap[b']? = wr.heap[b']? := fun b' hb' hne' => (hg3.block b' (by simp; omega) hne').trans (Below.heap_alloc _ _ _ hb')
           refine hO.out.push hown3 (fun g hg => ?_) ?_ (fun g hg => ?_) (fun b' hS hl => ⟨h23 b' hl, hS.1⟩)
           · simp [Value.ownBlock] at hg
             subst hg
             rcases hat with hat | hat
             · exact ⟨(hO.out.rowS _ hat).1, .inl hat⟩
             · exact ⟨by omega, .inr (by omega)⟩
           · refine own_base ((hkv.out.alloc _).kept hg3 ?_) (Nat.zero_le _)
             cases hno : (Value.slice na x.kids.length nc).ownBlock with
             | none => exact .inl rfl
             | some g => exact .inr fun e => by have := (hO.out.rowS g e.symm).2; have := (hnk.out g hno).1; omega
           · have := hnk.out g hg
             exact ⟨by omega, fun hS => by omega, this.2⟩)
  · have hkl : k = l0.length := by omega
    subst hkl
    obtain ⟨va, vc, rfl, _⟩ := own_slice hown.row
    have hO := hid (hown.own (lo := w.heap.size) fun g h => h)
    have hqe2 : Hid (q.map Prod.fst = l0.map (Node.shift d)) := hid (by rw [hqe.out, List.take_length])
    replace hqk := hid hqk
    clear hown
    go_wp2
    go_ret
    exact ⟨_, rfl, hb, by rw [← hqe2.out]; exact hO.out⟩

end Go.Proofs.YtfdmfkonneonaaaDoor
