/- Walks and lemmas of this seat (FOwnD): what each theorem says of the functions that it names. Conditions: those that each theorem states. -/
import Derived.Test.YtfabfkaolnidiaaDataDNode
import Derived.Test.YtfabfkaolnidiaaGA
import Derived.Deep.AppendLies
import Derived.Deep.RegionLaw
import Derived.Deep.DrawnRows
import Derived.Test.YtfabfkaolnidiaaGD
import Derived.Test.YtfabfkaolnidiaaGC
namespace Go.Proofs.Ytfabfkaolnidiaa
set_option linter.unusedVariables false
set_option linter.unusedSimpArgs false
open Go.RowKit

theorem infoDNode : (Try.prog.info? 49).map (fun i => (i.zero, i.size, i.bytes)) = some (some (.agg #[.int .i64 0, .int .i64 0, .string ⟨#[]⟩, .slice none 0 0]), 4, 56) := by kernel_rfl
theorem own_up {w : World} {lo : Nat} {B : Nat} {e : TypeId} {s n : Nat} {v : Value} {xs : List Value} (h : w.ownsRow B e s v n xs) (hl : ∀ g, v.ownBlock = some g → lo ≤ g) : w.ownsRow lo e s v n xs := by
  refine ⟨h.1, ?_⟩
  rcases h.2 with hn | ⟨g, cap, cur, rfl, _, r⟩
  · exact .inl hn
  · exact .inr ⟨g, cap, cur, rfl, hl g rfl, r⟩
/-- The call's own nodes, each of their blocks in S. -/
structure OwnSD (S : Nat → Prop) (w : World) (v : Value) (q : List (DNode × Value)) : Prop where
  row : w.ownsRow 0 49 4 v q.length (q.flatMap DNode.cells)
  rowS : ∀ g, v.ownBlock = some g → S g
  kids : ∀ p ∈ q, w.ownsRow 0 3 1 p.2 p.1.kids.length (p.1.kids.flatMap int1)
  kidsS : ∀ p ∈ q, ∀ g, p.2.ownBlock = some g → S g
  apart : (v :: q.map Prod.snd).Pairwise Apart
theorem OwnSD.nil (S : Nat → Prop) (w : World) : OwnSD S w (.slice none 0 0) [] := ⟨⟨by simp, .inl ⟨rfl, rfl⟩⟩, fun g h => by simp [Value.ownBlock] at h, by simp, by simp, by simp⟩
theorem OwnSD.keep {S S' : Nat → Prop} {w w' : World} {v : Value} {q : List (DNode × Value)} (h : OwnSD S w v q) (hk : ∀ b, S b → b < w.heap.size → w'.heap[b]? = w.heap[b]? ∧ S' b) : OwnSD S' w' v q := by
  have key : ∀ {e : TypeId} {s n : Nat} {u : Value} {xs : List Value}, w.ownsRow 0 e s u n xs → (∀ g, u.ownBlock = some g → S g) → w'.ownsRow 0 e s u n xs ∧ ∀ g, u.ownBlock = some g → S' g := by
    intro e s n u xs ho hS
    refine ⟨⟨ho.1, ?_⟩, fun g hg => (hk g (hS g hg) (ho.lt g hg).2).2⟩
    rcases ho.2 with hn | ⟨g, cap, cur, rfl, hg, hgg, r⟩
    · exact .inl hn
    · exact .inr ⟨g, cap, cur, rfl, hg, (hk g (hS g rfl) (Array.getElem?_eq_some_iff.1 hgg).1).1.trans hgg, r⟩
  exact ⟨(key h.row h.rowS).1, (key h.row h.rowS).2, fun p hp => (key (h.kids p hp) (h.kidsS p hp)).1, fun p hp => (key (h.kids p hp) (h.kidsS p hp)).2, h.apart⟩
theorem OwnSD.own {S : Nat → Prop} {w : World} {lo : Nat} {v : Value} {q : List (DNode × Value)} (h : OwnSD S w v q) (hS : ∀ g, S g → lo ≤ g) : OwnDNode w lo w.heap.size v (q.map Prod.fst) :=
  ⟨q, rfl, ⟨own_up h.row fun g hg => hS g (h.rowS g hg), fun g hg => (h.row.lt g hg).2⟩, fun p hp => ⟨own_up (h.kids p hp) fun g hg => hS g (h.kidsS p hp g hg), fun g hg => ((h.kids p hp).lt g hg).2⟩, h.apart⟩
theorem apart_ne {a b : Value} (h : ∀ g, a.ownBlock = some g → b.ownBlock ≠ some g) : Apart a b := by
  unfold Apart
  cases ha : a.ownBlock with
  | none => exact .inl rfl
  | some g => exact .inr fun e => h g ha e.symm
/-- A node is appended. -/
theorem OwnSD.push {S S' : Nat → Prop} {w w' : World} {v v' kv : Value} {q : List (DNode × Value)} {x : DNode} (h : OwnSD S w v q) (hrow : w'.ownsRow 0 49 4 v' (q.length + 1) (q.flatMap DNode.cells ++ DNode.cells (x, kv)))
    (hv' : ∀ g, v'.ownBlock = some g → S' g ∧ (v.ownBlock = some g ∨ w.heap.size ≤ g))
    (hkv : w'.ownsRow 0 3 1 kv x.kids.length (x.kids.flatMap int1)) (hkS : ∀ g, kv.ownBlock = some g → S' g ∧ ¬ S g ∧ g < w.heap.size)
    (hk : ∀ b, S b → b < w.heap.size → (some b ≠ v.ownBlock → w'.heap[b]? = w.heap[b]?) ∧ S' b) : OwnSD S' w' v' (q ++ [(x, kv)]) := by
  have hap := List.pairwise_cons.1 h.apart
  have hne : ∀ p ∈ q, ∀ g, p.2.ownBlock = some g → some g ≠ v.ownBlock := fun p hp g hg e => by
    have := hap.1 p.2 (List.mem_map.2 ⟨p, hp, rfl⟩)
    unfold Apart at this
    rcases this with h0 | h0
    · rw [← e] at h0; cases h0
    · exact h0 (by rw [hg, e])
  refine ⟨by simpa using hrow, fun g hg => (hv' g hg).1, fun p hp => ?_, fun p hp g hg => ?_, ?_⟩
  · rcases List.mem_append.1 hp with hp | hp
    · have ho := h.kids p hp
      refine ⟨ho.1, ?_⟩
      rcases ho.2 with hn | ⟨g, cap, cur, hpv, hg, hgg, r⟩
      · exact .inl hn
      · have hgo : p.2.ownBlock = some g := by rw [hpv]; rfl
        exact .inr ⟨g, cap, cur, hpv, hg, ((hk g (h.kidsS p hp g hgo) (Array.getElem?_eq_some_iff.1 hgg).1).1 (hne p hp g hgo)).trans hgg, r⟩
    · simp at hp; subst hp; exact hkv
  · rcases List.mem_append.1 hp with hp | hp
    · exact (hk g (h.kidsS p hp g hg) ((h.kids p hp).lt g hg).2).2
    · simp at hp; subst hp; exact (hkS g hg).1
  · rw [List.map_append, List.pairwise_cons]
    refine ⟨fun a ha => ?_, pairwise_snoc hap.2 fun a ha => ?_⟩
    · refine apart_ne fun g hg => ?_
      rcases (hv' g hg).2 with hg2 | hg2
      · rcases List.mem_append.1 ha with ha | ha
        · obtain ⟨p, hp, rfl⟩ := List.mem_map.1 ha
          exact fun e => hne p hp g e hg2.symm
        · simp at ha; subst ha
          exact fun e => (hkS g e).2.1 (h.rowS g hg2)
      · rcases List.mem_append.1 ha with ha | ha
        · obtain ⟨p, hp, rfl⟩ := List.mem_map.1 ha
          exact fun e => by have := ((h.kids p hp).lt g e).2; omega
        · simp at ha; subst ha
          exact fun e => by have := (hkS g e).2.2; omega
    · obtain ⟨p, hp, rfl⟩ := List.mem_map.1 ha
      exact apart_ne fun g hg e => (hkS g e).2.1 (h.kidsS p hp g hg)
/-- Nodes of the call's own are appended to nodes of its own. -/
theorem OwnSD.pushAll {S S' : Nat → Prop} {w w' : World} {v v' : Value} {q q' : List (DNode × Value)} (h : OwnSD S w v q) (hrow : w'.ownsRow 0 49 4 v' (q.length + q'.length) (q.flatMap DNode.cells ++ q'.flatMap DNode.cells))
    (hv' : ∀ g, v'.ownBlock = some g → S' g ∧ (v.ownBlock = some g ∨ w.heap.size ≤ g))
    (hkv : ∀ p ∈ q', w'.ownsRow 0 3 1 p.2 p.1.kids.length (p.1.kids.flatMap int1)) (hkS : ∀ p ∈ q', ∀ g, p.2.ownBlock = some g → S' g ∧ ¬ S g ∧ g < w.heap.size) (hpw : (q'.map Prod.snd).Pairwise Apart)
    (hk : ∀ b, S b → b < w.heap.size → (some b ≠ v.ownBlock → w'.heap[b]? = w.heap[b]?) ∧ S' b) : OwnSD S' w' v' (q ++ q') := by
  have hap := List.pairwise_cons.1 h.apart
  have hne : ∀ p ∈ q, ∀ g, p.2.ownBlock = some g → some g ≠ v.ownBlock := fun p hp g hg e => by
    have := hap.1 p.2 (List.mem_map.2 ⟨p, hp, rfl⟩)
    unfold Apart at this
    rcases this with h0 | h0
    · rw [← e] at h0; cases h0
    · exact h0 (by rw [hg, e])
  refine ⟨by simpa using hrow, fun g hg => (hv' g hg).1, fun p hp => ?_, fun p hp g hg => ?_, ?_⟩
  · rcases List.mem_append.1 hp with hp | hp
    · have ho := h.kids p hp
      refine ⟨ho.1, ?_⟩
      rcases ho.2 with hn | ⟨g, cap, cur, hpv, hg, hgg, r⟩
      · exact .inl hn
      · have hgo : p.2.ownBlock = some g := by rw [hpv]; rfl
        exact .inr ⟨g, cap, cur, hpv, hg, ((hk g (h.kidsS p hp g hgo) (Array.getElem?_eq_some_iff.1 hgg).1).1 (hne p hp g hgo)).trans hgg, r⟩
    · exact hkv p hp
  · rcases List.mem_append.1 hp with hp | hp
    · exact (hk g (h.kidsS p hp g hg) ((h.kids p hp).lt g hg).2).2
    · exact (hkS p hp g hg).1
  · rw [List.map_append, List.pairwise_cons]
    refine ⟨fun a ha => ?_, List.pairwise_append.2 ⟨hap.2, hpw, fun a ha b hb => ?_⟩⟩
    · refine apart_ne fun g hg => ?_
      rcases (hv' g hg).2 with hg2 | hg2
      · rcases List.mem_append.1 ha with ha | ha
        · obtain ⟨p, hp, rfl⟩ := List.mem_map.1 ha
          exact fun e => hne p hp g e hg2.symm
        · obtain ⟨p, hp, rfl⟩ := List.mem_map.1 ha
          exact fun e => (hkS p hp g e).2.1 (h.rowS g hg2)
      · rcases List.mem_append.1 ha with ha | ha
        · obtain ⟨p, hp, rfl⟩ := List.mem_map.1 ha
          exact fun e => by have := ((h.kids p hp).lt g e).2; omega
        · obtain ⟨p, hp, rfl⟩ := List.mem_map.1 ha
          exact fun e => by have := (hkS p hp g e).2.2; omega
    · obtain ⟨p, hp, rfl⟩ := List.mem_map.1 ha
      obtain ⟨p', hp', rfl⟩ := List.mem_map.1 hb
      exact apart_ne fun g hg e => (hkS p' hp' g e).2.1 (h.kidsS p hp g hg)

end Go.Proofs.Ytfabfkaolnidiaa
/- Walks and lemmas of this seat (FShiftD): what each theorem says of the functions that it names. Conditions: those that each theorem states. -/
namespace Go.Proofs.Ytfabfkaolnidiaa
set_option linter.unusedVariables false
set_option linter.unusedSimpArgs false
open Go.RowKit

def DNode.shift (d : Int) (x : DNode) : DNode := ⟨x.kind, x.n, x.text, x.kids.map (· + d)⟩
attribute [local go_sem ↓] Go.wp_at_zero Go.wp_at_succ


/-- Within a round of l6Shift: the box of the node, its kids so far. -/
structure SLD (wr : World) (x : DNode) (d : Int) (k : Nat) (nkv : Value) (w2 : World) : Prop where
  hb : Below wr.heap.size wr w2
  box : w2.heap[wr.heap.size]? = some (.cells #[.int .i64 x.kind, .int .i64 x.n, .string x.text, nkv] 49 (0, 0))
  own : w2.ownsRow (wr.heap.size + 1) 3 1 nkv k (((x.kids.take k).map (· + d)).flatMap int1)
theorem SLD.step {wr w2 w3 : World} {x : DNode} {d kid : Int} {k cap gg : Nat} {nkv : Value} {o : Obj} (h : SLD wr x d k nkv w2) (hown : w3.ownsRow (wr.heap.size + 1) 3 1 (.slice (some ⟨gg, 0, none⟩) (k + 1) cap) (k + 1) (((x.kids.take k).map (· + d)).flatMap int1 ++ [.int .i64 (kid + d)]))
    (hg : (w2.alloc o).grownBy w3 nkv.ownBlock) (hk : x.kids.take (k + 1) = x.kids.take k ++ [kid]) :
    SLD wr x d (k + 1) (.slice (some ⟨gg, 0, none⟩) (k + 1) cap) (w3.setCell ⟨wr.heap.size, 3, none⟩ (.slice (some ⟨gg, 0, none⟩) (k + 1) cap)) := by
  have hnk : ∀ g, nkv.ownBlock = some g → wr.heap.size + 1 ≤ g ∧ g < w2.heap.size := fun g hg => h.own.lt g hg
  have hgg := (hown.lt gg rfl).1
  have hlt : wr.heap.size < w2.heap.size := (Array.getElem?_eq_some_iff.1 h.box).1
  refine ⟨?_, ?_, ?_⟩
  · exact ((h.hb.alloc h.hb.size o).grown hg (by simp; omega) (fun r e => by have := (hnk r e).1; omega)).setCell (p := ⟨wr.heap.size, 3, none⟩) (Nat.le_refl _) _
  · have := (hg.block wr.heap.size (by simp; omega) (fun e => by have := (hnk _ e.symm).1; omega)).trans ((Below.heap_alloc _ _ _ hlt).trans h.box)
    rw [heap_setCell_at this]; rfl
  · rw [hk, List.map_append, List.flatMap_append]
    exact hown.kept (grown_set w3 wr.heap.size 3 _) (.inr (by simp [Value.ownBlock]; omega))

set_option maxRecDepth 100000 in
set_option maxHeartbeats 3200000 in
theorem specl15Shift_any (l0 : List DNode) (v0 : Value) (d : Int) (w : World) (hx0 : ∀ x ∈ l0, x.Ok) (hn0 : bulk DNode.sizes l0 ≤ 1048576) (hv0 : DNodeSlc w v0 l0) (hd : ∀ x ∈ l0, ∀ k ∈ x.kids, I64 (k + d)) :
    Calls Try.prog 87 #[v0, .int .i64 d] w fun e w' => ∃ v', e = .returned v' ∧ Below w.heap.size w w' ∧ OwnDNode w' w.heap.size w'.heap.size v' (l0.map (DNode.shift d)) := by
  obtain ⟨a, cap, rfl, hm, hc, hsl⟩ := hv0.shape
  have hlen := Nat.le_trans (length_bulk DNode.sizes l0) hn0
  obtain ⟨i0, hi, hz0, hz1, hz2⟩ := info_parts Try.info3
  obtain ⟨i1, hj, hy0, hy1, hy2⟩ := info_parts infoDNode
  replace hd := hid hd
  go_enter Try.func87, Try.ntmps87
  go_wp2
  go_loopw [5, 6] (fun v i wr => ∃ (k : Nat) (q : List (DNode × Value)), i = .int .i64 k ∧ k ≤ l0.length ∧ q.length = k ∧ Below w.heap.size w wr ∧ Hid (q.map Prod.fst = (l0.take k).map (DNode.shift d)) ∧ OwnSD (fun g => w.heap.size ≤ g) wr v q) (fun _ i _ => l0.length - (intOf i).toNat)
  case atStart => exact ⟨0, [], rfl, by omega, rfl, by repeat (first | exact Below.refl _ _ | refine Below.alloc ?_ (by first | omega | (simp; done) | (simp; omega)) _ | refine Below.drew ?_), hid rfl, ⟨own_base (own_new0 _ _ _) (Nat.zero_le _), fun g hg => by simp [Value.ownBlock] at hg; omega, by simp, by simp, by simp⟩⟩
  obtain ⟨k, q, rfl, hk, hqk, hb, hqe, hown⟩ := hrel
  obtain ⟨wo, rfl⟩ : ∃ wo : World, wo = wr := ⟨_, rfl⟩
  have hbs := hb.size
  by_cases hlt : k < l0.length
  · obtain ⟨x, ka, kc, b, off, hx, rfl, c0, c1, c2, c4, hkd⟩ := hsl.at hb (Nat.le_refl _) hlt
    have htk := hid (take_next hx)
    have hmem := List.mem_of_getElem? hx
    have hdx := hid (hd.out x hmem)
    have hxs := Nat.le_trans (bulk_mem DNode.sizes hmem) hn0
    unfold DNode.sizes at hxs
    have hAl : ∀ {q : Nat} {u : Value} (o : Obj), wo.cell? ⟨b, q, none⟩ = some u → (wo.alloc o).cell? ⟨b, q, none⟩ = some u := fun {q u} o h => (((Below.refl wo.heap.size wo).alloc (Nat.le_refl _) o).cell (p := ⟨b, q, none⟩) (World.block_lt_of_cell? wo _ h)).trans h
    obtain ⟨_, _, _, hkv, hkc, hkm, hkrow⟩ := hkd
    simp at hkv
    obtain ⟨rfl, rfl⟩ := hkv
    unfold maxLen at hkm
    replace hown := hid hown
    replace hqk := hid hqk
    have c4' := hid c4
    clear hx hmem hAl
    go_wp2
    go_loopw [8] (fun j w2 => ∃ (m : Nat) (nkv : Value), j = .int .i64 m ∧ m ≤ x.kids.length ∧ SLD wo x d m nkv w2) (fun j _ => x.kids.length - (intOf j).toNat)
    case atStart =>
      refine ⟨0, .slice (some ⟨wo.heap.size + 1, 0, none⟩) 0 0, rfl, by omega, ⟨by repeat (first | exact Below.refl _ _ | refine Below.alloc ?_ (by first | omega | (simp; done) | (simp; omega)) _ | refine Below.drew ?_), ?_, ?_⟩⟩
      · exact (Below.heap_alloc _ _ _ (by simp)).trans (heap_alloc_new wo _)
      · have := own_new0 (wo.alloc (.cells #[.int .i64 x.kind, .int .i64 x.n, .string x.text, .slice (some ⟨wo.heap.size + 1, 0, none⟩) 0 0] 49)) 3 1
        simpa using this
    clear c0 c1 c2 c4
    obtain ⟨m, nkv, rfl, hm2, hsl2⟩ := hrel
    have hb2 := hsl2.hb
    have hbs2 := hb2.size
    have hbx := hsl2.box
    have hlb : wo.heap.size < wr.heap.size := (Array.getElem?_eq_some_iff.1 hbx).1
    have c4 := (hb2.cell (p := ⟨b, off + k * 4 + 3, none⟩) (World.block_lt_of_cell? wo _ c4'.out)).trans c4'.out
    by_cases hlm : m < x.kids.length
    · obtain ⟨kid, hkid⟩ := get_of_lt hlm
      obtain ⟨kb, koff, rfl, hkro⟩ := slc_some hkrow (by omega)
      have d0 := (hkro.mono hb2 (Nat.le_refl _)).one int1_len hkid rfl
      have hki := hdx.out kid (List.mem_of_getElem? hkid)
      have hwr := wrap_in (kid + d) hki
      have hkt := hid (take_next hkid)
      have n0 : wr.cell? ⟨wo.heap.size, 3, none⟩ = some nkv := by simp [World.cell?, hbx]
      have n1 : wr.frozen? ⟨wo.heap.size, 3, none⟩ = false := by simp [World.frozen?, hbx]
      have hne : Hid (some wo.heap.size ≠ nkv.ownBlock) := hid fun e => by have := (hsl2.own.lt _ e.symm).1; omega
      have hi1 : (m : Int) < (x.kids.length : Int) := by omega
      have hi2 : (k : Int) < (l0.length : Int) := by omega
      have al : ∀ {q : Addr} {u : Value} (o : Obj), q.spot = none → wr.cell? q = some u → (wr.alloc o).cell? q = some u := fun {q u} o _ h => (((Below.refl wr.heap.size wr).alloc (Nat.le_refl _) o).cell (p := q) (World.block_lt_of_cell? wr _ h)).trans h
      have m0 := fun o => al o rfl n0
      have m1 := fun o => (((Below.refl wr.heap.size wr).alloc (Nat.le_refl _) o).frozen (p := ⟨wo.heap.size, 3, none⟩) hlb).trans n1
      have hml : m ≤ 1048576 := by omega
      have hnl := hid hki
      clear hkid hkro hki hbx al
      replace hsl2 := hid hsl2
      go_wp2_with fail
      go_region_law
        (first
          | (refine step_append_lies _ (by rfl) _ _ _ (by rfl) (wo.heap.size + 1) 3 i0 _ 1 8 Try.underlying47 hi hz0 hz1 hz2 rfl (by omega) nkv m (((x.kids.take m).map (· + d)).flatMap int1) (by rfl) ((hsl2.out.own.alloc _).drew)
              ⟨wr.heap.size, 0, none⟩ 1 1 [.int .i64 (kid + d)] (by rfl) (by rfl) (World.news_of_block (cs := #[.int .i64 (kid + d)]) (t := 3) (fr := (0, 0)) (heap_alloc_new wr _)) (by simp [Value.oneCell'])
              (by omega) (by unfold maxLen; omega) (by omega) (by simp; omega) (wr.heap.size + 1) (by simp) ?_; intro gg cap2 w3 hown3 hgrow hat hlt3; have q2 := (hgrow.cell_far _ (by simp; omega) hne.out).trans (m0 _); have q3 := (hgrow.frozen_far _ (by simp; omega) hne.out).trans (m1 _)))
      all_goals go_wp2
      all_goals go_roundw
      all_goals first
        | (simp [intOf]; omega)
        | exact ⟨m + 1, _, by go_num, by omega, hsl2.out.step hown3 ⟨hgrow.os, hgrow.tape, hgrow.output, hgrow.size, hgrow.block⟩ hkt.out⟩
    · obtain rfl : m = x.kids.length := by omega
      obtain ⟨va, vc, rfl, hvm⟩ := own_slice hown.out.row
      obtain ⟨na, nc, rfl, hnm⟩ := own_slice hsl2.own
      have hO := hid (hown.out.keep (S' := fun g => w.heap.size ≤ g ∧ g < wo.heap.size) (w' := wr) fun b' hS hl => ⟨hb2.block b' hl, hS, hl⟩)
      have hnk := hid (fun g (hg : (Value.slice na x.kids.length nc).ownBlock = some g) => hsl2.own.lt g hg)
      have hkv := hid (show wr.ownsRow (wo.heap.size + 1) 3 1 (.slice na x.kids.length nc) (DNode.shift d x).kids.length ((DNode.shift d x).kids.flatMap int1) by
        have := hsl2.own
        rw [List.take_length] at this
        simpa [DNode.shift] using this)
      have p0 : wr.cell? ⟨wo.heap.size, 0, none⟩ = some (.int .i64 x.kind) := by simp [World.cell?, hbx]
      have p1 : wr.cell? ⟨wo.heap.size, 1, none⟩ = some (.int .i64 x.n) := by simp [World.cell?, hbx]
      have p2 : wr.cell? ⟨wo.heap.size, 2, none⟩ = some (.string x.text) := by simp [World.cell?, hbx]
      have p4 : wr.cell? ⟨wo.heap.size, 3, none⟩ = some (.slice na x.kids.length nc) := by simp [World.cell?, hbx]
      have hql : q.length ≤ 1048576 := by have := hqk.out; omega
      have hx63 : q.length + 1 ≤ maxLen := by unfold maxLen; omega
      have hx47 : (q.length + 1) * 56 ≤ 140737488355328 := by omega
      have hBr := hid (hb.trans (hb2.mono hb.size))
      clear hbx hsl2
      go_wp2_with (at_builtin; refine wpList_append_lies _ (by rfl) _ _ _ (by rfl) 0 49 i1 _ 4 56 Try.underlying26 hj hy0 hy1 hy2 rfl (by omega) (.slice va q.length vc) q.length (q.flatMap DNode.cells) (by rfl) (hO.out.row.alloc _) ⟨wr.heap.size, 0, none⟩ 1 1 [.int .i64 x.kind, .int .i64 x.n, .string x.text, .slice na x.kids.length nc] (by rfl) (by rfl) (World.news_of_block (cs := #[.int .i64 x.kind, .int .i64 x.n, .string x.text, .slice na x.kids.length nc]) (t := 49) (fr := (0, 0)) (heap_alloc_new wr _)) (by simp [Value.oneCell']) (by omega) hx63 hx47 (by omega) (wr.heap.size + 1) (by simp) ?_; intro gg cap3 w3 hown3 hg3 hat hlt3)
      all_goals go_roundw
      all_goals first
        | (simp [intOf]; omega)
        | (refine ⟨k + 1, q ++ [(DNode.shift d x, .slice na x.kids.length nc)], by go_num, by omega, by rw [List.length_append, hqk.out]; rfl, (hBr.out.alloc hBr.out.size _).grown hg3 (by have := hBr.out.size; simp; omega) (fun r e => (hO.out.rowS r e).1), hid (by rw [List.map_append, hqe.out, htk.out, List.map_append]; rfl), ?_⟩
           have h23 : ∀ b', b' < wr.heap.size → some b' ≠ (Value.slice va q.length vc).ownBlock → w3.heap[b']? = wr.heap[b']? := fun b' hb' hne' => (hg3.block b' (by simp; omega) hne').trans (Below.heap_alloc _ _ _ hb')
           refine hO.out.push hown3 (fun g hg => ?_) ?_ (fun g hg => ?_) (fun b' hS hl => ⟨h23 b' hl, hS.1⟩)
           · simp [Value.ownBlock] at hg
             subst hg
             rcases hat with hat | hat
             · exact ⟨(hO.out.rowS _ hat).1, .inl hat⟩
             · exact ⟨by omega, .inr (by omega)⟩
           · refine own_base ((hkv.out.alloc _).kept hg3 ?_) (Nat.zero_le _)
             cases hno : (Value.slice na x.kids.length nc).ownBlock with
             | none => exact .inl rfl
             | some g => exact .inr fun e => by have := (hO.out.rowS g e.symm).2; have := (hnk.out g hno).1; omega
           · have := hnk.out g hg
             exact ⟨by omega, fun hS => by omega, this.2⟩)
  · have hkl : k = l0.length := by omega
    subst hkl
    obtain ⟨va, vc, rfl, _⟩ := own_slice hown.row
    have hO := hid (hown.own (lo := w.heap.size) fun g h => h)
    have hqe2 : Hid (q.map Prod.fst = l0.map (DNode.shift d)) := hid (by rw [hqe.out, List.take_length])
    replace hqk := hid hqk
    clear hown
    go_wp2
    go_ret
    exact ⟨_, rfl, hb, by rw [← hqe2.out]; exact hO.out⟩

end Go.Proofs.Ytfabfkaolnidiaa
/- Walks and lemmas of this seat (FMakeD): what each theorem says of the functions that it names. Conditions: those that each theorem states. -/
namespace Go.Proofs.Ytfabfkaolnidiaa
set_option linter.unusedVariables false
set_option linter.unusedSimpArgs false
open Go.RowKit

/-! spec.l15Over: a node over parts. -/
def makeStepD (a : List DNode × List Int) (p : List DNode) : List DNode × List Int :=
  (a.1 ++ p.map (DNode.shift a.1.length), a.2 ++ [((a.1.length + p.length : Nat) : Int) - 1])
def makeKD (ps : List (List DNode)) : List DNode × List Int := ps.foldl makeStepD ([], [])
/-- The nodes of a node over parts. -/
def makeND (x : DNode) (ps : List (List DNode)) : List DNode := (makeKD ps).1 ++ [⟨x.kind, x.n, x.text, (makeKD ps).2⟩]
theorem makeKD_snoc (ps : List (List DNode)) (p : List DNode) : makeKD (ps ++ [p]) = makeStepD (makeKD ps) p := by unfold makeKD; rw [List.foldl_append]; rfl
theorem makeKD_len (ps : List (List DNode)) : (makeKD ps).1.length = (ps.map List.length).sum ∧ (makeKD ps).2.length = ps.length := by
  unfold makeKD
  suffices h : ∀ a : List DNode × List Int, (ps.foldl makeStepD a).1.length = a.1.length + (ps.map List.length).sum ∧ (ps.foldl makeStepD a).2.length = a.2.length + ps.length by simpa using h ([], [])
  induction ps with
  | nil => intro a; simp
  | cons p ps ih =>
    intro a
    have := ih (makeStepD a p)
    simp only [List.foldl_cons, List.map_cons, List.sum_cons, List.length_cons]
    unfold makeStepD at this ⊢
    simp only [List.length_append, List.length_map, List.length_cons, List.length_nil] at this
    omega

/-- Between two rounds of l15Over's loop. -/
structure MLD (x : DNode) (w : World) (ps : List (List DNode)) (vo nkv : Value) (q : List (DNode × Value)) (wr : World) : Prop where
  hb : Below w.heap.size w wr
  box : wr.heap[w.heap.size + 1]? = some (.cells #[.int .i64 x.kind, .int .i64 x.n, .string x.text, nkv] 49 (0, 0))
  own : wr.ownsRow (w.heap.size + 1 + 1) 3 1 nkv ps.length ((makeKD ps).2.flatMap int1)
  eq : q.map Prod.fst = (makeKD ps).1
  nodes : OwnSD (fun g => (w.heap.size ≤ g ∧ g ≠ w.heap.size + 1) ∧ some g ≠ nkv.ownBlock) wr vo q
theorem MLD.start (x : DNode) (w : World) : MLD x w [] (.slice (some ⟨w.heap.size, 0, none⟩) 0 0) (.slice none 0 0) [] ((w.alloc (.cells #[] 49)).alloc (.cells #[.int .i64 x.kind, .int .i64 x.n, .string x.text, .slice none 0 0] 49)) := by
  have h1 : ((w.alloc (.cells #[] 49)).alloc (.cells #[.int .i64 x.kind, .int .i64 x.n, .string x.text, .slice none 0 0] 49)).heap[w.heap.size + 1]? = some (.cells #[.int .i64 x.kind, .int .i64 x.n, .string x.text, .slice none 0 0] 49 (0, 0)) := by
    have := heap_alloc_new (w.alloc (.cells #[] 49)) (.cells #[.int .i64 x.kind, .int .i64 x.n, .string x.text, .slice none 0 0] 49)
    simpa using this
  refine ⟨by repeat (first | exact Below.refl _ _ | refine Below.alloc ?_ (by first | omega | (simp; done) | (simp; omega)) _ | refine Below.drew ?_), h1, World.ownsRow_nil _ _ _ _, rfl, ?_⟩
  refine ⟨own_base ((own_new0 w _ _).alloc _) (Nat.zero_le _), fun g hg => ?_, by simp, by simp, by simp⟩
  simp [Value.ownBlock] at hg
  subst hg
  exact ⟨by omega, by simp [Value.ownBlock]⟩
/-- Behind the part's nodes: the row of the nodes has grown. -/
theorem MLD.grow {x : DNode} {w : World} {ps : List (List DNode)} {vo nkv v3 : Value} {q q' : List (DNode × Value)} {wr w2 w3 : World} (h : MLD x w ps vo nkv q wr) (hb2 : Below wr.heap.size wr w2) (hlt : w.heap.size + 1 < wr.heap.size)
    (hq' : ∀ p ∈ q', OwnIn w2 wr.heap.size w2.heap.size 3 1 p.2 p.1.kids.length (p.1.kids.flatMap int1)) (hpw : (q'.map Prod.snd).Pairwise Apart)
    (hrow : w3.ownsRow 0 49 4 v3 (q.length + q'.length) (q.flatMap DNode.cells ++ q'.flatMap DNode.cells)) (hg : w2.grownBy w3 vo.ownBlock) (hat : ∀ g, v3.ownBlock = some g → vo.ownBlock = some g ∨ g = w2.heap.size) :
    Below w.heap.size w w3 ∧ w3.heap[w.heap.size + 1]? = some (.cells #[.int .i64 x.kind, .int .i64 x.n, .string x.text, nkv] 49 (0, 0)) ∧ w3.ownsRow (w.heap.size + 1 + 1) 3 1 nkv ps.length ((makeKD ps).2.flatMap int1) ∧ OwnSD (fun g => (w.heap.size ≤ g ∧ g ≠ w.heap.size + 1) ∧ some g ≠ nkv.ownBlock) w3 v3 (q ++ q') := by
  have hvo : ∀ g, vo.ownBlock = some g → (w.heap.size ≤ g ∧ g ≠ w.heap.size + 1) ∧ g < wr.heap.size := fun g hg => ⟨(h.nodes.rowS g hg).1, (h.nodes.row.lt g hg).2⟩
  have hnk : ∀ g, nkv.ownBlock = some g → w.heap.size + 1 + 1 ≤ g ∧ g < wr.heap.size := fun g hg => h.own.lt g hg
  have hnv : ∀ g, nkv.ownBlock = some g → some g ≠ vo.ownBlock := fun g hg e => (h.nodes.rowS g e.symm).2 hg.symm
  have hs2 := hb2.size
  refine ⟨(h.hb.trans (hb2.mono h.hb.size)).grown hg (by have := h.hb.size; omega) (fun r e => by have := (hvo r e).1; omega), ?_, ?_, ?_⟩
  · exact (hg.block _ (by omega) (fun e => by have := (hvo _ e.symm).1; omega)).trans ((hb2.block _ hlt).trans h.box)
  · refine (own_below h.own hb2 (Nat.le_refl _)).kept hg ?_
    cases hno : nkv.ownBlock with
    | none => exact .inl rfl
    | some g => exact .inr (hnv g hno)
  · have hO : OwnSD (fun g => ((w.heap.size ≤ g ∧ g ≠ w.heap.size + 1) ∧ some g ≠ nkv.ownBlock) ∧ g < wr.heap.size) w2 vo q := h.nodes.keep fun b hS hl => ⟨hb2.block b hl, hS, hl⟩
    refine hO.pushAll hrow (fun g hg2 => ?_) (fun p hp => ?_) (fun p hp g hg2 => ?_) hpw (fun b hS hl => ⟨fun hne => hg.block b hl hne, hS.1⟩)
    · rcases hat g hg2 with h2 | h2
      · exact ⟨h.nodes.rowS g h2, .inl h2⟩
      · exact ⟨⟨by omega, fun e => by have := (hnk g e.symm).2; omega⟩, .inr (by omega)⟩
    · refine own_base ((hq' p hp).1.kept hg ?_) (Nat.zero_le _)
      cases hno : p.2.ownBlock with
      | none => exact .inl rfl
      | some g => exact .inr fun e => by have := (hvo g e.symm).2; have := ((hq' p hp).1.lt g hno).1; omega
    · have h1 := ((hq' p hp).1.lt g hg2).1
      have h2 := (hq' p hp).2 g hg2
      exact ⟨⟨by omega, fun e => by have := (hnk g e.symm).2; omega⟩, fun e => by omega, h2⟩
/-- Behind the node's kids: the round is done. -/
theorem MLD.step {x : DNode} {w : World} {ps : List (List DNode)} {p : List DNode} {v3 nkv : Value} {q' : List (DNode × Value)} {w3 w4 : World} {o : Obj} {gg cap m : Nat} {d : Int}
    (hb3 : Below w.heap.size w w3) (hbox : w3.heap[w.heap.size + 1]? = some (.cells #[.int .i64 x.kind, .int .i64 x.n, .string x.text, nkv] 49 (0, 0))) (hown : w3.ownsRow (w.heap.size + 1 + 1) 3 1 nkv ps.length ((makeKD ps).2.flatMap int1))
    (hO : OwnSD (fun g => (w.heap.size ≤ g ∧ g ≠ w.heap.size + 1) ∧ some g ≠ nkv.ownBlock) w3 v3 q') (heq : q'.map Prod.fst = (makeStepD (makeKD ps) p).1)
    (hown4 : w4.ownsRow (w.heap.size + 1 + 1) 3 1 (.slice (some ⟨gg, 0, none⟩) m cap) m ((makeKD ps).2.flatMap int1 ++ [.int .i64 d])) (hm : m = ps.length + 1) (hd : d = ((makeKD ps).1.length + p.length : Nat) - 1) (hg : (w3.alloc o).grownBy w4 nkv.ownBlock) (hat : nkv.ownBlock = some gg ∨ gg = w3.heap.size + 1) :
    MLD x w (ps ++ [p]) v3 (.slice (some ⟨gg, 0, none⟩) m cap) q' (w4.setCell ⟨w.heap.size + 1, 3, none⟩ (.slice (some ⟨gg, 0, none⟩) m cap)) := by
  have hnk : ∀ g, nkv.ownBlock = some g → w.heap.size + 1 + 1 ≤ g ∧ g < w3.heap.size := fun g hg => hown.lt g hg
  have hlt : w.heap.size + 1 < w3.heap.size := (Array.getElem?_eq_some_iff.1 hbox).1
  have hgg := (hown4.lt gg rfl).1
  subst hm hd
  have hsz : w3.heap.size + 1 ≤ w4.heap.size := by have := hg.size; simpa using this
  refine ⟨?_, ?_, ?_, by rw [makeKD_snoc]; exact heq, ?_⟩
  · exact ((hb3.alloc hb3.size o).grown hg (by simp; omega) (fun r e => by have := (hnk r e).1; omega)).setCell (p := ⟨w.heap.size + 1, 3, none⟩) (Nat.le_succ _) _
  · have := (hg.block (w.heap.size + 1) (by simp; omega) (fun e => by have := (hnk _ e.symm).1; omega)).trans ((Below.heap_alloc _ _ _ hlt).trans hbox)
    rw [heap_setCell_at this]; rfl
  · rw [makeKD_snoc]
    have := hown4.kept (grown_set w4 (w.heap.size + 1) 3 (.slice (some ⟨gg, 0, none⟩) (ps.length + 1) cap)) (.inr (by simp [Value.ownBlock]; omega))
    simpa [makeStepD, List.flatMap_append, int1] using this
  · refine hO.keep fun b hS hl => ⟨?_, hS.1, fun e => ?_⟩
    · rw [heap_setCell_other _ _ _ _ (by show b ≠ w.heap.size + 1; omega)]
      exact (hg.block b (by simp; omega) hS.2).trans (Below.heap_alloc _ _ _ hl)
    · have e : b = gg := Option.some.inj e
      rcases hat with h | h
      · exact hS.2 (by rw [h, e])
      · omega

/-- The parts in memory: a slice of slices of nodes. -/
def PartsIsD (w : World) (v : Value) (ps : List (List DNode × Value)) : Prop := Slc w v 1 ps.length (ps.flatMap fun p => [p.2]) ∧ ∀ p ∈ ps, DNodeSlc w p.2 p.1
def partD1 (p : List DNode × Value) : List Value := [p.2]
theorem partD1_len (p : List DNode × Value) : (partD1 p).length = 1 := rfl

set_option maxRecDepth 100000 in
set_option maxHeartbeats 3200000 in
theorem specl15Over_any (x : DNode) (hx : Hid (x.text = ⟨#[]⟩)) (v : Value) (ps : List (List DNode × Value)) (w : World) (hv : Slc w v 1 ps.length (ps.flatMap partD1)) (hN : ∀ p ∈ ps, DNodeSlc w p.2 p.1) (hne : ∀ p ∈ ps, p.1 ≠ [] ∧ (∀ y ∈ p.1, y.Ok) ∧ bulk DNode.sizes p.1 ≤ 1048576 ∧ ∀ y ∈ p.1, ∀ k ∈ y.kids, 0 ≤ k ∧ k ≤ 1048576)
    (htot : ((ps.map Prod.fst).map List.length).sum ≤ 1048575) :
    Calls Try.prog 79 #[.int .i64 x.kind, .int .i64 x.n, v] w fun e w' => ∃ v', e = .returned v' ∧ Below w.heap.size w w' ∧ OwnDNode w' w.heap.size w'.heap.size v' (makeND x (ps.map Prod.fst)) := by
  obtain ⟨_, a, cap, rfl, hcap, hm, hrow⟩ := hv
  unfold maxLen at hm
  obtain ⟨i0, hi, hz0, hz1, hz2⟩ := info_parts Try.info3
  obtain ⟨i1, hj, hy0, hy1, hy2⟩ := info_parts infoDNode
  replace hN := hid hN
  replace hne := hid hne
  replace htot := hid htot
  have hpl : ps.length ≤ 1048576 := by
    have h1 : ∀ (l : List (List DNode × Value)), (∀ p ∈ l, p.1 ≠ []) → l.length ≤ ((l.map Prod.fst).map List.length).sum := fun l => by
      induction l with
      | nil => intro _; simp
      | cons p l ih =>
        intro h
        have h2 := ih fun q hq => h q (List.mem_cons_of_mem _ hq)
        have h3 := List.length_pos_iff.2 (h p (List.mem_cons_self ..))
        simp only [List.map_cons, List.sum_cons, List.length_cons]
        omega
    have := h1 ps fun p hp => (hne.out p hp).1
    have := htot.out
    omega
  go_enter Try.func79, Try.ntmps79
  go_wp2
  go_loopw [7, 9] (fun vo i wr => ∃ (k : Nat) (nkv : Value) (q : List (DNode × Value)), i = .int .i64 k ∧ k ≤ ps.length ∧ MLD x w ((ps.map Prod.fst).take k) vo nkv q wr) (fun _ i _ => ps.length - (RowKit.intOf i).toNat)
  case atStart => exact ⟨0, _, [], rfl, by omega, by have := MLD.start x w; rw [hx.out] at this; exact this⟩
  obtain ⟨k, nkv, q, rfl, hk, hML⟩ := hrel
  have hbs := hML.hb.size
  have hlb := (Array.getElem?_eq_some_iff.1 hML.box).1
  by_cases hlt : k < ps.length
  · obtain ⟨p, hp⟩ := get_of_lt hlt
    obtain ⟨b, off, rfl, hro⟩ := slc_some hrow (by omega)
    have c0 := (hro.mono hML.hb (Nat.le_refl _)).one partD1_len hp rfl
    have hpm := List.mem_of_getElem? hp
    obtain ⟨hpn, hpo, hpb, hpk⟩ := hne.out p hpm
    have hNp := (hN.out p hpm).mono hML.hb (Nat.le_refl _)
    have htk : (ps.map Prod.fst).take (k + 1) = (ps.map Prod.fst).take k ++ [p.1] := take_next (by rw [List.getElem?_map, hp]; rfl)
    have hql : q.length = (makeKD ((ps.map Prod.fst).take k)).1.length := by rw [← hML.eq]; simp
    have hqs : q.length + p.1.length ≤ 1048575 := by
      rw [hql, (makeKD_len _).1]
      have h1 := htot.out
      have h2 : (((ps.map Prod.fst).take (k + 1)).map List.length).sum ≤ ((ps.map Prod.fst).map List.length).sum := by
        conv => rhs; rw [← List.take_append_drop (k + 1) (ps.map Prod.fst), List.map_append, List.sum_append]
        exact Nat.le_add_right _ _
      rw [htk, List.map_append, List.sum_append, List.map_cons, List.map_nil, List.sum_cons, List.sum_nil] at h2
      omega
    have hcall := hid (specl15Shift_any p.1 p.2 (q.length : Int) wr hpo hpb hNp (fun y hy j hj => by have := hpk y hy j hj; unfold I64; omega))
    obtain ⟨va, vc, rfl, hvm⟩ := own_slice hML.nodes.row
    have hkl : ((ps.map Prod.fst).take k).length = k := by simp; omega
    have hwk := hML.own
    rw [hkl] at hwk
    obtain ⟨na, nc, rfl, hnm⟩ := own_slice hwk
    clear hwk
    obtain ⟨pa, pc, hpv, _, _, _⟩ := hNp.shape
    rw [hpv] at c0 hcall
    have hpl1 := List.length_pos_iff.2 hpn
    replace hML := hid hML
    replace hql := hid hql
    replace htk := hid htk
    clear hp hro hrow hpm hNp hpk hpo hpb hpv
    go_wp2_with fail
    refine hcall.out.mono ?_; rintro e w2 ⟨v2, rfl, hb2, q2, hq2, hr2, hk2, hpw2⟩
    have hs2 := hb2.size
    have hl2 : q2.length = p.1.length := by have := congrArg List.length hq2; simpa using this
    obtain ⟨g2, cap2, rfl, hcp2⟩ := own_slice' hr2.1 (by omega)
    have hnews : ∀ (j : Nat) u, (q2.flatMap DNode.cells)[j]? = some u → w2.cell? ((⟨g2, 0, none⟩ : Addr).add j) = some u := fun j u h => by
      have hj := (List.getElem?_eq_some_iff.1 h).1
      have hl := hr2.1.1
      have := hr2.1.cellAt j (by omega)
      rw [h] at this
      have ha : (⟨g2, 0, none⟩ : Addr).add j = ⟨g2, j, none⟩ := by cases j <;> simp [Addr.add]
      rw [ha]
      exact this
    have hone : ∀ u ∈ q2.flatMap DNode.cells, u.oneCell' = true := fun u hu => by
      obtain ⟨y, hy, hu⟩ := List.mem_flatMap.1 hu
      obtain ⟨ya, yc, hyv, _⟩ := own_slice (hk2 y hy).1
      unfold DNode.cells at hu
      rw [hyv] at hu
      simp at hu
      rcases hu with rfl | rfl | rfl | rfl | rfl <;> rfl
    have hfl : (q2.flatMap DNode.cells).length = q2.length * 4 := hr2.1.1
    have hrow2 := own_below hML.out.nodes.row hb2 (Nat.le_refl _)
    have hd1 : q2.length ≤ 1048576 := by omega
    have hd0 : q.length ≤ 1048576 := by omega
    have hx63 : q.length + q2.length ≤ maxLen := by unfold maxLen; omega
    have hq2p : 0 < q2.length := by omega
    have hqq : q.length + q2.length ≤ 1048576 := by omega
    replace hl2 := hid hl2
    replace hq2 := hid hq2
    replace hb2 := hid hb2
    replace hk2 := hid hk2
    replace hpw2 := hid hpw2
    replace hr2 := hid hr2
    replace hnews := hid hnews
    replace hone := hid hone
    replace hfl := hid hfl
    replace hrow2 := hid hrow2
    clear hcall
    go_wp2_with (at_builtin; refine Hid.out ?_)
    refine hid ?_
    refine wpList_append_lies _ (by rfl) _ _ _ (by rfl) 0 49 i1 _ 4 56 Try.underlying26 hj hy0 hy1 hy2 rfl (by omega) _ q.length (q.flatMap DNode.cells) (by rfl) hrow2.out ⟨g2, 0, none⟩ q2.length cap2 (q2.flatMap DNode.cells) (by rfl) hfl.out hnews.out hone.out (by omega) hx63 (by omega) (by omega) w2.heap.size rfl ?_
    intro gg cap3 w3 hown3 hg3 hat hlt3
    have hG := hML.out.grow hb2.out hlb hk2.out (List.pairwise_cons.1 hpw2.out).2 hown3 hg3 (fun g hg => by simp [Value.ownBlock] at hg; subst hg; exact hat)
    have n0 := box_cell (j := 3) hG.2.1 rfl
    have n1 := box_froz (j := 3) hG.2.1
    replace hG := hid hG
    obtain ⟨hB3, hbox3, hown3k, hO3⟩ := hG.out
    rw [hkl] at hown3k
    have hbs3 := hB3.size
    have hl3 : w.heap.size + 1 < w3.heap.size := (Array.getElem?_eq_some_iff.1 hbox3).1
    have hne3 : Hid (some (w.heap.size + 1) ≠ (Value.slice na k nc).ownBlock) := hid fun e => by have := (hown3k.lt _ e.symm).1; omega
    have m0 := fun o => (((Below.refl w3.heap.size w3).alloc (Nat.le_refl _) o).cell (p := ⟨w.heap.size + 1, 3, none⟩) hl3).trans n0
    have m1 := fun o => (((Below.refl w3.heap.size w3).alloc (Nat.le_refl _) o).frozen (p := ⟨w.heap.size + 1, 3, none⟩) hl3).trans n1
    have hkm : k ≤ 1048576 := by omega
    have heq : Hid ((q ++ q2).map Prod.fst = (makeStepD (makeKD ((ps.map Prod.fst).take k)) p.1).1) := hid (by rw [List.map_append, hML.out.eq, hq2.out]; unfold makeStepD; rw [hql.out])
    replace hown3k := hid hown3k
    replace hbox3 := hid hbox3
    replace hO3 := hid hO3
    replace hB3 := hid hB3
    clear hML hg3 hown3 hat hrow2 hr2 hnews hone hfl hk2 hpw2 hb2
    go_wp2_with (at_builtin; refine Hid.out ?_)
    refine hid ?_
    refine wpList_append_lies _ (by rfl) _ _ _ (by rfl) (w.heap.size + 1 + 1) 3 i0 _ 1 8 Try.underlying47 hi hz0 hz1 hz2 rfl (by omega) _ k ((makeKD ((ps.map Prod.fst).take k)).2.flatMap int1) (by rfl) (hown3k.out.alloc _) ⟨w3.heap.size, 0, none⟩ 1 1 [.int .i64 ((q.length : Int) + (q2.length : Int) - 1)] (by rfl) (by rfl) (World.news_of_block (cs := #[.int .i64 ((q.length : Int) + (q2.length : Int) - 1)]) (t := 3) (fr := (0, 0)) (heap_alloc_new w3 _)) (by simp [Value.oneCell']) (by omega) (by unfold maxLen; omega) (by omega) (by simp; omega) (w3.heap.size + 1) (by simp) ?_
    intro gg4 cap4 w4 hown4 hg4 hat4 hlt4
    have q2x := (hg4.cell_far _ (by simp; omega) hne3.out).trans (m0 _)
    have q3x := (hg4.frozen_far _ (by simp; omega) hne3.out).trans (m1 _)
    go_wp2
    all_goals go_roundw
    all_goals first
      | (simp [RowKit.intOf]; omega)
      | (refine ⟨k + 1, .slice (some ⟨gg4, 0, none⟩) (k + 1) cap4, q ++ q2, by go_num, by omega, ?_⟩
         rw [htk.out]
         exact MLD.step hB3.out hbox3.out (by rw [hkl]; exact hown3k.out) hO3.out heq.out hown4 (by rw [hkl]) (by rw [← hql.out, ← hl2.out]; omega) hg4 hat4)
  · obtain rfl : k = ps.length := by omega
    have hfull : (ps.map Prod.fst).take ps.length = ps.map Prod.fst := List.take_of_length_le (by simp)
    rw [hfull] at hML
    obtain ⟨va, vc, rfl, hvm⟩ := own_slice hML.nodes.row
    have hkl : (ps.map Prod.fst).length = ps.length := by simp
    have hwk := hML.own
    rw [hkl] at hwk
    obtain ⟨na, nc, rfl, hnm⟩ := own_slice hwk
    have hbx := hML.box
    have p0 := box_cell (j := 0) hbx rfl
    have p1 := box_cell (j := 1) hbx rfl
    have p2 := box_cell (j := 2) hbx rfl
    have p3 := box_cell (j := 3) hbx rfl
    have p4 := box_cell (j := 3) hbx rfl
    have hql : q.length ≤ 1048575 := by
      have h1 : q.length = (makeKD (ps.map Prod.fst)).1.length := by rw [← hML.eq]; simp
      rw [h1, (makeKD_len _).1]
      exact htot.out
    have hqe := hid hML.eq
    have hB := hid hML.hb
    have hO := hid hML.nodes
    have hkk : (makeKD (ps.map Prod.fst)).2.length = ps.length := by rw [(makeKD_len _).2, hkl]
    replace hwk := hid hwk
    clear hML hbx hrow
    go_wp2_with (at_builtin; refine Hid.out ?_)
    refine hid ?_
    refine wpList_append_lies _ (by rfl) _ _ _ (by rfl) 0 49 i1 _ 4 56 Try.underlying26 hj hy0 hy1 hy2 rfl (by omega) (.slice va q.length vc) q.length (q.flatMap DNode.cells) (by rfl) (hO.out.row.alloc _) ⟨wr.heap.size, 0, none⟩ 1 1 [.int .i64 x.kind, .int .i64 x.n, .string x.text, .slice na ps.length nc] (by rfl) (by rfl) (World.news_of_block (cs := #[.int .i64 x.kind, .int .i64 x.n, .string x.text, .slice na ps.length nc]) (t := 49) (fr := (0, 0)) (heap_alloc_new wr _)) (by simp [Value.oneCell']) (by omega) (by unfold maxLen; omega) (by omega) (by omega) (wr.heap.size + 1) (by simp) ?_
    intro gg cap3 w3 hown3 hg3 hat hlt3
    go_wp2
    go_ret
    have h23 : ∀ b', b' < wr.heap.size → some b' ≠ (Value.slice va q.length vc).ownBlock → w3.heap[b']? = wr.heap[b']? := fun b' hb' hne' => (hg3.block b' (by simp; omega) hne').trans (Below.heap_alloc _ _ _ hb')
    have hnk : ∀ g, (Value.slice na ps.length nc).ownBlock = some g → w.heap.size + 1 + 1 ≤ g ∧ g < wr.heap.size := fun g hg => hwk.out.lt g hg
    have hnv : ∀ g, (Value.slice na ps.length nc).ownBlock = some g → some g ≠ (Value.slice va q.length vc).ownBlock := fun g hg e => (hO.out.rowS g e.symm).2 hg.symm
    have hvo : ∀ g, (Value.slice va q.length vc).ownBlock = some g → w.heap.size ≤ g := fun g hg => (hO.out.rowS g hg).1.1
    have hfin : OwnSD (fun g => w.heap.size ≤ g) w3 (.slice (some ⟨gg, 0, none⟩) (q.length + 1) cap3) (q ++ [((⟨x.kind, x.n, x.text, (makeKD (ps.map Prod.fst)).2⟩ : DNode), .slice na ps.length nc)]) := by
      refine hO.out.push hown3 (fun g hg => ?_) ?_ (fun g hg => ⟨by have := (hnk g hg).1; omega, fun hS => hS.2 hg.symm, (hnk g hg).2⟩) (fun b' hS hl => ⟨h23 b' hl, hS.1.1⟩)
      · simp [Value.ownBlock] at hg
        subst hg
        rcases hat with hat | hat
        · exact ⟨hvo _ hat, .inl hat⟩
        · exact ⟨by omega, .inr (by omega)⟩
      · show w3.ownsRow 0 _ 1 _ (makeKD (ps.map Prod.fst)).2.length ((makeKD (ps.map Prod.fst)).2.flatMap int1)
        rw [hkk]
        refine own_base ((hwk.out.alloc _).kept hg3 ?_) (Nat.zero_le _)
        cases hno : (Value.slice na ps.length nc).ownBlock with
        | none => exact .inl rfl
        | some g => exact .inr (hnv g hno)
    have hres := hfin.own (lo := w.heap.size) (fun g h => by omega)
    rw [List.map_append, hqe.out] at hres
    exact ⟨_, rfl, (hB.out.alloc hB.out.size _).grown hg3 (by have := hB.out.size; simp; omega) (fun r e => by have := hvo r e; omega), hres⟩
end Go.Proofs.Ytfabfkaolnidiaa
/- Walks and lemmas of this seat (FPartsD): what each theorem says of the functions that it names. Conditions: those that each theorem states. -/
namespace Go.Proofs.Ytfabfkaolnidiaa
set_option linter.unusedVariables false
set_option linter.unusedSimpArgs false
open Go.RowKit

/-! Documents that are drawn: how great they are; parts while they are gathered. -/
/-- Nodes of a drawn document of so many nodes. -/
def DSmall (n : Nat) (x : DNode) : Prop := x.text.size ≤ 16 ∧ 0 ≤ x.kind ∧ x.kind ≤ 8 ∧ 0 ≤ x.n ∧ x.n ≤ 40 ∧ x.kids.length ≤ 8 ∧ ∀ k ∈ x.kids, 0 ≤ k ∧ k ≤ n
theorem DSmall.mono {n m : Nat} {x : DNode} (h : DSmall n x) (hm : n ≤ m) : DSmall m x := by
  obtain ⟨h1, h2, h3, h4, h5, h6, h7⟩ := h
  exact ⟨h1, h2, h3, h4, h5, h6, fun k hk => by have := h7 k hk; omega⟩
def SmallD (l : List DNode) : Prop := l ≠ [] ∧ ∀ x ∈ l, DSmall l.length x
theorem SmallD.fine {l : List DNode} (h : SmallD l) (hl : l.length ≤ 5000) : l ≠ [] ∧ (∀ y ∈ l, y.Ok) ∧ bulk DNode.sizes l ≤ 1048576 ∧ ∀ y ∈ l, ∀ k ∈ y.kids, 0 ≤ k ∧ k ≤ 1048576 := by
  refine ⟨h.1, fun y hy => ?_, ?_, fun y hy k hk => ?_⟩
  · obtain ⟨h1, h2, h3, h4, h5, h6, h7⟩ := h.2 y hy
    unfold DNode.Ok I64 maxLen
    exact ⟨by omega, by omega, by omega, fun k hk => by have := h7 k hk; omega, by omega⟩
  · have : ∀ (L : List DNode), (∀ x ∈ L, x.sizes ≤ 24) → bulk DNode.sizes L ≤ L.length * 25 := fun L => by
      induction L with
      | nil => intro _; simp [bulk]
      | cons x L ih =>
        intro hL
        have h1 := hL x (by simp)
        have h2 := ih fun y hy => hL y (by simp [hy])
        simp only [bulk, List.map_cons, List.sum_cons, List.length_cons] at *
        omega
    have := this l fun x hx => by
      obtain ⟨h1, _, _, _, _, h6, _⟩ := h.2 x hx
      unfold DNode.sizes; omega
    omega
  · obtain ⟨_, _, _, _, _, _, h7⟩ := h.2 y hy
    have := h7 k hk; omega
theorem makeKD_inv (ps : List (List DNode)) (hp : ∀ p ∈ ps, SmallD p) (hl : ps.length ≤ 8) : (∀ x ∈ (makeKD ps).1, DSmall (makeKD ps).1.length x) ∧ ∀ k ∈ (makeKD ps).2, 0 ≤ k ∧ k ≤ (makeKD ps).1.length := by
  unfold makeKD
  suffices h : ∀ (a : List DNode × List Int), ((∀ x ∈ a.1, DSmall a.1.length x) ∧ ∀ k ∈ a.2, 0 ≤ k ∧ k ≤ a.1.length) → (∀ p ∈ ps, SmallD p) → (∀ x ∈ (ps.foldl makeStepD a).1, DSmall (ps.foldl makeStepD a).1.length x) ∧ ∀ k ∈ (ps.foldl makeStepD a).2, 0 ≤ k ∧ k ≤ (ps.foldl makeStepD a).1.length from h ([], []) (by simp) hp
  clear hp hl
  induction ps with
  | nil => intro a h _; exact h
  | cons p ps ih =>
    intro a h hp
    rw [List.foldl_cons]
    refine ih _ ?_ fun q hq => hp q (by simp [hq])
    have hpp := hp p (by simp)
    have hpos := List.length_pos_iff.2 hpp.1
    unfold makeStepD
    simp only [List.length_append, List.length_map]
    refine ⟨fun x hx => ?_, fun k hk => ?_⟩
    · rcases List.mem_append.1 hx with hx | hx
      · exact (h.1 x hx).mono (by omega)
      · obtain ⟨y, hy, rfl⟩ := List.mem_map.1 hx
        obtain ⟨h1, h2, h3, h4, h5, h6, h7⟩ := hpp.2 y hy
        refine ⟨h1, h2, h3, h4, h5, by simpa [DNode.shift] using h6, fun k hk => ?_⟩
        simp only [DNode.shift, List.mem_map] at hk
        obtain ⟨j, hj, rfl⟩ := hk
        have := h7 j hj; omega
    · rcases List.mem_append.1 hk with hk | hk
      · have := h.2 k hk; omega
      · simp at hk; omega
theorem makeND_small (x : DNode) (ps : List (List DNode)) (hx : x.text.size ≤ 16 ∧ 0 ≤ x.kind ∧ x.kind ≤ 8 ∧ 0 ≤ x.n ∧ x.n ≤ 40) (hp : ∀ p ∈ ps, SmallD p) (hl : ps.length ≤ 8) : SmallD (makeND x ps) ∧ (makeND x ps).length = (ps.map List.length).sum + 1 := by
  obtain ⟨i1, i2⟩ := makeKD_inv ps hp hl
  have h3 := makeKD_len ps
  unfold makeND
  refine ⟨⟨by simp, fun y hy => ?_⟩, by rw [List.length_append, h3.1]; rfl⟩
  rw [List.length_append, List.length_singleton]
  rcases List.mem_append.1 hy with hy | hy
  · exact (i1 y hy).mono (by omega)
  · rw [List.mem_singleton] at hy
    subst hy
    exact ⟨hx.1, hx.2.1, hx.2.2.1, hx.2.2.2.1, hx.2.2.2.2, by rw [h3.2]; exact hl, fun k hk => by have := i2 k hk; omega⟩
/-- Document nodes that can be read, their blocks in S. -/
def DNodeSlcS (S : Nat → Prop) (w : World) (v : Value) (l : List DNode) : Prop :=
  ∃ q : List (DNode × Value), q.map Prod.fst = l ∧ SlcS S w v 4 q.length (q.flatMap DNode.cells) ∧ ∀ p ∈ q, SlcS S w p.2 1 p.1.kids.length (p.1.kids.flatMap int1)
theorem DNodeSlcS.slc {S : Nat → Prop} {w : World} {v : Value} {l : List DNode} (h : DNodeSlcS S w v l) : DNodeSlc w v l := by
  obtain ⟨q, h1, h2, h3⟩ := h
  exact ⟨q, h1, h2.slc, fun p hp => (h3 p hp).slc⟩
theorem DNodeSlcS.keep {S S' : Nat → Prop} {w w' : World} {v : Value} {l : List DNode} (h : DNodeSlcS S w v l) (hk : ∀ b, S b → b < w.heap.size → w'.heap[b]? = w.heap[b]? ∧ S' b) : DNodeSlcS S' w' v l := by
  obtain ⟨q, h1, h2, h3⟩ := h
  exact ⟨q, h1, h2.keep (by decide) hk, fun p hp => (h3 p hp).keep (by decide) hk⟩
theorem DNodeSlcS.of_own {w : World} {lo hi : Nat} {v : Value} {l : List DNode} (h : OwnDNode w lo hi v l) : DNodeSlcS (fun b => lo ≤ b) w v l := by
  obtain ⟨q, h1, h2, h3, _⟩ := h
  exact ⟨q, h1, SlcS.of_own h2.1, fun p hp => SlcS.of_own (h3 p hp).1⟩
theorem OwnDNode.low {w : World} {lo lo' hi : Nat} {v : Value} {l : List DNode} (h : OwnDNode w lo hi v l) (hl : lo' ≤ lo) : OwnDNode w lo' hi v l := by
  obtain ⟨q, h1, h2, h3, h4⟩ := h
  exact ⟨q, h1, ⟨own_base h2.1 hl, h2.2⟩, fun p hp => ⟨own_base (h3 p hp).1 hl, (h3 p hp).2⟩, h4⟩
theorem grown_blw {w w1 w2 : World} {r : Option Nat} (h : w.grownBy w1 r) (hb : Below w1.heap.size w1 w2) : w.grownBy w2 r :=
  ⟨hb.os.trans h.os, hb.tape.trans h.tape, hb.output.trans h.output, Nat.le_trans h.size hb.size, fun k hk hne => (hb.block k (Nat.lt_of_lt_of_le hk h.size)).trans (h.block k hk hne)⟩
/-- Parts while they are drawn. -/
structure PartsD (w0 w : World) (p : Nat) (bv : Value) (bs : List UInt8) (v : Value) (ps : List (List DNode × Value)) (wr : World) : Prop where
  gr : w.grownBy wr (some p)
  cur : Cur w0 wr p bv bs
  own : wr.ownsRow w.heap.size 26 1 v ps.length (ps.flatMap partD1)
  sub : ∀ q ∈ ps, DNodeSlcS (fun b => w.heap.size ≤ b ∧ some b ≠ v.ownBlock) wr q.2 q.1
theorem PartsD.step {w0 w wr w1 w2 : World} {p : Nat} {bv : Value} {bs : List UInt8} {v v1 : Value} {ps : List (List DNode × Value)} {part : List DNode} {gg cap : Nat} {o : Obj} {hi : Nat} (h : PartsD w0 w p bv bs v ps wr) (hp : p < w.heap.size) (hb1 : wr.grownBy w1 (some p)) (hc1 : Cur w0 w1 p bv bs) (ho1 : OwnDNode w1 wr.heap.size hi v1 part)
    (hown : w2.ownsRow w.heap.size 26 1 (.slice (some ⟨gg, 0, none⟩) (ps.length + 1) cap) (ps.length + 1) (ps.flatMap partD1 ++ [v1])) (hg : (w1.alloc o).grownBy w2 v.ownBlock) (hat : v.ownBlock = some gg ∨ gg = w1.heap.size + 1) :
    PartsD w0 w p bv bs (.slice (some ⟨gg, 0, none⟩) (ps.length + 1) cap) (ps ++ [(part, v1)]) w2 := by
  have hlo : ∀ r, v.ownBlock = some r → w.heap.size ≤ r ∧ r < wr.heap.size := fun r e => h.own.lt r e
  have hs1 := hb1.size
  have hsr := h.gr.size
  have h12 : ∀ b, b < w1.heap.size → some b ≠ v.ownBlock → w2.heap[b]? = w1.heap[b]? := fun b hb hne => (hg.block b (by simp; omega) hne).trans (Below.heap_alloc _ _ _ hb)
  have e1 := grown_trans h.gr hb1
  refine ⟨⟨hg.os.trans e1.os, hg.tape.trans e1.tape, hg.output.trans e1.output, by have := hg.size; simp at this; omega, fun k hk hne => (h12 k (by omega) fun e => by have := (hlo k e.symm).1; omega).trans (e1.block k hk hne)⟩, ?_, ?_, fun q hq => ?_⟩
  · have hat0 := hc1.at_
    have hos := hc1.old.size
    refine ⟨hc1.code, hc1.small, hc1.at_, (hc1.old.alloc hc1.old.size o).grown hg (by simp; omega) (fun r e => by have := (hlo r e).1; omega), hc1.box.keep (h12 p hc1.box.lt fun e => by have := (hlo p e.symm).1; omega)⟩
  · rw [List.length_append, List.length_singleton, List.flatMap_append]
    exact hown
  · have hgg : some gg = v.ownBlock ∨ gg = w1.heap.size + 1 := hat.imp Eq.symm id
    rcases List.mem_append.1 hq with hq | hq
    · refine (h.sub q hq).keep fun b hS hlt => ⟨(h12 b (by omega) hS.2).trans (hb1.block b hlt (fun e => by have := Option.some.inj e; have := hS.1; omega)), hS.1, fun e => ?_⟩
      have e : b = gg := Option.some.inj e
      rcases hgg with hat | hat
      · exact hS.2 (by rw [← hat, e])
      · omega
    · simp only [List.mem_singleton] at hq
      subst hq
      refine (DNodeSlcS.of_own ho1).keep fun b hS hlt => ?_
      have hS : wr.heap.size ≤ b := hS
      refine ⟨h12 b hlt fun e => by have := (hlo b e.symm).2; omega, by omega, fun e => ?_⟩
      have e : b = gg := Option.some.inj e
      rcases hat with hat | hat
      · have := (hlo gg hat).2; omega
      · omega
/-- One node of the call's own. -/
theorem own_leaf (w : World) (x : DNode) (hx : x.kids = []) : OwnDNode (w.alloc (.cells #[.int .i64 x.kind, .int .i64 x.n, .string x.text, .slice none 0 0] 49)) w.heap.size (w.alloc (.cells #[.int .i64 x.kind, .int .i64 x.n, .string x.text, .slice none 0 0] 49)).heap.size (.slice (some ⟨w.heap.size, 0, none⟩) 1 1) [x] := by
  refine ⟨[(x, .slice none 0 0)], rfl, ⟨World.ownsRow_lit (size := 4) w #[.int .i64 x.kind, .int .i64 x.n, .string x.text, .slice none 0 0] 1 (Nat.le_refl _) (by unfold maxLen; omega) rfl, fun k hk => ?_⟩, fun p hp => ?_, ?_⟩
  · simp [Value.ownBlock] at hk; subst hk; simp
  · simp only [List.mem_singleton] at hp
    subst hp
    show OwnIn _ _ _ _ 1 (.slice none 0 0) x.kids.length (x.kids.flatMap int1)
    rw [hx]
    exact ⟨World.ownsRow_nil _ _ _ _, fun k hk => by simp [Value.ownBlock] at hk⟩
  · refine List.pairwise_cons.2 ⟨fun a ha => ?_, by simp⟩
    simp at ha; subst ha
    exact .inr (by simp [Value.ownBlock])
/-- What is drawn: nodes of the call's own, no more than so many. -/
def DrawnD (w0 w : World) (p : Nat) (bv : Value) (bs : List UInt8) (N : Nat) (e : Ending) (w' : World) : Prop :=
  ∃ (v : Value) (l : List DNode), e = .returned v ∧ w.grownBy w' (some p) ∧ Cur w0 w' p bv bs ∧ OwnDNode w' w.heap.size w'.heap.size v l ∧ SmallD l ∧ l.length ≤ N
theorem small_leaf (x : DNode) (hx : x.kids = []) (h : x.text.size ≤ 16 ∧ 0 ≤ x.kind ∧ x.kind ≤ 8 ∧ 0 ≤ x.n ∧ x.n ≤ 40) : SmallD [x] :=
  ⟨by simp, fun y hy => by simp at hy; subst hy; exact ⟨h.1, h.2.1, h.2.2.1, h.2.2.2.1, h.2.2.2.2, by rw [hx]; simp, by rw [hx]; simp⟩⟩
end Go.Proofs.Ytfabfkaolnidiaa
/- Walks and lemmas of this seat (FDrawDoc): what each theorem says of the functions that it names. Conditions: those that each theorem states. -/
namespace Go.Proofs.Ytfabfkaolnidiaa
set_option linter.unusedVariables false
set_option linter.unusedSimpArgs false
open Go.RowKit

theorem infoDSlice : (Try.prog.info? 26).map (fun i => (i.zero, i.size, i.bytes)) = some (some (.slice none 0 0), 1, 24) := by kernel_rfl
def pieces15 : List ByteArray := [⟨#[]⟩, ⟨#[97]⟩, ⟨#[98, 99, 100]⟩, ⟨#[108, 111, 110, 103, 32, 119, 111, 114, 100]⟩, ⟨#[40]⟩, ⟨#[41]⟩]
theorem grown_al {w w' : World} {r : Option Nat} (h : w.grownBy w' r) (o : Obj) : w.grownBy (w'.alloc o) r := grown_trans h (World.grownBy_alloc _ _ _)
theorem ownBlock_ne {w : World} {p B : Nat} {e : TypeId} {s n : Nat} {v : Value} {xs : List Value} (ho : w.ownsRow B e s v n xs) (hp : p < B) : v.ownBlock = none ∨ v.ownBlock ≠ some p := by
  cases hno : v.ownBlock with
  | none => exact .inl rfl
  | some g => exact .inr fun e => by have := (ho.lt g hno).1; have := Option.some.inj e; omega
theorem leaf_drawn {w0 w w3 : World} {p : Nat} {bv : Value} {bs : List UInt8} (x : DNode) (hx : x.kids = []) (hb : x.text.size ≤ 16 ∧ 0 ≤ x.kind ∧ x.kind ≤ 8 ∧ 0 ≤ x.n ∧ x.n ≤ 40) (hg : w.grownBy w3 (some p)) (hc : Cur w0 w3 p bv bs) : DrawnD w0 w p bv bs 1 (.returned (.slice (some ⟨w3.heap.size, 0, none⟩) 1 1)) (w3.alloc (.cells #[.int .i64 x.kind, .int .i64 x.n, .string x.text, .slice none 0 0] 49)) :=
  ⟨_, [x], rfl, grown_al hg _, hc.below ((Below.refl _ _).alloc (Nat.le_refl _) _), (own_leaf w3 x hx).low hg.size, small_leaf x hx hb, Nat.le_refl _⟩
theorem text_drawn {w0 w w3 : World} {p : Nat} {bv : Value} {bs : List UInt8} (t : ByteArray) (ht : t.size ≤ 16) (hg : w.grownBy w3 (some p)) (hc : Cur w0 w3 p bv bs) :
    Calls Try.prog 75 #[.string t] w3 fun e w' => DrawnD w0 w p bv bs 1 e w' := by
  have h := hid (leaf_drawn ⟨1, 0, t, []⟩ rfl ⟨ht, by simp, by simp, by simp, by simp⟩ hg hc)
  clear hg hc
  go_enter Try.func75, Try.ntmps75
  go_wp2
  go_ret
  exact h.out
theorem line_drawn {w0 w w3 : World} {p : Nat} {bv : Value} {bs : List UInt8} (hg : w.grownBy w3 (some p)) (hc : Cur w0 w3 p bv bs) :
    Calls Try.prog 78 #[] w3 fun e w' => DrawnD w0 w p bv bs 1 e w' := by
  have h := hid (leaf_drawn ⟨2, 0, ⟨#[]⟩, []⟩ rfl ⟨by show 0 ≤ 16; omega, by simp, by simp, by simp, by simp⟩ hg hc)
  clear hg hc
  go_enter Try.func78, Try.ntmps78
  go_wp2
  go_ret
  exact h.out
theorem hard_drawn {w0 w w3 : World} {p : Nat} {bv : Value} {bs : List UInt8} (hg : w.grownBy w3 (some p)) (hc : Cur w0 w3 p bv bs) :
    Calls Try.prog 77 #[] w3 fun e w' => DrawnD w0 w p bv bs 1 e w' := by
  have h := hid (leaf_drawn ⟨3, 0, ⟨#[]⟩, []⟩ rfl ⟨by show 0 ≤ 16; omega, by simp, by simp, by simp, by simp⟩ hg hc)
  clear hg hc
  go_enter Try.func77, Try.ntmps77
  go_wp2
  go_ret
  exact h.out
theorem sum_bd {l : List (List DNode)} {M : Nat} (h : ∀ p ∈ l, p.length ≤ M) : (l.map List.length).sum ≤ l.length * M := by
  induction l with
  | nil => simp
  | cons p l ih =>
    have h1 := h p (by simp)
    have h2 := ih fun q hq => h q (by simp [hq])
    simp only [List.map_cons, List.sum_cons, List.length_cons]
    rw [Nat.add_mul]; omega
theorem over_drawn {w0 w wr : World} {p : Nat} {bv v : Value} {bs : List UInt8} {ps : List (List DNode × Value)} {M : Nat} (h : PartsD w0 w p bv bs v ps wr) (hs : ∀ q ∈ ps, SmallD q.1 ∧ q.1.length ≤ M) (hM : M ≤ 900) (hl : ps.length ≤ 5) (kd n : Int) (hk : 0 ≤ kd ∧ kd ≤ 8) (hn : 0 ≤ n ∧ n ≤ 40) :
    Calls Try.prog 79 #[.int .i64 kd, .int .i64 n, v] wr fun e w' => DrawnD w0 w p bv bs (5 * M + 1) e w' := by
  have hsum : ((ps.map Prod.fst).map List.length).sum ≤ 5 * M := by
    have := sum_bd (l := ps.map Prod.fst) (M := M) (fun p hp => by obtain ⟨q, hq, rfl⟩ := List.mem_map.1 hp; exact (hs q hq).2)
    have h2 : (ps.map Prod.fst).length * M ≤ 5 * M := Nat.mul_le_mul_right M (by simpa using hl)
    omega
  refine (specl15Over_any ⟨kd, n, ⟨#[]⟩, []⟩ (hid rfl) v ps wr (Slc.of_own h.own) (fun q hq => (h.sub q hq).slc) (fun q hq => (hs q hq).1.fine (by have := (hs q hq).2; omega)) (by omega)).mono ?_
  rintro e w' ⟨v', rfl, hb, ho⟩
  have hmk := makeND_small ⟨kd, n, ⟨#[]⟩, []⟩ (ps.map Prod.fst) ⟨by show 0 ≤ 16; omega, hk.1, hk.2, hn.1, hn.2⟩ (fun p hp => by obtain ⟨q, hq, rfl⟩ := List.mem_map.1 hp; exact (hs q hq).1) (by simp; omega)
  exact ⟨v', _, rfl, grown_blw h.gr hb, h.cur.below hb, ho.low h.gr.size, hmk.1, by rw [hmk.2]; omega⟩
theorem PartsD.one {w0 w w2 w5 : World} {p : Nat} {bv v1 : Value} {bs : List UInt8} {l1 : List DNode} {hi : Nat} (hg : w.grownBy w2 (some p)) (hg5 : w2.grownBy w5 (some p)) (hc5 : Cur w0 w5 p bv bs) (ho : OwnDNode w5 w.heap.size hi v1 l1) : PartsD w0 w p bv bs (.slice (some ⟨w5.heap.size, 0, none⟩) 1 1) [(l1, v1)] (w5.alloc (.cells #[v1] 26)) := by
  have hs := (grown_trans hg hg5).size
  refine ⟨grown_al (grown_trans hg hg5) _, hc5.below ((Below.refl _ _).alloc (Nat.le_refl _) _), World.ownsRow_lit (size := 1) w5 #[v1] 1 hs (by unfold maxLen; omega) rfl, fun q hq => ?_⟩
  simp only [List.mem_singleton] at hq
  subst hq
  refine (DNodeSlcS.of_own ho).keep fun b hS hlt => ⟨Below.heap_alloc _ _ _ hlt, hS, fun e => ?_⟩
  have : b = w5.heap.size := Option.some.inj e
  omega
theorem PartsD.start {w0 w w1 w2 : World} {p : Nat} {bv : Value} {bs : List UInt8} (hg : w.grownBy w1 (some p)) (hg2 : (w1.alloc (.cells #[] 26)).grownBy w2 (some p)) (hc2 : Cur w0 w2 p bv bs) (hp : p < w.heap.size) : PartsD w0 w p bv bs (.slice (some ⟨w1.heap.size, 0, none⟩) 0 0) [] w2 := by
  have hs := hg.size
  have ho : (w1.alloc (.cells #[] 26)).ownsRow w.heap.size 26 1 (.slice (some ⟨w1.heap.size, 0, none⟩) 0 0) 0 [] := own_base (own_new0 w1 _ _) hs
  exact ⟨grown_trans (grown_al hg _) hg2, hc2, ho.kept hg2 (ownBlock_ne ho hp), by simp⟩
def nD : Nat → Nat | 0 => 1 | d + 1 => 5 * nD d + 1
theorem nD_pos (d : Nat) : 1 ≤ nD d := by cases d <;> simp [nD]
theorem nD_le {d : Nat} (h : d ≤ 4) : nD d ≤ 900 := by
  have : ∀ d, d < 5 → nD d ≤ 900 := by decide
  exact this d (by omega)

set_option maxRecDepth 100000 in
set_option maxHeartbeats 6400000 in
theorem specl15Draw_any (d : Nat) : d ≤ 5 → ∀ (w0 w : World) (p : Nat) (bv : Value) (bs : List UInt8), Cur w0 w p bv bs →
    Calls Try.prog 69 #[.pointer (some ⟨p, 0, none⟩), .int .i64 (d : Int)] w fun e w' => DrawnD w0 w p bv bs (nD d) e w' := by
  induction d with
  | zero =>
    intro _ w0 w p bv bs hc
    have hNd := hid (nD_pos 0)
    have hcall := hid (specl1Below_any w0 w p bv bs 9 (by unfold I64; omega) hc)
    clear hc
    rw [show ((0 : Nat) : Int) = 0 from rfl]
    go_enter Try.func69, Try.ntmps69
    go_wp2_with fail
    refine hcall.out.mono ?_; rintro e w1 ⟨x, rfl, hx0, hx1, _, hg1, hc1⟩
    replace hx1 := hx1 (by omega)
    clear hcall
    by_cases h3 : 3 < x
    · have hcall := hid (specl1Below_any w0 w1 p bv bs 4 (by unfold I64; omega) hc1)
      clear hc1
      replace hg1 := hid hg1
      go_wp2_with fail
      refine hcall.out.mono ?_; rintro e w2 ⟨y, rfl, hy0, hy1, _, hg2, hc2⟩
      replace hy1 := hy1 (by omega)
      have hg2 := hid (grown_trans hg1.out hg2)
      replace hc2 := hid hc2
      clear hcall hg1
      obtain rfl | rfl | rfl | rfl : y = 0 ∨ y = 1 ∨ y = 2 ∨ y = 3 := by omega
      · have hpk := hid (fun o => specl1Pick_any w0 (w2.alloc (.cells (pieces15.flatMap str1).toArray o)) p bv bs pieces15 w2.heap.size 6 (by decide) (by decide) (by decide) (by have := hc2.out.box.lt; omega) (rowAt_lit _ _ _) (hc2.out.below ((Below.refl _ _).alloc (Nat.le_refl _) _)))
        go_wp2_with fail
        refine (hpk.out _).mono ?_; rintro e w5 ⟨t, ht, rfl, hg5, hc5⟩
        have hts : t.size ≤ 16 := by
          have : ∀ y ∈ pieces15, y.size ≤ 16 := by decide
          exact this t ht
        have hg6 := hid (grown_trans (grown_al hg2.out _) hg5)
        replace hc5 := hid hc5
        clear hpk hg5 ht
        go_wp2_with fail
        refine (text_drawn (w := w) t hts hg6.out hc5.out).mono ?_; rintro e w6 ⟨v, l, rfl, h1, h2, h3, h4, h5⟩
        go_wp2
        go_ret
        exact ⟨v, l, rfl, h1, h2, h3, h4, Nat.le_trans h5 hNd.out⟩
      · have hpk := hid (fun o => specl1Pick_any w0 (w2.alloc (.cells (pieces15.flatMap str1).toArray o)) p bv bs pieces15 w2.heap.size 6 (by decide) (by decide) (by decide) (by have := hc2.out.box.lt; omega) (rowAt_lit _ _ _) (hc2.out.below ((Below.refl _ _).alloc (Nat.le_refl _) _)))
        go_wp2_with fail
        refine (hpk.out _).mono ?_; rintro e w5 ⟨t, ht, rfl, hg5, hc5⟩
        have hts : t.size ≤ 16 := by
          have : ∀ y ∈ pieces15, y.size ≤ 16 := by decide
          exact this t ht
        have hg6 := hid (grown_trans (grown_al hg2.out _) hg5)
        replace hc5 := hid hc5
        clear hpk hg5 ht
        go_wp2_with fail
        refine (text_drawn (w := w) t hts hg6.out hc5.out).mono ?_; rintro e w6 ⟨v, l, rfl, h1, h2, h3, h4, h5⟩
        go_wp2
        go_ret
        exact ⟨v, l, rfl, h1, h2, h3, h4, Nat.le_trans h5 hNd.out⟩
      · have hon := hid (specl1Once_any w0 w2 p bv bs 9 (by unfold I64; omega) hc2.out)
        go_wp2_with fail
        refine hon.out.mono ?_; rintro e w5 ⟨z, rfl, hg5, hc5⟩
        have hg6 := hid (grown_trans hg2.out hg5)
        replace hc5 := hid hc5
        clear hon hg5
        cases z
        · go_wp2_with fail
          refine (line_drawn (w := w) hg6.out hc5.out).mono ?_; rintro e w6 ⟨v, l, rfl, h1, h2, h3, h4, h5⟩
          go_wp2
          go_ret
          exact ⟨v, l, rfl, h1, h2, h3, h4, Nat.le_trans h5 hNd.out⟩
        · go_wp2_with fail
          refine (hard_drawn (w := w) hg6.out hc5.out).mono ?_; rintro e w6 ⟨v, l, rfl, h1, h2, h3, h4, h5⟩
          go_wp2
          go_ret
          exact ⟨v, l, rfl, h1, h2, h3, h4, Nat.le_trans h5 hNd.out⟩
      · have hon := hid (specl1Once_any w0 w2 p bv bs 9 (by unfold I64; omega) hc2.out)
        go_wp2_with fail
        refine hon.out.mono ?_; rintro e w5 ⟨z, rfl, hg5, hc5⟩
        have hg6 := hid (grown_trans hg2.out hg5)
        replace hc5 := hid hc5
        clear hon hg5
        cases z
        · go_wp2_with fail
          refine (line_drawn (w := w) hg6.out hc5.out).mono ?_; rintro e w6 ⟨v, l, rfl, h1, h2, h3, h4, h5⟩
          go_wp2
          go_ret
          exact ⟨v, l, rfl, h1, h2, h3, h4, Nat.le_trans h5 hNd.out⟩
        · go_wp2_with fail
          refine (hard_drawn (w := w) hg6.out hc5.out).mono ?_; rintro e w6 ⟨v, l, rfl, h1, h2, h3, h4, h5⟩
          go_wp2
          go_ret
          exact ⟨v, l, rfl, h1, h2, h3, h4, Nat.le_trans h5 hNd.out⟩
    · replace hg1 := hid hg1
      replace hc1 := hid hc1
      obtain rfl | rfl | rfl | rfl : x = 0 ∨ x = 1 ∨ x = 2 ∨ x = 3 := by omega
      · have hpk := hid (fun o => specl1Pick_any w0 (w1.alloc (.cells (pieces15.flatMap str1).toArray o)) p bv bs pieces15 w1.heap.size 6 (by decide) (by decide) (by decide) (by have := hc1.out.box.lt; omega) (rowAt_lit _ _ _) (hc1.out.below ((Below.refl _ _).alloc (Nat.le_refl _) _)))
        go_wp2_with fail
        refine (hpk.out _).mono ?_; rintro e w5 ⟨t, ht, rfl, hg5, hc5⟩
        have hts : t.size ≤ 16 := by
          have : ∀ y ∈ pieces15, y.size ≤ 16 := by decide
          exact this t ht
        have hg6 := hid (grown_trans (grown_al hg1.out _) hg5)
        replace hc5 := hid hc5
        clear hpk hg5 ht
        go_wp2_with fail
        refine (text_drawn (w := w) t hts hg6.out hc5.out).mono ?_; rintro e w6 ⟨v, l, rfl, h1, h2, h3, h4, h5⟩
        go_wp2
        go_ret
        exact ⟨v, l, rfl, h1, h2, h3, h4, Nat.le_trans h5 hNd.out⟩
      · have hpk := hid (fun o => specl1Pick_any w0 (w1.alloc (.cells (pieces15.flatMap str1).toArray o)) p bv bs pieces15 w1.heap.size 6 (by decide) (by decide) (by decide) (by have := hc1.out.box.lt; omega) (rowAt_lit _ _ _) (hc1.out.below ((Below.refl _ _).alloc (Nat.le_refl _) _)))
        go_wp2_with fail
        refine (hpk.out _).mono ?_; rintro e w5 ⟨t, ht, rfl, hg5, hc5⟩
        have hts : t.size ≤ 16 := by
          have : ∀ y ∈ pieces15, y.size ≤ 16 := by decide
          exact this t ht
        have hg6 := hid (grown_trans (grown_al hg1.out _) hg5)
        replace hc5 := hid hc5
        clear hpk hg5 ht
        go_wp2_with fail
        refine (text_drawn (w := w) t hts hg6.out hc5.out).mono ?_; rintro e w6 ⟨v, l, rfl, h1, h2, h3, h4, h5⟩
        go_wp2
        go_ret
        exact ⟨v, l, rfl, h1, h2, h3, h4, Nat.le_trans h5 hNd.out⟩
      · have hon := hid (specl1Once_any w0 w1 p bv bs 9 (by unfold I64; omega) hc1.out)
        go_wp2_with fail
        refine hon.out.mono ?_; rintro e w5 ⟨z, rfl, hg5, hc5⟩
        have hg6 := hid (grown_trans hg1.out hg5)
        replace hc5 := hid hc5
        clear hon hg5
        cases z
        · go_wp2_with fail
          refine (line_drawn (w := w) hg6.out hc5.out).mono ?_; rintro e w6 ⟨v, l, rfl, h1, h2, h3, h4, h5⟩
          go_wp2
          go_ret
          exact ⟨v, l, rfl, h1, h2, h3, h4, Nat.le_trans h5 hNd.out⟩
        · go_wp2_with fail
          refine (hard_drawn (w := w) hg6.out hc5.out).mono ?_; rintro e w6 ⟨v, l, rfl, h1, h2, h3, h4, h5⟩
          go_wp2
          go_ret
          exact ⟨v, l, rfl, h1, h2, h3, h4, Nat.le_trans h5 hNd.out⟩
      · have hon := hid (specl1Once_any w0 w1 p bv bs 9 (by unfold I64; omega) hc1.out)
        go_wp2_with fail
        refine hon.out.mono ?_; rintro e w5 ⟨z, rfl, hg5, hc5⟩
        have hg6 := hid (grown_trans hg1.out hg5)
        replace hc5 := hid hc5
        clear hon hg5
        cases z
        · go_wp2_with fail
          refine (line_drawn (w := w) hg6.out hc5.out).mono ?_; rintro e w6 ⟨v, l, rfl, h1, h2, h3, h4, h5⟩
          go_wp2
          go_ret
          exact ⟨v, l, rfl, h1, h2, h3, h4, Nat.le_trans h5 hNd.out⟩
        · go_wp2_with fail
          refine (hard_drawn (w := w) hg6.out hc5.out).mono ?_; rintro e w6 ⟨v, l, rfl, h1, h2, h3, h4, h5⟩
          go_wp2
          go_ret
          exact ⟨v, l, rfl, h1, h2, h3, h4, Nat.le_trans h5 hNd.out⟩
  | succ d ih =>
    intro hd w0 w p bv bs hc
    have hNd := hid (nD_pos (d + 1))
    have hM := nD_le (d := d) (by omega)
    have hpw := hc.box.lt
    have hcall := hid (specl1Below_any w0 w p bv bs 9 (by unfold I64; omega) hc)
    clear hc
    rw [show ((d + 1 : Nat) : Int) = (d : Int) + 1 from by omega]
    go_enter Try.func69, Try.ntmps69
    go_wp2_with fail
    refine hcall.out.mono ?_; rintro e w1 ⟨x, rfl, hx0, hx1, _, hg1, hc1⟩
    replace hx1 := hx1 (by omega)
    clear hcall
    replace hg1 := hid hg1
    replace hc1 := hid hc1
    obtain rfl | rfl | rfl | rfl | rfl | rfl | rfl | rfl | rfl : x = 0 ∨ x = 1 ∨ x = 2 ∨ x = 3 ∨ x = 4 ∨ x = 5 ∨ x = 6 ∨ x = 7 ∨ x = 8 := by omega
    · have hpk := hid (fun o => specl1Pick_any w0 (w1.alloc (.cells (pieces15.flatMap str1).toArray o)) p bv bs pieces15 w1.heap.size 6 (by decide) (by decide) (by decide) (by have := hc1.out.box.lt; omega) (rowAt_lit _ _ _) (hc1.out.below ((Below.refl _ _).alloc (Nat.le_refl _) _)))
      go_wp2_with fail
      refine (hpk.out _).mono ?_; rintro e w5 ⟨t, ht, rfl, hg5, hc5⟩
      have hts : t.size ≤ 16 := by
        have : ∀ y ∈ pieces15, y.size ≤ 16 := by decide
        exact this t ht
      have hg6 := hid (grown_trans (grown_al hg1.out _) hg5)
      replace hc5 := hid hc5
      clear hpk hg5 ht
      go_wp2_with fail
      refine (text_drawn (w := w) t hts hg6.out hc5.out).mono ?_; rintro e w6 ⟨v, l, rfl, h1, h2, h3, h4, h5⟩
      go_wp2
      go_ret
      exact ⟨v, l, rfl, h1, h2, h3, h4, Nat.le_trans h5 hNd.out⟩
    · have hpk := hid (fun o => specl1Pick_any w0 (w1.alloc (.cells (pieces15.flatMap str1).toArray o)) p bv bs pieces15 w1.heap.size 6 (by decide) (by decide) (by decide) (by have := hc1.out.box.lt; omega) (rowAt_lit _ _ _) (hc1.out.below ((Below.refl _ _).alloc (Nat.le_refl _) _)))
      go_wp2_with fail
      refine (hpk.out _).mono ?_; rintro e w5 ⟨t, ht, rfl, hg5, hc5⟩
      have hts : t.size ≤ 16 := by
        have : ∀ y ∈ pieces15, y.size ≤ 16 := by decide
        exact this t ht
      have hg6 := hid (grown_trans (grown_al hg1.out _) hg5)
      replace hc5 := hid hc5
      clear hpk hg5 ht
      go_wp2_with fail
      refine (text_drawn (w := w) t hts hg6.out hc5.out).mono ?_; rintro e w6 ⟨v, l, rfl, h1, h2, h3, h4, h5⟩
      go_wp2
      go_ret
      exact ⟨v, l, rfl, h1, h2, h3, h4, Nat.le_trans h5 hNd.out⟩
    · have hon := hid (specl1Once_any w0 w1 p bv bs 9 (by unfold I64; omega) hc1.out)
      go_wp2_with fail
      refine hon.out.mono ?_; rintro e w5 ⟨z, rfl, hg5, hc5⟩
      have hg6 := hid (grown_trans hg1.out hg5)
      replace hc5 := hid hc5
      clear hon hg5
      cases z
      · go_wp2_with fail
        refine (line_drawn (w := w) hg6.out hc5.out).mono ?_; rintro e w6 ⟨v, l, rfl, h1, h2, h3, h4, h5⟩
        go_wp2
        go_ret
        exact ⟨v, l, rfl, h1, h2, h3, h4, Nat.le_trans h5 hNd.out⟩
      · go_wp2_with fail
        refine (hard_drawn (w := w) hg6.out hc5.out).mono ?_; rintro e w6 ⟨v, l, rfl, h1, h2, h3, h4, h5⟩
        go_wp2
        go_ret
        exact ⟨v, l, rfl, h1, h2, h3, h4, Nat.le_trans h5 hNd.out⟩
    · have hon := hid (specl1Once_any w0 w1 p bv bs 9 (by unfold I64; omega) hc1.out)
      go_wp2_with fail
      refine hon.out.mono ?_; rintro e w5 ⟨z, rfl, hg5, hc5⟩
      have hg6 := hid (grown_trans hg1.out hg5)
      replace hc5 := hid hc5
      clear hon hg5
      cases z
      · go_wp2_with fail
        refine (line_drawn (w := w) hg6.out hc5.out).mono ?_; rintro e w6 ⟨v, l, rfl, h1, h2, h3, h4, h5⟩
        go_wp2
        go_ret
        exact ⟨v, l, rfl, h1, h2, h3, h4, Nat.le_trans h5 hNd.out⟩
      · go_wp2_with fail
        refine (hard_drawn (w := w) hg6.out hc5.out).mono ?_; rintro e w6 ⟨v, l, rfl, h1, h2, h3, h4, h5⟩
        go_wp2
        go_ret
        exact ⟨v, l, rfl, h1, h2, h3, h4, Nat.le_trans h5 hNd.out⟩
    · have hbn := hid (specl1Below_any w0 w1 p bv bs 5 (by unfold I64; omega) hc1.out)
      go_wp2_with fail
      refine hbn.out.mono ?_; rintro e w2 ⟨y, rfl, hy0, hy1, _, hg2, hc2⟩
      replace hy1 := hy1 (by omega)
      have hg2 := hid (grown_trans hg1.out hg2)
      replace hc2 := hid hc2
      clear hbn
      go_wp2_with fail
      refine (ih (by omega) w0 w2 p bv bs hc2.out).mono ?_; rintro e w5 ⟨v1, l1, rfl, hg5, hc5, ho5, hs5, hn5⟩
      obtain ⟨a1, n1, c1, rfl⟩ : ∃ a n c, v1 = .slice a n c := by
        obtain ⟨a, c, e, _⟩ := ho5.slc.shape
        exact ⟨a, _, c, e⟩
      have hpd := hid (PartsD.one (w := w) hg2.out hg5 hc5 (ho5.low (hg2.out.size)))
      have hsm : Hid (∀ q ∈ [(l1, Value.slice a1 n1 c1)], SmallD q.1 ∧ q.1.length ≤ nD d) := hid fun q hq => by simp at hq; subst hq; exact ⟨hs5, hn5⟩
      clear hg5 hc5 ho5 hs5 hn5
      go_wp2_with fail
      refine (over_drawn hpd.out hsm.out hM (by simp) 4 y (by omega) (by omega)).mono ?_; rintro e w6 ⟨v, l, rfl, h1, h2, h3, h4, h5⟩
      go_wp2
      go_ret
      exact ⟨v, l, rfl, h1, h2, h3, h4, h5⟩
    · go_wp2_with fail
      refine (ih (by omega) w0 w1 p bv bs hc1.out).mono ?_; rintro e w5 ⟨v1, l1, rfl, hg5, hc5, ho5, hs5, hn5⟩
      obtain ⟨a1, n1, c1, rfl⟩ : ∃ a n c, v1 = .slice a n c := by
        obtain ⟨a, c, e, _⟩ := ho5.slc.shape
        exact ⟨a, _, c, e⟩
      have hpd := hid (PartsD.one (w := w) hg1.out hg5 hc5 (ho5.low (hg1.out.size)))
      have hsm : Hid (∀ q ∈ [(l1, Value.slice a1 n1 c1)], SmallD q.1 ∧ q.1.length ≤ nD d) := hid fun q hq => by simp at hq; subst hq; exact ⟨hs5, hn5⟩
      clear hg5 hc5 ho5 hs5 hn5
      go_wp2_with fail
      refine (over_drawn hpd.out hsm.out hM (by simp) 5 0 (by omega) (by omega)).mono ?_; rintro e w6 ⟨v, l, rfl, h1, h2, h3, h4, h5⟩
      go_wp2
      go_ret
      exact ⟨v, l, rfl, h1, h2, h3, h4, h5⟩
    · go_wp2_with fail
      refine (ih (by omega) w0 w1 p bv bs hc1.out).mono ?_; rintro e w5 ⟨v1, l1, rfl, hg5, hc5, ho5, hs5, hn5⟩
      obtain ⟨a1, n1, c1, rfl⟩ : ∃ a n c, v1 = .slice a n c := by
        obtain ⟨a, c, e, _⟩ := ho5.slc.shape
        exact ⟨a, _, c, e⟩
      have hpd := hid (PartsD.one (w := w) hg1.out hg5 hc5 (ho5.low (hg1.out.size)))
      have hsm : Hid (∀ q ∈ [(l1, Value.slice a1 n1 c1)], SmallD q.1 ∧ q.1.length ≤ nD d) := hid fun q hq => by simp at hq; subst hq; exact ⟨hs5, hn5⟩
      clear hg5 hc5 ho5 hs5 hn5
      go_wp2_with fail
      refine (over_drawn hpd.out hsm.out hM (by simp) 5 0 (by omega) (by omega)).mono ?_; rintro e w6 ⟨v, l, rfl, h1, h2, h3, h4, h5⟩
      go_wp2
      go_ret
      exact ⟨v, l, rfl, h1, h2, h3, h4, h5⟩
    · have hbn := hid (fun o => specl1Below_any w0 (w1.alloc o) p bv bs 5 (by unfold I64; omega) (hc1.out.below ((Below.refl _ _).alloc (Nat.le_refl _) _)))
      go_wp2_with fail
      refine (hbn.out _).mono ?_; rintro e w2 ⟨y, rfl, hy0, hy1, _, hg2, hc2⟩
      replace hy1 := hy1 (by omega)
      have hp0 := hid (PartsD.start (w := w) hg1.out hg2 hc2 hpw)
      clear hbn hg2 hc2 hg1 hc1
      obtain ⟨i0, hi, hz0, hz1, hz2⟩ := info_parts infoDSlice
      go_wp2
      go_loopw [6, 7] (fun v i wr => ∃ (ps : List (List DNode × Value)) (m : Nat) (v' : Value), v = v' ∧ i = .int .i64 m ∧ ps.length + m ≤ 5 ∧ Hid (∀ q ∈ ps, SmallD q.1 ∧ q.1.length ≤ nD d) ∧ Hid (PartsD w0 w p bv bs v' ps wr)) (fun _ i _ => (intOf i).toNat)
      case atStart => exact ⟨[], (1 + y).toNat, _, rfl, by congr 1; omega, by simp; omega, hid (by simp), hp0⟩
      clear hp0 hy0 hy1
      obtain ⟨ps, m, v0, rfl, rfl, hm, hsm, hpd⟩ := hrel
      rename World => wo
      by_cases hm0 : 0 < m
      · go_wp2_with fail
        refine (ih (by omega) w0 wo p bv bs hpd.out.cur).mono ?_; rintro e w5 ⟨v1, l1, rfl, hg5, hc5, ho5, hs5, hn5⟩
        have hown := hpd.out.own.kept hg5 (ownBlock_ne hpd.out.own hpw)
        have hsz := hpd.out.gr.size
        have hsz5 := hg5.size
        obtain ⟨a1, n1, c1, rfl⟩ : ∃ a n c, v1 = .slice a n c := by
          obtain ⟨a, c, e, _⟩ := ho5.slc.shape
          exact ⟨a, _, c, e⟩
        have hsm2 : Hid (∀ q ∈ ps ++ [(l1, .slice a1 n1 c1)], SmallD q.1 ∧ q.1.length ≤ nD d) := hid fun q hq => by
          rcases List.mem_append.1 hq with hq | hq
          · exact hsm.out q hq
          · simp at hq; subst hq; exact ⟨hs5, hn5⟩
        replace hown := hid hown
        replace ho5 := hid ho5
        replace hg5 := hid hg5
        replace hc5 := hid hc5
        clear hs5 hn5
        go_wp2_with (at_builtin; refine Hid.out ?_)
        refine hid ?_
        refine wpList_append_lies _ (by rfl) _ _ _ (by rfl) w.heap.size 26 i0 _ 1 24 Try.underlying109 hi hz0 hz1 hz2 rfl (by omega) _ ps.length (ps.flatMap partD1) (by rfl) (hown.out.alloc _) ⟨w5.heap.size, 0, none⟩ 1 1 [.slice a1 n1 c1] (by rfl) (by rfl) (World.news_of_block (cs := #[.slice a1 n1 c1]) (t := 26) (fr := (0, 0)) (heap_alloc_new w5 _)) (by simp [Value.oneCell']) (by omega) (by unfold maxLen; omega) (by omega) (by simp; omega) (w5.heap.size + 1) (by simp) ?_
        intro gg cap w6 hown6 hg6 hat hlt6
        have hpd2 := hid (hpd.out.step hpw hg5.out hc5.out ho5.out hown6 hg6 hat)
        clear hpd hown6 hg6 hat hown hg5 hc5 ho5
        go_wp2
        all_goals go_roundw
        all_goals first
          | (simp only [intOf]; omega)
          | exact ⟨_, m - 1, _, rfl, by congr 1; omega, by simp; omega, hsm2, hpd2⟩
      · obtain ⟨va, vc, rfl, _⟩ := own_slice hpd.out.own
        go_wp2_with fail
        refine (over_drawn hpd.out hsm.out hM (by omega) 6 0 (by omega) (by omega)).mono ?_; rintro e w6 ⟨v, l, rfl, h1, h2, h3, h4, h5⟩
        go_wp2
        go_ret
        exact ⟨v, l, rfl, h1, h2, h3, h4, h5⟩
    · have hbn := hid (fun o => specl1Below_any w0 (w1.alloc o) p bv bs 5 (by unfold I64; omega) (hc1.out.below ((Below.refl _ _).alloc (Nat.le_refl _) _)))
      go_wp2_with fail
      refine (hbn.out _).mono ?_; rintro e w2 ⟨y, rfl, hy0, hy1, _, hg2, hc2⟩
      replace hy1 := hy1 (by omega)
      have hp0 := hid (PartsD.start (w := w) hg1.out hg2 hc2 hpw)
      clear hbn hg2 hc2 hg1 hc1
      obtain ⟨i0, hi, hz0, hz1, hz2⟩ := info_parts infoDSlice
      go_wp2
      go_loopw [6, 7] (fun v i wr => ∃ (ps : List (List DNode × Value)) (m : Nat) (v' : Value), v = v' ∧ i = .int .i64 m ∧ ps.length + m ≤ 5 ∧ Hid (∀ q ∈ ps, SmallD q.1 ∧ q.1.length ≤ nD d) ∧ Hid (PartsD w0 w p bv bs v' ps wr)) (fun _ i _ => (intOf i).toNat)
      case atStart => exact ⟨[], (1 + y).toNat, _, rfl, by congr 1; omega, by simp; omega, hid (by simp), hp0⟩
      clear hp0 hy0 hy1
      obtain ⟨ps, m, v0, rfl, rfl, hm, hsm, hpd⟩ := hrel
      rename World => wo
      by_cases hm0 : 0 < m
      · go_wp2_with fail
        refine (ih (by omega) w0 wo p bv bs hpd.out.cur).mono ?_; rintro e w5 ⟨v1, l1, rfl, hg5, hc5, ho5, hs5, hn5⟩
        have hown := hpd.out.own.kept hg5 (ownBlock_ne hpd.out.own hpw)
        have hsz := hpd.out.gr.size
        have hsz5 := hg5.size
        obtain ⟨a1, n1, c1, rfl⟩ : ∃ a n c, v1 = .slice a n c := by
          obtain ⟨a, c, e, _⟩ := ho5.slc.shape
          exact ⟨a, _, c, e⟩
        have hsm2 : Hid (∀ q ∈ ps ++ [(l1, .slice a1 n1 c1)], SmallD q.1 ∧ q.1.length ≤ nD d) := hid fun q hq => by
          rcases List.mem_append.1 hq with hq | hq
          · exact hsm.out q hq
          · simp at hq; subst hq; exact ⟨hs5, hn5⟩
        replace hown := hid hown
        replace ho5 := hid ho5
        replace hg5 := hid hg5
        replace hc5 := hid hc5
        clear hs5 hn5
        go_wp2_with (at_builtin; refine Hid.out ?_)
        refine hid ?_
        refine wpList_append_lies _ (by rfl) _ _ _ (by rfl) w.heap.size 26 i0 _ 1 24 Try.underlying109 hi hz0 hz1 hz2 rfl (by omega) _ ps.length (ps.flatMap partD1) (by rfl) (hown.out.alloc _) ⟨w5.heap.size, 0, none⟩ 1 1 [.slice a1 n1 c1] (by rfl) (by rfl) (World.news_of_block (cs := #[.slice a1 n1 c1]) (t := 26) (fr := (0, 0)) (heap_alloc_new w5 _)) (by simp [Value.oneCell']) (by omega) (by unfold maxLen; omega) (by omega) (by simp; omega) (w5.heap.size + 1) (by simp) ?_
        intro gg cap w6 hown6 hg6 hat hlt6
        have hpd2 := hid (hpd.out.step hpw hg5.out hc5.out ho5.out hown6 hg6 hat)
        clear hpd hown6 hg6 hat hown hg5 hc5 ho5
        go_wp2
        all_goals go_roundw
        all_goals first
          | (simp only [intOf]; omega)
          | exact ⟨_, m - 1, _, rfl, by congr 1; omega, by simp; omega, hsm2, hpd2⟩
      · obtain ⟨va, vc, rfl, _⟩ := own_slice hpd.out.own
        go_wp2_with fail
        refine (over_drawn hpd.out hsm.out hM (by omega) 6 0 (by omega) (by omega)).mono ?_; rintro e w6 ⟨v, l, rfl, h1, h2, h3, h4, h5⟩
        go_wp2
        go_ret
        exact ⟨v, l, rfl, h1, h2, h3, h4, h5⟩
end Go.Proofs.Ytfabfkaolnidiaa
/- Walks and lemmas of this seat (FAnyD): what each theorem says of the functions that it names. Conditions: those that each theorem states. -/
namespace Go.Proofs.Ytfabfkaolnidiaa
set_option linter.unusedVariables false
set_option linter.unusedSimpArgs false
open Go.RowKit

/-! A drawn document, spoilt here and there. -/
/-- Nodes that may stand in a call, few and small. -/
def FineD (l : List DNode) : Prop := l.length ≤ 4000 ∧ ∀ x ∈ l, x.Ok ∧ x.sizes ≤ 32
theorem FineD.fine {l : List DNode} (h : FineD l) : (∀ x ∈ l, x.Ok) ∧ bulk DNode.sizes l ≤ 140000 := by
  refine ⟨fun x hx => (h.2 x hx).1, ?_⟩
  have : ∀ (L : List DNode), (∀ x ∈ L, x.sizes ≤ 32) → bulk DNode.sizes L ≤ L.length * 33 := fun L => by
    induction L with
    | nil => intro _; simp [bulk]
    | cons x L ih =>
      intro hL
      have h1 := hL x (by simp)
      have h2 := ih fun y hy => hL y (by simp [hy])
      simp only [bulk, List.map_cons, List.sum_cons, List.length_cons] at *
      omega
  have h2 := this l fun x hx => (h.2 x hx).2
  have := h.1
  omega
theorem SmallD.fineD {l : List DNode} (h : SmallD l) (hl : l.length ≤ 4000) : FineD l := by
  refine ⟨hl, fun x hx => ⟨(h.fine (by omega)).2.1 x hx, ?_⟩⟩
  obtain ⟨h1, _, _, _, _, h6, _⟩ := h.2 x hx
  unfold DNode.sizes; omega
theorem FineD.set {l : List DNode} {k : Nat} {x' : DNode} (h : FineD l) (hx : x'.Ok ∧ x'.sizes ≤ 32) : FineD (l.set k x') := by
  refine ⟨by rw [List.length_set]; exact h.1, fun y hy => ?_⟩
  rcases List.mem_or_eq_of_mem_set hy with hy | rfl
  · exact h.2 y hy
  · exact hx
theorem FineD.take {l : List DNode} (h : FineD l) (k : Nat) : FineD (l.take k) :=
  ⟨by rw [List.length_take]; have := h.1; omega, fun y hy => h.2 y (List.mem_of_mem_take hy)⟩
theorem flat_set1 {q : List (DNode × Value)} {k i : Nat} {p p' : DNode × Value} (h : q[k]? = some p) (hi : i < 4) (u : Value) (hp : DNode.cells p' = (DNode.cells p).set i u) : (q.flatMap DNode.cells).set (k * 4 + i) u = (q.set k p').flatMap DNode.cells := by
  induction q generalizing k with
  | nil => simp at h
  | cons y q ih =>
    cases k with
    | zero =>
      simp at h; subst h
      rw [List.flatMap_cons, Nat.zero_mul, Nat.zero_add, List.set_append_left _ _ (by rw [DNode.len]; exact hi), List.set_cons_zero, List.flatMap_cons, hp]
    | succ k =>
      rw [List.flatMap_cons, List.set_append_right _ _ (by rw [DNode.len]; omega), DNode.len, show (k + 1) * 4 + i - 4 = k * 4 + i by omega, ih (by simpa using h), List.set_cons_succ, List.flatMap_cons]
theorem mem_set_ne {α : Type} {l : List α} {k : Nat} {x y : α} (h : y ∈ l.set k x) : y = x ∨ ∃ j, j ≠ k ∧ l[j]? = some y := by
  obtain ⟨j, hj⟩ := List.getElem?_of_mem h
  by_cases e : j = k
  · subst e
    rw [List.getElem?_set_self' ] at hj
    cases h2 : l[j]? with
    | none => simp [h2] at hj
    | some z => simp [h2] at hj; exact .inl hj.symm
  · rw [List.getElem?_set_ne (fun e2 => e e2.symm)] at hj
    exact .inr ⟨j, e, hj⟩
/-- The drawn list in parts: its row, its kids. -/
theorem OwnDNode.parts {w : World} {lo hi : Nat} {v : Value} {l : List DNode} (h : OwnDNode w lo hi v l) (hne : l ≠ []) : ∃ (g cap : Nat) (q : List (DNode × Value)), v = .slice (some ⟨g, 0, none⟩) l.length cap ∧ q.map Prod.fst = l ∧ cap ≤ 9223372036854775807 ∧ l.length ≤ cap ∧ w.ownsRow lo 49 4 (.slice (some ⟨g, 0, none⟩) l.length cap) l.length (q.flatMap DNode.cells) ∧ (∀ p ∈ q, w.ownsRow lo 3 1 p.2 p.1.kids.length (p.1.kids.flatMap int1)) ∧ (∀ p ∈ q, p.2.ownBlock ≠ some g) ∧ (q.map Prod.snd).Pairwise Apart := by
  obtain ⟨q, h1, h2, h3, h4⟩ := h
  have hl : q.length = l.length := by rw [← h1]; simp
  have hpos := List.length_pos_iff.2 hne
  rw [hl] at h2
  rcases h2.1.2 with ⟨_, h0⟩ | ⟨g, cap, cur, he, hb, hg, hc, hm, hs, ht⟩
  · omega
  subst he
  have hap := List.pairwise_cons.1 h4
  refine ⟨g, cap, q, rfl, h1, by unfold maxLen at hm; omega, hc, h2.1, fun p hp => (h3 p hp).1, fun p hp => ?_, hap.2⟩
  have := hap.1 p.2 (List.mem_map.2 ⟨p, hp, rfl⟩)
  rcases this with h | h
  · simp [Value.ownBlock] at h
  · exact fun e => h e.symm
theorem DNodeSlcS.of_parts {w : World} {lo g cap : Nat} {l : List DNode} {q : List (DNode × Value)} (hq : q.map Prod.fst = l) (hr : w.ownsRow lo 49 4 (.slice (some ⟨g, 0, none⟩) l.length cap) l.length (q.flatMap DNode.cells)) (hk : ∀ p ∈ q, w.ownsRow lo 3 1 p.2 p.1.kids.length (p.1.kids.flatMap int1)) : DNodeSlcS (fun b => lo ≤ b) w (.slice (some ⟨g, 0, none⟩) l.length cap) l := by
  have hl : q.length = l.length := by rw [← hq]; simp
  exact ⟨q, hq, by rw [hl]; exact SlcS.of_own hr, fun p hp => SlcS.of_own (hk p hp)⟩
theorem own_types2 {w : World} {B B' : Nat} {e e' : TypeId} {s s' n n' : Nat} {v v' : Value} {xs xs' : List Value} (h : w.ownsRow B e s v n xs) (h' : w.ownsRow B' e' s' v' n' xs') (hne : e ≠ e') : v.ownBlock = none ∨ v.ownBlock ≠ v'.ownBlock := by
  rcases h.2 with ⟨rfl, _⟩ | ⟨g, cap, cur, rfl, _, hg, _⟩
  · exact .inl rfl
  · refine .inr fun he => ?_
    rcases h'.2 with ⟨rfl, _⟩ | ⟨g', cap', cur', rfl, _, hg', _⟩
    · cases he
    · have he : g = g' := Option.some.inj he
      subst he
      rw [hg] at hg'
      injection hg' with hg'
      injection hg' with _ ht
      exact hne ht
theorem own_types3 {w w' : World} {B B' : Nat} {e e' : TypeId} {s s' n n' : Nat} {v v' : Value} {xs xs' : List Value} (hg : w.grownBy w' v'.ownBlock) (h : w.ownsRow B e s v n xs) (h' : w.ownsRow B' e' s' v' n' xs') (hne : e ≠ e') : w'.ownsRow B e s v n xs := h.kept hg (own_types2 h h' hne)
/-- One cell of a node is set, not its kids. -/
theorem set_cell {w : World} {lo g cap k i : Nat} {l : List DNode} {q : List (DNode × Value)} {x x' : DNode} {kv u : Value} (hq : q.map Prod.fst = l) (hr : w.ownsRow lo 49 4 (.slice (some ⟨g, 0, none⟩) l.length cap) l.length (q.flatMap DNode.cells)) (hk : ∀ p ∈ q, w.ownsRow lo 3 1 p.2 p.1.kids.length (p.1.kids.flatMap int1)) (hne : ∀ p ∈ q, p.2.ownBlock ≠ some g)
    (hx : q[k]? = some (x, kv)) (hi : i < 4) (hu : DNode.cells (x', kv) = (DNode.cells (x, kv)).set i u) (hkids : x'.kids = x.kids) : DNodeSlcS (fun b => lo ≤ b) (w.setCell ⟨g, k * 4 + i, none⟩ u) (.slice (some ⟨g, 0, none⟩) l.length cap) (l.set k x') := by
  have hl : (l.set k x').length = l.length := by simp
  have hs := hr.stored (k * 4 + i) u
  rw [flat_set1 hx hi u hu] at hs
  rw [← hl]
  refine DNodeSlcS.of_parts (q := q.set k (x', kv)) (by rw [List.map_set, hq]) (by rw [hl]; exact hs.1) fun p hp => ?_
  rcases mem_set_ne hp with rfl | ⟨j, _, hj⟩
  · have hm := List.mem_of_getElem? hx
    show World.ownsRow _ lo _ 1 kv x'.kids.length (x'.kids.flatMap int1)
    rw [hkids]
    exact (hk _ hm).kept hs.2 (.inr (hne _ hm))
  · have hm := List.mem_of_getElem? hj
    exact (hk _ hm).kept hs.2 (.inr (hne _ hm))
/-- The kids of a node have grown, and are set. -/
theorem set_kids {w w2 : World} {o : Obj} {lo g cap k : Nat} {l : List DNode} {q : List (DNode × Value)} {x : DNode} {kv kv2 : Value} {d : Int} (hq : q.map Prod.fst = l) (hr : w.ownsRow lo 49 4 (.slice (some ⟨g, 0, none⟩) l.length cap) l.length (q.flatMap DNode.cells)) (hk : ∀ p ∈ q, w.ownsRow lo 3 1 p.2 p.1.kids.length (p.1.kids.flatMap int1)) (hne : ∀ p ∈ q, p.2.ownBlock ≠ some g) (hap : (q.map Prod.snd).Pairwise Apart)
    (hx : q[k]? = some (x, kv)) (hgr : (w.alloc o).grownBy w2 kv.ownBlock) (ho : w2.ownsRow lo 3 1 kv2 (x.kids.length + 1) (x.kids.flatMap int1 ++ [.int .i64 d])) : DNodeSlcS (fun b => lo ≤ b) (w2.setCell ⟨g, k * 4 + 3, none⟩ kv2) (.slice (some ⟨g, 0, none⟩) l.length cap) (l.set k ⟨x.kind, x.n, x.text, x.kids ++ [d]⟩) := by
  have hl : (l.set k ⟨x.kind, x.n, x.text, x.kids ++ [d]⟩).length = l.length := by simp
  have hm := List.mem_of_getElem? hx
  have hr2 := (hr.alloc o).kept hgr (own_types2 (hr.alloc o) ((hk _ hm).alloc o) (by decide))
  have hs := hr2.stored (k * 4 + 3) kv2
  rw [flat_set1 (p' := (⟨x.kind, x.n, x.text, x.kids ++ [d]⟩, kv2)) hx (by omega) kv2 rfl] at hs
  rw [← hl]
  refine DNodeSlcS.of_parts (q := q.set k (⟨x.kind, x.n, x.text, x.kids ++ [d]⟩, kv2)) (by rw [List.map_set, hq]) (by rw [hl]; exact hs.1) fun p hp => ?_
  rcases mem_set_ne hp with rfl | ⟨j, hjk, hj⟩
  · show World.ownsRow _ lo _ 1 kv2 (x.kids ++ [d]).length ((x.kids ++ [d]).flatMap int1)
    rw [List.length_append, List.length_singleton, List.flatMap_append]
    exact (show w2.ownsRow lo 3 1 kv2 (x.kids.length + 1) (x.kids.flatMap int1 ++ [d].flatMap int1) from ho).kept hs.2 (own_types2 ho hr2 (by decide))
  · have hmj := List.mem_of_getElem? hj
    have h1 := ((hk _ hmj).alloc o).kept hgr (by
      have hget : ∀ (a b : Nat) (pa pb : DNode × Value), a < b → q[a]? = some pa → q[b]? = some pb → Apart pa.2 pb.2 := fun a b pa pb hab ha hb => by
        have h2 := List.pairwise_iff_getElem.1 hap a b (by rw [List.length_map]; exact (List.getElem?_eq_some_iff.1 ha).1) (by rw [List.length_map]; exact (List.getElem?_eq_some_iff.1 hb).1) hab
        rw [List.getElem_map, List.getElem_map, (List.getElem?_eq_some_iff.1 ha).2, (List.getElem?_eq_some_iff.1 hb).2] at h2
        exact h2
      rcases Nat.lt_or_gt_of_ne hjk with hlt | hlt
      · exact hget j k _ _ hlt hj hx
      · have h2 := hget k j _ _ hlt hx hj
        rcases h2 with h2 | h2
        · cases hpo : p.2.ownBlock with
          | none => exact .inl rfl
          | some r => exact .inr (by rw [show kv.ownBlock = none from h2]; exact fun e => by cases e)
        · exact .inr fun e => h2 e.symm)
    exact h1.kept hs.2 (own_types2 h1 hr2 (by decide))
theorem DNodeSlcS.take {S : Nat → Prop} {w : World} {g cap n : Nat} {l : List DNode} (h : DNodeSlcS S w (.slice (some ⟨g, 0, none⟩) n cap) l) (k : Nat) (hk : k ≤ l.length) : DNodeSlcS S w (.slice (some ⟨g, 0, none⟩) k cap) (l.take k) := by
  obtain ⟨q, h1, ⟨h2, a, c, he, hc, hm, h3⟩, h4⟩ := h
  have hl : q.length = l.length := by rw [← h1]; simp
  simp only [Value.slice.injEq] at he
  obtain ⟨rfl, hn, rfl⟩ := he
  have hkl : (q.take k).length = k := by rw [List.length_take]; omega
  refine ⟨q.take k, by rw [List.map_take, h1], ?_, fun p hp => h4 p (List.mem_of_mem_take hp)⟩
  rw [hkl]
  refine ⟨by rw [flat_len _ 4 DNode.len, hkl], _, _, rfl, by omega, hm, ?_⟩
  rcases h3 with h3 | ⟨b, off, h5, h6, h7⟩
  · exact .inl (by omega)
  · refine .inr ⟨b, off, h5, h6, fun j u hj => h7 j u ?_⟩
    have e : q.flatMap DNode.cells = (q.take k).flatMap DNode.cells ++ (q.drop k).flatMap DNode.cells := by rw [← List.flatMap_append, List.take_append_drop]
    rw [e, List.getElem?_append_left (List.getElem?_eq_some_iff.1 hj).1]
    exact hj
/-- What l15Any hands back. -/
def AnyD (w0 w : World) (p : Nat) (bv : Value) (bs : List UInt8) (e : Ending) (w' : World) : Prop :=
  ∃ (v : Value) (l : List DNode), e = .returned v ∧ w.grownBy w' (some p) ∧ Cur w0 w' p bv bs ∧ DNodeSlcS (fun b => w.heap.size ≤ b) w' v l ∧ FineD l
theorem grown_low {w w1 w2 : World} {r : Option Nat} {g : Nat} (h : w.grownBy w1 r) (hg : w.heap.size ≤ g) (h2 : w1.grownBy w2 (some g)) : w.grownBy w2 r :=
  ⟨h2.os.trans h.os, h2.tape.trans h.tape, h2.output.trans h.output, Nat.le_trans h.size h2.size, fun k hk hne => (h2.block k (Nat.lt_of_lt_of_le hk h.size) fun e => by have := Option.some.inj e; omega).trans (h.block k hk hne)⟩
theorem grown_low2 {w w1 w2 : World} {r s : Option Nat} (h : w.grownBy w1 r) (hg : ∀ g, s = some g → w.heap.size ≤ g) (h2 : w1.grownBy w2 s) : w.grownBy w2 r :=
  ⟨h2.os.trans h.os, h2.tape.trans h.tape, h2.output.trans h.output, Nat.le_trans h.size h2.size, fun k hk hne => (h2.block k (Nat.lt_of_lt_of_le hk h.size) fun e => by have := hg k e.symm; omega).trans (h.block k hk hne)⟩
theorem Cur.low {w0 w1 w2 : World} {p : Nat} {bv : Value} {bs : List UInt8} {s : Option Nat} (hc : Cur w0 w1 p bv bs) (hg : ∀ g, s = some g → p < g) (h2 : w1.grownBy w2 s) : Cur w0 w2 p bv bs := by
  have hat := hc.at_
  exact ⟨hc.code, hc.small, hc.at_, hc.old.grown h2 hc.old.size (fun r e => by have := hg r e; omega), hc.box.keep (h2.block p hc.box.lt fun e => by have := hg p e.symm; omega)⟩

/-- The drawn list in parts, in a later world. -/
structure DP (w : World) (lo g cap : Nat) (l : List DNode) (q : List (DNode × Value)) : Prop where
  hq : q.map Prod.fst = l
  row : w.ownsRow lo 49 4 (.slice (some ⟨g, 0, none⟩) l.length cap) l.length (q.flatMap DNode.cells)
  kids : ∀ p ∈ q, w.ownsRow lo 3 1 p.2 p.1.kids.length (p.1.kids.flatMap int1)
  ne : ∀ p ∈ q, p.2.ownBlock ≠ some g
  apart : (q.map Prod.snd).Pairwise Apart
theorem DP.kept {w w' : World} {lo g cap p : Nat} {l : List DNode} {q : List (DNode × Value)} (h : DP w lo g cap l q) (hg : w.grownBy w' (some p)) (hp : p < lo) : DP w' lo g cap l q :=
  ⟨h.hq, h.row.kept hg (ownBlock_ne h.row hp), fun r hr => (h.kids r hr).kept hg (ownBlock_ne (h.kids r hr) hp), h.ne, h.apart⟩
theorem DP.alloc {w : World} {lo g cap : Nat} {l : List DNode} {q : List (DNode × Value)} (h : DP w lo g cap l q) (o : Obj) : DP (w.alloc o) lo g cap l q :=
  ⟨h.hq, h.row.alloc o, fun r hr => (h.kids r hr).alloc o, h.ne, h.apart⟩
theorem DP.at {w : World} {lo g cap k : Nat} {l : List DNode} {q : List (DNode × Value)} (h : DP w lo g cap l q) (hk : k < l.length) : ∃ (x : DNode) (kv : Value), q[k]? = some (x, kv) ∧ l[k]? = some x ∧ w.cell? ⟨g, k * 4, none⟩ = some (.int .i64 x.kind) ∧ w.cell? ⟨g, k * 4 + 1, none⟩ = some (.int .i64 x.n) ∧ w.cell? ⟨g, k * 4 + 2, none⟩ = some (.string x.text) ∧ w.cell? ⟨g, k * 4 + 3, none⟩ = some kv ∧ ∀ j, w.frozen? ⟨g, j, none⟩ = false := by
  have hl : q.length = l.length := by rw [← h.hq]; simp
  obtain ⟨⟨x, kv⟩, hx⟩ := get_of_lt (l := q) (k := k) (by omega)
  have hr : RowAt w g 0 (q.flatMap DNode.cells) := fun j u hj => by
    rw [Nat.zero_add, h.row.cellAt j (by have := (List.getElem?_eq_some_iff.1 hj).1; have := h.row.1; omega)]; exact hj
  refine ⟨x, kv, hx, by rw [← h.hq, List.getElem?_map, hx]; rfl, ?_, ?_, ?_, ?_, h.row.frozenAt⟩
  · simpa using hr.flat0 4 DNode.len hx rfl
  · simpa using hr.flat 4 DNode.len hx 1 rfl
  · simpa using hr.flat 4 DNode.len hx 2 rfl
  · simpa using hr.flat 4 DNode.len hx 3 rfl
theorem DP.slc {w : World} {lo g cap : Nat} {l : List DNode} {q : List (DNode × Value)} (h : DP w lo g cap l q) : DNodeSlcS (fun b => lo ≤ b) w (.slice (some ⟨g, 0, none⟩) l.length cap) l := .of_parts h.hq h.row h.kids
theorem cell_of_heap2 {w w' : World} {b o : Nat} (h : w'.heap[b]? = w.heap[b]?) : w'.cell? ⟨b, o, none⟩ = w.cell? ⟨b, o, none⟩ := by
  unfold World.cell?
  simp only [h]
def ints15 : List Int := [-1, 40, 41, 1]
theorem nD5 : nD 5 ≤ 3906 := by decide
theorem Ok_kind {x : DNode} {z : Int} (h : x.Ok ∧ x.sizes ≤ 32) (hz : I64 z) : (⟨z, x.n, x.text, x.kids⟩ : DNode).Ok ∧ (⟨z, x.n, x.text, x.kids⟩ : DNode).sizes ≤ 32 := ⟨⟨h.1.1, hz, h.1.2.2.1, h.1.2.2.2.1, h.1.2.2.2.2⟩, h.2⟩
theorem Ok_n {x : DNode} {z : Int} (h : x.Ok ∧ x.sizes ≤ 32) (hz : I64 z) : (⟨x.kind, z, x.text, x.kids⟩ : DNode).Ok ∧ (⟨x.kind, z, x.text, x.kids⟩ : DNode).sizes ≤ 32 := ⟨⟨h.1.1, h.1.2.1, hz, h.1.2.2.2.1, h.1.2.2.2.2⟩, h.2⟩
theorem Ok_text {x : DNode} {t : ByteArray} (h : x.Ok ∧ x.sizes ≤ 24) (hz : t.size ≤ 5) : (⟨x.kind, x.n, t, x.kids⟩ : DNode).Ok ∧ (⟨x.kind, x.n, t, x.kids⟩ : DNode).sizes ≤ 32 := ⟨⟨by unfold maxLen; show t.size ≤ _; omega, h.1.2.1, h.1.2.2.1, h.1.2.2.2.1, h.1.2.2.2.2⟩, by have := h.2; unfold DNode.sizes at *; show t.size + x.kids.length ≤ 32; omega⟩
theorem Ok_kids {x : DNode} {d : Int} (h : x.Ok ∧ x.sizes ≤ 24) (hz : I64 d) : (⟨x.kind, x.n, x.text, x.kids ++ [d]⟩ : DNode).Ok ∧ (⟨x.kind, x.n, x.text, x.kids ++ [d]⟩ : DNode).sizes ≤ 32 := by
  have h2 := h.2
  unfold DNode.sizes at h2
  refine ⟨⟨h.1.1, h.1.2.1, h.1.2.2.1, fun k hk => ?_, by unfold maxLen; simp; omega⟩, by unfold DNode.sizes; simp; omega⟩
  rcases List.mem_append.1 hk with hk | hk
  · exact h.1.2.2.2.1 k hk
  · rw [List.mem_singleton.1 hk]; exact hz
theorem SmallD.fine24 {l : List DNode} (h : SmallD l) (hl : l.length ≤ 4000) : ∀ x ∈ l, x.Ok ∧ x.sizes ≤ 24 := fun x hx => ⟨(h.fine (by omega)).2.1 x hx, by
  obtain ⟨h1, _, _, _, _, h6, _⟩ := h.2 x hx
  unfold DNode.sizes; omega⟩

set_option maxRecDepth 100000 in
set_option maxHeartbeats 6400000 in
theorem specl15Any_any (w0 w : World) (p : Nat) (bv : Value) (bs : List UInt8) (hc : Cur w0 w p bv bs) :
    Calls Try.prog 59 #[.pointer (some ⟨p, 0, none⟩)] w fun e w' => AnyD w0 w p bv bs e w' := by
  have hpw := hc.box.lt
  have hcall := specl15Draw_any 5 (by omega) w0 w p bv bs hc
  rw [show ((5 : Nat) : Int) = 5 from rfl] at hcall
  replace hcall := hid hcall
  clear hc
  obtain ⟨i0, hi, hz0, hz1, hz2⟩ := info_parts Try.info3
  go_enter Try.func59, Try.ntmps59
  go_wp2_with fail
  refine hcall.out.mono ?_; rintro e w1 ⟨v, l, rfl, hg1, hc1, ho1, hs1, hn1⟩
  clear hcall
  have hn5 := nD5
  have hlen : l.length ≤ 3906 := by omega
  have hlen0 := List.length_pos_iff.2 hs1.1
  obtain ⟨g, cap, q, rfl, hq, hcm, hlc, hr, hk, hne, hap⟩ := ho1.parts hs1.1
  have hdp : DP w1 w.heap.size g cap l q := ⟨hq, hr, hk, hne, hap⟩
  have hfd := hid (hs1.fineD (by omega))
  have hf24 := hid (hs1.fine24 (by omega))
  have hgw := (hr.lt g rfl).1
  clear hq hr hk hne hap ho1 hn1 hs1
  have hcall := hid (specl1Below_any w0 w1 p bv bs l.length (by unfold I64; omega) hc1)
  replace hdp := hid hdp
  replace hg1 := hid hg1
  clear hc1 hn5
  go_wp2_with fail
  refine hcall.out.mono ?_; rintro e w2 ⟨k', rfl, hk0, hk1, _, hg2, hc2⟩
  obtain ⟨k, rfl⟩ : ∃ k : Nat, k' = (k : Int) := ⟨k'.toNat, by omega⟩
  have hkl : k < l.length := by have := hk1 (by omega); omega
  have hdp := hid (hdp.out.kept hg2 hpw)
  have hg2 := hid (grown_trans hg1.out hg2)
  have hcall2 := hid (specl1Below_any w0 w2 p bv bs 16 (by unfold I64; omega) hc2)
  clear hc2 hcall hg1 hk0 hk1
  go_wp2_with fail
  refine hcall2.out.mono ?_; rintro e w3 ⟨y, rfl, hy0, hy1, _, hg3, hc3⟩
  have hdp := hid (hdp.out.kept hg3 hpw)
  have hg3 := hid (grown_trans hg2.out hg3)
  clear hcall2 hg2
  by_cases y0 : y = 0
  · subst y0
    have hcall := hid (specl1Below_any w0 w3 p bv bs 8 (by unfold I64; omega) hc3)
    clear hc3
    go_wp2_with fail
    refine hcall.out.mono ?_; rintro e w4 ⟨z, rfl, hz3, hz4, _, hg4, hc4⟩
    have hdp := hid (hdp.out.kept hg4 hpw)
    have hg4 := hid (grown_trans hg3.out hg4)
    obtain ⟨x, kv, hx, hxl, c0, c1, c2, c3, cf⟩ := hdp.out.at hkl
    have hfx := hid (Ok_kind (z := z) (hfd.out.2 x (List.mem_of_getElem? hxl)) (by unfold I64; omega))
    have hfin := hid (set_cell (i := 0) (x' := ⟨z, x.n, x.text, x.kids⟩) (u := .int .i64 z) hdp.out.hq hdp.out.row hdp.out.kids hdp.out.ne hx (by omega) rfl rfl)
    replace hc4 := hid hc4
    clear hcall hg3 hx hxl c1 c2 c3
    go_wp2
    go_ret
    exact ⟨_, _, rfl, grown_low hg4.out hgw (grown_set _ _ _ _), hc4.out.low (s := some g) (fun r e => by have := Option.some.inj e; omega) (grown_set _ _ _ _), hfin.out, hfd.out.set hfx.out⟩
  by_cases y1 : y = 1
  · subst y1
    have hpw3 := hc3.box.lt
    have hcall := hid (fun o => specl1PickInt_any w0 (w3.alloc (.cells (ints15.flatMap int1).toArray o)) p bv bs ints15 w3.heap.size 4 (by decide) (by decide) (by decide) (by omega) (rowAt_lit _ _ _) (hc3.below ((Below.refl _ _).alloc (Nat.le_refl _) _)))
    clear hc3
    go_wp2_with fail
    refine (hcall.out _).mono ?_; rintro e w4 ⟨z, hz, rfl, hg4, hc4⟩
    have hzb : I64 z := by
      have : ∀ z ∈ ints15, -1 ≤ z ∧ z ≤ 41 := by decide
      have := this z hz
      unfold I64; omega
    have hdp := hid ((hdp.out.alloc _).kept hg4 hpw)
    have hg4 := hid (grown_trans (grown_al hg3.out _) hg4)
    obtain ⟨x, kv, hx, hxl, c0, c1, c2, c3, cf⟩ := hdp.out.at hkl
    have hfx := hid (Ok_n (z := z) (hfd.out.2 x (List.mem_of_getElem? hxl)) hzb)
    have hfin := hid (set_cell (i := 1) (x' := ⟨x.kind, z, x.text, x.kids⟩) (u := .int .i64 z) hdp.out.hq hdp.out.row hdp.out.kids hdp.out.ne hx (by omega) rfl rfl)
    replace hc4 := hid hc4
    clear hcall hg3 hx hxl c0 c2 c3 hz hzb
    go_wp2
    go_ret
    exact ⟨_, _, rfl, grown_low hg4.out hgw (grown_set _ _ _ _), hc4.out.low (s := some g) (fun r e => by have := Option.some.inj e; omega) (grown_set _ _ _ _), hfin.out, hfd.out.set hfx.out⟩
  by_cases y2 : y = 2
  · subst y2
    obtain ⟨x, kv, hx, hxl, c0, c1, c2, c3, cf⟩ := hdp.out.at hkl
    have hfx := hid (Ok_text (t := ⟨#[120, 10, 121]⟩) (hf24.out x (List.mem_of_getElem? hxl)) (by decide))
    have hfin := hid (set_cell (i := 2) (x' := ⟨x.kind, x.n, ⟨#[120, 10, 121]⟩, x.kids⟩) (u := .string ⟨#[120, 10, 121]⟩) hdp.out.hq hdp.out.row hdp.out.kids hdp.out.ne hx (by omega) rfl rfl)
    replace hc3 := hid hc3
    clear hx hxl c0 c1 c3
    go_wp2
    go_ret
    exact ⟨_, _, rfl, grown_low hg3.out hgw (grown_set _ _ _ _), hc3.out.low (s := some g) (fun r e => by have := Option.some.inj e; omega) (grown_set _ _ _ _), hfin.out, hfd.out.set hfx.out⟩
  by_cases y3 : y = 3
  · subst y3
    obtain ⟨x, kv, hx, hxl, c0, c1, c2, c3, cf⟩ := hdp.out.at hkl
    have hmem := List.mem_of_getElem? hx
    have hko := hdp.out.kids _ hmem
    obtain ⟨ka, kc, hkv, _⟩ := own_slice hko
    simp only at hkv hko
    subst hkv
    have hx24 := hf24.out x (List.mem_of_getElem? hxl)
    have hkb : x.kids.length ≤ 24 := by have := hx24.2; unfold DNode.sizes at this; omega
    have hfx := hid (Ok_kids (d := (k : Int)) hx24 (by unfold I64; omega))
    have hsk := hid (fun (o : Obj) (w4 : World) (kv2 : Value) hgr ho => set_kids (o := o) (w2 := w4) (kv2 := kv2) (d := (k : Int)) hdp.out.hq hdp.out.row hdp.out.kids hdp.out.ne hdp.out.apart hx hgr ho)
    have hkne := hdp.out.ne _ hmem
    have hgl := (hdp.out.row.lt g rfl).2
    replace hc3 := hid hc3
    replace hko := hid hko
    replace hx := hid hx
    clear hxl c0 c1 c2 hmem hx24
    go_wp2_with (at_builtin; refine Hid.out ?_)
    refine hid ?_
    refine wpList_append_own _ (by rfl) _ _ 47 (by rfl) w.heap.size 3 i0 _ 1 8 Try.underlying47 hi hz0 hz1 hz2 rfl (by decide) _ x.kids.length (x.kids.flatMap int1) (by rfl) (hko.out.alloc _) _ 1 1 [.int .i64 (k : Int)] (by rfl) (by rfl) (new_cells_at _ _ _ _ _ (by first | rfl | (simp; done)) (by first | rfl | (simp; done))) (by intro u hu; simp only [List.mem_cons, List.not_mem_nil, or_false] at hu; rcases hu with rfl; rfl) (by unfold maxLen; omega) (by omega) (by have := hg3.out.size; simp; omega) ?_
    intro kv2 w4 hown4 hgr4 hiff; clear hiff
    have hlt4 := hgr4.size
    rw [World.size_alloc] at hlt4
    have d3 : w4.cell? ⟨g, k * 4 + 3, none⟩ = some (.slice ka x.kids.length kc) := by
      rw [cell_of_heap2 ((hgr4.block g (by simp; omega) (fun e => hkne e.symm)).trans (Below.heap_alloc _ _ _ hgl))]; exact c3
    have df : ∀ j, w4.frozen? ⟨g, j, none⟩ = false := fun j => by
      have e := (hgr4.block g (by simp; omega) (fun e => hkne e.symm)).trans (Below.heap_alloc _ _ _ hgl)
      have := cf j
      unfold World.frozen? at this ⊢
      simp only [e]
      exact this
    have hfin := hid (hsk.out _ _ _ hgr4 hown4)
    have hlo : Hid (∀ r, (Value.slice ka x.kids.length kc).ownBlock = some r → w.heap.size ≤ r) := hid fun r e => (hko.out.lt r e).1
    have hg4 := hid (grown_low2 (grown_al hg3.out _) hlo.out hgr4)
    have hc4 := hid ((hc3.out.below ((Below.refl _ _).alloc (Nat.le_refl _) _)).low (s := (Value.slice ka x.kids.length kc).ownBlock) (fun r e => by have := hlo.out r e; omega) hgr4)
    obtain ⟨ka2, kc2, rfl, _⟩ := own_slice hown4
    clear hown4 hgr4 c3 cf hsk hc3 hg3 hko
    go_wp2
    go_ret
    exact ⟨_, _, rfl, grown_low hg4.out hgw (grown_set _ _ _ _), hc4.out.low (s := some g) (fun r e => by have := Option.some.inj e; omega) (grown_set _ _ _ _), hfin.out, hfd.out.set hfx.out⟩
  by_cases y4 : y = 4
  · subst y4
    have hfin := hid (hdp.out.slc.take k (by omega))
    replace hc3 := hid hc3
    go_wp2
    go_ret
    exact ⟨_, _, rfl, hg3.out, hc3.out, hfin.out, hfd.out.take k⟩
  · have hfin := hid hdp.out.slc
    replace hc3 := hid hc3
    go_wp2
    go_ret
    exact ⟨_, _, rfl, hg3.out, hc3.out, hfin.out, hfd.out⟩
end Go.Proofs.Ytfabfkaolnidiaa
