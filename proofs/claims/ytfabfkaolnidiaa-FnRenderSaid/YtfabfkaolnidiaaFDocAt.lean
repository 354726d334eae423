/- Walks and lemmas of this seat (FDocAt): what each theorem says of the functions that it names. Conditions: those that each theorem states. -/
import Derived.Test.YtfabfkaolnidiaaDataDoc
import Derived.Test.YtfabfkaolnidiaaGA
import Derived.Deep.AppendLies
import Derived.Deep.RegionHeld3
import Derived.Deep.RegionLaw
import Derived.Deep.DrawnRows
import Derived.Outline
namespace Go.Proofs.Ytfabfkaolnidiaa
set_option linter.unusedVariables false
set_option linter.unusedSimpArgs false
open Go.RowKit

attribute [local go_sem ↓] Go.wp_at_zero Go.wp_at_succ

theorem Try.info70 : (Try.prog.info? 70).map (fun i => (i.zero, i.size, i.bytes)) = some (some (.agg #[.int .i64 0, .int .i64 0, .string ⟨#[]⟩, .slice none 0 0, .int .i64 0]), 5, 64) := by kernel_rfl
theorem DNodeSlc.pre {w : World} {b off cap : Nat} {l : List DNode} (h : DNodeSlc w (.slice (some ⟨b, off, none⟩) l.length cap) l) (hi : Nat) (h2 : hi ≤ l.length) : DNodeSlc w (.slice (some ⟨b, off, none⟩) hi cap) (l.take hi) := by
  obtain ⟨q, rfl, ⟨_, a, cap', hv, hc, hm, hrow⟩, hk⟩ := h
  simp at hv h2
  obtain ⟨rfl, rfl⟩ := hv
  have hsl : (q.take hi).length = hi := by rw [List.length_take]; omega
  refine ⟨q.take hi, by rw [List.map_take], ⟨by rw [flat_len _ 4 DNode.len], some ⟨b, off, none⟩, cap, by rw [hsl], by rw [hsl]; omega, hm, ?_⟩, fun p hp => hk p (List.mem_of_mem_take hp)⟩
  rcases hrow with h0 | ⟨b', off', e, hro⟩
  · left; omega
  · simp at e
    obtain ⟨rfl, rfl⟩ := e
    refine .inr ⟨b, off, rfl, fun j u hj => hro j u ?_⟩
    have e : q.flatMap DNode.cells = (q.take hi).flatMap DNode.cells ++ (q.drop hi).flatMap DNode.cells := by rw [← List.flatMap_append, List.take_append_drop]
    rw [e, List.getElem?_append_left (List.getElem?_eq_some_iff.1 hj).1]
    exact hj

theorem bcell {W w1 : World} (hb : Below W.heap.size W w1) : (∀ b o, b < W.heap.size → w1.cell? ⟨b, o, none⟩ = W.cell? ⟨b, o, none⟩) ∧ (∀ b o, b < W.heap.size → w1.frozen? ⟨b, o, none⟩ = W.frozen? ⟨b, o, none⟩) :=
  ⟨fun b o h => hb.cell (p := ⟨b, o, none⟩) h, fun b o h => hb.frozen (p := ⟨b, o, none⟩) h⟩
/-- What impl.docAt hands back. -/
def DocPost (w : World) (t : Doc) (e : Ending) (w' : World) : Prop := ∃ (ka : Option Addr) (kn kc : Nat), e = .returned (.agg #[.int .i64 t.kind, .int .i64 t.n, .string t.text, .slice ka kn kc, .int .i64 t.group]) ∧ Below w.heap.size w w' ∧ DocIs (fun b => w.heap.size ≤ b) w' t (.slice ka kn kc)

/-- Between two rounds of impl.docAt's loop: the document's box lies in block Bt, its rows from B0 on. -/
structure DL (l0 : List DNode) (w : World) (x : DNode) (g : Int) (Bt B0 k : Nat) (kv : Value) (q : List (Doc × Value)) (wr : World) : Prop where
  hb : Below w.heap.size w wr
  bt : w.heap.size + 1 < Bt ∧ Bt < B0
  b0 : B0 ≤ wr.heap.size
  res : wr.heap[w.heap.size]? = some (.cells #[.int .i64 0, .int .i64 0, .string ⟨#[]⟩, .slice none 0 0, .int .i64 0] 70 (0, 0))
  box : wr.heap[Bt]? = some (.cells #[.int .i64 x.kind, .int .i64 x.n, .string x.text, kv, .int .i64 g] 70 (0, 0))
  own : wr.ownsRow B0 70 5 kv k (q.flatMap Doc.cells)
  eq : q.map Prod.fst = (x.kids.take k).map fun k => docIx l0 k.toNat
  sub : ∀ p ∈ q, DocIs (fun b => B0 ≤ b ∧ some b ≠ kv.ownBlock) wr p.1 p.2
theorem DL.step {l0 : List DNode} {w : World} {x : DNode} {g : Int} {Bt B0 : Nat} {k j : Nat} {kv : Value} {q : List (Doc × Value)} {wr w1 w2 : World} {o : Obj} {kv1 : Value} {gg cap2 : Nat} (h : DL l0 w x g Bt B0 k kv q wr) (hb1 : Below wr.drew.heap.size wr.drew w1)
    (ht1 : DocIs (fun b => wr.drew.heap.size ≤ b) w1 (docIx l0 j) kv1) (hown : w2.ownsRow (B0) 70 5 (.slice (some ⟨gg, 0, none⟩) (k + 1) cap2) (k + 1) (q.flatMap Doc.cells ++ Doc.cells (docIx l0 j, kv1)))
    (hg : (w1.alloc o).grownBy w2 kv.ownBlock) (hat : kv.ownBlock = some gg ∨ gg = w1.heap.size + 1) (hk : x.kids.take (k + 1) = x.kids.take k ++ [(j : Int)]) :
    DL l0 w x g Bt B0 (k + 1) (.slice (some ⟨gg, 0, none⟩) (k + 1) cap2) (q ++ [(docIx l0 j, kv1)]) (w2.setCell ⟨Bt, 3, none⟩ (.slice (some ⟨gg, 0, none⟩) (k + 1) cap2)) := by
  have hs1 : wr.heap.size ≤ w1.heap.size := hb1.size
  have hbt := h.bt
  have hbs : Bt < wr.heap.size := (Array.getElem?_eq_some_iff.1 h.box).1
  have hlo : ∀ r, kv.ownBlock = some r → B0 ≤ r ∧ r < wr.heap.size := fun r e => h.own.lt r e
  have hgg : B0 ≤ gg := (hown.lt gg rfl).1
  have keep : ∀ (W : World), Below wr.drew.heap.size wr.drew W → True := fun _ _ => trivial
  have h12 : ∀ b, b < w1.heap.size → some b ≠ kv.ownBlock → w2.heap[b]? = w1.heap[b]? := fun b hb hne => (hg.block b (by simp; omega) hne).trans (Below.heap_alloc _ _ _ hb)
  have hr1 : ∀ b, b < wr.heap.size → w1.heap[b]? = wr.heap[b]? := fun b hb => hb1.block b hb
  have hset : ∀ b, b ≠ Bt → (w2.setCell ⟨Bt, 3, none⟩ (.slice (some ⟨gg, 0, none⟩) (k + 1) cap2)).heap[b]? = w2.heap[b]? := fun b hb => heap_setCell_other w2 ⟨Bt, 3, none⟩ b _ hb
  have hno : ∀ b, b ≤ Bt → some b ≠ kv.ownBlock := fun b hb e => by have := (hlo b e.symm).1; omega
  have hb0 := h.b0
  have hs2 : w1.heap.size + 1 ≤ w2.heap.size := by have := hg.size; simpa using this
  refine ⟨?_, hbt, by simp; omega, ?_, ?_, ?_, ?_, ?_⟩
  · have e1 : Below w.heap.size w w1 := h.hb.trans ((show Below wr.heap.size wr w1 from ⟨hb1.os, hb1.tape, hb1.output, hb1.size, hb1.block⟩).mono h.hb.size)
    exact ((e1.alloc e1.size o).grown hg (by simp; omega) (fun r e => by have := (hlo r e).1; omega)).setCell (p := ⟨Bt, 3, none⟩) (show w.heap.size ≤ Bt by omega) _
  · rw [hset _ (by omega), h12 _ (by omega) (hno _ (by omega)), hr1 _ (by omega)]; exact h.res
  · have := (h12 _ (by omega) (hno _ (Nat.le_refl _))).trans ((hr1 _ hbs).trans h.box)
    rw [heap_setCell_at this]; rfl
  · rw [List.flatMap_append, List.flatMap_cons, List.flatMap_nil, List.append_nil]
    exact hown.kept (grown_set w2 Bt 3 _) (.inr (by simp [Value.ownBlock]; omega))
  · rw [List.map_append, h.eq, hk, List.map_append]; simp
  · intro p hp
    rcases List.mem_append.1 hp with hp | hp
    · refine (h.sub p hp).keep fun b hS hlt => ⟨?_, hS.1, ?_⟩
      · rw [hset b (by omega), h12 b (by omega) hS.2, hr1 b hlt]
      · intro e
        simp [Value.ownBlock] at e
        rcases hat with hat | hat
        · exact hS.2 (by rw [hat, e])
        · omega
    · simp at hp
      subst hp
      refine ht1.keep fun b hS hlt => ?_
      have hS' : wr.heap.size ≤ b := hS
      refine ⟨?_, by omega, ?_⟩
      · rw [hset b (by omega), h12 b hlt (fun e => by have := (hlo b e.symm).2; omega)]
      · intro e
        simp [Value.ownBlock] at e
        rcases hat with hat | hat
        · have := (hlo gg hat).2; omega
        · omega


set_option maxRecDepth 100000 in
set_option maxHeartbeats 3200000 in
theorem impldocAt_any (l0 : List DNode) (v0 : Value) (w0 : World) (hv00 : DNodeSlc w0 v0 l0) (hx0 : ∀ x ∈ l0, x.Ok) (hn0 : bulk DNode.sizes l0 ≤ 1048576) (ha : AheadD l0) :
    ∀ (i : Nat), i < l0.length → ∀ (w : World), Below w0.heap.size w0 w → Calls Try.prog 66 #[v0, .int .i64 i] w fun e w' => DocPost w (docIx l0 i) e w' := by
  obtain ⟨a, cap, rfl, hm, hc, hsl⟩ := hv00.shape
  intro i
  induction i using Nat.strongRecOn with
  | _ i ih =>
  intro hi w hbw
  obtain ⟨x, ka, kc, b, off, hx, rfl, c0, c1, c2, c3, hkd⟩ := hsl.at hbw (Nat.le_refl _) hi
  have hti := hid (docIx_eq ha hx)
  have hah := hid (ha i x hx)
  have hlen := length_bulk DNode.sizes l0
  have hxs := Nat.le_trans (bulk_mem DNode.sizes (List.mem_of_getElem? hx)) hn0
  unfold DNode.sizes at hxs
  clear hx
  obtain ⟨_, _, _, hkv, hkc, hkm, hkrow⟩ := hkd
  simp at hkv
  obtain ⟨rfl, rfl⟩ := hkv
  obtain ⟨i0, hti0, hz0, hz1, hz2⟩ := info_parts Try.info70
  have hAl : ∀ {q : Nat} {u : Value} (o : Obj), w.cell? ⟨b, q, none⟩ = some u → (w.alloc o).cell? ⟨b, q, none⟩ = some u := fun {q u} o h => (((Below.refl w.heap.size w).alloc (Nat.le_refl _) o).cell (p := ⟨b, q, none⟩) (World.block_lt_of_cell? w _ h)).trans h
  have d0 := fun o => hAl o c0
  have d1 := fun o => hAl o c1
  have d2 := fun o => hAl o c2
  have d3 := fun o => hAl o c3
  have hgrp := hid (fun W (h : Below w.heap.size w W) => implGroupsIn_any (l0.take i) (.slice (some ⟨b, off, none⟩) i cap) W (fun y hy => hx0 y (List.mem_of_mem_take hy)) (Nat.le_trans (by
    unfold bulk
    have := sum_take_le DNode.sizes l0 i
    have : (l0.take i).length ≤ l0.length := by rw [List.length_take]; omega
    omega) hn0) ((hsl.mono (hbw.trans (h.mono hbw.size)) (Nat.le_refl _)).pre i (by omega)))
  have hgb : (l0.take i).countP isGroupB ≤ i := Nat.le_trans List.countP_le_length (by rw [List.length_take]; omega)
  obtain ⟨grp, hgrpE⟩ : ∃ grp, grp = (l0.take i).countP isGroupB := ⟨_, rfl⟩
  rw [← hgrpE] at hgrp hgb hti
  clear hAl c0 c1 c2 c3
  replace ih := hid ih
  replace hgrpE := hid hgrpE
  have hic : (i : Int) ≤ (cap : Int) := by omega
  have hi0 : (0 : Int) ≤ (i : Int) := by omega
  go_enter Try.func66, Try.ntmps66
  go_wp2_with fail
  have hb0 : Below w.heap.size w ((w.alloc (.cells #[.int .i64 0, .int .i64 0, .string ⟨#[]⟩, .slice none 0 0, .int .i64 0] 70)).alloc (.cells #[.int .i64 x.kind, .int .i64 x.n, .string x.text, .slice ka x.kids.length kc] 49)) := by repeat (first | exact Below.refl _ _ | refine Below.alloc ?_ (by first | omega | (simp; done) | (simp; omega)) _ | refine Below.drew ?_)
  have hres0 : ((w.alloc (.cells #[.int .i64 0, .int .i64 0, .string ⟨#[]⟩, .slice none 0 0, .int .i64 0] 70)).alloc (.cells #[.int .i64 x.kind, .int .i64 x.n, .string x.text, .slice ka x.kids.length kc] 49)).heap[w.heap.size]? = some (.cells #[.int .i64 0, .int .i64 0, .string ⟨#[]⟩, .slice none 0 0, .int .i64 0] 70 (0, 0)) := by
    rw [Below.heap_alloc _ _ _ (by simp)]; exact heap_alloc_new w _
  have hnod0 : ((w.alloc (.cells #[.int .i64 0, .int .i64 0, .string ⟨#[]⟩, .slice none 0 0, .int .i64 0] 70)).alloc (.cells #[.int .i64 x.kind, .int .i64 x.n, .string x.text, .slice ka x.kids.length kc] 49)).heap[w.heap.size + 1]? = some (.cells #[.int .i64 x.kind, .int .i64 x.n, .string x.text, .slice ka x.kids.length kc] 49 (0, 0)) := by
    have := heap_alloc_new (w.alloc (.cells #[.int .i64 0, .int .i64 0, .string ⟨#[]⟩, .slice none 0 0, .int .i64 0] 70)) (.cells #[.int .i64 x.kind, .int .i64 x.n, .string x.text, .slice ka x.kids.length kc] 49)
    simpa using this
  generalize ((w.alloc (.cells #[.int .i64 0, .int .i64 0, .string ⟨#[]⟩, .slice none 0 0, .int .i64 0] 70)).alloc (.cells #[.int .i64 x.kind, .int .i64 x.n, .string x.text, .slice ka x.kids.length kc] 49)) = W1 at hb0 hres0 hnod0 ⊢
  have hW1 : w.heap.size + 1 < W1.heap.size := (Array.getElem?_eq_some_iff.1 hnod0).1
  have n0 : W1.cell? ⟨w.heap.size + 1, 0, none⟩ = some (.int .i64 x.kind) := by simp [World.cell?, hnod0]
  have n1 : W1.cell? ⟨w.heap.size + 1, 1, none⟩ = some (.int .i64 x.n) := by simp [World.cell?, hnod0]
  have n2 : W1.cell? ⟨w.heap.size + 1, 2, none⟩ = some (.string x.text) := by simp [World.cell?, hnod0]
  have n3 : W1.cell? ⟨w.heap.size + 1, 3, none⟩ = some (.slice ka x.kids.length kc) := by simp [World.cell?, hnod0]
  have hSb : ∀ (W : World), Below W1.heap.size W1 W → (Below W1.heap.size W1 W ∧ W.cell? ⟨w.heap.size + 1, 0, none⟩ = some (.int .i64 x.kind) ∧ W.cell? ⟨w.heap.size + 1, 1, none⟩ = some (.int .i64 x.n) ∧ W.cell? ⟨w.heap.size + 1, 2, none⟩ = some (.string x.text)) := fun W h =>
    ⟨h, (h.cell (p := ⟨w.heap.size + 1, 0, none⟩) hW1).trans n0, (h.cell (p := ⟨w.heap.size + 1, 1, none⟩) hW1).trans n1, (h.cell (p := ⟨w.heap.size + 1, 2, none⟩) hW1).trans n2⟩
  replace hSb := hid hSb
  replace hres0 := hid hres0
  replace hnod0 := hid hnod0
  replace hgrp := hid (fun W (h : Below W1.heap.size W1 W) => hgrp.out W (hb0.trans (h.mono hb0.size)))
  go_region_held3 (fun W => Below W1.heap.size W1 W ∧ W.cell? ⟨w.heap.size + 1, 0, none⟩ = some (.int .i64 x.kind) ∧ W.cell? ⟨w.heap.size + 1, 1, none⟩ = some (.int .i64 x.n) ∧ W.cell? ⟨w.heap.size + 1, 2, none⟩ = some (.string x.text))
    (first
      | (refine hSb.out _ ?_
         with_reducible (first
           | exact (Below.refl _ _).drew
           | exact ((Below.refl _ _).alloc (Nat.le_refl _) _).drew
           | exact keep_b2 (by assumption) hb3
           | exact keep_a (by assumption) _
           | exact keep_a2 (by assumption) (by have := hb3.size; simpa using this)
           | exact keep_b (keep_b2 (by assumption) hb3) ((Below.refl _ _).alloc (Nat.le_refl _) _)
           | (repeat (refine Below.setCell ?_ (by first | exact Nat.le_refl _ | (simp; done)) _)
              exact And.left (by assumption)))))
    (first | (go_at_call 29; refine (hgrp.out _ (And.left (by assumption))).mono ?_; rintro e w3 ⟨rfl, hb3⟩; first | (have hbx := box_new hb3; have s0 := box_cell (j := 0) hbx rfl; have s1 := box_cell (j := 1) hbx rfl; have s2 := box_cell (j := 2) hbx rfl; have s3 := box_cell (j := 3) hbx rfl; have s4 := box_cell (j := 4) hbx rfl; have s5 := fun j => box_froz (j := j) hbx; have hbx2 := hid hbx; clear hbx) | skip))
  all_goals (first
    | (have hbx := heap_alloc_new w3 (.cells #[.int .i64 x.kind, .int .i64 x.n, .string x.text, .slice none 0 0, .int .i64 grp] 70)
       have hbd : Below W1.heap.size W1 (w3.alloc (.cells #[.int .i64 x.kind, .int .i64 x.n, .string x.text, .slice none 0 0, .int .i64 grp] 70)) := by
         have h3 : Below W1.drew.heap.size W1.drew w3 := hb3
         exact keep_b (⟨h3.os, h3.tape, h3.output, h3.size, h3.block⟩ : Below W1.heap.size W1 w3) ((Below.refl _ _).alloc (Nat.le_refl _) _)
       have hbt : W1.heap.size ≤ w3.heap.size ∧ w3.heap.size < (w3.alloc (.cells #[.int .i64 x.kind, .int .i64 x.n, .string x.text, .slice none 0 0, .int .i64 grp] 70)).heap.size := ⟨by have := hb3.size; simpa using this, by simp⟩
       generalize (w3.alloc (.cells #[.int .i64 x.kind, .int .i64 x.n, .string x.text, .slice none 0 0, .int .i64 grp] 70)) = Wd at hbx hbd hbt ⊢
       generalize w3.heap.size = Bt at hbx hbt ⊢)
    | (have hbx := heap_setCell_at (j := 4) (u := .int .i64 grp) (heap_setCell_at (j := 3) (u := .slice none 0 0) (heap_setCell_at (j := 2) (u := .string x.text) (heap_setCell_at (j := 1) (u := .int .i64 x.n) (heap_setCell_at (j := 0) (u := .int .i64 x.kind) hbx2.out))))
       have hbd : Below W1.heap.size W1 (((((w3.setCell ⟨W1.heap.size, 0, none⟩ (.int .i64 x.kind)).setCell ⟨W1.heap.size, 1, none⟩ (.int .i64 x.n)).setCell ⟨W1.heap.size, 2, none⟩ (.string x.text)).setCell ⟨W1.heap.size, 3, none⟩ (.slice none 0 0)).setCell ⟨W1.heap.size, 4, none⟩ (.int .i64 grp)) := by
         have h3 : Below W1.heap.size W1 w3 := keep_b ((Below.refl _ _).alloc (Nat.le_refl _) _).drew hb3
         exact ((((h3.setCell (p := ⟨W1.heap.size, 0, none⟩) (Nat.le_refl _) _).setCell (p := ⟨W1.heap.size, 1, none⟩) (Nat.le_refl _) _).setCell (p := ⟨W1.heap.size, 2, none⟩) (Nat.le_refl _) _).setCell (p := ⟨W1.heap.size, 3, none⟩) (Nat.le_refl _) _).setCell (p := ⟨W1.heap.size, 4, none⟩) (Nat.le_refl _) _
       have hbt : W1.heap.size ≤ W1.heap.size ∧ W1.heap.size < (((((w3.setCell ⟨W1.heap.size, 0, none⟩ (.int .i64 x.kind)).setCell ⟨W1.heap.size, 1, none⟩ (.int .i64 x.n)).setCell ⟨W1.heap.size, 2, none⟩ (.string x.text)).setCell ⟨W1.heap.size, 3, none⟩ (.slice none 0 0)).setCell ⟨W1.heap.size, 4, none⟩ (.int .i64 grp)).heap.size := ⟨Nat.le_refl _, by have := hb3.size; simp at this ⊢; omega⟩
       generalize (((((w3.setCell ⟨W1.heap.size, 0, none⟩ (.int .i64 x.kind)).setCell ⟨W1.heap.size, 1, none⟩ (.int .i64 x.n)).setCell ⟨W1.heap.size, 2, none⟩ (.string x.text)).setCell ⟨W1.heap.size, 3, none⟩ (.slice none 0 0)).setCell ⟨W1.heap.size, 4, none⟩ (.int .i64 grp)) = Wd at hbx hbd hbt ⊢
       obtain ⟨Bt, hBt⟩ : ∃ Bt, Bt = W1.heap.size := ⟨_, rfl⟩
       rw [← hBt] at hbx hbt ⊢
       replace hbt : W1.heap.size ≤ Bt ∧ Bt < Wd.heap.size := ⟨by omega, hbt.2⟩
       clear hBt hbx2))
  all_goals clear hb3
  all_goals (have hmid : Below w.heap.size w Wd := hb0.trans (hbd.mono hb0.size))
  all_goals (have hresd := (hbd.block w.heap.size (by omega)).trans hres0.out)
  all_goals (have m3 := (hbd.cell (p := ⟨w.heap.size + 1, 3, none⟩) hW1).trans n3)
  all_goals (have hsz1 : w.heap.size + 1 < Bt := by omega)
  all_goals (replace hbx := hid hbx)
  all_goals (replace hresd := hid hresd)
  all_goals go_wp2_with fail
  all_goals (go_loopw [27] (fun i wr => ∃ (k : Nat) (kv : Value) (q : List (Doc × Value)), i = .int .i64 k ∧ k ≤ x.kids.length ∧ DL l0 w x grp Bt Wd.heap.size k kv q wr) (fun i _ => x.kids.length - (intOf i).toNat))
  all_goals try (case atStart => exact ⟨0, .slice none 0 0, [], rfl, by omega, ⟨hmid, ⟨hsz1, hbt.2⟩, Nat.le_refl _, hresd.out, hbx.out, ⟨by simp, .inl ⟨rfl, rfl⟩⟩, rfl, by simp⟩⟩)
  all_goals (clear d0 d1 d2 d3 n0 n1 n2 n3 m3)
  all_goals (obtain ⟨k, kv, q, rfl, hk, htl⟩ := hrel)
  all_goals (have hb := htl.hb)
  all_goals (have hbs := hb.size)
  all_goals (generalize Wd.heap.size = B0 at htl hbt)
  all_goals (clear hbx hresd hmid hbd hsz1 hSb hres0 hnod0 hgrp hb0)
  all_goals (clear Wd)
  all_goals (
      by_cases hlt : k < x.kids.length
      · obtain ⟨kid, hkid⟩ := get_of_lt hlt
        obtain ⟨kb, koff, rfl, hkro⟩ := slc_some hkrow (by omega)
        have e0 := (hkro.mono hb (Nat.le_refl _)).one int1_len hkid rfl
        obtain ⟨hk0, hkj⟩ := hah.out kid (List.mem_of_getElem? hkid)
        obtain ⟨j, rfl⟩ : ∃ j : Nat, kid = (j : Int) := ⟨kid.toNat, by omega⟩
        have hj : j < i := by omega
        have hnx := hid (take_next hkid)
        clear hkid hkro hk0 hkj
        have hib := hid (hbw.trans (hb.mono hbw.size))
        have hcall := hid (fun W h => ih.out j hj (by omega) W h)
        have cb : wr.cell? ⟨Bt, 3, none⟩ = some kv := by simp [World.cell?, htl.box]
        have fb : wr.frozen? ⟨Bt, 3, none⟩ = false := by simp [World.frozen?, htl.box]
        have hBt0 := htl.bt
        have hB00 := htl.b0
        replace htl := hid htl
        go_wp2_with fail
        have hlt2 := World.block_lt_of_cell? wr _ cb
        have hlt2 : Bt < wr.heap.size := hlt2
        have hkl : k ≤ 1048576 := by omega
        have hne : Hid (kv.ownBlock ≠ some Bt) := hid fun e => by have := (htl.out.own.lt _ e).1; omega
        go_region_law
          (first
            | (go_simp; go_at_call 66; refine (hcall.out _ (by first | exact hib.out | exact hib.out.drew | exact hib.out.drew.drew)).mono ?_; rintro e w1 ⟨ka1, kn1, kc1, rfl, hb1, ht1⟩; have q0 := (hb1.cell (p := ⟨Bt, 3, none⟩) hlt2).trans cb; have q1 := (hb1.frozen (p := ⟨Bt, 3, none⟩) hlt2).trans fb; have q4 := fun o => (((Below.refl w1.heap.size w1).alloc (Nat.le_refl _) o).cell (p := ⟨Bt, 3, none⟩) (Nat.lt_of_lt_of_le hlt2 hb1.size)).trans q0; have q5 := fun o => (((Below.refl w1.heap.size w1).alloc (Nat.le_refl _) o).frozen (p := ⟨Bt, 3, none⟩) (Nat.lt_of_lt_of_le hlt2 hb1.size)).trans q1)
            | (refine step_append_lies _ (by rfl) _ _ _ (by rfl) B0 70 i0 _ 5 64 Try.underlying68 hti0 hz0 hz1 hz2 rfl (by omega) kv k (q.flatMap Doc.cells) (by rfl) ((own_below (own_drew htl.out.own) hb1 (Nat.le_refl _)).alloc _)
                ⟨w1.heap.size, 0, none⟩ 1 1 [.int .i64 (docIx l0 j).kind, .int .i64 (docIx l0 j).n, .string (docIx l0 j).text, .slice ka1 kn1 kc1, .int .i64 (docIx l0 j).group] (by rfl) (by rfl) (World.news_of_block (cs := #[.int .i64 (docIx l0 j).kind, .int .i64 (docIx l0 j).n, .string (docIx l0 j).text, .slice ka1 kn1 kc1, .int .i64 (docIx l0 j).group]) (t := 70) (fr := (0, 0)) (heap_alloc_new w1 _)) (by simp [Value.oneCell'])
                (by omega) (by unfold maxLen; omega) (by omega) (by have h9 : wr.heap.size ≤ w1.heap.size := hb1.size; simp only [World.size_alloc]; omega) (w1.heap.size + 1) (by simp) ?_; intro gg cap2 w2 hown2 hgrow hat hlt3; have q2 := (hgrow.cell_far _ (by have h9 : wr.heap.size ≤ w1.heap.size := hb1.size; simp; omega) (Ne.symm hne.out)).trans ((((Below.refl w1.heap.size w1).alloc (Nat.le_refl _) _).cell (p := ⟨Bt, 3, none⟩) (Nat.lt_of_lt_of_le hlt2 hb1.size)).trans q0); have q3 := (hgrow.frozen_far _ (by have h9 : wr.heap.size ≤ w1.heap.size := hb1.size; simp; omega) (Ne.symm hne.out)).trans ((((Below.refl w1.heap.size w1).alloc (Nat.le_refl _) _).frozen (p := ⟨Bt, 3, none⟩) (Nat.lt_of_lt_of_le hlt2 hb1.size)).trans q1)))
        all_goals go_wp2
        all_goals go_roundw
        all_goals first
          | (simp [intOf]; omega)
          | exact ⟨k + 1, _, _, by go_num, by omega, htl.out.step hb1 ht1 hown2 hgrow hat hnx.out⟩
      · obtain rfl : k = x.kids.length := by omega
        obtain ⟨ka2, kc2, rfl, hkm2⟩ := own_slice htl.own
        have hres := htl.res
        have hbox := htl.box
        have hlr := (Array.getElem?_eq_some_iff.1 htl.res).1
        have hBt0 := htl.bt
        have hB00 := htl.b0
        have p0 : wr.cell? ⟨Bt, 0, none⟩ = some (.int .i64 x.kind) := by simp [World.cell?, hbox]
        have p1 : wr.cell? ⟨Bt, 1, none⟩ = some (.int .i64 x.n) := by simp [World.cell?, hbox]
        have p2 : wr.cell? ⟨Bt, 2, none⟩ = some (.string x.text) := by simp [World.cell?, hbox]
        have p3 : wr.cell? ⟨Bt, 3, none⟩ = some (.slice ka2 x.kids.length kc2) := by simp [World.cell?, hbox]
        have p4 : wr.cell? ⟨Bt, 4, none⟩ = some (.int .i64 grp) := by simp [World.cell?, hbox]
        have r0 : wr.cell? ⟨w.heap.size, 0, none⟩ = some (.int .i64 0) := by simp [World.cell?, hres]
        have r1 : wr.cell? ⟨w.heap.size, 1, none⟩ = some (.int .i64 0) := by simp [World.cell?, hres]
        have r2 : wr.cell? ⟨w.heap.size, 2, none⟩ = some (.string ⟨#[]⟩) := by simp [World.cell?, hres]
        have r3 : wr.cell? ⟨w.heap.size, 3, none⟩ = some (.slice none 0 0) := by simp [World.cell?, hres]
        have r4 : wr.cell? ⟨w.heap.size, 4, none⟩ = some (.int .i64 0) := by simp [World.cell?, hres]
        have f0 : ∀ j, wr.frozen? ⟨w.heap.size, j, none⟩ = false := fun j => by simp [World.frozen?, hres]
        clear hres hbox
        replace htl := hid htl
        go_wp2
        have hN := heap_setCell_at (j := 4) (u := .int .i64 grp) (heap_setCell_at (j := 3) (u := .slice ka2 x.kids.length kc2) (heap_setCell_at (j := 2) (u := .string x.text) (heap_setCell_at (j := 1) (u := .int .i64 x.n) (heap_setCell_at (j := 0) (u := .int .i64 x.kind) htl.out.res))))
        have hW : (((((wr.setCell ⟨w.heap.size, 0, none⟩ (.int .i64 x.kind)).setCell ⟨w.heap.size, 1, none⟩ (.int .i64 x.n)).setCell ⟨w.heap.size, 2, none⟩ (.string x.text)).setCell ⟨w.heap.size, 3, none⟩ (.slice ka2 x.kids.length kc2)).setCell ⟨w.heap.size, 4, none⟩ (.int .i64 grp)) = storeAll wr w.heap.size 0 [.int .i64 x.kind, .int .i64 x.n, .string x.text, .slice ka2 x.kids.length kc2, .int .i64 grp] := rfl
        rw [hW] at hN ⊢
        clear hW
        have hB := below_storeAll [.int .i64 x.kind, .int .i64 x.n, .string x.text, .slice ka2 x.kids.length kc2, .int .i64 grp] 0 htl.out.hb (Nat.le_refl _)
        have hO := own_storeAll_below [.int .i64 x.kind, .int .i64 x.n, .string x.text, .slice ka2 x.kids.length kc2, .int .i64 grp] 0 htl.out.own (show w.heap.size < B0 by omega)
        have hH := fun b (hb : b ≠ w.heap.size) => storeAll_other [.int .i64 x.kind, .int .i64 x.n, .string x.text, .slice ka2 x.kids.length kc2, .int .i64 grp] 0 (w := wr) (g := w.heap.size) hb
        generalize storeAll wr w.heap.size 0 [.int .i64 x.kind, .int .i64 x.n, .string x.text, .slice ka2 x.kids.length kc2, .int .i64 grp] = W2 at hN hB hO hH ⊢
        have s0 : W2.cell? ⟨w.heap.size, 0, none⟩ = some (.int .i64 x.kind) := by simp [World.cell?, hN]
        have s1 : W2.cell? ⟨w.heap.size, 1, none⟩ = some (.int .i64 x.n) := by simp [World.cell?, hN]
        have s2 : W2.cell? ⟨w.heap.size, 2, none⟩ = some (.string x.text) := by simp [World.cell?, hN]
        have s3 : W2.cell? ⟨w.heap.size, 3, none⟩ = some (.slice ka2 x.kids.length kc2) := by simp [World.cell?, hN]
        have s4 : W2.cell? ⟨w.heap.size, 4, none⟩ = some (.int .i64 grp) := by simp [World.cell?, hN]
        have hpost : DocPost w (docIx l0 i) (.returned (.agg #[.int .i64 x.kind, .int .i64 x.n, .string x.text, .slice ka2 x.kids.length kc2, .int .i64 grp])) W2 := by
          refine ⟨ka2, _, kc2, by rw [hti.out]; rfl, hB, ?_⟩
          have hq : q.map Prod.fst = (docIx l0 i).kids := by rw [hti.out, htl.out.eq, List.take_length]; rfl
          have hql : q.length = x.kids.length := by have := congrArg List.length htl.out.eq; simpa using this
          refine DocIs.close hq ?_ fun p hp => (htl.out.sub p hp).keep fun b hS hlt => ⟨hH b (by omega), by omega⟩
          rw [hql]
          exact (SlcS.of_own hO).keep (by decide) fun b hS hlt => ⟨rfl, by omega⟩
        exact bodyPost_ret (v := .agg #[.int .i64 x.kind, .int .i64 x.n, .string x.text, .slice ka2 x.kids.length kc2, .int .i64 grp]) (by simp [results, Try.results66, go_sem, s0, s1, s2, s3, s4]) rfl hpost)
end Go.Proofs.Ytfabfkaolnidiaa
