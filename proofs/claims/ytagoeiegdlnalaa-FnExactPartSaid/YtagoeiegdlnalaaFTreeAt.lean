/- Walks and lemmas of this seat (FTreeAt): what each theorem says of the functions that it names. Conditions: those that each theorem states. -/
import Derived.Test.YtagoeiegdlnalaaDataTree
import Derived.Deep.AppendLies
import Derived.Deep.RegionHeld3
import Derived.Deep.RegionLaw
import Derived.Deep.DrawnRows
import Derived.Outline
import Derived.Laws.Rows
namespace Go.Proofs.Ytagoeiegdlnalaa
set_option linter.unusedVariables false
set_option linter.unusedSimpArgs false
open Go.RowKit

attribute [local go_sem ↓] Go.wp_at_zero Go.wp_at_succ

theorem Try.info92 : (Try.prog.info? 92).map (fun i => (i.zero, i.size, i.bytes)) = some (some (.agg #[.int .i64 0, .int .i64 0, .string ⟨#[]⟩, .string ⟨#[]⟩, .slice none 0 0]), 5, 72) := by kernel_rfl

/-- What impl.treeAt hands back. -/
def TreePost (w : World) (t : Tree) (e : Ending) (w' : World) : Prop := ∃ (ka : Option Addr) (kn kc : Nat), e = .returned (.agg #[.int .i64 t.kind, .int .i64 t.op, .string t.text, .string t.other, .slice ka kn kc]) ∧ Below w.heap.size w w' ∧ TreeIs (fun b => w.heap.size ≤ b) w' t (.slice ka kn kc)

/-- Between two rounds of impl.treeAt's loop. -/
structure TL (l0 : List Node) (w : World) (x : Node) (k : Nat) (kv : Value) (q : List (Tree × Value)) (wr : World) : Prop where
  hb : Below w.heap.size w wr
  res : wr.heap[w.heap.size]? = some (.cells #[.int .i64 0, .int .i64 0, .string ⟨#[]⟩, .string ⟨#[]⟩, .slice none 0 0] 92 (0, 0))
  box : wr.heap[w.heap.size + 1 + 1]? = some (.cells #[.int .i64 x.kind, .int .i64 x.op, .string x.text, .string x.other, kv] 92 (0, 0))
  own : wr.ownsRow (w.heap.size + 1 + 1 + 1) 92 5 kv k (q.flatMap Tree.cells)
  eq : q.map Prod.fst = (x.kids.take k).map fun k => treeIx l0 k.toNat
  sub : ∀ p ∈ q, TreeIs (fun b => w.heap.size + 1 + 1 + 1 ≤ b ∧ some b ≠ kv.ownBlock) wr p.1 p.2

theorem heap_setCell_at {w : World} {b j : Nat} {c : Array Value} {t : TypeId} {u : Value} (h : w.heap[b]? = some (.cells c t (0, 0))) : (w.setCell ⟨b, j, none⟩ u).heap[b]? = some (.cells (c.setIfInBounds j u) t (0, 0)) := by
  rw [heap_setCell_same w b j c t u h]
theorem storeAll_other {g : Nat} (us : List Value) : ∀ {w : World} (o : Nat) {b : Nat}, b ≠ g → (storeAll w g o us).heap[b]? = w.heap[b]? := by
  induction us with
  | nil => intro w o b _; rfl
  | cons u us ih => intro w o b hb; exact (ih (o + 1) hb).trans (heap_setCell_other w ⟨g, o, none⟩ b u hb)
theorem TL.step {l0 : List Node} {w : World} {x : Node} {k j : Nat} {kv : Value} {q : List (Tree × Value)} {wr w1 w2 : World} {o : Obj} {kv1 : Value} {gg cap2 : Nat} (h : TL l0 w x k kv q wr) (hb1 : Below wr.drew.heap.size wr.drew w1)
    (ht1 : TreeIs (fun b => wr.drew.heap.size ≤ b) w1 (treeIx l0 j) kv1) (hown : w2.ownsRow (w.heap.size + 1 + 1 + 1) 92 5 (.slice (some ⟨gg, 0, none⟩) (k + 1) cap2) (k + 1) (q.flatMap Tree.cells ++ Tree.cells (treeIx l0 j, kv1)))
    (hg : (w1.alloc o).grownBy w2 kv.ownBlock) (hat : kv.ownBlock = some gg ∨ gg = w1.heap.size + 1) (hk : x.kids.take (k + 1) = x.kids.take k ++ [(j : Int)]) :
    TL l0 w x (k + 1) (.slice (some ⟨gg, 0, none⟩) (k + 1) cap2) (q ++ [(treeIx l0 j, kv1)]) (w2.setCell ⟨w.heap.size + 1 + 1, 4, none⟩ (.slice (some ⟨gg, 0, none⟩) (k + 1) cap2)) := by
  have hs1 : wr.heap.size ≤ w1.heap.size := hb1.size
  have hbs : w.heap.size + 1 + 1 < wr.heap.size := (Array.getElem?_eq_some_iff.1 h.box).1
  have hlo : ∀ r, kv.ownBlock = some r → w.heap.size + 1 + 1 + 1 ≤ r ∧ r < wr.heap.size := fun r e => h.own.lt r e
  have hgg : w.heap.size + 1 + 1 + 1 ≤ gg := (hown.lt gg rfl).1
  have keep : ∀ (W : World), Below wr.drew.heap.size wr.drew W → True := fun _ _ => trivial
  have h12 : ∀ b, b < w1.heap.size → some b ≠ kv.ownBlock → w2.heap[b]? = w1.heap[b]? := fun b hb hne => (hg.block b (by simp; omega) hne).trans (Below.heap_alloc _ _ _ hb)
  have hr1 : ∀ b, b < wr.heap.size → w1.heap[b]? = wr.heap[b]? := fun b hb => hb1.block b hb
  have hset : ∀ b, b ≠ w.heap.size + 1 + 1 → (w2.setCell ⟨w.heap.size + 1 + 1, 4, none⟩ (.slice (some ⟨gg, 0, none⟩) (k + 1) cap2)).heap[b]? = w2.heap[b]? := fun b hb => heap_setCell_other w2 ⟨w.heap.size + 1 + 1, 4, none⟩ b _ hb
  have hno : ∀ b, b ≤ w.heap.size + 1 + 1 → some b ≠ kv.ownBlock := fun b hb e => by have := (hlo b e.symm).1; omega
  refine ⟨?_, ?_, ?_, ?_, ?_, ?_⟩
  · have e1 : Below w.heap.size w w1 := h.hb.trans ((show Below wr.heap.size wr w1 from ⟨hb1.os, hb1.tape, hb1.output, hb1.size, hb1.block⟩).mono h.hb.size)
    exact ((e1.alloc e1.size o).grown hg (by simp; omega) (fun r e => by have := (hlo r e).1; omega)).setCell (p := ⟨w.heap.size + 1 + 1, 4, none⟩) (show w.heap.size ≤ w.heap.size + 1 + 1 by omega) _
  · rw [hset _ (by omega), h12 _ (by omega) (hno _ (by omega)), hr1 _ (by omega)]; exact h.res
  · have := (h12 _ (by omega) (hno _ (Nat.le_refl _))).trans ((hr1 _ hbs).trans h.box)
    rw [heap_setCell_at this]; rfl
  · rw [List.flatMap_append, List.flatMap_cons, List.flatMap_nil, List.append_nil]
    exact hown.kept (grown_set w2 (w.heap.size + 1 + 1) 4 _) (.inr (by simp [Value.ownBlock]; omega))
  · rw [List.map_append, h.eq, hk, List.map_append]; simp
  · intro p hp
    rcases List.mem_append.1 hp with hp | hp
    · refine (h.sub p hp).keep fun b hS hlt => ⟨?_, hS.1, ?_⟩
      · rw [hset b (by omega), h12 b (by omega) hS.2, hr1 b hlt]
      · intro e
        simp [Value.ownBlock] at e
        rcases hat with hat | hat
        · exact hS.2 (by rw [hat, e])
        · omega
    · simp at hp
      subst hp
      refine ht1.keep fun b hS hlt => ?_
      have hS' : wr.heap.size ≤ b := hS
      refine ⟨?_, by omega, ?_⟩
      · rw [hset b (by omega), h12 b hlt (fun e => by have := (hlo b e.symm).2; omega)]
      · intro e
        simp [Value.ownBlock] at e
        rcases hat with hat | hat
        · have := (hlo gg hat).2; omega
        · omega

set_option maxRecDepth 100000 in
set_option maxHeartbeats 3200000 in
theorem impltreeAt_any (l0 : List Node) (v0 : Value) (w0 : World) (hv00 : NodeSlc w0 v0 l0) (hx0 : ∀ x ∈ l0, x.Ok) (hn0 : bulk Node.sizes l0 ≤ 1048576) (ha : Ahead l0) :
    ∀ (i : Nat), i < l0.length → ∀ (w : World), Below w0.heap.size w0 w → Calls Try.prog 80 #[v0, .int .i64 i] w fun e w' => TreePost w (treeIx l0 i) e w' := by
  obtain ⟨a, cap, rfl, hm, hc, hsl⟩ := hv00.shape
  intro i
  induction i using Nat.strongRecOn with
  | _ i ih =>
  intro hi w hbw
  obtain ⟨x, ka, kc, b, off, hx, rfl, c0, c1, c2, c3, c4, hkd⟩ := hsl.at hbw (Nat.le_refl _) hi
  have hti := hid (treeIx_eq ha hx)
  have hah := hid (ha i x hx)
  have hlen := length_bulk Node.sizes l0
  have hxs := Nat.le_trans (bulk_mem Node.sizes (List.mem_of_getElem? hx)) hn0
  unfold Node.sizes at hxs
  clear hx
  obtain ⟨_, _, _, hkv, hkc, hkm, hkrow⟩ := hkd
  simp at hkv
  obtain ⟨rfl, rfl⟩ := hkv
  obtain ⟨i0, hti0, hz0, hz1, hz2⟩ := info_parts Try.info92
  have hAl : ∀ {q : Nat} {u : Value} (o : Obj), w.cell? ⟨b, q, none⟩ = some u → (w.alloc o).cell? ⟨b, q, none⟩ = some u := fun {q u} o h => (((Below.refl w.heap.size w).alloc (Nat.le_refl _) o).cell (p := ⟨b, q, none⟩) (World.block_lt_of_cell? w _ h)).trans h
  have d0 := fun o => hAl o c0
  have d1 := fun o => hAl o c1
  have d2 := fun o => hAl o c2
  have d3 := fun o => hAl o c3
  have d4 := fun o => hAl o c4
  clear hAl c0 c1 c2 c3 c4
  replace ih := hid ih
  go_enter Try.func80, Try.ntmps80
  go_wp2
  go_loopw [25] (fun i wr => ∃ (k : Nat) (kv : Value) (q : List (Tree × Value)), i = .int .i64 k ∧ k ≤ x.kids.length ∧ TL l0 w x k kv q wr) (fun i _ => x.kids.length - (intOf i).toNat)
  case atStart =>
    refine ⟨0, .slice none 0 0, [], rfl, by omega, ⟨by repeat (first | exact Below.refl _ _ | refine Below.alloc ?_ (by first | omega | (simp; done) | (simp; omega)) _ | refine Below.drew ?_), ?_, ?_, ⟨by simp, .inl ⟨rfl, rfl⟩⟩, rfl, by simp⟩⟩
    · rw [Below.heap_alloc _ _ _ (by simp; omega), Below.heap_alloc _ _ _ (by simp)]; exact heap_alloc_new w _
    · have := heap_alloc_new ((w.alloc (.cells #[.int .i64 0, .int .i64 0, .string ⟨#[]⟩, .string ⟨#[]⟩, .slice none 0 0] 92)).alloc (.cells #[.int .i64 x.kind, .int .i64 x.op, .string x.text, .string x.other, .slice ka x.kids.length kc] 71)) (.cells #[.int .i64 x.kind, .int .i64 x.op, .string x.text, .string x.other, .slice none 0 0] 92)
      simpa using this
  clear d0 d1 d2 d3 d4
  obtain ⟨k, kv, q, rfl, hk, htl⟩ := hrel
  have hb := htl.hb
  have hbs := hb.size
  by_cases hlt : k < x.kids.length
  · obtain ⟨kid, hkid⟩ := get_of_lt hlt
    obtain ⟨kb, koff, rfl, hkro⟩ := slc_some hkrow (by omega)
    have e0 := (hkro.mono hb (Nat.le_refl _)).one int1_len hkid rfl
    obtain ⟨hk0, hkj⟩ := hah.out kid (List.mem_of_getElem? hkid)
    obtain ⟨j, rfl⟩ : ∃ j : Nat, kid = (j : Int) := ⟨kid.toNat, by omega⟩
    have hj : j < i := by omega
    have hnx := hid (take_next hkid)
    clear hkid hkro hk0 hkj
    have hib := hid (hbw.trans (hb.mono hbw.size))
    have hcall := hid (fun W h => ih.out j hj (by omega) W h)
    have cb : wr.cell? ⟨w.heap.size + 1 + 1, 4, none⟩ = some kv := by simp [World.cell?, htl.box]
    have fb : wr.frozen? ⟨w.heap.size + 1 + 1, 4, none⟩ = false := by simp [World.frozen?, htl.box]
    replace htl := hid htl
    go_wp2_with fail
    have hlt2 := World.block_lt_of_cell? wr _ cb
    have hlt2 : w.heap.size + 1 + 1 < wr.heap.size := hlt2
    have hkl : k ≤ 1048576 := by omega
    have hne : Hid (kv.ownBlock ≠ some (w.heap.size + 1 + 1)) := hid fun e => by have := (htl.out.own.lt _ e).1; omega
    go_region_law
      (first
        | (go_simp; go_at_call 80; refine (hcall.out _ (by first | exact hib.out | exact hib.out.drew | exact hib.out.drew.drew)).mono ?_; rintro e w1 ⟨ka1, kn1, kc1, rfl, hb1, ht1⟩; have q0 := (hb1.cell (p := ⟨w.heap.size + 1 + 1, 4, none⟩) hlt2).trans cb; have q1 := (hb1.frozen (p := ⟨w.heap.size + 1 + 1, 4, none⟩) hlt2).trans fb; have q4 := fun o => (((Below.refl w1.heap.size w1).alloc (Nat.le_refl _) o).cell (p := ⟨w.heap.size + 1 + 1, 4, none⟩) (Nat.lt_of_lt_of_le hlt2 hb1.size)).trans q0; have q5 := fun o => (((Below.refl w1.heap.size w1).alloc (Nat.le_refl _) o).frozen (p := ⟨w.heap.size + 1 + 1, 4, none⟩) (Nat.lt_of_lt_of_le hlt2 hb1.size)).trans q1)
        | (refine step_append_lies _ (by rfl) _ _ _ (by rfl) (w.heap.size + 1 + 1 + 1) 92 i0 _ 5 72 Try.underlying90 hti0 hz0 hz1 hz2 rfl (by omega) kv k (q.flatMap Tree.cells) (by rfl) ((own_below (own_drew htl.out.own) hb1 (Nat.le_refl _)).alloc _)
            ⟨w1.heap.size, 0, none⟩ 1 1 [.int .i64 (treeIx l0 j).kind, .int .i64 (treeIx l0 j).op, .string (treeIx l0 j).text, .string (treeIx l0 j).other, .slice ka1 kn1 kc1] (by rfl) (by rfl) (World.news_of_block (cs := #[.int .i64 (treeIx l0 j).kind, .int .i64 (treeIx l0 j).op, .string (treeIx l0 j).text, .string (treeIx l0 j).other, .slice ka1 kn1 kc1]) (t := 92) (fr := (0, 0)) (heap_alloc_new w1 _)) (by simp [Value.oneCell'])
            (by omega) (by unfold maxLen; omega) (by omega) (by have h9 : wr.heap.size ≤ w1.heap.size := hb1.size; simp only [World.size_alloc]; omega) (w1.heap.size + 1) (by simp) ?_; intro gg cap2 w2 hown2 hgrow hat hlt3; have q2 := (hgrow.cell_far _ (by have h9 : wr.heap.size ≤ w1.heap.size := hb1.size; simp; omega) (Ne.symm hne.out)).trans ((((Below.refl w1.heap.size w1).alloc (Nat.le_refl _) _).cell (p := ⟨w.heap.size + 1 + 1, 4, none⟩) (Nat.lt_of_lt_of_le hlt2 hb1.size)).trans q0); have q3 := (hgrow.frozen_far _ (by have h9 : wr.heap.size ≤ w1.heap.size := hb1.size; simp; omega) (Ne.symm hne.out)).trans ((((Below.refl w1.heap.size w1).alloc (Nat.le_refl _) _).frozen (p := ⟨w.heap.size + 1 + 1, 4, none⟩) (Nat.lt_of_lt_of_le hlt2 hb1.size)).trans q1)))
    all_goals go_wp2
    all_goals go_roundw
    all_goals first
      | (simp [intOf]; omega)
      | exact ⟨k + 1, _, _, by go_num, by omega, htl.out.step hb1 ht1 hown2 hgrow hat hnx.out⟩
  · obtain rfl : k = x.kids.length := by omega
    obtain ⟨ka2, kc2, rfl, hkm2⟩ := own_slice htl.own
    have hres := htl.res
    have hbox := htl.box
    have hlr := (Array.getElem?_eq_some_iff.1 htl.res).1
    have p0 : wr.cell? ⟨w.heap.size + 1 + 1, 0, none⟩ = some (.int .i64 x.kind) := by simp [World.cell?, hbox]
    have p1 : wr.cell? ⟨w.heap.size + 1 + 1, 1, none⟩ = some (.int .i64 x.op) := by simp [World.cell?, hbox]
    have p2 : wr.cell? ⟨w.heap.size + 1 + 1, 2, none⟩ = some (.string x.text) := by simp [World.cell?, hbox]
    have p3 : wr.cell? ⟨w.heap.size + 1 + 1, 3, none⟩ = some (.string x.other) := by simp [World.cell?, hbox]
    have p4 : wr.cell? ⟨w.heap.size + 1 + 1, 4, none⟩ = some (.slice ka2 x.kids.length kc2) := by simp [World.cell?, hbox]
    have r0 : wr.cell? ⟨w.heap.size, 0, none⟩ = some (.int .i64 0) := by simp [World.cell?, hres]
    have r1 : wr.cell? ⟨w.heap.size, 1, none⟩ = some (.int .i64 0) := by simp [World.cell?, hres]
    have r2 : wr.cell? ⟨w.heap.size, 2, none⟩ = some (.string ⟨#[]⟩) := by simp [World.cell?, hres]
    have r3 : wr.cell? ⟨w.heap.size, 3, none⟩ = some (.string ⟨#[]⟩) := by simp [World.cell?, hres]
    have r4 : wr.cell? ⟨w.heap.size, 4, none⟩ = some (.slice none 0 0) := by simp [World.cell?, hres]
    have f0 : ∀ j, wr.frozen? ⟨w.heap.size, j, none⟩ = false := fun j => by simp [World.frozen?, hres]
    clear hres hbox
    replace htl := hid htl
    go_wp2
    have hN := heap_setCell_at (j := 4) (u := .slice ka2 x.kids.length kc2) (heap_setCell_at (j := 3) (u := .string x.other) (heap_setCell_at (j := 2) (u := .string x.text) (heap_setCell_at (j := 1) (u := .int .i64 x.op) (heap_setCell_at (j := 0) (u := .int .i64 x.kind) htl.out.res))))
    have hW : (((((wr.setCell ⟨w.heap.size, 0, none⟩ (.int .i64 x.kind)).setCell ⟨w.heap.size, 1, none⟩ (.int .i64 x.op)).setCell ⟨w.heap.size, 2, none⟩ (.string x.text)).setCell ⟨w.heap.size, 3, none⟩ (.string x.other)).setCell ⟨w.heap.size, 4, none⟩ (.slice ka2 x.kids.length kc2)) = storeAll wr w.heap.size 0 [.int .i64 x.kind, .int .i64 x.op, .string x.text, .string x.other, .slice ka2 x.kids.length kc2] := rfl
    rw [hW] at hN ⊢
    clear hW
    have hB := below_storeAll [.int .i64 x.kind, .int .i64 x.op, .string x.text, .string x.other, .slice ka2 x.kids.length kc2] 0 htl.out.hb (Nat.le_refl _)
    have hO := own_storeAll_below [.int .i64 x.kind, .int .i64 x.op, .string x.text, .string x.other, .slice ka2 x.kids.length kc2] 0 htl.out.own (show w.heap.size < w.heap.size + 1 + 1 + 1 by omega)
    have hH := fun b (hb : b ≠ w.heap.size) => storeAll_other [.int .i64 x.kind, .int .i64 x.op, .string x.text, .string x.other, .slice ka2 x.kids.length kc2] 0 (w := wr) (g := w.heap.size) hb
    generalize storeAll wr w.heap.size 0 [.int .i64 x.kind, .int .i64 x.op, .string x.text, .string x.other, .slice ka2 x.kids.length kc2] = W2 at hN hB hO hH ⊢
    have s0 : W2.cell? ⟨w.heap.size, 0, none⟩ = some (.int .i64 x.kind) := by simp [World.cell?, hN]
    have s1 : W2.cell? ⟨w.heap.size, 1, none⟩ = some (.int .i64 x.op) := by simp [World.cell?, hN]
    have s2 : W2.cell? ⟨w.heap.size, 2, none⟩ = some (.string x.text) := by simp [World.cell?, hN]
    have s3 : W2.cell? ⟨w.heap.size, 3, none⟩ = some (.string x.other) := by simp [World.cell?, hN]
    have s4 : W2.cell? ⟨w.heap.size, 4, none⟩ = some (.slice ka2 x.kids.length kc2) := by simp [World.cell?, hN]
    have hpost : TreePost w (treeIx l0 i) (.returned (.agg #[.int .i64 x.kind, .int .i64 x.op, .string x.text, .string x.other, .slice ka2 x.kids.length kc2])) W2 := by
      refine ⟨ka2, _, kc2, by rw [hti.out]; rfl, hB, ?_⟩
      have hq : q.map Prod.fst = (treeIx l0 i).kids := by rw [hti.out, htl.out.eq, List.take_length]; rfl
      have hql : q.length = x.kids.length := by have := congrArg List.length htl.out.eq; simpa using this
      refine TreeIs.close hq ?_ fun p hp => (htl.out.sub p hp).keep fun b hS hlt => ⟨hH b (by omega), by omega⟩
      rw [hql]
      exact (SlcS.of_own hO).keep (by decide) fun b hS hlt => ⟨rfl, by omega⟩
    exact bodyPost_ret (v := .agg #[.int .i64 x.kind, .int .i64 x.op, .string x.text, .string x.other, .slice ka2 x.kids.length kc2]) (by simp [results, Try.results80, go_sem, s0, s1, s2, s3, s4]) rfl hpost
end Go.Proofs.Ytagoeiegdlnalaa
