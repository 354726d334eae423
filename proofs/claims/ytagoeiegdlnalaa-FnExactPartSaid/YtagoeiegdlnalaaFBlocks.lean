/- Walks and lemmas of this seat (FBlocks): what each theorem says of the functions that it names. Conditions: those that each theorem states. -/
import Derived.Test.YtagoeiegdlnalaaFTreeAt
import Derived.Test.YtagoeiegdlnalaaFShapeOk
namespace Go.Proofs.Ytagoeiegdlnalaa
set_option linter.unusedVariables false
set_option linter.unusedSimpArgs false
open Go.RowKit

theorem Tree.kid_lt {t u : Tree} (h : u ∈ t.kids) : SizeOf.sizeOf u < SizeOf.sizeOf t := by
  cases t with
  | mk k o x y l =>
    have := List.sizeOf_lt_of_mem (show u ∈ l from h)
    simp
    omega
mutual
/-- The greatest number of blocks in each other. -/
def Tree.blocks : Tree → Nat
  | .mk k _ _ _ l => Tree.blocksL l + if k = 33 then 1 else 0
def Tree.blocksL : List Tree → Nat
  | [] => 0
  | t :: l => max t.blocks (Tree.blocksL l)
end
theorem Tree.blocks_eq (t : Tree) : t.blocks = Tree.blocksL t.kids + if t.kind = 33 then 1 else 0 := by
  cases t with
  | mk k o x y l => rw [Tree.blocks]; rfl
theorem Tree.blocks_mem {t : Tree} {l : List Tree} (h : t ∈ l) : t.blocks ≤ Tree.blocksL l := by
  induction l with
  | nil => simp at h
  | cons u l ih =>
    rw [Tree.blocksL]
    rcases List.mem_cons.1 h with rfl | h
    · omega
    · have := ih h; omega
theorem Tree.blocksL_le {l : List Tree} {n : Nat} (h : ∀ t ∈ l, t.blocks ≤ n) : Tree.blocksL l ≤ n := by
  induction l with
  | nil => simp [Tree.blocksL]
  | cons u l ih =>
    rw [Tree.blocksL]
    have := h u (by simp)
    have := ih fun t ht => h t (by simp [ht])
    omega
theorem treeIx_blocks_le {l : List Node} (h : Ahead l) : ∀ (i : Nat), i < l.length → (treeIx l i).blocks ≤ i + 1 := by
  intro i
  induction i using Nat.strongRecOn with
  | _ i ih =>
    intro hi
    obtain ⟨x, hx⟩ := get_of_lt hi
    rw [treeIx_eq h hx, Tree.blocks]
    have : Tree.blocksL (x.kids.map fun k => treeIx l k.toNat) ≤ i := Tree.blocksL_le fun t ht => by
      obtain ⟨k, hk, rfl⟩ := List.mem_map.1 ht
      have hk2 := h i x hx k hk
      have := ih k.toNat hk2.2 (by omega)
      omega
    split <;> omega

set_option maxRecDepth 100000 in
set_option maxHeartbeats 1600000 in
theorem implblocks_any (n : Nat) : ∀ (t : Tree) (kv : Value) (w : World) (S : Nat → Prop), SizeOf.sizeOf t < n → t.blocks ≤ 1048576 → TreeIs S w t kv →
    Calls Try.prog 76 #[.agg #[.int .i64 t.kind, .int .i64 t.op, .string t.text, .string t.other, kv]] w fun e w' => e = .returned (.int .i64 (t.blocks : Nat)) ∧ Below w.heap.size w w' := by
  induction n with
  | zero => intro t kv w S h; omega
  | succ n ih =>
  intro t kv w S hsz hbl ht
  obtain ⟨q, hq, ⟨_, a, cap, rfl, hc, hm, hrow⟩, hsub⟩ := ht.open
  unfold maxLen at hm
  have hbe := hid t.blocks_eq
  have hbe2 := t.blocks_eq
  have hql : q.length = t.kids.length := by rw [← hq]; simp
  have hkid : ∀ p ∈ q, SizeOf.sizeOf p.1 < n ∧ p.1.blocks ≤ 1048576 := fun p hp => by
    have hm : p.1 ∈ t.kids := by rw [← hq]; exact List.mem_map_of_mem hp
    have h1 := Tree.kid_lt hm
    have h2 := Tree.blocks_mem hm
    have : Tree.blocksL t.kids ≤ t.blocks := by rw [hbe2]; omega
    omega
  have hbL : Tree.blocksL t.kids ≤ 1048576 := by omega
  clear hql
  replace hkid := hid hkid
  replace hsub := hid hsub
  replace hq := hid hq
  clear hbe2 ht
  replace ih := hid ih
  go_enter Try.func76, Try.ntmps76
  go_wp2
  go_loopw [3, 9] (fun v i wr => ∃ (k m : Nat), i = .int .i64 k ∧ k ≤ q.length ∧ v = .int .i64 m ∧ m ≤ 1048576 ∧ wr.heap[w.heap.size]? = some (.cells #[.int .i64 t.kind, .int .i64 t.op, .string t.text, .string t.other, .slice a q.length cap] 92 (0, 0)) ∧ Below w.heap.size w wr ∧ Hid (Tree.blocksL t.kids = max m (Tree.blocksL ((q.drop k).map Prod.fst)))) (fun _ i _ => q.length - (intOf i).toNat)
  case atStart => exact ⟨0, 0, rfl, by omega, rfl, by omega, heap_alloc_new w _, by repeat (first | exact Below.refl _ _ | refine Below.alloc ?_ (by first | omega | (simp; done) | (simp; omega)) _ | refine Below.drew ?_), hid (by rw [List.drop_zero, hq.out]; omega)⟩
  obtain ⟨k, m, rfl, hk, rfl, hm2, hbox, hb, hrel⟩ := hrel
  have hbs := hb.size
  by_cases hlt : k < q.length
  · obtain ⟨⟨pt, pv⟩, hp⟩ := get_of_lt hlt
    obtain ⟨b, off, rfl, _, hro⟩ := hrow.resolve_left (by omega)
    have hrw := hro.mono hb (Nat.le_refl _)
    have c0 := hrw.flat0 5 Tree.len hp rfl
    have c1 := hrw.flat 5 Tree.len hp 1 rfl
    have c2 := hrw.flat 5 Tree.len hp 2 rfl
    have c3 := hrw.flat 5 Tree.len hp 3 rfl
    have c4 := hrw.flat 5 Tree.len hp 4 rfl
    have hmem := List.mem_of_getElem? hp
    obtain ⟨pa, pn, pc, rfl⟩ := (hsub.out _ hmem).shape
    have hts := (hsub.out _ hmem).mono hb (Nat.le_refl _)
    have hks := hkid.out _ hmem
    rw [drop_cons hp, List.map_cons, Tree.blocksL] at hrel
    have hcall := hid (fun o => ih.out pt _ (wr.alloc o) S hks.1 hks.2 (hts.mono ((Below.refl _ _).alloc (Nat.le_refl _) o) (Nat.le_refl _)))
    have hbk := hks.2
    replace hbox := hid hbox
    clear hp hts hks hrw hmem
    simp only at hcall hrel hbk
    generalize hpbe : Tree.blocks pt = pb at hcall hrel hbk
    clear hpbe
    go_wp2_with (go_at_call 76; refine (hcall.out _).mono ?_; rintro e w2 ⟨rfl, hb2⟩)
    all_goals go_roundw
    all_goals first
      | (simp [intOf]; omega)
      | (refine ⟨k + 1, max m pb, by go_num, by omega, ?_, by omega, ?_, (show Below w.heap.size w (wr.alloc _) from hb.alloc hb.size _).trans (hb2.mono (by simp; omega)), hid (by rw [hrel.out]; omega)⟩
         · first
           | rfl
           | (by_cases hc : m < pb
              · rw [if_pos (by omega), Nat.max_eq_right (by omega)]
              · rw [if_neg (by omega), Nat.max_eq_left (by omega)])
         · have hl := (Array.getElem?_eq_some_iff.1 hbox.out).1
           exact (hb2.block _ (by simp; omega)).trans ((Below.heap_alloc _ _ _ hl).trans hbox.out))
  · obtain rfl : k = q.length := by omega
    have hR : Hid (Tree.blocksL t.kids = m) := hid (by rw [hrel.out, List.drop_of_length_le (Nat.le_refl _), List.map_nil, Tree.blocksL]; omega)
    have p0 : wr.cell? ⟨w.heap.size, 0, none⟩ = some (.int .i64 t.kind) := by simp [World.cell?, hbox]
    clear hbox hrel
    by_cases h33 : t.kind = 33
    · have hB : Hid (t.blocks = m + 1) := hid (by rw [hbe.out, hR.out, if_pos h33])
      go_wp2
      go_ret
      exact ⟨ret_int (by rw [hB.out]; rfl), hb⟩
    · have hB : Hid (t.blocks = m) := hid (by rw [hbe.out, hR.out, if_neg h33]; rfl)
      go_wp2
      go_ret
      exact ⟨ret_int (by rw [hB.out]), hb⟩

end Go.Proofs.Ytagoeiegdlnalaa
