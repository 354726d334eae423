/- Walks and lemmas of this seat (FLayS): what each theorem says of the functions that it names. Conditions: those that each theorem states. -/
import Derived.Test.YtfabfkaolnidiaaFLayB
import Derived.LoopTactic
import Derived.Deep.LoopGhost
namespace Go.Proofs.Ytfabfkaolnidiaa
set_option linter.unusedVariables false
set_option linter.unusedSimpArgs false
open Go.RowKit

/-- An item of the reference's stack. -/
structure SIt where
  i : Nat
  ind : Nat
  flat : Bool
def SIt.cells (x : SIt) : List Value := [.int .i64 x.i, .int .i64 x.ind, .bool x.flat]
theorem SIt.len (x : SIt) : (SIt.cells x).length = 3 := rfl
def SIt.it (l : List DNode) (x : SIt) : LIt := ⟨docIx l x.i, x.ind, x.flat⟩
theorem Try.info57 : (Try.prog.info? 57).map (fun i => (i.zero, i.size, i.bytes)) = some (some (.agg #[.int .i64 0, .int .i64 0, .bool false]), 3, 24) := by kernel_rfl
theorem replicate_snoc {α : Type} (n : Nat) (a : α) : List.replicate (n + 1) a = List.replicate n a ++ [a] := by
  rw [List.replicate_succ']

set_option maxRecDepth 100000 in
set_option maxHeartbeats 1600000 in
theorem specl16Break_any (B : Nat) (v : Value) (acc : List UInt8) (n : Nat) (w : World) (hown : w.ownsRow B 5 1 v acc.length (acc.flatMap byte1)) (hB : B ≤ w.heap.size) (hl : acc.length ≤ 100000000000) (hn : n ≤ 1000000) :
    Calls Try.prog 35 #[v, .int .i64 n] w fun e w' => ∃ v', e = .returned v' ∧ w'.ownsRow B 5 1 v' (acc ++ brk n).length ((acc ++ brk n).flatMap byte1) ∧ v' ≠ .slice none 0 0 ∧ Keeps 5 B w w' := by
  obtain ⟨i0, hi, hz0, hz1, hz2⟩ := info_parts Try.info5
  go_enter Try.func35, Try.ntmps35
  go_wp2_with (at_builtin; refine wpList_append_own _ rfl _ _ 38 rfl B 5 i0 _ 1 1 Try.underlying38 hi hz0 hz1 hz2 rfl (by decide) _ acc.length (acc.flatMap byte1) rfl (hown.alloc _) _ _ _ (byte1 10) rfl rfl (new_cells_at _ _ _ _ _ rfl (by first | rfl | simp)) (by intro u hu; simp [byte1] at hu; subst hu; rfl) (by unfold maxLen; omega) (by omega) (by simp; omega) ?_; intro v1 w1 hown1 hgr1 hiff1)
  have hK1 : Keeps 5 B w w1 := ((Keeps.refl 5 B w).alloc _).trans (Keeps.app (hown.alloc _) hgr1)
  have hne1 : v1 ≠ .slice none 0 0 := fun e => by have := (hiff1.1 e).2; omega
  have hs1 := hK1.size
  have ho1 : w1.ownsRow B 5 1 v1 (acc ++ 10 :: List.replicate 0 32).length ((acc ++ 10 :: List.replicate 0 32).flatMap byte1) := by simpa using hown1
  clear hgr1 hiff1 hown1
  go_wp2
  go_loopw [0, 5] (fun v i wr => ∃ (k : Nat), i = .int .i64 k ∧ k ≤ n ∧ wr.ownsRow B 5 1 v (acc ++ 10 :: List.replicate k 32).length ((acc ++ 10 :: List.replicate k 32).flatMap byte1) ∧ v ≠ .slice none 0 0 ∧ Keeps 5 B w wr) (fun _ i _ => n - (intOf i).toNat)
  case atStart => exact ⟨0, rfl, by omega, ho1, hne1, hK1⟩
  clear ho1 hne1 hK1
  obtain ⟨k, rfl, hk, ho, hne, hK⟩ := hrel
  have hs := hK.size
  by_cases hlt : k < n
  · have hll : (acc ++ 10 :: List.replicate k 32).length = acc.length + 1 + k := by simp; omega
    obtain ⟨A, hA⟩ : ∃ A, A = acc ++ 10 :: List.replicate k 32 := ⟨_, rfl⟩
    rw [← hA] at ho hll
    have hnx : acc ++ 10 :: List.replicate (k + 1) 32 = A ++ [32] := by rw [hA, replicate_snoc]; simp
    have hkn : (k : Int) < (n : Int) := by omega
    replace hnx := hid hnx
    replace hll := hid hll
    clear hA
    have hAl : A.length ≤ 100001000001 := by have := hll.out; omega
    go_wp2_with (at_builtin; refine wpList_append_own _ rfl _ _ 38 rfl B 5 i0 _ 1 1 Try.underlying38 hi hz0 hz1 hz2 rfl (by decide) _ A.length (A.flatMap byte1) rfl (ho.alloc _) _ _ _ (byte1 32) rfl rfl (new_cells_at _ _ _ _ _ rfl (by first | rfl | simp)) (by intro u hu; simp [byte1] at hu; subst hu; rfl) (by unfold maxLen; omega) (by omega) (by simp; omega) ?_; intro v3 w3 hown3 hgr3 hiff)
    all_goals go_roundw
    all_goals first
      | (simp [intOf]; omega)
      | exact ⟨k + 1, by go_num, by omega, by rw [hnx.out]; simpa using hown3, fun e => by have := (hiff.1 e).2; omega, hK.trans (((Keeps.refl 5 B wr).alloc _).trans (Keeps.app (ho.alloc _) hgr3))⟩
  · obtain rfl : k = n := by omega
    go_wp2
    go_ret
    exact ⟨_, rfl, ho, hne, hK⟩

/-- What is put on the stack for the kids. -/
def sKids (ks : List Int) (ind : Nat) (f : Bool) : List SIt := (ks.map fun k => ⟨k.toNat, ind, f⟩).reverse
theorem sKids_drop {ks : List Int} {k : Nat} {x : Int} (ind : Nat) (f : Bool) (h : ks[k]? = some x) : sKids (ks.drop k) ind f = sKids (ks.drop (k + 1)) ind f ++ [⟨x.toNat, ind, f⟩] := by
  unfold sKids
  rw [drop_cons h, List.map_cons, List.reverse_cons]
set_option maxRecDepth 100000 in
set_option maxHeartbeats 1600000 in
theorem specl16Kids_any (B : Nat) (v : Value) (L : List SIt) (kind nn : Int) (t : ByteArray) (kv : Value) (ks : List Int) (ind : Nat) (f : Bool) (w : World) (hown : w.ownsRow B 57 3 v L.length (L.flatMap SIt.cells)) (hB : B ≤ w.heap.size)
    (hk : Slc w kv 1 ks.length (ks.flatMap int1)) (hkb : 0 < ks.length → ∀ a n c, kv = .slice (some a) n c → a.block < B) (h0 : ∀ k ∈ ks, 0 ≤ k) (hl : L.length + ks.length ≤ 100000000) :
    Calls Try.prog 37 #[v, .agg #[.int .i64 kind, .int .i64 nn, .string t, kv], .int .i64 ind, .bool f] w fun e w' => ∃ v', e = .returned v' ∧ w'.ownsRow B 57 3 v' (L ++ sKids ks ind f).length ((L ++ sKids ks ind f).flatMap SIt.cells) ∧ Keeps 57 B w w' := by
  obtain ⟨i0, hi, hz0, hz1, hz2⟩ := info_parts Try.info57
  obtain ⟨_, a, kc, rfl, hkc, hkm, hkrow⟩ := hk
  have hbox := heap_alloc_new w (.cells #[.int .i64 kind, .int .i64 nn, .string t, .slice a ks.length kc] 49)
  have hKb : Keeps 57 B w (w.alloc (.cells #[.int .i64 kind, .int .i64 nn, .string t, .slice a ks.length kc] 49)) := (Keeps.refl _ _ _).alloc _
  go_enter Try.func37, Try.ntmps37
  go_wp2
  go_loopw [0, 9] (fun v i wr => ∃ (k : Nat), i = .int .i64 ((k : Int) - 1) ∧ k ≤ ks.length ∧ wr.ownsRow B 57 3 v (L ++ sKids (ks.drop k) ind f).length ((L ++ sKids (ks.drop k) ind f).flatMap SIt.cells) ∧ Keeps 57 B w wr ∧ wr.heap[w.heap.size]? = some (.cells #[.int .i64 kind, .int .i64 nn, .string t, .slice a ks.length kc] 49 (0, 0))) (fun _ i _ => (intOf i + 1).toNat)
  case atStart => exact ⟨ks.length, by first | rfl | go_num, by omega, by rw [List.drop_length]; simpa [sKids] using hown.alloc _, hKb, hbox⟩
  clear hbox hKb
  obtain ⟨k, rfl, hkl, ho, hK, hbox⟩ := hrel
  have hs := hK.size
  by_cases hlt : 0 < k
  · obtain ⟨j, rfl⟩ : ∃ j, k = j + 1 := ⟨k - 1, by omega⟩
    obtain ⟨x, hx⟩ := get_of_lt (show j < ks.length by omega)
    obtain ⟨kb, koff, rfl, hro⟩ := slc_some hkrow (by omega)
    have c0 := ((hK.below hB).cell (p := ⟨kb, koff + j, none⟩) (show kb < B from hkb (by omega) ⟨kb, koff, none⟩ _ _ rfl)).trans (hro.one int1_len hx rfl)
    have b3 : wr.cell? ⟨w.heap.size, 3, none⟩ = some (.slice (some ⟨kb, koff, none⟩) ks.length kc) := by simp [World.cell?, hbox]
    obtain ⟨n, rfl⟩ : ∃ n : Nat, x = (n : Int) := ⟨x.toNat, by have := h0 x (List.mem_of_getElem? hx); omega⟩
    have hnx := sKids_drop ind f hx
    have hll : (L ++ sKids (ks.drop (j + 1)) ind f).length ≤ 100000000 := by unfold sKids; simp; omega
    obtain ⟨A, hA⟩ : ∃ A, A = L ++ sKids (ks.drop (j + 1)) ind f := ⟨_, rfl⟩
    rw [← hA] at ho hll
    have hA2 : L ++ sKids (ks.drop j) ind f = A ++ [⟨n, ind, f⟩] := by rw [hnx, hA]; simp
    have e1 : ((j + 1 : Nat) : Int) - 1 = (j : Int) := by omega
    have hjk : (j : Int) < (ks.length : Int) := by omega
    replace hA2 := hid hA2
    rw [e1]
    replace e1 := hid e1
    replace hbox := hid hbox
    clear hnx hA hx
    go_wp2_with (at_builtin; refine wpList_append_own _ rfl _ _ 58 rfl B 57 i0 _ 3 24 Try.underlying58 hi hz0 hz1 hz2 rfl (by decide) _ A.length (A.flatMap SIt.cells) rfl (ho.alloc _) _ _ _ (SIt.cells ⟨n, ind, f⟩) rfl rfl (new_cells_at _ _ _ _ _ rfl (by first | rfl | simp)) (by intro u hu; simp [SIt.cells] at hu; rcases hu with rfl | rfl | rfl <;> rfl) (by unfold maxLen; omega) (by omega) (by simp; omega) ?_; intro v3 w3 hown3 hgr3 hiff)
    all_goals go_roundw
    all_goals first
      | (simp [intOf]; omega)
      | (simp [intOf]; done)
      | (simp only [intOf]; omega)
      | exact ⟨j, by go_num, by omega, by rw [hA2.out]; simpa using hown3, hK.trans (((Keeps.refl 57 B wr).alloc _).trans (Keeps.app (ho.alloc _) hgr3)), ((((Keeps.refl 57 B wr).alloc _).trans (Keeps.app (ho.alloc _) hgr3))).box hbox.out (by decide)⟩
  · obtain rfl : k = 0 := by omega
    go_wp2
    go_ret
    exact ⟨_, rfl, ho, hK⟩

theorem docNode_has {x : DNode} (h : docNode x = true) : (1 ≤ x.kind ∧ x.kind ≤ 6) ∧ (0 ≤ x.n ∧ x.n ≤ 40) ∧ (x.kind ≠ 4 → x.n = 0) ∧ (x.kind = 1 ∨ x.kind = 2 ∨ x.kind = 3 → x.kids = []) ∧ (x.kind = 5 → x.kids.length = 1) := by
  unfold docNode at h
  simp only [Bool.and_eq_true, Bool.or_eq_true, beq_iff_eq] at h
  obtain ⟨⟨_, h2⟩, h3⟩ := h
  split at h3
  · rename_i k
    simp only [Bool.and_eq_true, beq_iff_eq] at h3
    refine ⟨by omega, by omega, by omega, fun _ => List.length_eq_zero_iff.1 (by omega), by omega⟩
  split at h3
  · rename_i k
    simp only [beq_iff_eq] at h3
    refine ⟨by omega, by omega, by omega, fun _ => List.length_eq_zero_iff.1 (by omega), by omega⟩
  split at h3
  · rename_i k
    simp only [Bool.and_eq_true, beq_iff_eq, decide_eq_true_eq] at h3
    exact ⟨by omega, by omega, by omega, by omega, by omega⟩
  split at h3
  · rename_i k
    simp only [beq_iff_eq] at h3
    exact ⟨by omega, by omega, by omega, by omega, by omega⟩
  · simp only [decide_eq_true_eq] at h3
    exact ⟨by omega, by omega, by omega, by omega, by omega⟩
theorem fine_ix {l : List DNode} (hah : AheadD l) (hd : ∀ x ∈ l, docNode x = true) (hn : bulk DNode.sizes l ≤ 1048576) : ∀ (i : Nat), i < l.length → (docIx l i).Fine := by
  intro i
  induction i using Nat.strongRecOn with
  | _ i ih =>
  intro hi
  obtain ⟨x, hx⟩ := get_of_lt hi
  have hm := List.mem_of_getElem? hx
  have hs := sizes_mem hm hn
  unfold DNode.sizes at hs
  obtain ⟨h1, h2, h3, h4, h5⟩ := docNode_has (hd x hm)
  rw [docIx_eq hah hx]
  refine .mk h1 h2 h3 (by omega) (fun h => by rw [h4 h]; rfl) (fun h => by rw [List.length_map]; exact h5 h) ?_
  intro d hdm
  obtain ⟨k, hk, rfl⟩ := List.mem_map.1 hdm
  have := hah i x hx k hk
  exact ih k.toNat this.2 (by omega)
def sIts (l : List DNode) (L : List SIt) : List LIt := L.reverse.map (SIt.it l)
theorem sIts_snoc (l : List DNode) (L : List SIt) (x : SIt) : sIts l (L ++ [x]) = x.it l :: sIts l L := by simp [sIts]
theorem sIts_kids {l : List DNode} (hah : AheadD l) {i : Nat} {x : DNode} (hx : l[i]? = some x) (L : List SIt) (ind : Nat) (f : Bool) : sIts l (L ++ sKids x.kids ind f) = kidIts (docIx l i) ind f ++ sIts l L := by
  have e : (docIx l i).kids = x.kids.map fun k => docIx l k.toNat := by rw [docIx_eq hah hx]; rfl
  unfold sIts sKids kidIts
  rw [e, List.reverse_append, List.reverse_reverse, List.map_append, List.map_map, List.map_map]
  rfl
theorem docIx_parts {l : List DNode} (hah : AheadD l) {i : Nat} {x : DNode} (hx : l[i]? = some x) : (docIx l i).kind = x.kind ∧ (docIx l i).n = x.n ∧ (docIx l i).text = x.text ∧ (docIx l i).kids = x.kids.map (fun k => docIx l k.toNat) := by
  rw [docIx_eq hah hx]; exact ⟨rfl, rfl, rfl, rfl⟩
/-- The items point into the list. -/
def SOk (l : List DNode) (L : List SIt) : Prop := ∀ x ∈ L, x.i < l.length ∧ x.ind ≤ 1000000
theorem SOk.kids {l : List DNode} (hah : AheadD l) {i : Nat} {x : DNode} (hx : l[i]? = some x) {L : List SIt} (h : SOk l L) (ind : Nat) (hi : ind ≤ 1000000) (f : Bool) : SOk l (L ++ sKids x.kids ind f) := fun y hy => by
  rcases List.mem_append.1 hy with hy | hy
  · exact h y hy
  · unfold sKids at hy
    obtain ⟨k, hk, rfl⟩ := List.mem_map.1 (List.mem_reverse.1 hy)
    have h1 := hah i x hx k hk
    have h2 := (List.getElem?_eq_some_iff.1 hx).1
    exact ⟨show k.toNat < _ by omega, hi⟩
theorem carry {w W : World} {a : Addr} {v : Value} (hb : Below w.heap.size w W) (h : w.cell? a = some v) : W.cell? a = some v := (hb.cell (World.block_lt_of_cell? w _ h)).trans h
theorem carryA {W : World} {a : Addr} {v : Value} (o : Obj) (h : W.cell? a = some v) : (W.alloc o).cell? a = some v := carry ((Below.refl _ W).alloc (Nat.le_refl _) o) h
theorem Slc.block_lt {α : Type} {f : α → List Value} (hf : ∀ x, (f x).length = 1) {w : World} {kv : Value} {l : List α} (h : Slc w kv 1 l.length (l.flatMap f)) (hl : 0 < l.length) : ∀ a n c, kv = .slice (some a) n c → a.block < w.heap.size := by
  intro a n c e
  obtain ⟨_, a', c', hv, _, _, hrow⟩ := h
  subst hv
  obtain ⟨b, off, rfl, hro⟩ := slc_some hrow hl
  obtain ⟨x, hx⟩ := get_of_lt hl
  have hlx := hf x
  obtain ⟨u, hu⟩ : ∃ u, f x = [u] := by
    cases hfx : f x with
    | nil => rw [hfx] at hlx; simp at hlx
    | cons u r => cases r with
      | nil => exact ⟨u, rfl⟩
      | cons _ _ => rw [hfx] at hlx; simp at hlx
  have c0 := hro.one hf hx (by rw [hu]; rfl)
  injection e with e1
  injection e1 with e1
  subst e1
  exact World.block_lt_of_cell? w _ c0
theorem sIts_len (l : List DNode) (L : List SIt) : L.length ≤ itWts (sIts l L) := by
  unfold itWts
  refine Nat.le_trans ?_ (wts_len _)
  simp [sIts]
end Go.Proofs.Ytfabfkaolnidiaa
