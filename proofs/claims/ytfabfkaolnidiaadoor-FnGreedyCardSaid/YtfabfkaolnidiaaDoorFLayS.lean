/- Walks and lemmas of this seat (FLayS): what each theorem says of the functions that it names. Conditions: those that each theorem states. -/
import Derived.Test.YtfabfkaolnidiaaDoorFLayB
import Derived.LoopTactic
import Derived.Deep.LoopGhost
namespace Go.Proofs.YtfabfkaolnidiaaDoor
set_option linter.unusedVariables false
set_option linter.unusedSimpArgs false
open Go.RowKit

/-- An item of the reference's stack. -/
structure SIt where
  i : Nat
  ind : Nat
  flat : Bool
def SIt.cells (x : SIt) : List Value := [.int .i64 x.i, .int .i64 x.ind, .bool x.flat]
theorem SIt.len (x : SIt) : (SIt.cells x).length = 3 := rfl
def SIt.it (l : List DNode) (x : SIt) : LIt := ⟨docIx l x.i, x.ind, x.flat⟩
theorem replicate_snoc {α : Type} (n : Nat) (a : α) : List.replicate (n + 1) a = List.replicate n a ++ [a] := by
  rw [List.replicate_succ']

/-- What is put on the stack for the kids. -/
def sKids (ks : List Int) (ind : Nat) (f : Bool) : List SIt := (ks.map fun k => ⟨k.toNat, ind, f⟩).reverse
theorem sKids_drop {ks : List Int} {k : Nat} {x : Int} (ind : Nat) (f : Bool) (h : ks[k]? = some x) : sKids (ks.drop k) ind f = sKids (ks.drop (k + 1)) ind f ++ [⟨x.toNat, ind, f⟩] := by
  unfold sKids
  rw [drop_cons h, List.map_cons, List.reverse_cons]
theorem docNode_has {x : DNode} (h : docNode x = true) : (1 ≤ x.kind ∧ x.kind ≤ 6) ∧ (0 ≤ x.n ∧ x.n ≤ 40) ∧ (x.kind ≠ 4 → x.n = 0) ∧ (x.kind = 1 ∨ x.kind = 2 ∨ x.kind = 3 → x.kids = []) ∧ (x.kind = 5 → x.kids.length = 1) := by
  unfold docNode at h
  simp only [Bool.and_eq_true, Bool.or_eq_true, beq_iff_eq] at h
  obtain ⟨⟨_, h2⟩, h3⟩ := h
  split at h3
  · rename_i k
    simp only [Bool.and_eq_true, beq_iff_eq] at h3
    refine ⟨by omega, by omega, by omega, fun _ => List.length_eq_zero_iff.1 (by omega), by omega⟩
  split at h3
  · rename_i k
    simp only [beq_iff_eq] at h3
    refine ⟨by omega, by omega, by omega, fun _ => List.length_eq_zero_iff.1 (by omega), by omega⟩
  split at h3
  · rename_i k
    simp only [Bool.and_eq_true, beq_iff_eq, decide_eq_true_eq] at h3
    exact ⟨by omega, by omega, by omega, by omega, by omega⟩
  split at h3
  · rename_i k
    simp only [beq_iff_eq] at h3
    exact ⟨by omega, by omega, by omega, by omega, by omega⟩
  · simp only [decide_eq_true_eq] at h3
    exact ⟨by omega, by omega, by omega, by omega, by omega⟩
theorem fine_ix {l : List DNode} (hah : AheadD l) (hd : ∀ x ∈ l, docNode x = true) (hn : bulk DNode.sizes l ≤ 1048576) : ∀ (i : Nat), i < l.length → (docIx l i).Fine := by
  intro i
  induction i using Nat.strongRecOn with
  | _ i ih =>
  intro hi
  obtain ⟨x, hx⟩ := get_of_lt hi
  have hm := List.mem_of_getElem? hx
  have hs := sizes_mem hm hn
  unfold DNode.sizes at hs
  obtain ⟨h1, h2, h3, h4, h5⟩ := docNode_has (hd x hm)
  rw [docIx_eq hah hx]
  refine .mk h1 h2 h3 (by omega) (fun h => by rw [h4 h]; rfl) (fun h => by rw [List.length_map]; exact h5 h) ?_
  intro d hdm
  obtain ⟨k, hk, rfl⟩ := List.mem_map.1 hdm
  have := hah i x hx k hk
  exact ih k.toNat this.2 (by omega)
def sIts (l : List DNode) (L : List SIt) : List LIt := L.reverse.map (SIt.it l)
theorem sIts_snoc (l : List DNode) (L : List SIt) (x : SIt) : sIts l (L ++ [x]) = x.it l :: sIts l L := by simp [sIts]
theorem sIts_kids {l : List DNode} (hah : AheadD l) {i : Nat} {x : DNode} (hx : l[i]? = some x) (L : List SIt) (ind : Nat) (f : Bool) : sIts l (L ++ sKids x.kids ind f) = kidIts (docIx l i) ind f ++ sIts l L := by
  have e : (docIx l i).kids = x.kids.map fun k => docIx l k.toNat := by rw [docIx_eq hah hx]; rfl
  unfold sIts sKids kidIts
  rw [e, List.reverse_append, List.reverse_reverse, List.map_append, List.map_map, List.map_map]
  rfl
theorem docIx_parts {l : List DNode} (hah : AheadD l) {i : Nat} {x : DNode} (hx : l[i]? = some x) : (docIx l i).kind = x.kind ∧ (docIx l i).n = x.n ∧ (docIx l i).text = x.text ∧ (docIx l i).kids = x.kids.map (fun k => docIx l k.toNat) := by
  rw [docIx_eq hah hx]; exact ⟨rfl, rfl, rfl, rfl⟩
/-- The items point into the list. -/
def SOk (l : List DNode) (L : List SIt) : Prop := ∀ x ∈ L, x.i < l.length ∧ x.ind ≤ 1000000
theorem SOk.kids {l : List DNode} (hah : AheadD l) {i : Nat} {x : DNode} (hx : l[i]? = some x) {L : List SIt} (h : SOk l L) (ind : Nat) (hi : ind ≤ 1000000) (f : Bool) : SOk l (L ++ sKids x.kids ind f) := fun y hy => by
  rcases List.mem_append.1 hy with hy | hy
  · exact h y hy
  · unfold sKids at hy
    obtain ⟨k, hk, rfl⟩ := List.mem_map.1 (List.mem_reverse.1 hy)
    have h1 := hah i x hx k hk
    have h2 := (List.getElem?_eq_some_iff.1 hx).1
    exact ⟨show k.toNat < _ by omega, hi⟩
theorem carry {w W : World} {a : Addr} {v : Value} (hb : Below w.heap.size w W) (h : w.cell? a = some v) : W.cell? a = some v := (hb.cell (World.block_lt_of_cell? w _ h)).trans h
theorem carryA {W : World} {a : Addr} {v : Value} (o : Obj) (h : W.cell? a = some v) : (W.alloc o).cell? a = some v := carry ((Below.refl _ W).alloc (Nat.le_refl _) o) h
theorem Slc.block_lt {α : Type} {f : α → List Value} (hf : ∀ x, (f x).length = 1) {w : World} {kv : Value} {l : List α} (h : Slc w kv 1 l.length (l.flatMap f)) (hl : 0 < l.length) : ∀ a n c, kv = .slice (some a) n c → a.block < w.heap.size := by
  intro a n c e
  obtain ⟨_, a', c', hv, _, _, hrow⟩ := h
  subst hv
  obtain ⟨b, off, rfl, hro⟩ := slc_some hrow hl
  obtain ⟨x, hx⟩ := get_of_lt hl
  have hlx := hf x
  obtain ⟨u, hu⟩ : ∃ u, f x = [u] := by
    cases hfx : f x with
    | nil => rw [hfx] at hlx; simp at hlx
    | cons u r => cases r with
      | nil => exact ⟨u, rfl⟩
      | cons _ _ => rw [hfx] at hlx; simp at hlx
  have c0 := hro.one hf hx (by rw [hu]; rfl)
  injection e with e1
  injection e1 with e1
  subst e1
  exact World.block_lt_of_cell? w _ c0
theorem sIts_len (l : List DNode) (L : List SIt) : L.length ≤ itWts (sIts l L) := by
  unfold itWts
  refine Nat.le_trans ?_ (wts_len _)
  simp [sIts]
end Go.Proofs.YtfabfkaolnidiaaDoor
