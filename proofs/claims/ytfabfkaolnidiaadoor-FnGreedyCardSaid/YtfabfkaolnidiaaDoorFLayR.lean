/- Walks and lemmas of this seat (FLayR): what each theorem says of the functions that it names. Conditions: those that each theorem states. -/
import Derived.Test.YtfabfkaolnidiaaDoorFLayF
import Derived.Test.YtfabfkaolnidiaaDoorFFlatText
import Derived.Deep.RegionLaw
import Derived.BigQuiet
namespace Go.Proofs.YtfabfkaolnidiaaDoor
set_option linter.unusedVariables false
set_option linter.unusedSimpArgs false
open Go.RowKit

def root0 (l : List DNode) : LIt := ⟨docIx l (l.length - 1), 0, false⟩
/-- A document laid out within a width. -/
def renderL (l : List DNode) (wd : Int) : Option (List UInt8) := if docOk l = true ∧ 0 ≤ wd ∧ wd ≤ 10000 then some (layRun (fitDec wd) l.length ⟨[], 0, true, [root0 l]⟩).1 else none
theorem lt0 (w : World) (o1 o2 : Obj) : ((w.alloc o1).alloc o2).heap[w.heap.size]? = some o1 := (Below.heap_alloc (w.alloc o1) o2 _ (by simp)).trans (heap_alloc_new w o1)
theorem lt1 (w : World) (o1 o2 : Obj) : ((w.alloc o1).alloc o2).heap[w.heap.size + 1]? = some o2 := by
  have := heap_alloc_new (w.alloc o1) o2
  simpa using this
section
variable {l : List DNode} (hah : AheadD l) {x : SIt} {y : DNode} (hy : l[x.i]? = some y) (dec : Nat → List LIt → LIt → Bool) (out : List UInt8) (col : Nat) (ok : Bool) (C : List LIt)
include hah hy
theorem lay1 (h : y.kind = 1) : layStep dec out col ok C (x.it l) = ⟨out ++ y.text.data.toList, col + y.text.size, ok, C⟩ := by
  obtain ⟨e1, _, e3, _⟩ := docIx_parts hah hy
  unfold layStep
  rw [show (x.it l).d.kind = y.kind from e1, show (x.it l).d.text = y.text from e3, if_pos h]
theorem lay2 (h : y.kind = 2) (hf : x.flat = true) : layStep dec out col ok C (x.it l) = ⟨out ++ [32], col + 1, ok, C⟩ := by
  obtain ⟨e1, _, e3, _⟩ := docIx_parts hah hy
  unfold layStep
  rw [show (x.it l).d.kind = y.kind from e1, if_neg (by omega), if_pos ⟨h, hf⟩]
theorem lay3 (h : y.kind = 2 ∨ y.kind = 3) (hf : x.flat = false) : layStep dec out col ok C (x.it l) = ⟨out ++ brk x.ind, x.ind, ok, C⟩ := by
  obtain ⟨e1, _, e3, _⟩ := docIx_parts hah hy
  unfold layStep
  rw [show (x.it l).d.kind = y.kind from e1, if_neg (by omega), if_neg (fun h2 => by have h3 : x.flat = true := h2.2; rw [hf] at h3; cases h3), if_pos h]
  rfl
theorem lay5 (h : y.kind = 5) : layStep dec out col ok C (x.it l) = ⟨out, col, ok && (x.flat || !dec col C (x.it l) || (docIx l x.i).flat.isSome), kidIts (docIx l x.i) x.ind (x.flat || dec col C (x.it l)) ++ C⟩ := by
  obtain ⟨e1, _, e3, _⟩ := docIx_parts hah hy
  unfold layStep
  rw [show (x.it l).d.kind = y.kind from e1, if_neg (by omega), if_neg (by omega), if_neg (by omega), if_pos h]
  rfl
theorem lay6 (h : ¬ y.kind = 1 ∧ ¬ y.kind = 2 ∧ ¬ y.kind = 3 ∧ ¬ y.kind = 5) : layStep dec out col ok C (x.it l) = ⟨out, col, ok, kidIts (docIx l x.i) (x.ind + y.n.toNat) x.flat ++ C⟩ := by
  obtain ⟨e1, e2, e3, _⟩ := docIx_parts hah hy
  unfold layStep
  rw [show (x.it l).d.kind = y.kind from e1, show (x.it l).d.n = y.n from e2, if_neg h.1, if_neg (by omega), if_neg (by omega), if_neg h.2.2.2]
  rfl
end
theorem bdn (W : World) (n : Nat) : Below W.heap.size W (W.drewN n) := ⟨rfl, rfl, rfl, Nat.le_refl _, fun _ _ => rfl⟩
theorem fitDec_some {wd : Int} {col : Nat} {C : List LIt} {x : LIt} (h : fitDec wd col C x = true) : x.d.flat.isSome = true := by
  unfold fitDec at h
  split at h
  · cases h
  · rename_i s hs; rw [hs]; rfl
/-- How the reference stands between two steps. -/
structure SLay (l : List DNode) (dec : Nat → List LIt → LIt → Bool) (ans : List UInt8) (gk : Nat) (out : List UInt8) (col : Nat) (L : List SIt) : Prop where
  ok : SOk l L
  run : ∃ c ok, c + gk ≤ 4001 ∧ LayB c ⟨out, col, ok, sIts l L⟩ ∧ (layRun dec gk ⟨out, col, ok, sIts l L⟩).1 = ans
  wt : itWts (sIts l L) ≤ gk
  stk : Stk (sIts l L)
theorem SLay.next {l : List DNode} {dec : Nat → List LIt → LIt → Bool} {ans : List UInt8} {gk : Nat} {out out' : List UInt8} {col col' : Nat} {L L' : List SIt} {x : SIt} (h : SLay l dec ans (gk + 1) out col (L ++ [x])) (hs : ∀ ok, ∃ ok', layStep dec out col ok (sIts l L) (x.it l) = ⟨out', col', ok', sIts l L'⟩) (hok : SOk l L') (hst : Stk (sIts l L')) : SLay l dec ans gk out' col' L' := by
  obtain ⟨c, ok, hc, hB, hr⟩ := h.run
  obtain ⟨ok', e⟩ := hs ok
  have hw := h.wt
  rw [sIts_snoc] at hB hr hw
  rw [layRun_cons, e] at hr
  have hB2 := hB.next (by omega) dec
  rw [e] at hB2
  refine ⟨hok, ⟨c + 1, ok', by omega, hB2, hr⟩, ?_, hst⟩
  have h9 := layStep_wts dec out col ok (sIts l L) (x.it l)
  rw [e] at h9
  have h8 : itWts (sIts l L') + 1 ≤ itWts (x.it l :: sIts l L) := h9
  omega
theorem SLay.size {l : List DNode} {dec : Nat → List LIt → LIt → Bool} {ans : List UInt8} {gk : Nat} {out : List UInt8} {col : Nat} {L : List SIt} (h : SLay l dec ans gk out col L) : out.length ≤ 8002000000 ∧ col ≤ 8002000000 ∧ L.length ≤ 4001 ∧ gk ≤ 4001 ∧ ∀ x ∈ L, x.ind ≤ 160040 := by
  obtain ⟨c, ok, hc, hB, hr⟩ := h.run
  have h1 := hB.out
  have h2 := hB.col
  have h3 := sIts_len l L
  have h4 := h.wt
  simp only at h1 h2
  have hcm : c * 2000000 ≤ 4001 * 2000000 := Nat.mul_le_mul_right _ (by omega)
  refine ⟨by omega, by omega, by omega, by omega, fun x hx => ?_⟩
  have h5 := (hB.st (x.it l) (by unfold sIts; exact List.mem_map_of_mem (List.mem_reverse.2 hx))).1
  have h6 : x.ind ≤ c * 40 := h5
  omega
theorem SLay.pop {l : List DNode} {dec : Nat → List LIt → LIt → Bool} {ans : List UInt8} {gk : Nat} {out : List UInt8} {col : Nat} {L : List SIt} {x : SIt} (h : SLay l dec ans gk out col (L ++ [x])) : ∃ g, gk = g + 1 := by
  have hw := h.wt
  rw [sIts_snoc, itWts_cons, (x.it l).d.wt_eq] at hw
  exact ⟨gk - 1, by omega⟩
theorem SLay.fine {l : List DNode} {dec : Nat → List LIt → LIt → Bool} {ans : List UInt8} {gk : Nat} {out : List UInt8} {col : Nat} {L : List SIt} (h : SLay l dec ans gk out col L) : ∀ y ∈ sIts l L, y.d.Fine := fun y hy => by
  obtain ⟨c, ok, hc, hB, hr⟩ := h.run
  exact (hB.st y hy).2

end Go.Proofs.YtfabfkaolnidiaaDoor
