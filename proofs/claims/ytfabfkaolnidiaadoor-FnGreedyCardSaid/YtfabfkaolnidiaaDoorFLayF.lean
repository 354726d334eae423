/- Walks and lemmas of this seat (FLayF): what each theorem says of the functions that it names. Conditions: those that each theorem states. -/
import Derived.Test.YtfabfkaolnidiaaDoorFLayS
namespace Go.Proofs.YtfabfkaolnidiaaDoor
set_option linter.unusedVariables false
set_option linter.unusedSimpArgs false
open Go.RowKit

def bool1 (b : Bool) : List Value := [.bool b]
theorem bool1_len (b : Bool) : (bool1 b).length = 1 := rfl
theorem Tryd.info4 : (Tryd.prog.info? 4).map (fun i => (i.zero, i.size, i.bytes)) = some (some (.bool false), 1, 1) := by kernel_rfl
/-- Is there a hard end of a line in it? -/
def hardAt (l : List DNode) (i : Nat) : Bool := (docIx l i).flat.isNone
def hardL (l : List DNode) (k : Nat) : List Bool := (List.range k).map (hardAt l)
theorem hardL_len (l : List DNode) (k : Nat) : (hardL l k).length = k := by simp [hardL]
theorem hardL_succ (l : List DNode) (k : Nat) : hardL l (k + 1) = hardL l k ++ [hardAt l k] := by simp [hardL, List.range_succ]
theorem hardL_get (l : List DNode) {k i : Nat} (h : i < k) : (hardL l k)[i]? = some (hardAt l i) := by simp [hardL, h]
theorem flats_none (l : List Doc) : (Doc.flats l).isNone = l.any fun d => d.flat.isNone := by
  induction l with
  | nil => rfl
  | cons d l ih =>
    rw [Doc.flats, List.any_cons, ← ih]
    cases d.flat with
    | none => rfl
    | some a => cases Doc.flats l <;> rfl
theorem hardAt_eq {l : List DNode} (hah : AheadD l) (hd : ∀ x ∈ l, docNode x = true) {i : Nat} {x : DNode} (hx : l[i]? = some x) : hardAt l i = ((x.kind == 3) || x.kids.any fun k => hardAt l k.toNat) := by
  have hh := docNode_has (hd x (List.mem_of_getElem? hx))
  unfold hardAt
  rw [docIx_eq hah hx, Doc.flat]
  by_cases hk : x.kind = 1 ∨ x.kind = 2 ∨ x.kind = 3
  · rw [if_pos hk, hh.2.2.2.1 hk]
    unfold leafOf
    rcases hk with h | h | h <;> simp [h]
  · rw [if_neg hk, flats_none, List.any_map]
    have h3 : (x.kind == 3) = false := by simp; omega
    rw [h3, Bool.false_or]
    rfl

theorem fits_step {l : List DNode} (hah : AheadD l) {x : SIt} {y : DNode} (hy : l[x.i]? = some y) {gk : Nat} {rm : Int} (h : 0 ≤ rm) (C : List LIt) : fitsRun (gk + 1) rm (x.it l :: C) = if y.kind = 1 then fitsRun gk (rm - y.text.size) C else if y.kind = 2 then (if x.flat = true then fitsRun gk (rm - 1) C else true) else if y.kind = 3 then true else fitsRun gk rm (kidIts (docIx l x.i) x.ind x.flat ++ C) := by
  obtain ⟨e1, _, e3, _⟩ := docIx_parts hah hy
  rw [fitsRun, if_neg (by omega)]
  show (if (docIx l x.i).kind = 1 then fitsRun gk (rm - (docIx l x.i).text.size) C else if (docIx l x.i).kind = 2 then (if x.flat = true then fitsRun gk (rm - 1) C else true) else if (docIx l x.i).kind = 3 then true else fitsRun gk rm (kidIts (docIx l x.i) x.ind x.flat ++ C)) = _
  rw [e1, e3]
theorem it_wt (l : List DNode) (x : SIt) (C : List LIt) : itWts C + 1 ≤ itWts (x.it l :: C) := by
  rw [itWts_cons, (x.it l).d.wt_eq]; omega
theorem it_kids (l : List DNode) (x : SIt) (C : List LIt) (ind : Nat) (f : Bool) : itWts (kidIts (docIx l x.i) ind f ++ C) + 1 ≤ itWts (x.it l :: C) := by
  rw [itWts_cons, itWts_kids]; exact Nat.le_refl _

end Go.Proofs.YtfabfkaolnidiaaDoor
