/- Walks and lemmas of this seat (PMass): what each theorem says of the functions that it names. Conditions: those that each theorem states. -/
import Derived.Test.YtfabfkaolnidiaaFFlatP
namespace Go.Proofs.Ytfabfkaolnidiaa
set_option linter.unusedVariables false
set_option linter.unusedSimpArgs false
open Go.RowKit

/-! How many bytes a document has on one line, forced breaks left out. -/
def leafMass (k : Int) (t : ByteArray) : Nat := if k = 1 then t.size else if k = 2 then 1 else 0
def massL : List DNode → Nat
  | [] => 0
  | x :: l => leafMass x.kind x.text + massL l
theorem massL_append (a b : List DNode) : massL (a ++ b) = massL a + massL b := by
  induction a with
  | nil => simp [massL]
  | cons x a ih => rw [List.cons_append, massL, massL, ih]; omega
theorem massL_bulk (l : List DNode) : massL l ≤ bulk DNode.sizes l := by
  unfold bulk
  induction l with
  | nil => simp [massL]
  | cons x l ih =>
    rw [massL, List.map_cons, List.sum_cons, List.length_cons]
    have : leafMass x.kind x.text ≤ DNode.sizes x + 1 := by unfold leafMass DNode.sizes; split <;> (try split) <;> omega
    omega
mutual
def Doc.mass : Doc → Nat
  | .mk k _ t kids _ => leafMass k t + Doc.massS kids
def Doc.massS : List Doc → Nat
  | [] => 0
  | d :: l => d.mass + Doc.massS l
end
theorem mass_seg {l : List DNode} {s : List Nat} (h : starts (l.map DNode.kids) = some s) : ∀ (i : Nat), i < l.length → (docIx l i).mass = massL (segD l (s.getD i 0) (i + 1)) := by
  have hah := aheadD_of h
  have hl := (starts_len h).1
  intro i
  induction i using Nat.strongRecOn with
  | _ i ih =>
  intro hi
  obtain ⟨x, hx⟩ := get_of_lt hi
  have ht := starts_tilesK h (i := i) (ks := x.kids) (by rw [List.getElem?_map, hx]; rfl)
  have key : ∀ (ks : List Int) (b : Nat), Tiles s ks b i → Doc.massS (ks.map fun k => docIx l k.toNat) = massL (segD l b i) := by
    intro ks
    induction ks with
    | nil => intro b hb; have hb : b = i := hb; subst hb; simp [Doc.massS, segD_nil, massL]
    | cons k ks ihk =>
      intro b hb
      obtain ⟨j, rfl, hs, hj, hrest⟩ := hb
      have hbj := hl.getD j
      rw [hs] at hbj
      have e1 := ih j hj (by omega)
      rw [hs] at e1
      rw [List.map_cons, Doc.massS, Int.toNat_natCast, e1, ihk (j + 1) hrest, segD_split l (b := b) (m := j + 1) (a := i) (by omega) (tiles_le hl hrest), massL_append]
  rw [docIx_eq hah hx, Doc.mass, segD_snoc hx (hl.getD i), massL_append, key _ _ ht]
  simp [massL]
  omega
theorem seg_all (l : List DNode) : segD l 0 l.length = l := by simp [segD]
theorem mass_root {l : List DNode} (h : docOk l = true) : (docIx l (l.length - 1)).mass ≤ bulk DNode.sizes l := by
  obtain ⟨h1, _, _, s, hs, h0⟩ := docOk_starts h
  rw [mass_seg hs _ (by omega), h0, show l.length - 1 + 1 = l.length by omega, seg_all]
  exact massL_bulk l
theorem Doc.flat_mass (n : Nat) : ∀ (d : Doc), SizeOf.sizeOf d < n → ∀ s, d.flat = some s → s.length ≤ d.mass := by
  induction n with
  | zero => intro d h; omega
  | succ n ih =>
    intro d hd s hs
    obtain ⟨k, m, t, kids, g⟩ := d
    rw [Doc.flat] at hs
    rw [Doc.mass]
    by_cases hk : k = 1 ∨ k = 2 ∨ k = 3
    · rw [if_pos hk] at hs
      unfold leafOf at hs
      unfold leafMass
      split at hs
      · rename_i h1; simp at hs; subst hs; rw [if_pos h1]; have : t.data.toList.length = t.size := rfl; omega
      · rename_i h1
        split at hs
        · rename_i h2; simp at hs; subst hs; rw [if_neg h1, if_pos h2]; simp
        · split at hs
          · simp at hs
          · simp at hs; subst hs; simp
    · rw [if_neg hk] at hs
      have key : ∀ (l : List Doc), (∀ d ∈ l, SizeOf.sizeOf d < n) → ∀ s, Doc.flats l = some s → s.length ≤ Doc.massS l := by
        intro l
        induction l with
        | nil => intro _ s hs; simp [Doc.flats] at hs; subst hs; simp
        | cons d l ihl =>
          intro hl s hs
          rw [Doc.flats] at hs
          rw [Doc.massS]
          cases hdf : d.flat with
          | none => rw [hdf] at hs; simp at hs
          | some a =>
            rw [hdf] at hs
            simp only at hs
            cases hlf : Doc.flats l with
            | none => rw [hlf] at hs; simp at hs
            | some b =>
              rw [hlf] at hs
              simp at hs
              subst hs
              have h1 := ih d (hl d (by simp)) a hdf
              have h2 := ihl (fun d hd => hl d (by simp [hd])) b hlf
              simp; omega
      have := key kids (fun d hd2 => by
        have := List.sizeOf_lt_of_mem hd2
        simp at hd
        omega) s hs
      omega
end Go.Proofs.Ytfabfkaolnidiaa
