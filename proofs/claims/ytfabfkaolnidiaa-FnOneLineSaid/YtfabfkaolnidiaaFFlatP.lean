/- Walks and lemmas of this seat (FFlatP): what each theorem says of the functions that it names. Conditions: those that each theorem states. -/
import Derived.Test.YtfabfkaolnidiaaFDocOk2
import Derived.Test.YtfabfkaolnidiaaGP
import Derived.Test.YtfabfkaolnidiaaFGroupB
namespace Go.Proofs.Ytfabfkaolnidiaa
set_option linter.unusedVariables false
set_option linter.unusedSimpArgs false
open Go.RowKit

/-- A document whose nodes have their kids in themselves. -/
inductive Doc where
  | mk (kind n : Int) (text : ByteArray) (kids : List Doc) (group : Int)
def Doc.kind : Doc → Int | .mk k _ _ _ _ => k
def Doc.n : Doc → Int | .mk _ n _ _ _ => n
def Doc.text : Doc → ByteArray | .mk _ _ t _ _ => t
def Doc.kids : Doc → List Doc | .mk _ _ _ l _ => l
def Doc.group : Doc → Int | .mk _ _ _ _ g => g
def Doc.cells (p : Doc × Value) : List Value := [.int .i64 p.1.kind, .int .i64 p.1.n, .string p.1.text, p.2, .int .i64 p.1.group]
theorem Doc.len (p : Doc × Value) : (Doc.cells p).length = 5 := rfl
/-- The document of node i, looking so many levels down. -/
def docOf (l : List DNode) : Nat → Nat → Doc
  | 0, _ => .mk 0 0 ⟨#[]⟩ [] 0
  | f + 1, i => match l[i]? with
    | none => .mk 0 0 ⟨#[]⟩ [] 0
    | some x => .mk x.kind x.n x.text (x.kids.map fun k => docOf l f k.toNat) ((l.take i).countP isGroupB : Nat)
def AheadD (l : List DNode) : Prop := ∀ (i : Nat) (x : DNode), l[i]? = some x → ∀ k ∈ x.kids, 0 ≤ k ∧ k.toNat < i
theorem docOf_fuel {l : List DNode} (h : AheadD l) : ∀ (f g i : Nat), i < f → i < g → docOf l f i = docOf l g i := by
  intro f
  induction f with
  | zero => intro g i hi; omega
  | succ f ih =>
    intro g i hi hg
    cases g with
    | zero => omega
    | succ g =>
      unfold docOf
      cases hx : l[i]? with
      | none => rfl
      | some x =>
        simp only
        congr 1
        apply List.map_congr_left
        intro k hk
        have := h i x hx k hk
        exact ih g k.toNat (by omega) (by omega)
def docIx (l : List DNode) (i : Nat) : Doc := docOf l (i + 1) i
theorem docIx_eq {l : List DNode} (h : AheadD l) {i : Nat} {x : DNode} (hx : l[i]? = some x) : docIx l i = .mk x.kind x.n x.text (x.kids.map fun k => docIx l k.toNat) ((l.take i).countP isGroupB : Nat) := by
  unfold docIx
  rw [docOf, hx]
  simp only
  congr 1
  apply List.map_congr_left
  intro k hk
  have := h i x hx k hk
  exact docOf_fuel h _ _ _ (by omega) (by omega)

/-- What a node alone gives on one line; none at a forced break. -/
def leafOf (k : Int) (t : ByteArray) : Option (List UInt8) := if k = 1 then some t.data.toList else if k = 2 then some [32] else if k = 3 then none else some []
/-- Nodes behind each other on one line. -/
def flatL : List DNode → Option (List UInt8)
  | [] => some []
  | x :: l => match leafOf x.kind x.text with
    | none => none
    | some s => (flatL l).map (s ++ ·)
theorem flatL_append : ∀ (a b : List DNode), flatL (a ++ b) = match flatL a with | none => none | some s => (flatL b).map (s ++ ·) := by
  intro a
  induction a with
  | nil => intro b; simp [flatL]
  | cons x a ih =>
    intro b
    rw [List.cons_append, flatL, flatL, ih]
    cases leafOf x.kind x.text with
    | none => rfl
    | some s =>
      cases flatL a with
      | none => rfl
      | some t => cases flatL b <;> simp
mutual
def Doc.flat : Doc → Option (List UInt8)
  | .mk k _ t kids _ => if k = 1 ∨ k = 2 ∨ k = 3 then leafOf k t else Doc.flats kids
def Doc.flats : List Doc → Option (List UInt8)
  | [] => some []
  | d :: l => match d.flat with
    | none => none
    | some s => (Doc.flats l).map (s ++ ·)
end
def segD (l : List DNode) (b a : Nat) : List DNode := (l.drop b).take (a - b)
theorem segD_nil (l : List DNode) (a : Nat) : segD l a a = [] := by simp [segD]
theorem segD_split (l : List DNode) {b m a : Nat} (h1 : b ≤ m) (h2 : m ≤ a) : segD l b a = segD l b m ++ segD l m a := by
  unfold segD
  have e : a - b = (m - b) + (a - m) := by omega
  rw [e, List.take_add, List.drop_drop, show b + (m - b) = m by omega]
theorem segD_snoc {l : List DNode} {b i : Nat} {x : DNode} (hx : l[i]? = some x) (h : b ≤ i) : segD l b (i + 1) = segD l b i ++ [x] := by
  rw [segD_split l h (Nat.le_succ i)]
  congr 1
  unfold segD
  rw [drop_cons hx, show i + 1 - i = 1 by omega]
  rfl
theorem aheadD_of {l : List DNode} {s : List Nat} (h : starts (l.map DNode.kids) = some s) : AheadD l := fun i x hx k hk => by
  have hl := (starts_len h).1
  have ht := starts_tilesK h (i := i) (ks := x.kids) (by rw [List.getElem?_map, hx]; rfl)
  have key : ∀ (ks : List Int) (b : Nat), Tiles s ks b i → ∀ k ∈ ks, 0 ≤ k ∧ k.toNat < i := by
    intro ks
    induction ks with
    | nil => intro b _ k hk; simp at hk
    | cons y ks ih =>
      intro b hb k hk
      obtain ⟨j, rfl, _, hj, hr⟩ := hb
      rcases List.mem_cons.1 hk with rfl | hk
      · omega
      · exact ih _ hr k hk
  exact key _ _ ht k hk
theorem leaf_kids {x : DNode} (h : docNode x = true) (hk : x.kind = 1 ∨ x.kind = 2 ∨ x.kind = 3) : x.kids = [] := by
  unfold docNode at h
  rcases hk with hk | hk | hk <;> simp [hk] at h <;> simp_all
theorem leaf_none {x : DNode} (hk : ¬ (x.kind = 1 ∨ x.kind = 2 ∨ x.kind = 3)) : leafOf x.kind x.text = some [] := by
  unfold leafOf
  rw [if_neg (fun e => hk (.inl e)), if_neg (fun e => hk (.inr (.inl e))), if_neg (fun e => hk (.inr (.inr e)))]
/-- THE LAW: the text of node i's document is that of its part. -/
theorem flat_seg {l : List DNode} {s : List Nat} (h : starts (l.map DNode.kids) = some s) (hn : ∀ x ∈ l, docNode x = true) : ∀ (i : Nat), i < l.length → (docIx l i).flat = flatL (segD l (s.getD i 0) (i + 1)) := by
  have hah := aheadD_of h
  have hl := (starts_len h).1
  intro i
  induction i using Nat.strongRecOn with
  | _ i ih =>
  intro hi
  obtain ⟨x, hx⟩ := get_of_lt hi
  have ht := starts_tilesK h (i := i) (ks := x.kids) (by rw [List.getElem?_map, hx]; rfl)
  have hxn := hn x (List.mem_of_getElem? hx)
  have key : ∀ (ks : List Int) (b : Nat), Tiles s ks b i → Doc.flats (ks.map fun k => docIx l k.toNat) = flatL (segD l b i) := by
    intro ks
    induction ks with
    | nil => intro b hb; have hb : b = i := hb; subst hb; simp [Doc.flats, segD_nil, flatL]
    | cons k ks ihk =>
      intro b hb
      obtain ⟨j, rfl, hs, hj, hrest⟩ := hb
      have hbj := hl.getD j
      rw [hs] at hbj
      have e1 := ih j hj (by omega)
      rw [hs] at e1
      rw [List.map_cons, Doc.flats, Int.toNat_natCast, e1, ihk (j + 1) hrest, segD_split l (b := b) (m := j + 1) (a := i) (by omega) (tiles_le hl hrest), flatL_append]
  rw [docIx_eq hah hx, Doc.flat, segD_snoc hx (hl.getD i), flatL_append, flatL, flatL]
  by_cases hk : x.kind = 1 ∨ x.kind = 2 ∨ x.kind = 3
  · rw [if_pos hk]
    have hkn := leaf_kids hxn hk
    rw [hkn] at ht
    have hb : s.getD i 0 = i := ht
    rw [hb, segD_nil, flatL]
    cases leafOf x.kind x.text <;> simp
  · rw [if_neg hk, key _ _ ht, leaf_none hk]
    cases flatL (segD l (s.getD i 0) i) <;> simp
/-- The text of a document on one line. -/
def flatText (l : List DNode) : Option (List UInt8) := if docOk l = true then flatL l else none
theorem docOk_starts {l : List DNode} (h : docOk l = true) : 1 ≤ l.length ∧ l.length ≤ 4000 ∧ (∀ x ∈ l, docNode x = true) ∧ ∃ s, starts (l.map DNode.kids) = some s ∧ s.getD (l.length - 1) 0 = 0 := by
  unfold docOk at h
  simp only [Bool.and_eq_true, decide_eq_true_eq, List.all_eq_true] at h
  refine ⟨h.1.1.1, h.1.1.2, h.1.2, ?_⟩
  have h2 := h.2
  unfold startsLast at h2
  cases hs : starts (l.map DNode.kids) with
  | none => rw [hs] at h2; simp at h2
  | some s => rw [hs] at h2; exact ⟨s, rfl, by simpa using h2⟩
theorem flatText_root {l : List DNode} (h : docOk l = true) : flatText l = (docIx l (l.length - 1)).flat := by
  obtain ⟨h1, _, hn, s, hs, h0⟩ := docOk_starts h
  unfold flatText
  rw [if_pos h, flat_seg hs hn _ (by omega), h0, show l.length - 1 + 1 = l.length by omega]
  simp [segD]
end Go.Proofs.Ytfabfkaolnidiaa
