/- Walks and lemmas of this seat (PLay): what each theorem says of the functions that it names. Conditions: those that each theorem states. -/
import Derived.Test.YtfabfkaolnidiaaPMass
namespace Go.Proofs.Ytfabfkaolnidiaa
set_option linter.unusedVariables false
set_option linter.unusedSimpArgs false
open Go.RowKit

/-! How a document is laid out: a stack of what is still to be laid, the first one on top. -/
mutual
def Doc.wt : Doc → Nat
  | .mk _ _ _ kids _ => 1 + Doc.wts kids
def Doc.wts : List Doc → Nat
  | [] => 0
  | d :: l => d.wt + Doc.wts l
end
theorem Doc.wt_eq (d : Doc) : d.wt = 1 + Doc.wts d.kids := by cases d; rw [Doc.wt]; rfl
theorem Doc.wts_append (a b : List Doc) : Doc.wts (a ++ b) = Doc.wts a + Doc.wts b := by
  induction a with
  | nil => simp [Doc.wts]
  | cons d a ih => rw [List.cons_append, Doc.wts, Doc.wts, ih]; omega
theorem wts_len (l : List Doc) : l.length ≤ Doc.wts l := by
  induction l with
  | nil => simp
  | cons d a ih => rw [Doc.wts, List.length_cons, d.wt_eq]; omega
/-- How many nodes a document has. -/
theorem wt_seg {l : List DNode} {s : List Nat} (h : starts (l.map DNode.kids) = some s) : ∀ (i : Nat), i < l.length → (docIx l i).wt = (segD l (s.getD i 0) (i + 1)).length := by
  have hah := aheadD_of h
  have hl := (starts_len h).1
  intro i
  induction i using Nat.strongRecOn with
  | _ i ih =>
  intro hi
  obtain ⟨x, hx⟩ := get_of_lt hi
  have ht := starts_tilesK h (i := i) (ks := x.kids) (by rw [List.getElem?_map, hx]; rfl)
  have key : ∀ (ks : List Int) (b : Nat), Tiles s ks b i → Doc.wts (ks.map fun k => docIx l k.toNat) = (segD l b i).length := by
    intro ks
    induction ks with
    | nil => intro b hb; have hb : b = i := hb; subst hb; simp [Doc.wts, segD_nil]
    | cons k ks ihk =>
      intro b hb
      obtain ⟨j, rfl, hs, hj, hrest⟩ := hb
      have hbj := hl.getD j
      rw [hs] at hbj
      have e1 := ih j hj (by omega)
      rw [hs] at e1
      rw [List.map_cons, Doc.wts, Int.toNat_natCast, e1, ihk (j + 1) hrest, segD_split l (b := b) (m := j + 1) (a := i) (by omega) (tiles_le hl hrest), List.length_append]
  rw [docIx_eq hah hx, Doc.wt, segD_snoc hx (hl.getD i), List.length_append, key _ _ ht]
  simp
  omega
theorem wt_root {l : List DNode} (h : docOk l = true) : (docIx l (l.length - 1)).wt = l.length := by
  obtain ⟨h1, _, _, s, hs, h0⟩ := docOk_starts h
  rw [wt_seg hs _ (by omega), h0, show l.length - 1 + 1 = l.length by omega, seg_all]

/-- A document whose nodes have what their kinds may have. -/
inductive Doc.Fine : Doc → Prop
  | mk {k n g : Int} {t : ByteArray} {kids : List Doc} (hk : 1 ≤ k ∧ k ≤ 6) (hn : 0 ≤ n ∧ n ≤ 40) (h4 : k ≠ 4 → n = 0) (ht : t.size ≤ 1048576) (hl : k = 1 ∨ k = 2 ∨ k = 3 → kids = []) (h5 : k = 5 → kids.length = 1) (hs : ∀ d ∈ kids, Doc.Fine d) : Doc.Fine (.mk k n t kids g)
structure Doc.Has (d : Doc) : Prop where
  k : 1 ≤ d.kind ∧ d.kind ≤ 6
  n : 0 ≤ d.n ∧ d.n ≤ 40
  n0 : d.kind ≠ 4 → d.n = 0
  t : d.text.size ≤ 1048576
  leaf : d.kind = 1 ∨ d.kind = 2 ∨ d.kind = 3 → d.kids = []
  one : d.kind = 5 → d.kids.length = 1
  kids : ∀ u ∈ d.kids, Doc.Fine u
theorem Doc.Fine.has {d : Doc} (h : d.Fine) : d.Has := by
  cases h with
  | mk hk hn h4 ht hl h5 hs => exact ⟨hk, hn, h4, ht, hl, h5, hs⟩

/-- What is still to be laid: a document, how far in, and whether on one line. -/
structure LIt where
  d : Doc
  ind : Nat
  flat : Bool
def itWts (l : List LIt) : Nat := Doc.wts (l.map LIt.d)
theorem itWts_cons (x : LIt) (l : List LIt) : itWts (x :: l) = x.d.wt + itWts l := by unfold itWts; rw [List.map_cons, Doc.wts]
theorem itWts_append (a b : List LIt) : itWts (a ++ b) = itWts a + itWts b := by unfold itWts; rw [List.map_append, Doc.wts_append]
def kidIts (d : Doc) (ind : Nat) (f : Bool) : List LIt := d.kids.map fun k => ⟨k, ind, f⟩
theorem kidIts_docs (d : Doc) (ind : Nat) (f : Bool) : (kidIts d ind f).map LIt.d = d.kids := by unfold kidIts; rw [List.map_map]; exact List.map_id' _
theorem itWts_kids (d : Doc) (ind : Nat) (f : Bool) (l : List LIt) : itWts (kidIts d ind f ++ l) + 1 = d.wt + itWts l := by
  rw [itWts_append, d.wt_eq]; unfold itWts; rw [kidIts_docs]; omega
/-- The end of a line, and blanks behind it. -/
def brk (ind : Nat) : List UInt8 := 10 :: List.replicate ind 32
structure LSt where
  out : List UInt8
  col : Nat
  ok : Bool
  st : List LIt
def layStep (dec : Nat → List LIt → LIt → Bool) (out : List UInt8) (col : Nat) (ok : Bool) (st : List LIt) (x : LIt) : LSt :=
  if x.d.kind = 1 then ⟨out ++ x.d.text.data.toList, col + x.d.text.size, ok, st⟩
  else if x.d.kind = 2 ∧ x.flat = true then ⟨out ++ [32], col + 1, ok, st⟩
  else if x.d.kind = 2 ∨ x.d.kind = 3 then ⟨out ++ brk x.ind, x.ind, ok, st⟩
  else if x.d.kind = 5 then ⟨out, col, ok && (x.flat || !dec col st x || x.d.flat.isSome), kidIts x.d x.ind (x.flat || dec col st x) ++ st⟩
  else ⟨out, col, ok, kidIts x.d (x.ind + x.d.n.toNat) x.flat ++ st⟩
def layRun (dec : Nat → List LIt → LIt → Bool) : Nat → LSt → List UInt8 × Bool
  | 0, s => (s.out, s.ok)
  | f + 1, s => match s.st with
    | [] => (s.out, s.ok)
    | x :: st => layRun dec f (layStep dec s.out s.col s.ok st x)
theorem layRun_nil (dec : Nat → List LIt → LIt → Bool) (f : Nat) (out : List UInt8) (col : Nat) (ok : Bool) : layRun dec f ⟨out, col, ok, []⟩ = (out, ok) := by
  cases f <;> rfl
theorem layRun_cons (dec : Nat → List LIt → LIt → Bool) (f : Nat) (out : List UInt8) (col : Nat) (ok : Bool) (st : List LIt) (x : LIt) : layRun dec (f + 1) ⟨out, col, ok, x :: st⟩ = layRun dec f (layStep dec out col ok st x) := rfl
theorem layStep_wts (dec : Nat → List LIt → LIt → Bool) (out : List UInt8) (col : Nat) (ok : Bool) (st : List LIt) (x : LIt) : itWts (layStep dec out col ok st x).st + 1 ≤ itWts (x :: st) := by
  have h1 := itWts_cons x st
  have h2 := x.d.wt_eq
  unfold layStep
  split
  · show itWts st + 1 ≤ _; omega
  split
  · show itWts st + 1 ≤ _; omega
  split
  · show itWts st + 1 ≤ _; omega
  split
  · have := itWts_kids x.d x.ind (x.flat || dec col st x) st; show itWts (kidIts x.d x.ind (x.flat || dec col st x) ++ st) + 1 ≤ _; omega
  · have := itWts_kids x.d (x.ind + x.d.n.toNat) x.flat st; show itWts (kidIts x.d (x.ind + x.d.n.toNat) x.flat ++ st) + 1 ≤ _; omega
/-- How large what is laid can be behind c steps. -/
structure LayB (c : Nat) (s : LSt) : Prop where
  out : s.out.length ≤ c * 2000000
  col : s.col ≤ c * 2000000
  st : ∀ x ∈ s.st, x.ind ≤ c * 40 ∧ x.d.Fine
theorem LayB.next {c : Nat} {out : List UInt8} {col : Nat} {ok : Bool} {st : List LIt} {x : LIt} (h : LayB c ⟨out, col, ok, x :: st⟩) (hc : c ≤ 5000) (dec : Nat → List LIt → LIt → Bool) : LayB (c + 1) (layStep dec out col ok st x) := by
  obtain ⟨h1, h2, h3⟩ := h
  have hx := h3 x (by simp)
  have hf := hx.2.has
  have hst : ∀ y ∈ st, y.ind ≤ (c + 1) * 40 ∧ y.d.Fine := fun y hy => by have := h3 y (by simp [hy]); exact ⟨by omega, this.2⟩
  have ht := hf.t
  have hlen : x.d.text.data.toList.length = x.d.text.size := rfl
  have hn := hf.n
  simp only at h1 h2
  have hkid : ∀ (ind : Nat) (f : Bool), ind ≤ (c + 1) * 40 → ∀ y ∈ kidIts x.d ind f ++ st, y.ind ≤ (c + 1) * 40 ∧ y.d.Fine := fun ind f hi y hy => by
    rcases List.mem_append.1 hy with hy | hy
    · obtain ⟨k, hk, rfl⟩ := List.mem_map.1 hy
      exact ⟨hi, hf.kids k hk⟩
    · exact hst y hy
  have hx1 := hx.1
  have hc1 : out.length ≤ (c + 1) * 2000000 := Nat.le_trans h1 (Nat.mul_le_mul_right _ (by omega))
  have hc2 : col ≤ (c + 1) * 2000000 := Nat.le_trans h2 (Nat.mul_le_mul_right _ (by omega))
  unfold layStep
  split
  · refine ⟨?_, ?_, hst⟩
    · show (out ++ x.d.text.data.toList).length ≤ _
      rw [List.length_append]; omega
    · show col + x.d.text.size ≤ _; omega
  split
  · refine ⟨?_, ?_, hst⟩
    · show (out ++ [32]).length ≤ _
      rw [List.length_append, List.length_singleton]; omega
    · show col + 1 ≤ _; omega
  split
  · refine ⟨?_, ?_, hst⟩
    · show (out ++ brk x.ind).length ≤ _
      rw [List.length_append, brk, List.length_cons, List.length_replicate]; omega
    · show x.ind ≤ _; omega
  split
  · exact ⟨hc1, hc2, hkid _ _ (by omega)⟩
  · exact ⟨hc1, hc2, hkid _ _ (by omega)⟩

/-! What stands behind a group up to a place where a line may end. -/
def behindRun : Nat → Nat → List Doc → Nat
  | 0, c, _ => c
  | _ + 1, c, [] => c
  | f + 1, c, d :: C => if d.kind = 2 ∨ d.kind = 3 then c else behindRun f (c + if d.kind = 1 then d.text.size else 0) (d.kids ++ C)
theorem behindRun_fuel : ∀ (f g c : Nat) (C : List Doc), Doc.wts C ≤ f → Doc.wts C ≤ g → behindRun f c C = behindRun g c C := by
  intro f
  induction f with
  | zero => intro g c C hf hg; cases C with
    | nil => cases g <;> rfl
    | cons d C => rw [Doc.wts, d.wt_eq] at hf; omega
  | succ f ih =>
    intro g c C hf hg
    cases C with
    | nil => cases g <;> rfl
    | cons d C =>
      cases g with
      | zero => rw [Doc.wts, d.wt_eq] at hg; omega
      | succ g =>
        rw [behindRun, behindRun]
        split
        · rfl
        · rw [Doc.wts, d.wt_eq] at hf hg
          exact ih _ _ _ (by rw [Doc.wts_append]; omega) (by rw [Doc.wts_append]; omega)
def behindW (C : List Doc) : Nat := behindRun (Doc.wts C) 0 C
theorem behindRun_add : ∀ (f c : Nat) (C : List Doc), behindRun f c C = c + behindRun f 0 C := by
  intro f
  induction f with
  | zero => intro c C; rfl
  | succ f ih =>
    intro c C
    cases C with
    | nil => rfl
    | cons d C =>
      rw [behindRun, behindRun]
      split
      · rfl
      · rw [ih, ih (0 + _)]; omega
theorem behindW_nil : behindW [] = 0 := rfl
theorem behindW_cons (d : Doc) (C : List Doc) : behindW (d :: C) = if d.kind = 2 ∨ d.kind = 3 then 0 else (if d.kind = 1 then d.text.size else 0) + behindW (d.kids ++ C) := by
  unfold behindW
  have e : Doc.wts (d :: C) = Doc.wts (d.kids ++ C) + 1 := by rw [Doc.wts, d.wt_eq, Doc.wts_append]; omega
  rw [e, behindRun]
  split
  · rfl
  · rw [behindRun_add]; omega

/-! The reference's way to ask whether a group has room. -/
def fitsRun : Nat → Int → List LIt → Bool
  | 0, _, _ => false
  | _ + 1, room, [] => if room < 0 then false else true
  | f + 1, room, x :: C => if room < 0 then false else if x.d.kind = 1 then fitsRun f (room - x.d.text.size) C
      else if x.d.kind = 2 then (if x.flat = true then fitsRun f (room - 1) C else true)
      else if x.d.kind = 3 then true
      else fitsRun f room (kidIts x.d x.ind x.flat ++ C)
theorem fitsRun_neg {room : Int} (h : room < 0) (f : Nat) (C : List LIt) : fitsRun f room C = false := by
  cases f with
  | zero => rfl
  | succ f => cases C <;> (rw [fitsRun, if_pos h])
theorem fitsRun_fuel : ∀ (f g : Nat) (room : Int) (C : List LIt), itWts C < f → itWts C < g → fitsRun f room C = fitsRun g room C := by
  intro f
  induction f with
  | zero => intro g room C hf; omega
  | succ f ih =>
    intro g room C hf hg
    cases g with
    | zero => omega
    | succ g =>
      cases C with
      | nil => rfl
      | cons x C =>
        by_cases hr : room < 0
        · rw [fitsRun_neg hr, fitsRun_neg hr]
        rw [fitsRun, fitsRun, if_neg hr, if_neg hr]
        have h1 := itWts_cons x C
        have h2 := x.d.wt_eq
        have h3 := itWts_kids x.d x.ind x.flat C
        rw [ih g (room - x.d.text.size) C (by omega) (by omega), ih g (room - 1) C (by omega) (by omega), ih g room (kidIts x.d x.ind x.flat ++ C) (by omega) (by omega)]
def fitsW (room : Int) (C : List LIt) : Bool := fitsRun (itWts C + 1) room C
theorem fitsW_neg {room : Int} (h : room < 0) (C : List LIt) : fitsW room C = false := by exact fitsRun_neg h _ _
theorem fitsW_nil {room : Int} (h : ¬ room < 0) : fitsW room [] = true := by unfold fitsW; rw [fitsRun, if_neg h]
theorem fitsW_cons {room : Int} (h : ¬ room < 0) (x : LIt) (C : List LIt) : fitsW room (x :: C) = if x.d.kind = 1 then fitsW (room - x.d.text.size) C
      else if x.d.kind = 2 then (if x.flat = true then fitsW (room - 1) C else true)
      else if x.d.kind = 3 then true
      else fitsW room (kidIts x.d x.ind x.flat ++ C) := by
  have h1 := itWts_cons x C
  have h2 := x.d.wt_eq
  have h3 := itWts_kids x.d x.ind x.flat C
  unfold fitsW
  rw [fitsRun, if_neg h]
  rw [fitsRun_fuel (itWts (x :: C)) (itWts C + 1) _ C (by omega) (by omega), fitsRun_fuel (itWts (x :: C)) (itWts C + 1) _ C (by omega) (by omega), fitsRun_fuel (itWts (x :: C)) (itWts (kidIts x.d x.ind x.flat ++ C) + 1) _ _ (by omega) (by omega)]
theorem fits_flat (n : Nat) : (∀ (d : Doc), d.wt < n → d.Fine → ∀ s, d.flat = some s → ∀ (ind : Nat) (room : Int) (C : List LIt), fitsW room (⟨d, ind, true⟩ :: C) = fitsW (room - s.length) C) ∧
    (∀ (l : List Doc), Doc.wts l < n → (∀ d ∈ l, d.Fine) → ∀ s, Doc.flats l = some s → ∀ (ind : Nat) (room : Int) (C : List LIt), fitsW room (l.map (fun k => (⟨k, ind, true⟩ : LIt)) ++ C) = fitsW (room - s.length) C) := by
  induction n with
  | zero => exact ⟨fun d h => by omega, fun l h => by omega⟩
  | succ n ih =>
    have hd : ∀ (d : Doc), d.wt < n + 1 → d.Fine → ∀ s, d.flat = some s → ∀ (ind : Nat) (room : Int) (C : List LIt), fitsW room (⟨d, ind, true⟩ :: C) = fitsW (room - s.length) C := by
      intro d hn hf s hs ind room C
      by_cases hr : room < 0
      · rw [fitsW_neg hr, fitsW_neg (by omega)]
      rw [fitsW_cons hr]
      have hh := hf.has
      have hw := d.wt_eq
      have hfl : d.flat = if d.kind = 1 ∨ d.kind = 2 ∨ d.kind = 3 then leafOf d.kind d.text else Doc.flats d.kids := by cases d; rw [Doc.flat]; rfl
      rw [hfl] at hs
      by_cases k1 : d.kind = 1
      · rw [if_pos (.inl k1), leafOf, if_pos k1] at hs
        simp at hs
        subst hs
        rw [if_pos k1]
        rfl
      by_cases k2 : d.kind = 2
      · rw [if_pos (.inr (.inl k2)), leafOf, if_neg k1, if_pos k2] at hs
        simp at hs
        subst hs
        rw [if_neg k1, if_pos k2, if_pos rfl]
        rfl
      by_cases k3 : d.kind = 3
      · rw [if_pos (.inr (.inr k3)), leafOf, if_neg k1, if_neg k2, if_pos k3] at hs
        simp at hs
      rw [if_neg (by simp [k1, k2, k3])] at hs
      rw [if_neg k1, if_neg k2, if_neg k3]
      exact ih.2 d.kids (by omega) hh.kids s hs ind room C
    refine ⟨hd, ?_⟩
    intro l
    induction l with
    | nil => intro _ _ s hs ind room C; simp [Doc.flats] at hs; subst hs; simp
    | cons d l ihl =>
      intro hn hf s hs ind room C
      rw [Doc.wts] at hn
      have hw := d.wt_eq
      rw [Doc.flats] at hs
      cases h1 : d.flat with
      | none => rw [h1] at hs; simp at hs
      | some a =>
        rw [h1] at hs
        cases h2 : Doc.flats l with
        | none => rw [h2] at hs; simp at hs
        | some b =>
          rw [h2] at hs
          simp at hs
          subst hs
          rw [List.map_cons, List.cons_append, hd d (by omega) (hf d (by simp)) a h1, ihl (by omega) (fun u hu => hf u (by simp [hu])) b h2]
          congr 1
          simp
          omega
theorem fits_behind (n : Nat) : ∀ (C : List LIt), itWts C < n → (∀ x ∈ C, x.flat = false ∧ x.d.Fine) → ∀ (room : Int), fitsW room C = decide ((behindW (C.map LIt.d) : Int) ≤ room) := by
  induction n with
  | zero => intro C h; omega
  | succ n ih =>
    intro C hn hf room
    by_cases hr : room < 0
    · rw [fitsW_neg hr]; symm; simp; omega
    cases C with
    | nil => rw [fitsW_nil hr]; symm; simp [behindW_nil]; omega
    | cons x C =>
      have hx := hf x (by simp)
      have hh := hx.2.has
      have hC : ∀ y ∈ C, y.flat = false ∧ y.d.Fine := fun y hy => hf y (by simp [hy])
      have h1 := itWts_cons x C
      have h2 := x.d.wt_eq
      have h3 := itWts_kids x.d x.ind x.flat C
      rw [fitsW_cons hr, List.map_cons, behindW_cons]
      by_cases k1 : x.d.kind = 1
      · rw [if_pos k1, ih C (by omega) hC, if_neg (by omega), if_pos k1, hh.leaf (.inl k1), List.nil_append]
        exact decide_eq_decide.2 (by omega)
      by_cases k2 : x.d.kind = 2
      · rw [if_neg k1, if_pos k2, hx.1, if_neg (by simp), if_pos (.inl k2)]
        symm; simp; omega
      by_cases k3 : x.d.kind = 3
      · rw [if_neg k1, if_neg k2, if_pos k3, if_pos (.inr k3)]
        symm; simp; omega
      rw [if_neg k1, if_neg k2, if_neg k3, if_neg (by omega), if_neg k1, ih _ (by omega), List.map_append, kidIts_docs]
      · exact decide_eq_decide.2 (by omega)
      · intro y hy
        rcases List.mem_append.1 hy with hy | hy
        · obtain ⟨k, hk, rfl⟩ := List.mem_map.1 hy
          exact ⟨hx.1, hh.kids k hk⟩
        · exact hC y hy
/-- Is a group to be flat? -/
def fitDec (w : Int) (col : Nat) (st : List LIt) (x : LIt) : Bool :=
  match x.d.flat with
  | none => false
  | some s => decide ((s.length : Int) + behindW (st.map LIt.d) ≤ w - col)
theorem fitDec_spec {w : Int} {col : Nat} {st : List LIt} {x : LIt} {k0 : Doc} (hx : x.d.Fine) (h5 : x.d.kind = 5) (hk : x.d.kids = [k0]) (hst : ∀ y ∈ st, y.flat = false ∧ y.d.Fine) :
    fitDec w col st x = (x.d.flat.isSome && fitsW (w - col) (⟨k0, x.ind, true⟩ :: st)) := by
  have hfl : x.d.flat = if x.d.kind = 1 ∨ x.d.kind = 2 ∨ x.d.kind = 3 then leafOf x.d.kind x.d.text else Doc.flats x.d.kids := by cases x.d; rw [Doc.flat]; rfl
  rw [if_neg (by omega), hk, Doc.flats] at hfl
  unfold fitDec
  cases h : k0.flat with
  | none => rw [h] at hfl; rw [hfl]; rfl
  | some s =>
    rw [h] at hfl
    simp [Doc.flats] at hfl
    rw [hfl]
    have hk0 := hx.has.kids k0 (by rw [hk]; simp)
    simp only [Option.isSome_some, Bool.true_and]
    rw [(fits_flat _).1 k0 (Nat.lt_succ_self _) hk0 s h, fits_behind _ st (Nat.lt_succ_self _) hst]
    exact decide_eq_decide.2 (by omega)
/-- Below what is broken nothing is flat; what is flat has no hard end of a line. -/
def Stk (st : List LIt) : Prop := st.Pairwise (fun x y => x.flat = false → y.flat = false) ∧ ∀ x ∈ st, x.flat = true → x.d.flat.isSome = true
theorem flats_mem {l : List Doc} (h : (Doc.flats l).isSome = true) : ∀ d ∈ l, d.flat.isSome = true := by
  induction l with
  | nil => simp
  | cons u l ih =>
    rw [Doc.flats] at h
    cases h1 : u.flat with
    | none => rw [h1] at h; simp at h
    | some a =>
      rw [h1] at h
      cases h2 : Doc.flats l with
      | none => rw [h2] at h; simp at h
      | some b =>
        intro d hd
        rcases List.mem_cons.1 hd with rfl | hd
        · rw [h1]; rfl
        · exact ih (by rw [h2]; rfl) d hd
theorem Stk.kids {d : Doc} {ind : Nat} {f : Bool} {x : LIt} {st : List LIt} (h : Stk (x :: st)) (hk : ¬ (d.kind = 1 ∨ d.kind = 2 ∨ d.kind = 3)) (hd : f = true → d.flat.isSome = true) (hf : f = false → x.flat = false) : Stk (kidIts d ind f ++ st) := by
  obtain ⟨h1, h2⟩ := h
  rw [List.pairwise_cons] at h1
  have hfl : d.flat = if d.kind = 1 ∨ d.kind = 2 ∨ d.kind = 3 then leafOf d.kind d.text else Doc.flats d.kids := by cases d; rw [Doc.flat]; rfl
  rw [if_neg hk] at hfl
  refine ⟨List.pairwise_append.2 ⟨?_, h1.2, ?_⟩, ?_⟩
  · unfold kidIts
    refine List.pairwise_map.2 (List.pairwise_of_forall ?_)
    intro _ _ h; exact h
  · intro a ha b hb hfa
    obtain ⟨k, _, rfl⟩ := List.mem_map.1 ha
    exact h1.1 b hb (hf hfa)
  · intro y hy hfy
    rcases List.mem_append.1 hy with hy | hy
    · obtain ⟨k, hk, rfl⟩ := List.mem_map.1 hy
      have h9 := hd hfy
      rw [hfl] at h9
      exact flats_mem h9 k hk
    · exact h2 y (by simp [hy]) hfy
theorem Stk.tail {x : LIt} {st : List LIt} (h : Stk (x :: st)) : Stk st := ⟨(List.pairwise_cons.1 h.1).2, fun y hy => h.2 y (by simp [hy])⟩
theorem Stk.below {x : LIt} {st : List LIt} (h : Stk (x :: st)) (hx : x.flat = false) : ∀ y ∈ st, y.flat = false := fun y hy => (List.pairwise_cons.1 h.1).1 y hy hx
end Go.Proofs.Ytfabfkaolnidiaa
