/- Walks and lemmas of this seat (FSpanP): what each theorem says of the functions that it names. Conditions: those that each theorem states. -/
import Derived.Test.YtkelhmgdajiocaaGreatDoorFSpecB
import Derived.Test.YtkelhmgdajiocaaGreatDoorGSF
import Derived.Test.YtkelhmgdajiocaaGreatDoorGB
import Derived.BigQuiet
import Derived.Test.YtkelhmgdajiocaaGreatDoorPSpecT
import Derived.Test.YtkelhmgdajiocaaGreatDoorGP
import Derived.Test.YtkelhmgdajiocaaGreatDoorFSpellB
namespace Go.Proofs.YtkelhmgdajiocaaGreatDoor
set_option linter.unusedVariables false
set_option linter.unusedSimpArgs false
open Go.RowKit Go.Lib

/-! The reference's spans: the list while it is filled, the box, what is promised. -/
def putS (O : List Span) (b : Nat) (S : List Span) : List Span := O.take b ++ (S ++ O.drop (b + S.length))
theorem putS_len {O S : List Span} {b : Nat} (h : b + S.length ≤ O.length) : (putS O b S).length = O.length := by
  unfold putS
  simp only [List.length_append, List.length_take, List.length_drop]
  omega
theorem putS_nil (O : List Span) (b : Nat) : putS O b [] = O := by
  unfold putS; simp
theorem putS_app {O S T : List Span} {b c : Nat} (hc : c = b + S.length) (h : c + T.length ≤ O.length) : putS (putS O b S) c T = putS O b (S ++ T) := by
  subst hc
  unfold putS
  have h1 : (O.take b).length = b := by rw [List.length_take]; omega
  have e1 : (O.take b ++ (S ++ O.drop (b + S.length))).take (b + S.length) = O.take b ++ S := by
    rw [← List.append_assoc, List.take_append_of_le_length (by rw [List.length_append, h1]; exact Nat.le_refl _), List.take_of_length_le (by rw [List.length_append, h1]; exact Nat.le_refl _)]
  have e2 : (O.take b ++ (S ++ O.drop (b + S.length))).drop (b + S.length + T.length) = O.drop (b + (S ++ T).length) := by
    rw [← List.append_assoc, List.drop_append, List.drop_of_length_le (by rw [List.length_append, h1]; omega), List.length_append, h1, List.nil_append, List.drop_drop, List.length_append]
    congr 1
    omega
  rw [e1, e2]
  simp only [List.append_assoc]
theorem putS_at {O S : List Span} {b i : Nat} (hi : b + S.length ≤ i) (hb : b ≤ O.length) : (putS O b S)[i]? = O[i]? := by
  unfold putS
  have h1 : (O.take b).length = b := by rw [List.length_take]; omega
  rw [← List.append_assoc, List.getElem?_append_right (by rw [List.length_append, h1]; exact hi), List.getElem?_drop, List.length_append, h1]
  congr 1
  omega
theorem putS_one {O : List Span} {i : Nat} (hi : i < O.length) (y : Span) : putS O i [y] = O.set i y := by
  unfold putS
  rw [List.set_eq_take_append_cons_drop, if_pos hi]
  rfl
theorem putS_set {O S : List Span} {b i : Nat} (hi : b + S.length ≤ i) (hl : i < O.length) (x : Span) : putS (O.set i x) b S = (putS O b S).set i x := by
  unfold putS
  have h1 : (O.take b).length = b := by rw [List.length_take]; omega
  rw [List.take_set_of_le (by omega), List.drop_set, if_neg (by omega), List.set_append_right _ _ (by omega), h1, List.set_append_right _ _ (by omega), show i - (b + S.length) = i - b - S.length by omega]
/-- A node's span, set at its two ends while its kids are laid. -/
theorem span_done {O S : List Span} {b i : Nat} {x y : Span} (hi : b + S.length = i) (hl : i < O.length) : (putS (O.set i x) b S).set i y = putS O b (S ++ [y]) := by
  rw [putS_set (by omega) hl, List.set_set, ← putS_app (c := i) (by omega) (by simp; omega), putS_one (by rw [putS_len (by omega)]; exact hl)]
theorem span_mid {O S : List Span} {b i : Nat} {x : Span} (hi : b + S.length = i) (hl : i < O.length) : (putS (O.set i x) b S)[i]? = some x := by
  rw [putS_at (by omega) (by simp; omega), List.getElem?_set_self hl]
structure OSt (w0 W : World) (sb g oc : Nat) (a0 : Option Addr) (n cap : Nat) (O : List Span) : Prop where
  hb : Below w0.heap.size w0 W
  hs : w0.heap.size ≤ sb
  hg : w0.heap.size ≤ g
  hne : sb ≠ g
  box : W.heap[sb]? = some (.cells #[.slice a0 n cap, .bool false, .slice (some ⟨g, 0, none⟩) n oc] 87 (0, 0))
  row : W.ownsRow w0.heap.size 70 2 (.slice (some ⟨g, 0, none⟩) n oc) n (O.flatMap Span.cells)
theorem OSt.len {w0 W : World} {sb g oc n cap : Nat} {a0 : Option Addr} {O : List Span} (h : OSt w0 W sb g oc a0 n cap O) : O.length = n := by
  have h1 := h.row.1
  rw [flat_len Span.cells 2 Span.len O] at h1
  omega
theorem OSt.below {w0 W W' : World} {sb g oc n cap : Nat} {a0 : Option Addr} {O : List Span} (h : OSt w0 W sb g oc a0 n cap O) (hb : Below W.heap.size W W') : OSt w0 W' sb g oc a0 n cap O :=
  ⟨h.hb.trans (hb.mono h.hb.size), h.hs, h.hg, h.hne, (hb.block _ (heap_lt h.box)).trans h.box, own_below h.row hb (Nat.le_refl _)⟩
theorem OSt.ltg {w0 W : World} {sb g oc n cap : Nat} {a0 : Option Addr} {O : List Span} (h : OSt w0 W sb g oc a0 n cap O) : g < W.heap.size := (h.row.lt g rfl).2
theorem OSt.set {w0 W : World} {sb g oc n cap : Nat} {a0 : Option Addr} {O O' : List Span} (h : OSt w0 W sb g oc a0 n cap O) (j : Nat) (u : Value) (hO : (O.flatMap Span.cells).set j u = O'.flatMap Span.cells) : OSt w0 (W.setCell ⟨g, j, none⟩ u) sb g oc a0 n cap O' :=
  ⟨h.hb.setCell (p := ⟨g, j, none⟩) h.hg u, h.hs, h.hg, h.hne, (heap_setCell_other W ⟨g, j, none⟩ sb u h.hne).trans h.box, by rw [← hO]; exact (h.row.stored j u).1⟩
theorem span_set0 {O : List Span} {i : Nat} {x : Span} (h : O[i]? = some x) (v : Int) : (O.flatMap Span.cells).set (i * 2) (.int .i64 v) = (O.set i ⟨v, x.hi⟩).flatMap Span.cells := by
  have hi := (List.getElem?_eq_some_iff.1 h).1
  have e : O = O.take i ++ x :: O.drop (i + 1) := by rw [← drop_cons h]; exact (List.take_append_drop i O).symm
  have hl : ((O.take i).flatMap Span.cells).length = i * 2 := by rw [flat_len _ 2 Span.len, List.length_take, Nat.min_eq_left (by omega)]
  rw [show O.set i ⟨v, x.hi⟩ = O.take i ++ ⟨v, x.hi⟩ :: O.drop (i + 1) from by rw [List.set_eq_take_append_cons_drop, if_pos hi]]
  conv => lhs; rw [e]
  rw [List.flatMap_append, List.flatMap_cons, List.set_append_right _ _ (by omega), hl, Nat.sub_self, List.flatMap_append, List.flatMap_cons]
  rfl
theorem span_set1 {O : List Span} {i : Nat} {x : Span} (h : O[i]? = some x) (v : Int) : (O.flatMap Span.cells).set (i * 2 + 1) (.int .i64 v) = (O.set i ⟨x.lo, v⟩).flatMap Span.cells := by
  have hi := (List.getElem?_eq_some_iff.1 h).1
  have e : O = O.take i ++ x :: O.drop (i + 1) := by rw [← drop_cons h]; exact (List.take_append_drop i O).symm
  have hl : ((O.take i).flatMap Span.cells).length = i * 2 := by rw [flat_len _ 2 Span.len, List.length_take, Nat.min_eq_left (by omega)]
  rw [show O.set i ⟨x.lo, v⟩ = O.take i ++ ⟨x.lo, v⟩ :: O.drop (i + 1) from by rw [List.set_eq_take_append_cons_drop, if_pos hi]]
  conv => lhs; rw [e]
  rw [List.flatMap_append, List.flatMap_cons, List.set_append_right _ _ (by omega), hl, show i * 2 + 1 - i * 2 = 1 by omega, List.flatMap_append, List.flatMap_cons]
  rfl
theorem span_get {O : List Span} {i : Nat} {x : Span} (h : O[i]? = some x) (j : Nat) {u : Value} (hu : x.cells[j]? = some u) : (O.flatMap Span.cells)[i * 2 + j]? = some u := flat_get Span.cells 2 Span.len O i j x u h hu
theorem grow_block {W W' : World} {b g : Nat} {o : Obj} (hg : W.grownBy W' (some g)) (h : W.heap[b]? = some o) (hne : b ≠ g) : W'.heap[b]? = some o := (hg.block b (heap_lt h) (fun e => hne (Option.some.inj e))).trans h
theorem grow_cell {W W' : World} {b o g : Nat} {v : Value} (hg : W.grownBy W' (some g)) (h : W.cell? ⟨b, o, none⟩ = some v) (hne : b ≠ g) : W'.cell? ⟨b, o, none⟩ = some v := (World.cell?_of_block (a := ⟨b, o, none⟩) (hg.block b (World.block_lt_of_cell? W _ h) (fun e => hne (Option.some.inj e)))).trans h
theorem below_gr {w w' : World} (h : Below w.heap.size w w') (g : Nat) : w.grownBy w' (some g) := ⟨h.os, h.tape, h.output, h.size, fun i hi _ => h.block i hi⟩
theorem OSt.drew {w0 W : World} {sb g oc n cap : Nat} {a0 : Option Addr} {O : List Span} (h : OSt w0 W sb g oc a0 n cap O) : OSt w0 W.drew sb g oc a0 n cap O := h.below (Below.refl _ _).drew
theorem sp_froz {w : World} {B : Nat} {e : TypeId} {s n cap g : Nat} {xs : List Value} (h : w.ownsRow B e s (.slice (some ⟨g, 0, none⟩) n cap) n xs) (j : Nat) : w.frozen? ⟨g, j, none⟩ = false := by
  rcases h.2 with ⟨e0, _⟩ | ⟨g', cap', cur, he, _, hg, _⟩
  · cases e0
  · injection he with e1 _ _
    injection e1 with e1
    injection e1 with e1
    subst e1
    simp [World.frozen?, hg]
theorem sp_alloc3 (w : World) (o1 o2 o3 : Obj) : (((w.alloc o1).alloc o2).alloc o3).heap[w.heap.size]? = some o1 ∧ (((w.alloc o1).alloc o2).alloc o3).heap[w.heap.size + 1]? = some o2 ∧ (((w.alloc o1).alloc o2).alloc o3).heap[w.heap.size + 1 + 1]? = some o3 := by
  have h1 := heap_alloc_new w o1
  have h2 := heap_alloc_new (w.alloc o1) o2
  have h3 := heap_alloc_new ((w.alloc o1).alloc o2) o3
  simp only [World.size_alloc] at h2 h3
  have hb : ∀ W : World, ∀ b, b < W.heap.size → ∀ o, (W.alloc o).heap[b]? = W.heap[b]? := fun W b hb o => Below.heap_alloc W o b hb
  refine ⟨?_, ?_, h3⟩
  · rw [hb _ _ (by simp <;> omega), hb _ _ (by simp), h1]
  · rw [hb _ _ (by simp), h2]
def SpanPost (w0 W : World) (sb g oc : Nat) (a0 : Option Addr) (n cap : Nat) (O : List Span) (m : Nat) (e : Ending) (w' : World) : Prop := e = .returned (.int .i64 (m : Nat)) ∧ W.grownBy w' (some g) ∧ OSt w0 w' sb g oc a0 n cap O
def LNodeC (w0 : World) (l0 : List Node) (a0 : Option Addr) (cap sb g oc : Nat) (s : List Nat) (i : Nat) : Prop := ∀ (p : Pos) (W : World) (O : List Span) (at_ : Nat), posOkB p = true → OSt w0 W sb g oc a0 l0.length cap O → at_ + 8 * (treeIx l0 i).post.length ≤ 100002 →
  Calls Tryz.prog 80 #[.pointer (some ⟨sb, 0, none⟩), .int .i64 (i : Nat), .agg #[.int .i64 p.level, .bool p.dollar, .bool p.noIn, .bool p.noGt, .bool p.noSign], .int .i64 (at_ : Nat)] W fun e w' => SpanPost w0 W sb g oc a0 l0.length cap (putS O (s.getD i 0) ((treeIx l0 i).spB false p at_)) (at_ + ((treeIx l0 i).tkb false p).length) e w'
def LAtC (w0 : World) (l0 : List Node) (a0 : Option Addr) (cap sb g oc : Nat) (s : List Nat) (i : Nat) : Prop := ∀ (p : Pos) (W : World) (O : List Span) (at_ : Nat), posOkB p = true → OSt w0 W sb g oc a0 l0.length cap O → at_ + 8 * (treeIx l0 i).post.length ≤ 100000 →
  Calls Tryz.prog 62 #[.pointer (some ⟨sb, 0, none⟩), .int .i64 (i : Nat), .agg #[.int .i64 p.level, .bool p.dollar, .bool p.noIn, .bool p.noGt, .bool p.noSign], .int .i64 (at_ : Nat)] W fun e w' => SpanPost w0 W sb g oc a0 l0.length cap (putS O (s.getD i 0) ((treeIx l0 i).spS false p at_)) (at_ + ((treeIx l0 i).tks false p).length) e w'
end Go.Proofs.YtkelhmgdajiocaaGreatDoor
/- Walks and lemmas of this seat (FSpanL): what each theorem says of the functions that it names. Conditions: those that each theorem states. -/
namespace Go.Proofs.YtkelhmgdajiocaaGreatDoor
set_option linter.unusedVariables false
set_option linter.unusedSimpArgs false
open Go.RowKit Go.Lib

/-! The spans of a list of kids, with commas between. -/
def lspS : Nat → List Tree → Nat → List Span
  | _, [], _ => []
  | k, u :: l, a => u.spS false posTop (if 0 < k then a + 1 else a) ++ lspS (k + 1) l ((if 0 < k then a + 1 else a) + (u.tks false posTop).length)
def lspE : Nat → List Tree → Nat → Nat
  | _, [], a => a
  | k, u :: l, a => lspE (k + 1) l ((if 0 < k then a + 1 else a) + (u.tks false posTop).length)
def spTop : Nat → List Tree → List (List Span)
  | _, [] => []
  | a, u :: l => u.spS false posTop a :: spTop (a + (u.tks false posTop).length + 1) l
theorem lspS_pos : ∀ (l : List Tree) (k a : Nat), lspS (k + 1) l a = (spTop (a + 1) l).flatten := by
  intro l
  induction l with
  | nil => intro k a; rfl
  | cons u l ih => intro k a; rw [lspS, spTop, if_pos (Nat.succ_pos _), ih, List.flatten_cons]
theorem lspS_zero (l : List Tree) (a : Nat) : lspS 0 l a = (spTop a l).flatten := by
  cases l with
  | nil => rfl
  | cons u l => rw [lspS, spTop, if_neg (Nat.lt_irrefl 0), lspS_pos, List.flatten_cons]
theorem lspE_pos : ∀ (l : List Tree) (k a : Nat), lspE (k + 1) l a = a + ((l.map fun u => u.tks false posTop).flatMap fun y => sgn 36 :: y).length := by
  intro l
  induction l with
  | nil => intro k a; simp [lspE]
  | cons u l ih =>
    intro k a
    rw [lspE, if_pos (Nat.succ_pos _), ih, List.map_cons, List.flatMap_cons, List.length_append, List.length_cons]
    omega
theorem lspE_zero (l : List Tree) (a : Nat) : lspE 0 l a = a + (commas (l.map fun u => u.tks false posTop)).length := by
  cases l with
  | nil => rfl
  | cons u l =>
    rw [lspE, if_neg (Nat.lt_irrefl 0), lspE_pos, List.map_cons]
    simp only [commas, List.length_append]
    omega
theorem lspS_len : ∀ (l : List Tree) (k a : Nat), (lspS k l a).length = (l.map fun u => u.post.length).sum := by
  intro l
  induction l with
  | nil => intro k a; rfl
  | cons u l ih => intro k a; rw [lspS, List.length_append, u.spS_len, ih, List.map_cons, List.sum_cons]
theorem sum_eight {α : Type} (f : α → Nat) : ∀ l : List α, (l.map fun q => 8 * f q).sum = 8 * (l.map f).sum := by
  intro l
  induction l with
  | nil => rfl
  | cons x l ih => rw [List.map_cons, List.map_cons, List.sum_cons, List.sum_cons, ih]; omega
theorem lspE_bd (ks : List Int) (l0 : List Node) (h : ∀ q ∈ ks, ((treeIx l0 q.toNat).tks false posTop).length + 2 ≤ 8 * (treeIx l0 q.toNat).post.length) : (commas ((ks.map fun q => treeIx l0 q.toNat).map fun u => u.tks false posTop)).length ≤ (ks.map fun q => 8 * (treeIx l0 q.toNat).post.length).sum := by
  have h1 : ∀ l : List Int, (∀ q ∈ l, ((treeIx l0 q.toNat).tks false posTop).length + 2 ≤ 8 * (treeIx l0 q.toNat).post.length) → sumLen ((l.map fun q => treeIx l0 q.toNat).map fun u => u.tks false posTop) + l.length ≤ (l.map fun q => 8 * (treeIx l0 q.toNat).post.length).sum := by
    intro l
    induction l with
    | nil => intro _; simp [sumLen]
    | cons x l ih =>
      intro hx
      have h3 := ih fun q hq => hx q (by simp [hq])
      have h4 := hx x (by simp)
      rw [List.map_cons, List.map_cons, sumLen_cons, List.length_cons, List.map_cons, List.sum_cons]
      omega
  have h2 := commas_len ((ks.map fun q => treeIx l0 q.toNat).map fun u => u.tks false posTop)
  have h3 := h1 ks h
  rw [List.length_map, List.length_map] at h2
  omega
theorem spL_top {k o : Int} {n : Nat} {p : Pos} (hp : posOkB p = true) (hl0 : levelB k o ≠ 0) (hl : levelB k o = 15 ∨ (k = 13 ∧ 1 < (n : Int))) (hno : ∀ j : Nat, isTargetB k j = false) (hs : sepLen k o = 1) : ∀ (l : List Tree) (j a : Nat), j + l.length = n → Tree.spL false k o n p j a l = spTop a l := by
  intro l
  induction l with
  | nil => intro j a _; rw [Tree.spL, spTop]
  | cons u l ih =>
    intro j a hj
    simp only [List.length_cons] at hj
    have hpos : kidPosB k o n j p = posTop := by rw [kidPos_eq hp (by omega) hl0, if_pos hl]
    have e1 : kidTk false k o n p j u = u.tks false posTop := by rw [kidTk_plain false _ _ _ _ _ (hno j), hpos]
    have e2 : kidSp false k o n p j u a = u.spS false posTop a := by
      unfold kidSp; rw [hno j, hpos]; simp
    rw [Tree.spL_cons, e1, e2, hs, ih (j + 1) _ (by omega), spTop]
/-- Where a node's part begins. -/
theorem span_seg {l : List Node} (h : shapeOk (l.map Node.kids) = true) {s : List Nat} (hs : starts (l.map Node.kids) = some s) {j : Nat} (hj : j < l.length) : s.getD j 0 + (treeIx l j).post.length = j + 1 := by
  have h1 := part_count h hj
  have h2 := (tree_post (treeIx l j)).1
  rw [← part_add h hj] at h2
  have h3 : startAt l (j : Int) = ((s.getD j 0 : Nat) : Int) := by
    unfold startAt
    rw [if_pos (by unfold startAt.inPartB; rw [h]; simp; omega), hs]
    simp
  rw [h3] at h1
  omega
set_option maxRecDepth 100000 in
set_option maxHeartbeats 6400000 in
theorem specl30List_any {w0 : World} {l0 : List Node} {a0 : Option Addr} {cap sb g oc : Nat} {s : List Nat} (ks : List Int) (ka : Option Addr) (kc b en : Nat) (hks : ∀ q ∈ ks, 0 ≤ q ∧ LAtC w0 l0 a0 cap sb g oc s q.toNat ∧ s.getD q.toNat 0 + (treeIx l0 q.toNat).post.length = q.toNat + 1 ∧ q.toNat < l0.length) (hn : ks.length ≤ 10) (htile : Tiles s ks b en) (hk0 : Slc w0 (.slice ka ks.length kc) 1 ks.length (ks.flatMap int1)) (W : World) (O : List Span) (at_ : Nat) (hO : OSt w0 W sb g oc a0 l0.length cap O) (hat : at_ + (ks.map fun q => 8 * (treeIx l0 q.toNat).post.length).sum ≤ 100000) :
    Calls Tryz.prog 108 #[.pointer (some ⟨sb, 0, none⟩), .slice ka ks.length kc, .int .i64 (at_ : Nat)] W fun e w' => SpanPost w0 W sb g oc a0 l0.length cap (putS O b (lspS 0 (ks.map fun q => treeIx l0 q.toNat) at_)) (lspE 0 (ks.map fun q => treeIx l0 q.toNat) at_) e w' := by
  obtain ⟨_, ka', kc', he, hc, hm, hrow⟩ := hk0
  injection he with e1 _ e3
  subst e1; subst e3
  unfold maxLen at hm
  unfold SpanPost
  obtain ⟨T, hT⟩ : ∃ T, T = ks.map fun q => treeIx l0 q.toNat := ⟨_, rfl⟩
  rw [← hT]
  have hTl : T.length = ks.length := by rw [hT, List.length_map]
  have hTa : ∀ (j : Nat) (q : Int), ks[j]? = some q → T[j]? = some (treeIx l0 q.toNat) := fun j q h => by rw [hT, List.getElem?_map, h]; rfl
  have hks2 := hid hks
  have hrow2 := hid hrow
  have hn2 := hid hn
  have hTl2 := hid hTl
  have hTa2 := hid hTa
  have hO0 := hid hO
  have hOlen := hid hO.len
  have hti := hid htile
  have hat2 := hid hat
  clear hT hTl hTa hks hrow hn hO htile hat
  go_enter Tryz.func108, Tryz.ntmps108
  go_wp2
  go_loopw [2, 7] (fun av kv wr => ∃ (j aj bj : Nat) (A : List Span), av = .int .i64 aj ∧ kv = .int .i64 j ∧ j ≤ ks.length ∧ Hid (W.grownBy wr (some g)) ∧ Hid (OSt w0 wr sb g oc a0 l0.length cap (putS O b A)) ∧ Hid (b + A.length = bj ∧ Tiles s (ks.drop j) bj en) ∧ Hid (lspS 0 T at_ = A ++ lspS j (T.drop j) aj ∧ lspE 0 T at_ = lspE j (T.drop j) aj) ∧ Hid ((if 0 < j then aj + 1 else aj) + ((ks.drop j).map fun q => 8 * (treeIx l0 q.toNat).post.length).sum ≤ 100000)) (fun _ kv _ => ks.length - (RowKit.intOf kv).toNat)
  case atStart => exact ⟨0, at_, b, [], rfl, rfl, by omega, hid (grown_refl _ _), hid (by rw [putS_nil]; exact hO0.out), hid ⟨by simp, by rw [List.drop_zero]; exact hti.out⟩, hid ⟨by rw [List.drop_zero, List.nil_append], by rw [List.drop_zero]⟩, hid (by rw [List.drop_zero, if_neg (Nat.lt_irrefl 0)]; exact hat2.out)⟩
  clear hO0 hti hat2
  obtain ⟨j, aj, bj, A, rfl, rfl, hj, hgr, hOr, htl, hls, hab⟩ := hrel
  by_cases hlt : j < ks.length
  · obtain ⟨q, hq⟩ := get_of_lt hlt
    obtain ⟨kb, koff, rfl, hro⟩ := slc_some hrow2.out (by omega)
    obtain ⟨hq0, hatc, hseg, hql⟩ := hks2.out q (List.mem_of_getElem? hq)
    obtain ⟨m, rfl⟩ : ∃ m : Nat, q = (m : Int) := ⟨q.toNat, by omega⟩
    have hix : (((m : Nat) : Int)).toNat = m := by simp
    have hTj := hTa2.out j _ hq
    rw [hix] at hatc hseg hql hTj
    have hdr := drop_cons hq
    have hdT := drop_cons hTj
    have htl1 := htl.out
    rw [hdr] at htl1
    obtain ⟨hb1, jj, hjj, hbj, hje, hti2⟩ := htl1
    obtain rfl : m = jj := by omega
    obtain ⟨a', ha'⟩ : ∃ a', a' = if 0 < j then aj + 1 else aj := ⟨_, rfl⟩
    have hls1 := hls.out
    rw [hdT, lspS, lspE, ← ha'] at hls1
    have hab1 := hab.out
    rw [hdr, List.map_cons, List.sum_cons, hix, ← ha'] at hab1
    have htlen := (treeIx l0 m).tks_len false posTop
    have hsl := fun a => (treeIx l0 m).spS_len false posTop a
    have hkc := hid (fun W' (h : Below w0.heap.size w0 W') => (hro.mono h (Nat.le_refl _)).one int1_len hq rfl)
    have hji : (j : Int) < (ks.length : Int) := by omega
    have hcall := hid (fun W' (hO' : OSt w0 W' sb g oc a0 l0.length cap (putS O b A)) => show Calls Tryz.prog 62 #[.pointer (some ⟨sb, 0, none⟩), .int .i64 (m : Nat), posTop.val, .int .i64 (a' : Nat)] W' fun e w' => SpanPost w0 W' sb g oc a0 l0.length cap (putS (putS O b A) (s.getD m 0) ((treeIx l0 m).spS false posTop a')) (a' + ((treeIx l0 m).tks false posTop).length) e w' from hatc posTop W' (putS O b A) a' posOk_top hO' (by omega))
    have hput : putS (putS O b A) (s.getD m 0) ((treeIx l0 m).spS false posTop a') = putS O b (A ++ (treeIx l0 m).spS false posTop a') := putS_app (by omega) (by
      have h1 := hsl a'
      have h4 := hOlen.out
      omega)
    have hbn : b + (A ++ (treeIx l0 m).spS false posTop a').length = m + 1 := by
      rw [List.length_append, hsl a']
      omega
    rw [hput] at hcall
    have hnx := hid (show (b + (A ++ (treeIx l0 m).spS false posTop a').length = m + 1 ∧ Tiles s (ks.drop (j + 1)) (m + 1) en) ∧ (lspS 0 T at_ = (A ++ (treeIx l0 m).spS false posTop a') ++ lspS (j + 1) (T.drop (j + 1)) (a' + ((treeIx l0 m).tks false posTop).length) ∧ lspE 0 T at_ = lspE (j + 1) (T.drop (j + 1)) (a' + ((treeIx l0 m).tks false posTop).length)) ∧ ((if 0 < j + 1 then a' + ((treeIx l0 m).tks false posTop).length + 1 else a' + ((treeIx l0 m).tks false posTop).length) + ((ks.drop (j + 1)).map fun q => 8 * (treeIx l0 q.toNat).post.length).sum ≤ 100000) from ⟨⟨hbn, hti2⟩, ⟨by rw [hls1.1, List.append_assoc], hls1.2⟩, by rw [if_pos (Nat.succ_pos _)]; omega⟩)
    have haj : aj ≤ 100000 := by split at ha' <;> omega
    unfold SpanPost at hcall
    replace ha' := hid ha'
    have hOr2 := hid hOr.out
    obtain ⟨en2, hen2⟩ : ∃ en2, en2 = a' + ((treeIx l0 m).tks false posTop).length := ⟨_, rfl⟩
    rw [← hen2] at hcall hnx
    generalize (treeIx l0 m).spS false posTop a' = S1 at *
    clear hen2 hq hro hatc hseg hql hTj hdr hdT hb1 hbj hti2 hls1 hab1 htlen hsl htl hls hab hq0 hix hje hput hbn hOr
    by_cases hj0 : 0 < j
    · have hw : IntKind.wrap .i64 ((aj : Int) + 1) = (a' : Int) := by rw [wrap_in _ (by unfold I64; omega), ha'.out, if_pos hj0]; omega
      have hji0 : (0 : Int) < (j : Int) := by omega
      go_wp2_with fail
      have hX0 := hOr2.out.hb.drew
      go_region_held3 (fun W' => W'.cell? ⟨kb, koff + j, none⟩ = some (.int .i64 (m : Nat)))
        (first
          | (refine hkc.out _ ?_
             with_reducible (first
               | exact hX0
               | exact hX1
               | exact hX2)))
        (first
          | (go_at_call 56; refine (specTop_any _).mono ?_; rintro e wt ⟨rfl, hbt0⟩; have hbt : Below wr.heap.size wr wt := ((Below.refl wr.heap.size wr).drew).trans (hbt0.mono (Nat.le_refl _)); have hOt := hOr2.out.below hbt; have hX1 := hOt.hb)
          | (go_at_call 62; refine (hcall.out _ hOt).mono ?_; rintro e w3 ⟨rfl, hg3, hO3⟩; have hX2 := hO3.hb))
      all_goals
        have hO4 := hid hO3
        have hg4 := hid (grown_trans (grown_trans hgr.out (below_gr hbt g)) hg3)
        clear hO3 hg3 hbt hbt0 hOt hX0 hX1 hX2
        go_wp2
        go_roundw
      all_goals first
        | exact ⟨j + 1, en2, m + 1, A ++ S1, rfl, by go_num, by omega, hg4, hO4, hid hnx.out.1, hid hnx.out.2.1, hid hnx.out.2.2⟩
        | (simp [RowKit.intOf]; omega)
    · obtain rfl : j = 0 := by omega
      obtain rfl : a' = aj := by rw [ha'.out, if_neg (Nat.lt_irrefl 0)]
      go_wp2_with fail
      have hX0 := hOr2.out.hb.drew
      go_region_held3 (fun W' => W'.cell? ⟨kb, koff, none⟩ = some (.int .i64 (m : Nat)))
        (first
          | (refine hkc.out _ ?_
             with_reducible (first
               | exact hX0
               | exact hX1
               | exact hX2)))
        (first
          | (go_at_call 56; refine (specTop_any _).mono ?_; rintro e wt ⟨rfl, hbt0⟩; have hbt : Below wr.heap.size wr wt := ((Below.refl wr.heap.size wr).drew).trans (hbt0.mono (Nat.le_refl _)); have hOt := hOr2.out.below hbt; have hX1 := hOt.hb)
          | (go_at_call 62; refine (hcall.out _ hOt).mono ?_; rintro e w3 ⟨rfl, hg3, hO3⟩; have hX2 := hO3.hb))
      all_goals
        have hO4 := hid hO3
        have hg4 := hid (grown_trans (grown_trans hgr.out (below_gr hbt g)) hg3)
        clear hO3 hg3 hbt hbt0 hOt hX0 hX1 hX2
        go_wp2
        go_roundw
      all_goals first
        | exact ⟨0 + 1, en2, m + 1, A ++ S1, rfl, by go_num, by omega, hg4, hO4, hid hnx.out.1, hid hnx.out.2.1, hid hnx.out.2.2⟩
        | (simp [RowKit.intOf]; omega)
  · obtain rfl : j = ks.length := by omega
    have hls1 := hls.out
    rw [List.drop_of_length_le (by rw [hTl2.out]; exact Nat.le_refl _), lspS, lspE, List.append_nil] at hls1
    have hfin := hid (show W.grownBy wr (some g) ∧ OSt w0 wr sb g oc a0 l0.length cap (putS O b (lspS 0 T at_)) ∧ lspE 0 T at_ = aj from ⟨hgr.out, by rw [hls1.1]; exact hOr.out, hls1.2⟩)
    clear hls1 hls htl hab hgr hOr
    go_wp2
    go_ret
    exact ⟨ret_int (by rw [hfin.out.2.2]), hfin.out.1, hfin.out.2.1⟩
end Go.Proofs.YtkelhmgdajiocaaGreatDoor
/- Walks and lemmas of this seat (FSpanT): what each theorem says of the functions that it names. Conditions: those that each theorem states. -/
namespace Go.Proofs.YtkelhmgdajiocaaGreatDoor
set_option linter.unusedVariables false
set_option linter.unusedSimpArgs false
open Go.RowKit

/-! The spans of a tree, kind by kind. Plain. -/
theorem kidSp_plain {k : Int} (o : Int) (n : Nat) (p : Pos) (j : Nat) (u : Tree) (a : Nat) (h : isTargetB k j = false) : kidSp false k o n p j u a = u.spS false (kidPosB k o n j p) a := by
  unfold kidSp; rw [h]; simp
theorem sp_of {t : Tree} {p : Pos} {at_ L : Nat} {S : List Span} (h : (t.tkb false p).length = L) (h2 : (t.kidSps false p at_).flatten = S) : t.spB false p at_ = S ++ [⟨at_, ((at_ + L : Nat) : Int)⟩] ∧ (t.tkb false p).length = L := by
  refine ⟨?_, h⟩
  rw [t.spB_eq, h, h2]
theorem leaf_sps (k o : Int) (a b : ByteArray) (p : Pos) (at_ : Nat) : ((Tree.mk k o a b []).kidSps false p at_).flatten = [] := by
  unfold Tree.kidSps; rw [show (Tree.mk k o a b []).kids = [] from rfl, Tree.spL]; rfl
theorem spk_1 (o : Int) (a b : ByteArray) (p : Pos) (at_ : Nat) : Tree.spB false (.mk 1 o a b []) p at_ = [] ++ [⟨at_, ((at_ + (1) : Nat) : Int)⟩] ∧ (Tree.tkb false (.mk 1 o a b []) p).length = 1 := sp_of (by rw [tkb_1]; rfl) (leaf_sps ..)
theorem spk_2 (o : Int) (a b : ByteArray) (p : Pos) (at_ : Nat) : Tree.spB false (.mk 2 o a b []) p at_ = [] ++ [⟨at_, ((at_ + (1) : Nat) : Int)⟩] ∧ (Tree.tkb false (.mk 2 o a b []) p).length = 1 := sp_of (by rw [tkb_2]; rfl) (leaf_sps ..)
theorem spk_3 (o : Int) (a b : ByteArray) (p : Pos) (at_ : Nat) : Tree.spB false (.mk 3 o a b []) p at_ = [] ++ [⟨at_, ((at_ + (1) : Nat) : Int)⟩] ∧ (Tree.tkb false (.mk 3 o a b []) p).length = 1 := sp_of (by rw [tkb_3]; rfl) (leaf_sps ..)
theorem spk_4 (o : Int) (a b : ByteArray) (p : Pos) (at_ : Nat) : Tree.spB false (.mk 4 o a b []) p at_ = [] ++ [⟨at_, ((at_ + (1) : Nat) : Int)⟩] ∧ (Tree.tkb false (.mk 4 o a b []) p).length = 1 := sp_of (by rw [tkb_4]; rfl) (leaf_sps ..)
theorem flat1 {α : Type} (x : List α) : [x].flatten = x := by simp
theorem flat2 {α : Type} (x y : List α) : [x, y].flatten = x ++ y := by simp
theorem flat3 {α : Type} (x y z : List α) : [x, y, z].flatten = (x ++ y) ++ z := by simp
theorem spk_6 (o : Int) (a b : ByteArray) (u : Tree) (p : Pos) (at_ : Nat) : Tree.spB false (.mk 6 o a b [u]) p at_ = (Tree.spS false u (kidPosB 6 o 1 0 p) (at_ + 1)) ++ [⟨at_, ((at_ + ((Tree.tks false u (kidPosB 6 o 1 0 p)).length + 1) : Nat) : Int)⟩] ∧ (Tree.tkb false (.mk 6 o a b [u]) p).length = (Tree.tks false u (kidPosB 6 o 1 0 p)).length + 1 :=
  sp_of (by rw [tkb_6]; rfl) (by rw [kidSps1, flat1, kidSp_plain _ _ _ _ _ _ (by decide)]; rfl)
theorem spk_11 (o : Int) (a b : ByteArray) (u : Tree) (p : Pos) (at_ : Nat) : Tree.spB false (.mk 11 o a b [u]) p at_ = (Tree.spS false u (kidPosB 11 o 1 0 p) (at_ + 1)) ++ [⟨at_, ((at_ + ((Tree.tks false u (kidPosB 11 o 1 0 p)).length + 1) : Nat) : Int)⟩] ∧ (Tree.tkb false (.mk 11 o a b [u]) p).length = (Tree.tks false u (kidPosB 11 o 1 0 p)).length + 1 :=
  sp_of (by rw [tkb_11]; rfl) (by rw [kidSps1, flat1, kidSp_plain _ _ _ _ _ _ (by decide)]; rfl)
theorem spk_13a (o : Int) (a b : ByteArray) (u : Tree) (p : Pos) (at_ : Nat) : Tree.spB false (.mk 13 o a b [u]) p at_ = (Tree.spS false u (kidPosB 13 o 1 0 p) (at_)) ++ [⟨at_, ((at_ + ((Tree.tks false u (kidPosB 13 o 1 0 p)).length + 2) : Nat) : Int)⟩] ∧ (Tree.tkb false (.mk 13 o a b [u]) p).length = (Tree.tks false u (kidPosB 13 o 1 0 p)).length + 2 :=
  sp_of (by rw [tkb_13a, List.length_append]; rfl) (by rw [kidSps1, flat1, kidSp_plain _ _ _ _ _ _ (by decide)]; rfl)
theorem spk_9 {o : Int} {a b : ByteArray} {u : Tree} {p : Pos} (hp : posOkB p = true) (he : (Tree.mk 9 o a b [u]).Ex) (at_ : Nat) : Tree.spB false (.mk 9 o a b [u]) p at_ = (Tree.spB false u posLv (at_ + 1)) ++ [⟨at_, ((at_ + ((Tree.tkb false u posLv).length + 1) : Nat) : Int)⟩] ∧ (Tree.tkb false (.mk 9 o a b [u]) p).length = (Tree.tkb false u posLv).length + 1 :=
  sp_of (by rw [tkb_9 hp he]; rfl) (by
    have h : kidSp false 9 o 1 p 0 u (at_ + 1) = u.spB false posLv (at_ + 1) := target_sp he (.inl rfl) rfl hp _
    rw [kidSps1, flat1]; exact h)
theorem spk_10 {o : Int} {a b : ByteArray} {u : Tree} {p : Pos} (hp : posOkB p = true) (he : (Tree.mk 10 o a b [u]).Ex) (at_ : Nat) : Tree.spB false (.mk 10 o a b [u]) p at_ = (Tree.spB false u posLv (at_)) ++ [⟨at_, ((at_ + ((Tree.tkb false u posLv).length + 1) : Nat) : Int)⟩] ∧ (Tree.tkb false (.mk 10 o a b [u]) p).length = (Tree.tkb false u posLv).length + 1 :=
  sp_of (by rw [tkb_10 hp he, List.length_append]; rfl) (by
    have h : kidSp false 10 o 1 p 0 u (at_ + 0) = u.spB false posLv (at_ + 0) := target_sp he (.inr (.inl rfl)) rfl hp _
    rw [kidSps1, flat1]; exact h)
theorem spk_12 {o : Int} (ho : o ≠ 99) (a b : ByteArray) (u v : Tree) (p : Pos) (at_ : Nat) : Tree.spB false (.mk 12 o a b [u, v]) p at_ = (Tree.spS false u (kidPosB 12 o 2 0 p) (at_) ++ Tree.spS false v (kidPosB 12 o 2 1 p) (at_ + (Tree.tks false u (kidPosB 12 o 2 0 p)).length + 1)) ++ [⟨at_, ((at_ + ((Tree.tks false u (kidPosB 12 o 2 0 p)).length + 1 + (Tree.tks false v (kidPosB 12 o 2 1 p)).length) : Nat) : Int)⟩] ∧ (Tree.tkb false (.mk 12 o a b [u, v]) p).length = (Tree.tks false u (kidPosB 12 o 2 0 p)).length + 1 + (Tree.tks false v (kidPosB 12 o 2 1 p)).length :=
  sp_of (by rw [tkb_12, if_neg ho]; simp only [List.length_append, List.length_singleton]; omega) (by
    have hs : sepLen 12 o = 1 := by unfold sepLen; rw [if_neg fun h => ho h.2]
    rw [kidSps2, flat2, kidTk_plain false _ _ _ _ _ (by decide), kidSp_plain _ _ _ _ _ _ (by decide), kidSp_plain _ _ _ _ _ _ (by decide), hs]; rfl)
theorem spk_99 (a b : ByteArray) (u v : Tree) (p : Pos) (at_ : Nat) : Tree.spB false (.mk 12 99 a b [u, v]) p at_ = (Tree.spS false u (kidPosB 12 99 2 0 p) (at_) ++ Tree.spS false v (kidPosB 12 99 2 1 p) (at_ + (Tree.tks false u (kidPosB 12 99 2 0 p)).length)) ++ [⟨at_, ((at_ + ((Tree.tks false u (kidPosB 12 99 2 0 p)).length + (Tree.tks false v (kidPosB 12 99 2 1 p)).length) : Nat) : Int)⟩] ∧ (Tree.tkb false (.mk 12 99 a b [u, v]) p).length = (Tree.tks false u (kidPosB 12 99 2 0 p)).length + (Tree.tks false v (kidPosB 12 99 2 1 p)).length :=
  sp_of (by rw [tkb_12, if_pos rfl]; simp only [List.length_append, List.nil_append]) (by
    have hs : sepLen 12 99 = 0 := by decide
    rw [kidSps2, flat2, kidTk_plain false _ _ _ _ _ (by decide), kidSp_plain _ _ _ _ _ _ (by decide), kidSp_plain _ _ _ _ _ _ (by decide), hs]; rfl)
theorem spk_15 {o : Int} {a b : ByteArray} {u v : Tree} {p : Pos} (hp : posOkB p = true) (he : (Tree.mk 15 o a b [u, v]).Ex) (at_ : Nat) : Tree.spB false (.mk 15 o a b [u, v]) p at_ = (Tree.spB false u posLv (at_) ++ Tree.spS false v (kidPosB 15 o 2 1 p) (at_ + (Tree.tkb false u posLv).length + 1)) ++ [⟨at_, ((at_ + ((Tree.tkb false u posLv).length + 1 + (Tree.tks false v (kidPosB 15 o 2 1 p)).length) : Nat) : Int)⟩] ∧ (Tree.tkb false (.mk 15 o a b [u, v]) p).length = (Tree.tkb false u posLv).length + 1 + (Tree.tks false v (kidPosB 15 o 2 1 p)).length :=
  sp_of (by rw [tkb_15 hp he]; simp only [List.length_append, List.length_singleton]) (by
    have ho : o ≠ 99 := by
      have := ((Tree.ex_eq _).1 he).2.1.2.2.2.1 rfl
      simp only [Tree.op] at this
      omega
    have hs : sepLen 15 o = 1 := by unfold sepLen; rw [if_neg fun h => ho h.2]
    have h : kidSp false 15 o 2 p 0 u (at_ + 0) = u.spB false posLv (at_ + 0) := target_sp he (.inr (.inr rfl)) rfl hp _
    have h2 : kidTk false 15 o 2 p 0 u = u.tkb false posLv := target_eq he (.inr (.inr rfl)) rfl hp
    rw [kidSps2, flat2, show headLen 15 2 = 0 from rfl, h, h2, kidSp_plain _ _ _ _ _ _ (by decide), hs]; rfl)
theorem spk_14 (o : Int) (a b : ByteArray) (u v x : Tree) (p : Pos) (at_ : Nat) : Tree.spB false (.mk 14 o a b [u, v, x]) p at_ = ((Tree.spS false u (kidPosB 14 o 3 0 p) (at_) ++ Tree.spS false v (kidPosB 14 o 3 1 p) (at_ + (Tree.tks false u (kidPosB 14 o 3 0 p)).length + 1)) ++ Tree.spS false x (kidPosB 14 o 3 2 p) (at_ + (Tree.tks false u (kidPosB 14 o 3 0 p)).length + 1 + (Tree.tks false v (kidPosB 14 o 3 1 p)).length + 1)) ++ [⟨at_, ((at_ + ((Tree.tks false u (kidPosB 14 o 3 0 p)).length + 1 + (Tree.tks false v (kidPosB 14 o 3 1 p)).length + 1 + (Tree.tks false x (kidPosB 14 o 3 2 p)).length) : Nat) : Int)⟩] ∧ (Tree.tkb false (.mk 14 o a b [u, v, x]) p).length = (Tree.tks false u (kidPosB 14 o 3 0 p)).length + 1 + (Tree.tks false v (kidPosB 14 o 3 1 p)).length + 1 + (Tree.tks false x (kidPosB 14 o 3 2 p)).length :=
  sp_of (by rw [tkb_14]; simp only [List.length_append, List.length_cons]; omega) (by
    have hs : sepLen 14 o = 1 := by unfold sepLen; rw [if_neg fun h => by omega]
    rw [kidSps3, flat3, kidTk_plain false _ _ _ _ _ (by decide), kidTk_plain false _ _ _ _ _ (by decide), kidSp_plain _ _ _ _ _ _ (by decide), kidSp_plain _ _ _ _ _ _ (by decide), kidSp_plain _ _ _ _ _ _ (by decide), hs]; rfl)
theorem list_sps {k o : Int} {a b : ByteArray} {l : List Tree} {p : Pos} (hp : posOkB p = true) (he : (Tree.mk k o a b l).Ex) (hk : k = 5 ∨ k = 7 ∨ k = 8 ∨ (k = 13 ∧ 1 < l.length)) (at_ : Nat) : ((Tree.mk k o a b l).kidSps false p at_).flatten = lspS 0 l (at_ + headLen k l.length) := by
  obtain ⟨ha, hops, _⟩ := ((Tree.mk k o a b l).ex_eq).1 he
  have hl0 : levelB k o ≠ 0 := levelB_pos ha.1 hops.2.2.1
  rw [lspS_zero]
  unfold Tree.kidSps
  congr 1
  refine spL_top hp hl0 ?_ ?_ ?_ _ _ _ (Nat.zero_add _)
  · rcases hk with rfl | rfl | rfl | ⟨rfl, h⟩
    · exact .inl rfl
    · exact .inl rfl
    · exact .inl rfl
    · exact .inr ⟨rfl, by show (1 : Int) < (l.length : Int); omega⟩
  · intro j
    show isTargetB k j = false
    unfold isTargetB
    simp
    omega
  · show sepLen k o = 1
    unfold sepLen
    rw [if_neg (by omega)]
theorem spk_5 {o : Int} {a b : ByteArray} {l : List Tree} {p : Pos} (hp : posOkB p = true) (he : (Tree.mk 5 o a b l).Ex) (at_ : Nat) : Tree.spB false (.mk 5 o a b l) p at_ = (lspS 0 l (at_ + 2)) ++ [⟨at_, ((at_ + (2 + (commas (l.map fun u => u.tks false posTop)).length + 1) : Nat) : Int)⟩] ∧ (Tree.tkb false (.mk 5 o a b l) p).length = 2 + (commas (l.map fun u => u.tks false posTop)).length + 1 :=
  sp_of (by rw [tkb_5 hp he]; simp only [List.length_append, List.length_cons, List.length_nil]; omega) (list_sps hp he (.inl rfl) at_)
theorem spk_7 {o : Int} {a b : ByteArray} {l : List Tree} {p : Pos} (hp : posOkB p = true) (he : (Tree.mk 7 o a b l).Ex) (at_ : Nat) : Tree.spB false (.mk 7 o a b l) p at_ = (lspS 0 l (at_ + 2)) ++ [⟨at_, ((at_ + (2 + (commas (l.map fun u => u.tks false posTop)).length + 1) : Nat) : Int)⟩] ∧ (Tree.tkb false (.mk 7 o a b l) p).length = 2 + (commas (l.map fun u => u.tks false posTop)).length + 1 :=
  sp_of (by rw [tkb_7 hp he]; simp only [List.length_append, List.length_cons, List.length_nil]; omega) (list_sps hp he (.inr (.inl rfl)) at_)
theorem spk_8 {o : Int} {a b : ByteArray} {l : List Tree} {p : Pos} (hp : posOkB p = true) (he : (Tree.mk 8 o a b l).Ex) (at_ : Nat) : Tree.spB false (.mk 8 o a b l) p at_ = (lspS 0 l (at_ + 2)) ++ [⟨at_, ((at_ + (2 + (commas (l.map fun u => u.tks false posTop)).length + 1) : Nat) : Int)⟩] ∧ (Tree.tkb false (.mk 8 o a b l) p).length = 2 + (commas (l.map fun u => u.tks false posTop)).length + 1 :=
  sp_of (by rw [tkb_8 hp he]; simp only [List.length_append, List.length_cons, List.length_nil]; omega) (list_sps hp he (.inr (.inr (.inl rfl))) at_)
theorem spk_13b {o : Int} {a b : ByteArray} {l : List Tree} {p : Pos} (hp : posOkB p = true) (he : (Tree.mk 13 o a b l).Ex) (hn : 1 < l.length) (at_ : Nat) : Tree.spB false (.mk 13 o a b l) p at_ = (lspS 0 l (at_ + 1)) ++ [⟨at_, ((at_ + (1 + (commas (l.map fun u => u.tks false posTop)).length + 3) : Nat) : Int)⟩] ∧ (Tree.tkb false (.mk 13 o a b l) p).length = 1 + (commas (l.map fun u => u.tks false posTop)).length + 3 :=
  sp_of (by rw [tkb_13b hp he hn]; simp only [List.length_append, List.length_cons, List.length_nil]; omega) (by
    rw [list_sps hp he (.inr (.inr (.inr ⟨rfl, hn⟩))) at_, show headLen 13 l.length = 1 from by unfold headLen; rw [if_neg (by omega), if_neg (by omega), if_pos ⟨rfl, hn⟩]])
end Go.Proofs.YtkelhmgdajiocaaGreatDoor
/- Walks and lemmas of this seat (FSpanA): what each theorem says of the functions that it names. Conditions: those that each theorem states. -/
namespace Go.Proofs.YtkelhmgdajiocaaGreatDoor
set_option linter.unusedVariables false
set_option linter.unusedSimpArgs false
open Go.RowKit Go.Lib

set_option maxRecDepth 100000 in
set_option maxHeartbeats 6400000 in
theorem specl30At_of {w0 : World} {l0 : List Node} {a0 : Option Addr} {cap sb g oc i : Nat} {s : List Nat} (hv : NodeSlc w0 (.slice a0 l0.length cap) l0) (ha : Ahead l0) (hi : i < l0.length) (he : (treeIx l0 i).Ex) (hn : LNodeC w0 l0 a0 cap sb g oc s i) (hlen : ∀ p, ((treeIx l0 i).tkb false p).length ≤ 10000) : LAtC w0 l0 a0 cap sb g oc s i := by
  intro p W O at_ hp hO hat
  obtain ⟨a1, cap1, he1, hm1, hc1, hsl⟩ := hv.shape
  injection he1 with e1 _ e3
  subst e1; subst e3
  obtain ⟨x, ka, kc, b, off, hx, he2, c0, c1, c2, c3, c4, hkd⟩ := hsl.at hO.hb (Nat.le_refl _) hi
  subst he2
  obtain ⟨f1, f2, _, _, _⟩ := treeIx_at ha hx
  have hlv : levelB x.kind x.op ≠ 0 := by
    have h1 := (Tree.ex_eq _).1 he
    rw [f1, f2] at h1
    exact levelB_pos h1.1.1 h1.2.1.2.2.1
  have hbl : b < W.heap.size := World.block_lt_of_cell? W _ c0
  have hT : Hid ((treeIx l0 i).tks false p = if fitsB x.kind x.op p = true then (treeIx l0 i).tkb false p else inPar ((treeIx l0 i).tkb false posTop)) := hid (by
    unfold Tree.tks parB; rw [f1, f2]; cases fitsB x.kind x.op p <;> simp)
  have hS1 : Hid ((treeIx l0 i).spS false p at_ = if fitsB x.kind x.op p = true then (treeIx l0 i).spB false p at_ else (treeIx l0 i).spB false posTop (at_ + 1)) := hid (by
    unfold Tree.spS parB; rw [f1, f2]; cases fitsB x.kind x.op p <;> simp)
  have hnp := hid (fun W' (hO' : OSt w0 W' sb g oc (some ⟨b, off, none⟩) l0.length cap O) => hn p W' O at_ hp hO' (by omega))
  have hnt := hid (fun W' (hO' : OSt w0 W' sb g oc (some ⟨b, off, none⟩) l0.length cap O) => show Calls Tryz.prog 80 #[.pointer (some ⟨sb, 0, none⟩), .int .i64 (i : Nat), .agg #[.int .i64 1, .bool false, .bool false, .bool false, .bool false], .int .i64 ((at_ + 1 : Nat) : Int)] W' fun e w' => SpanPost w0 W' sb g oc (some ⟨b, off, none⟩) l0.length cap (putS O (s.getD i 0) ((treeIx l0 i).spB false posTop (at_ + 1))) (at_ + 1 + ((treeIx l0 i).tkb false posTop).length) e w' from hn posTop W' O (at_ + 1) posOk_top hO' (by omega))
  have hl1 := hlen posTop
  have hl2 := hlen p
  have hfit := hid (fun W' => specFits_any x.kind x.op x.text x.other ka x.kids.length kc p W' hp hlv)
  clear hkd hn hlen f1 f2 he hx hlv
  unfold SpanPost
  generalize x.kids.length = kn at *
  generalize x.kind = xk at *
  generalize x.op = xo at *
  generalize x.text = xa at *
  generalize x.other = xb at *
  unfold SpanPost at hnp hnt
  generalize (treeIx l0 i).tks false p = RT at *
  generalize (treeIx l0 i).spS false p at_ = RS at *
  generalize (treeIx l0 i).tkb false posTop = R at *
  generalize (treeIx l0 i).tkb false p = RP at *
  generalize (treeIx l0 i).spB false p at_ = SP at *
  generalize (treeIx l0 i).spB false posTop (at_ + 1) = S2 at *
  generalize fitsB xk xo p = fb at *
  have hii : (i : Int) < (l0.length : Int) := by omega
  have hwa : IntKind.wrap .i64 ((at_ : Int) + 1) = ((at_ + 1 : Nat) : Int) := by rw [wrap_in _ (by unfold I64; omega)]; omega
  have hwe : IntKind.wrap .i64 (((at_ + 1 + R.length : Nat) : Int) + 1) = ((at_ + (R.length + 2) : Nat) : Int) := by rw [wrap_in _ (by unfold I64; omega)]; omega
  have hb1 := hid (show Below W.heap.size W (W.alloc (.cells #[.int .i64 p.level, .bool p.dollar, .bool p.noIn, .bool p.noGt, .bool p.noSign] 36)) from (Below.refl _ _).alloc (Nat.le_refl _) _)
  have hx1 := hid (heap_alloc_new W (.cells #[.int .i64 p.level, .bool p.dollar, .bool p.noIn, .bool p.noGt, .bool p.noSign] 36))
  have hO1 := hid (hO.below hb1.out)
  clear hO
  go_enter Tryz.func62, Tryz.ntmps62
  go_wp2_with fail
  generalize W.alloc (.cells #[.int .i64 p.level, .bool p.dollar, .bool p.noIn, .bool p.noGt, .bool p.noSign] 36) = W1 at hb1 hx1 hO1 ⊢
  have hbl1 : b < W1.heap.size := Nat.lt_of_lt_of_le hbl hb1.out.size
  have hOx := hid hO1.out.box
  replace c0 := (hb1.out.cell (p := ⟨b, off + i * 5, none⟩) hbl).trans c0
  replace c1 := (hb1.out.cell (p := ⟨b, off + i * 5 + 1, none⟩) hbl).trans c1
  replace c2 := (hb1.out.cell (p := ⟨b, off + i * 5 + 2, none⟩) hbl).trans c2
  replace c3 := (hb1.out.cell (p := ⟨b, off + i * 5 + 3, none⟩) hbl).trans c3
  replace c4 := (hb1.out.cell (p := ⟨b, off + i * 5 + 4, none⟩) hbl).trans c4
  have hS := hid (show ∀ W', Below W1.heap.size W1 W' → W'.cell? ⟨W.heap.size, 0, none⟩ = some (.int .i64 p.level) ∧ W'.cell? ⟨W.heap.size, 1, none⟩ = some (.bool p.dollar) ∧ W'.cell? ⟨W.heap.size, 2, none⟩ = some (.bool p.noIn) ∧ W'.cell? ⟨W.heap.size, 3, none⟩ = some (.bool p.noGt) ∧ W'.cell? ⟨W.heap.size, 4, none⟩ = some (.bool p.noSign) ∧ W'.cell? ⟨sb, 0, none⟩ = some (.slice (some ⟨b, off, none⟩) l0.length cap) ∧ W'.cell? ⟨b, off + i * 5, none⟩ = some (.int .i64 xk) ∧ W'.cell? ⟨b, off + i * 5 + 1, none⟩ = some (.int .i64 xo) ∧ W'.cell? ⟨b, off + i * 5 + 2, none⟩ = some (.string xa) ∧ W'.cell? ⟨b, off + i * 5 + 3, none⟩ = some (.string xb) ∧ W'.cell? ⟨b, off + i * 5 + 4, none⟩ = some (.slice ka kn kc) from fun W' hW => ⟨box_cell (boxb hx1.out hW) rfl, box_cell (boxb hx1.out hW) rfl, box_cell (boxb hx1.out hW) rfl, box_cell (boxb hx1.out hW) rfl, box_cell (boxb hx1.out hW) rfl, box_cell (boxb hOx.out hW) rfl, (hW.cell (p := ⟨b, off + i * 5, none⟩) hbl1).trans c0, (hW.cell (p := ⟨b, off + i * 5 + 1, none⟩) hbl1).trans c1, (hW.cell (p := ⟨b, off + i * 5 + 2, none⟩) hbl1).trans c2, (hW.cell (p := ⟨b, off + i * 5 + 3, none⟩) hbl1).trans c3, (hW.cell (p := ⟨b, off + i * 5 + 4, none⟩) hbl1).trans c4⟩)
  first
  | go_region_held3 (fun W' => W'.cell? ⟨W.heap.size, 0, none⟩ = some (.int .i64 p.level) ∧ W'.cell? ⟨W.heap.size, 1, none⟩ = some (.bool p.dollar) ∧ W'.cell? ⟨W.heap.size, 2, none⟩ = some (.bool p.noIn) ∧ W'.cell? ⟨W.heap.size, 3, none⟩ = some (.bool p.noGt) ∧ W'.cell? ⟨W.heap.size, 4, none⟩ = some (.bool p.noSign) ∧ W'.cell? ⟨sb, 0, none⟩ = some (.slice (some ⟨b, off, none⟩) l0.length cap) ∧ W'.cell? ⟨b, off + i * 5, none⟩ = some (.int .i64 xk) ∧ W'.cell? ⟨b, off + i * 5 + 1, none⟩ = some (.int .i64 xo) ∧ W'.cell? ⟨b, off + i * 5 + 2, none⟩ = some (.string xa) ∧ W'.cell? ⟨b, off + i * 5 + 3, none⟩ = some (.string xb) ∧ W'.cell? ⟨b, off + i * 5 + 4, none⟩ = some (.slice ka kn kc))
    (first
      | (refine hS.out _ ?_
         with_reducible (first
           | exact (Below.refl _ _).drew
           | exact hBf)))
    (first
      | (go_at_call 76; refine (hfit.out _).mono ?_; rintro e wf ⟨rfl, hbf⟩; have hBf : Below W1.heap.size W1 wf := ((Below.refl W1.heap.size W1).drew).trans (hbf.mono (Nat.le_refl _))))
  | fail "x"
  all_goals
    obtain ⟨y0, y1, y2, y3, y4, y5, y6, y7, y8, y9, y10⟩ := hS.out _ hBf
    have hO2 := hid (hO1.out.below hBf)
    have hgr := hid (below_gr (hb1.out.trans (hBf.mono hb1.out.size)) g)
    clear hS hbf c0 c1 c2 c3 c4
    cases fb with
    | true =>
      replace hT : Hid (RT = RP) := hid (by rw [hT.out]; rfl)
      replace hS1 : Hid (RS = SP) := hid (by rw [hS1.out]; rfl)
      go_wp2_with fail
      refine (hnp.out _ hO2.out).mono ?_; rintro e w3 ⟨rfl, hg3, hO3⟩
      have hfin := hid (show W.grownBy w3 (some g) ∧ OSt w0 w3 sb g oc (some ⟨b, off, none⟩) l0.length cap (putS O (s.getD i 0) SP) from ⟨grown_trans hgr.out hg3, hO3⟩)
      clear hg3 hO3
      go_wp2
      go_ret
      exact ⟨ret_int (by rw [hT.out]; omega), hfin.out.1, by rw [hS1.out]; exact hfin.out.2⟩
    | false =>
      replace hT : Hid (RT = inPar R) := hid (by rw [hT.out]; rfl)
      replace hS1 : Hid (RS = S2) := hid (by rw [hS1.out]; rfl)
      have hO3 := hid (hO2.out.below ((Below.refl wf.heap.size wf).alloc (Nat.le_refl _) (.cells #[.int .i64 1, .bool false, .bool false, .bool false, .bool false] 36)))
      have hgr2 := hid (grown_trans hgr.out (World.grownBy_alloc wf (.cells #[.int .i64 1, .bool false, .bool false, .bool false, .bool false] 36) (some g)))
      go_wp2_with (go_at_call 56; refine (specTop_x _).mono ?_; rintro e wt ⟨rfl, hwt⟩; subst hwt)
      refine (hnt.out _ hO3.out).mono ?_; rintro e w3 ⟨rfl, hg3, hO4⟩
      have hfin := hid (show W.grownBy w3 (some g) ∧ OSt w0 w3 sb g oc (some ⟨b, off, none⟩) l0.length cap (putS O (s.getD i 0) S2) from ⟨grown_trans hgr2.out hg3, hO4⟩)
      clear hg3 hO4
      go_wp2
      go_ret
      exact ⟨ret_int (by rw [hT.out]; have h9 : (inPar R).length = R.length + 2 := by simp [inPar]
                         omega), hfin.out.1, by rw [hS1.out]; exact hfin.out.2⟩
end Go.Proofs.YtkelhmgdajiocaaGreatDoor
