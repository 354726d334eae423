/- Walks and lemmas of this seat (FSpellB): what each theorem says of the functions that it names. Conditions: those that each theorem states. -/
import Derived.Test.YtkelhmgdajiocaaGreatDoorGSP
import Derived.Test.YtkelhmgdajiocaaGreatDoorFSpellA
namespace Go.Proofs.YtkelhmgdajiocaaGreatDoor
set_option linter.unusedVariables false
set_option linter.unusedSimpArgs false
open Go.RowKit

/-! What the speller's methods promise. -/
theorem box_below {w w' : World} {b : Nat} {o : Obj} (h : w.heap[b]? = some o) (hb : Below w.heap.size w w') : w'.heap[b]? = some o := (hb.block b (heap_lt h)).trans h
structure SpPre (g B : Nat) (full : Bool) (L : List Token) (M : List Span) (t : Tree) (kv : Value) (S : Nat → Prop) (tv sv : Value) (w : World) : Prop where
  st : SpSt w g B full L M tv sv
  hgB : g < B
  hB : B ≤ w.heap.size
  low : WordLow g w
  tree : TreeIs S w t kv
  hS : ∀ b, S b → b < B ∧ b ≠ g
theorem SpPre.below {g B : Nat} {full : Bool} {L : List Token} {M : List Span} {t : Tree} {kv : Value} {S : Nat → Prop} {tv sv : Value} {w w' : World} (h : SpPre g B full L M t kv S tv sv w) (hb : Below w.heap.size w w') : SpPre g B full L M t kv S tv sv w' :=
  ⟨h.st.below hb, h.hgB, Nat.le_trans h.hB hb.size, h.low.below hb, h.tree.mono hb (Nat.le_refl _), h.hS⟩
theorem SpPre.next {g B : Nat} {full : Bool} {L L' : List Token} {M M' : List Span} {t : Tree} {kv : Value} {S : Nat → Prop} {tv sv tv' sv' : Value} {w w' : World} (h : SpPre g B full L M t kv S tv sv w) (hk : Sk g B w w') (hst : SpSt w' g B full L' M' tv' sv') : SpPre g B full L' M' t kv S tv' sv' w' :=
  ⟨hst, h.hgB, Nat.le_trans h.hB hk.size, h.low.sk h.hgB hk, hk.tree h.tree h.hS h.hB, h.hS⟩
theorem SpPre.kn {g B : Nat} {full : Bool} {L : List Token} {M : List Span} {t : Tree} {ka : Option Addr} {kn kc : Nat} {S : Nat → Prop} {tv sv : Value} {w : World} (h : SpPre g B full L M t (.slice ka kn kc) S tv sv w) : kn = t.kids.length := by
  obtain ⟨q, hq, ⟨_, a, cap, he, _⟩, _⟩ := h.tree.open
  injection he with _ e2 _
  rw [e2, ← hq, List.length_map]
theorem SpPre.kid {g B : Nat} {full : Bool} {L : List Token} {M : List Span} {t u : Tree} {ka : Option Addr} {kn kc : Nat} {S : Nat → Prop} {tv sv : Value} {w : World} (h : SpPre g B full L M t (.slice ka kn kc) S tv sv w) {j : Nat} (hu : t.kids[j]? = some u) :
    ∃ (b off : Nat) (ua : Option Addr) (un uc : Nat), ka = some ⟨b, off, none⟩ ∧ kn ≤ kc ∧ kc ≤ 9223372036854775807 ∧ j < kn ∧ SpPre g B full L M u (.slice ua un uc) S tv sv w ∧
      w.cell? ⟨b, off + j * 5, none⟩ = some (.int .i64 u.kind) ∧ w.cell? ⟨b, off + j * 5 + 1, none⟩ = some (.int .i64 u.op) ∧ w.cell? ⟨b, off + j * 5 + 2, none⟩ = some (.string u.text) ∧ w.cell? ⟨b, off + j * 5 + 3, none⟩ = some (.string u.other) ∧ w.cell? ⟨b, off + j * 5 + 4, none⟩ = some (.slice ua un uc) := by
  obtain ⟨q, hq, ⟨_, a, cap, he, hc, hm, hrow⟩, hsub⟩ := h.tree.open
  injection he with e1 e2 e3
  subst e1; subst e2; subst e3
  have hjl : j < q.length := by
    have := (List.getElem?_eq_some_iff.1 hu).1
    rw [← hq, List.length_map] at this
    exact this
  obtain ⟨⟨pt, pv⟩, hp⟩ := get_of_lt hjl
  have hpu : pt = u := by
    rw [← hq, List.getElem?_map, hp] at hu
    exact Option.some.inj hu
  subst hpu
  obtain ⟨b, off, rfl, _, hro⟩ := hrow.resolve_left (by omega)
  have hmem := List.mem_of_getElem? hp
  obtain ⟨pa, pn, pc, hpv⟩ := (hsub _ hmem).shape
  simp only at hpv
  subst hpv
  unfold maxLen at hm
  exact ⟨b, off, pa, pn, pc, rfl, hc, hm, hjl, ⟨h.st, h.hgB, h.hB, h.low, hsub _ hmem, h.hS⟩, hro.flat0 5 Tree.len hp rfl, hro.flat 5 Tree.len hp 1 rfl, hro.flat 5 Tree.len hp 2 rfl, hro.flat 5 Tree.len hp 3 rfl, hro.flat 5 Tree.len hp 4 rfl⟩
def BareC (full : Bool) (t : Tree) : Prop := ∀ (p : Pos) (ka : Option Addr) (kn kc : Nat) (w : World) (g B : Nat) (S : Nat → Prop) (L : List Token) (M : List Span) (tv sv : Value), posOkB p = true → SpPre g B full L M t (.slice ka kn kc) S tv sv w → L.length + 8 * t.post.length ≤ 1000002 → M.length + t.post.length ≤ 1000000 →
  Calls Tryz.prog 91 #[.pointer (some ⟨g, 0, none⟩), .agg #[.int .i64 t.kind, .int .i64 t.op, .string t.text, .string t.other, .slice ka kn kc], .agg #[.int .i64 p.level, .bool p.dollar, .bool p.noIn, .bool p.noGt, .bool p.noSign]] w fun e w' => SpPost w g B full (L ++ t.tkb full p) (M ++ t.spB full p L.length) e w'
def ExprC (full : Bool) (t : Tree) : Prop := ∀ (p : Pos) (ka : Option Addr) (kn kc : Nat) (w : World) (g B : Nat) (S : Nat → Prop) (L : List Token) (M : List Span) (tv sv : Value), posOkB p = true → SpPre g B full L M t (.slice ka kn kc) S tv sv w → L.length + 8 * t.post.length ≤ 1000000 → M.length + t.post.length ≤ 1000000 →
  Calls Tryz.prog 70 #[.pointer (some ⟨g, 0, none⟩), .agg #[.int .i64 t.kind, .int .i64 t.op, .string t.text, .string t.other, .slice ka kn kc], .agg #[.int .i64 p.level, .bool p.dollar, .bool p.noIn, .bool p.noGt, .bool p.noSign]] w fun e w' => SpPost w g B full (L ++ t.tks full p) (M ++ t.spS full p L.length) e w'
def KidC (full : Bool) (t : Tree) : Prop := ∀ (p : Pos) (ka : Option Addr) (kn kc : Nat) (w : World) (g B : Nat) (S : Nat → Prop) (L : List Token) (M : List Span) (tv sv : Value) (j : Nat) (ji : Int) (u : Tree), posOkB p = true → SpPre g B full L M t (.slice ka kn kc) S tv sv w → ji = (j : Int) → t.kids[j]? = some u → L.length + 8 * u.post.length ≤ 1000000 → M.length + u.post.length ≤ 1000000 →
  Calls Tryz.prog 148 #[.pointer (some ⟨g, 0, none⟩), .agg #[.int .i64 t.kind, .int .i64 t.op, .string t.text, .string t.other, .slice ka kn kc], .int .i64 ji, .agg #[.int .i64 p.level, .bool p.dollar, .bool p.noIn, .bool p.noGt, .bool p.noSign]] w fun e w' => SpPost w g B full (L ++ kidTk full t.kind t.op t.kids.length p j u) (M ++ kidSp full t.kind t.op t.kids.length p j u L.length) e w'
def ListC (full : Bool) (t : Tree) : Prop := ∀ (p : Pos) (ka : Option Addr) (kn kc : Nat) (w : World) (g B : Nat) (S : Nat → Prop) (L : List Token) (M : List Span) (tv sv : Value) (o s : Int) (at_ : Nat), posOkB p = true → SpPre g B full L M t (.slice ka kn kc) S tv sv w → L.length + 8 * t.post.length ≤ 1000003 → M.length + t.post.length ≤ 1000000 → L.length + 1 = at_ + headLen t.kind t.kids.length → sepLen t.kind t.op = 1 →
  Calls Tryz.prog 122 #[.pointer (some ⟨g, 0, none⟩), .agg #[.int .i64 t.kind, .int .i64 t.op, .string t.text, .string t.other, .slice ka kn kc], .int .i64 o, .int .i64 s, .agg #[.int .i64 p.level, .bool p.dollar, .bool p.noIn, .bool p.noGt, .bool p.noSign]] w fun e w' => SpPost w g B full (L ++ sgn o :: (commas (t.kidTks full p) ++ [sgn s])) (M ++ (t.kidSps full p at_).flatten) e w'
def OperC (full : Bool) (t : Tree) : Prop := ∀ (p : Pos) (ka : Option Addr) (kn kc : Nat) (w : World) (g B : Nat) (S : Nat → Prop) (L : List Token) (M : List Span) (tv sv : Value), posOkB p = true → SpPre g B full L M t (.slice ka kn kc) S tv sv w → L.length + 8 * t.post.length ≤ 1000002 → M.length + t.post.length ≤ 1000000 →
  Calls Tryz.prog 123 #[.pointer (some ⟨g, 0, none⟩), .agg #[.int .i64 t.kind, .int .i64 t.op, .string t.text, .string t.other, .slice ka kn kc], .agg #[.int .i64 p.level, .bool p.dollar, .bool p.noIn, .bool p.noGt, .bool p.noSign]] w fun e w' => SpPost w g B full (L ++ t.tkb full p) (M ++ (t.kidSps full p L.length).flatten) e w'
/-! One kid, two, three. -/
theorem kidTks1 (full : Bool) (k o : Int) (a b : ByteArray) (u : Tree) (p : Pos) : (Tree.mk k o a b [u]).kidTks full p = [kidTk full k o 1 p 0 u] := by
  unfold Tree.kidTks; rw [show (Tree.mk k o a b [u]).kids = [u] from rfl, Tree.tkL_cons, Tree.tkL]; rfl
theorem kidTks2 (full : Bool) (k o : Int) (a b : ByteArray) (u v : Tree) (p : Pos) : (Tree.mk k o a b [u, v]).kidTks full p = [kidTk full k o 2 p 0 u, kidTk full k o 2 p 1 v] := by
  unfold Tree.kidTks; rw [show (Tree.mk k o a b [u, v]).kids = [u, v] from rfl, Tree.tkL_cons, Tree.tkL_cons, Tree.tkL]; rfl
theorem kidTks3 (full : Bool) (k o : Int) (a b : ByteArray) (u v x : Tree) (p : Pos) : (Tree.mk k o a b [u, v, x]).kidTks full p = [kidTk full k o 3 p 0 u, kidTk full k o 3 p 1 v, kidTk full k o 3 p 2 x] := by
  unfold Tree.kidTks; rw [show (Tree.mk k o a b [u, v, x]).kids = [u, v, x] from rfl, Tree.tkL_cons, Tree.tkL_cons, Tree.tkL_cons, Tree.tkL]; rfl
theorem kidSps1 (full : Bool) (k o : Int) (a b : ByteArray) (u : Tree) (p : Pos) (at_ : Nat) : (Tree.mk k o a b [u]).kidSps full p at_ = [kidSp full k o 1 p 0 u (at_ + headLen k 1)] := by
  unfold Tree.kidSps; rw [show (Tree.mk k o a b [u]).kids = [u] from rfl, Tree.spL_cons, Tree.spL]; rfl
theorem kidSps2 (full : Bool) (k o : Int) (a b : ByteArray) (u v : Tree) (p : Pos) (at_ : Nat) : (Tree.mk k o a b [u, v]).kidSps full p at_ = [kidSp full k o 2 p 0 u (at_ + headLen k 2), kidSp full k o 2 p 1 v (at_ + headLen k 2 + (kidTk full k o 2 p 0 u).length + sepLen k o)] := by
  unfold Tree.kidSps; rw [show (Tree.mk k o a b [u, v]).kids = [u, v] from rfl, Tree.spL_cons, Tree.spL_cons, Tree.spL]; rfl
theorem kidSps3 (full : Bool) (k o : Int) (a b : ByteArray) (u v x : Tree) (p : Pos) (at_ : Nat) : (Tree.mk k o a b [u, v, x]).kidSps full p at_ = [kidSp full k o 3 p 0 u (at_ + headLen k 3), kidSp full k o 3 p 1 v (at_ + headLen k 3 + (kidTk full k o 3 p 0 u).length + sepLen k o), kidSp full k o 3 p 2 x (at_ + headLen k 3 + (kidTk full k o 3 p 0 u).length + sepLen k o + (kidTk full k o 3 p 1 v).length + sepLen k o)] := by
  unfold Tree.kidSps; rw [show (Tree.mk k o a b [u, v, x]).kids = [u, v, x] from rfl, Tree.spL_cons, Tree.spL_cons, Tree.spL_cons, Tree.spL]; rfl
theorem post1 (k o : Int) (a b : ByteArray) (u : Tree) : (Tree.mk k o a b [u]).post.length = u.post.length + 1 := by rw [Tree.post_eq]; simp [Tree.kids, Tree.postL]
theorem post2 (k o : Int) (a b : ByteArray) (u v : Tree) : (Tree.mk k o a b [u, v]).post.length = u.post.length + v.post.length + 1 := by rw [Tree.post_eq]; simp [Tree.kids, Tree.postL]; omega
theorem post3 (k o : Int) (a b : ByteArray) (u v x : Tree) : (Tree.mk k o a b [u, v, x]).post.length = u.post.length + v.post.length + x.post.length + 1 := by rw [Tree.post_eq]; simp [Tree.kids, Tree.postL]; omega
end Go.Proofs.YtkelhmgdajiocaaGreatDoor
