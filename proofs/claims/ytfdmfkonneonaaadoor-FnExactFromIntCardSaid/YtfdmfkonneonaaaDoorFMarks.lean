/- Walks and lemmas of this seat (FMarks): what each theorem says of the functions that it names. Conditions: those that each theorem states. -/
import Derived.Test.YtfdmfkonneonaaaDoorFBackward
import Derived.Test.YtfdmfkonneonaaaDoorFStarts
import Derived.RangeFuncBox
namespace Go.Proofs.YtfdmfkonneonaaaDoor
set_option linter.unusedVariables false
set_option linter.unusedSimpArgs false
open Go.RowKit Go.Shelf

/-- The mark of a range over a function among the deferred calls. -/
def mark (D : Nat) : Deferred := { target := .collected D, args := #[] }
structure Marks (B : Nat) (W : World) (Ds : List Nat) : Prop where
  nodup : Ds.Nodup
  held : ∀ D ∈ Ds, B ≤ D ∧ W.heap[D]? = some (.deferred (some []))
theorem Marks.nil (B : Nat) (W : World) : Marks B W [] := ⟨List.nodup_nil, fun _ h => by simp at h⟩
theorem Marks.lt {B : Nat} {W : World} {Ds : List Nat} (h : Marks B W Ds) {D : Nat} (hD : D ∈ Ds) : D < W.heap.size := (Array.getElem?_eq_some_iff.1 (h.held D hD).2).1
theorem Marks.cons {B : Nat} {W : World} {Ds : List Nat} {D : Nat} (h : Marks B W Ds) (hB : B ≤ D) (hn : D ∉ Ds) (hD : W.heap[D]? = some (.deferred (some []))) : Marks B W (D :: Ds) :=
  ⟨List.nodup_cons.2 ⟨hn, h.nodup⟩, fun E hE => by
    rcases List.mem_cons.1 hE with rfl | hE
    · exact ⟨hB, hD⟩
    · exact h.held E hE⟩
theorem Marks.kept {B : Nat} {W W' : World} {Ds : List Nat} {row : Option Nat} (h : Marks B W Ds) (hg : W.grownBy W' row) (hr : ∀ r, row = some r → r ∉ Ds) : Marks B W' Ds :=
  ⟨h.nodup, fun D hD => ⟨(h.held D hD).1, (hg.block D (h.lt hD) (fun e => hr D e.symm hD)).trans (h.held D hD).2⟩⟩
theorem Marks.alloc {B : Nat} {W : World} {Ds : List Nat} (h : Marks B W Ds) (o : Obj) : Marks B (W.alloc o) Ds := h.kept (World.grownBy_alloc W o none) (fun r e => by cases e)
theorem Marks.not_cells {B : Nat} {W : World} {Ds : List Nat} (h : Marks B W Ds) {b : Nat} {c : Array Value} {t : TypeId} {p : Nat × Nat} (hb : W.heap[b]? = some (.cells c t p)) : b ∉ Ds := fun hD => by
  have := (h.held b hD).2
  rw [hb] at this
  cases this
theorem Marks.set {B : Nat} {W : World} {Ds : List Nat} (h : Marks B W Ds) {b : Nat} {c : Array Value} {t : TypeId} {p : Nat × Nat} (hb : W.heap[b]? = some (.cells c t p)) (o : Nat) (u : Value) : Marks B (W.setCell ⟨b, o, none⟩ u) Ds :=
  h.kept (grown_set W b o u) (fun r e => by cases e; exact h.not_cells hb)

/-- What the leaving of a function with marks keeps: all cells. -/
def Shut (B : Nat) (W W' : World) : Prop := Below B W W' ∧ ∀ (j : Nat) (c : Array Value) (t : TypeId) (p : Nat × Nat), W.heap[j]? = some (.cells c t p) → W'.heap[j]? = some (.cells c t p)
theorem Shut.refl (B : Nat) (W : World) : Shut B W W := ⟨Below.refl _ _, fun _ _ _ _ h => h⟩
theorem Shut.trans {B : Nat} {W W' W2 : World} (h : Shut B W W') (k : Shut B W' W2) : Shut B W W2 := ⟨h.1.trans k.1, fun j c t p e => k.2 j c t p (h.2 j c t p e)⟩
theorem Shut.boxed {B : Nat} {W W' : World} (h : Shut B W W') {b : Nat} {t : TypeId} {v : Value} (hb : Boxed W b t v) : Boxed W' b t v := h.2 _ _ _ _ hb
theorem Shut.own {B0 : Nat} {W W' : World} (h : Shut B0 W W') {B : Nat} {e : TypeId} {s n : Nat} {v : Value} {xs : List Value} (ho : W.ownsRow B e s v n xs) : W'.ownsRow B e s v n xs := by
  refine ⟨ho.1, ?_⟩
  rcases ho.2 with hn | ⟨g, cap, cur, rfl, hg, hgg, r⟩
  · exact .inl hn
  · exact .inr ⟨g, cap, cur, rfl, hg, h.2 _ _ _ _ hgg, r⟩
theorem leaves_marks {P : Program} {F : Fence} {n : Nat} {fn : Func} {tmps : Array Value} {R : Ending → World → Prop} {B : Nat} : ∀ (Ds : List Nat) (W : World), Marks B W Ds →
    (∀ W', Shut B W W' → ∃ v, (results fn tmps).run P W' = .ok v W' ∧ R (.returned v) W') → LeavesInM F n P fn tmps R (Ds.map mark) .returning W := by
  intro Ds
  induction Ds with
  | nil => intro W _ h; exact h W (Shut.refl _ _)
  | cons D Ds ih =>
    intro W hm h
    have hD := hm.held D (by simp)
    refine ⟨by simp, .inl ⟨D, _, rfl, run_takeDeferred hD.2, ?_⟩⟩
    have hg := grownBy_putObj' W D (.deferred none)
    have hn := List.nodup_cons.1 hm.nodup
    refine ih _ (Marks.kept ⟨hn.2, fun E hE => hm.held E (by simp [hE])⟩ hg (fun r e => by cases e; exact hn.1)) fun W' hs => h W' (Shut.trans ⟨?_, ?_⟩ hs)
    · exact (Below.refl B W).grown hg (Nat.le_trans hD.1 (Nat.le_of_lt (hm.lt (by simp)))) (fun k e => by cases e; exact hD.1)
    · intro j c t p e
      rw [hg.block j (Array.getElem?_eq_some_iff.1 e).1 (fun e' => by cases e'; rw [hD.2] at e; cases e)]
      exact e
theorem cells_row {W : World} {B : Nat} {e : TypeId} {s g n : Nat} {pre : List Value} (h : Filling W B e s g n pre) : ∃ c, W.heap[g]? = some (.cells c e (0, 0)) := by
  obtain ⟨rest, h⟩ := h
  rcases h.2 with ⟨h1, _⟩ | ⟨g', cap, cur, h1, _, hg, _⟩
  · cases h1
  · simp at h1; obtain ⟨rfl, _⟩ := h1; exact ⟨_, hg⟩
theorem Filling.grown {W W' : World} {B : Nat} {e : TypeId} {s g n : Nat} {pre : List Value} {row : Option Nat} (h : Filling W B e s g n pre) (hg : W.grownBy W' row) (hne : some g ≠ row) : Filling W' B e s g n pre := by
  obtain ⟨rest, h⟩ := h
  exact ⟨rest, h.kept hg (.inr (by simpa [Value.ownBlock] using hne))⟩
theorem own_made (w : World) (B n : Nat) (T : TypeId) (hB : B ≤ w.heap.size) (hn : n ≤ maxLen) : (w.alloc (.cells (madeCells #[.int .i64 0] n) T)).ownsRow B T 1 (.slice (some ⟨w.heap.size, 0, none⟩) n n) n (madeCells #[.int .i64 0] n).toList :=
  ⟨by simp [size_madeCells], .inr ⟨w.heap.size, n, _, rfl, hB, heap_alloc_new w _, Nat.le_refl _, hn, by simp [size_madeCells], by rw [List.take_of_length_le (by simp [size_madeCells])]⟩⟩
/-- The fold over what has come. -/
theorem stepK_snoc (out : List Nat) : ∀ (l : List Int) (k : Int) (a : Nat), stepK out (l ++ [k]) a = match stepK out l a with | none => none | some b => if k ≠ (b : Int) - 1 ∨ b = 0 then none else some (out.getD (b - 1) 0) := by
  intro l
  induction l with
  | nil => intro k a; rfl
  | cons x l ih =>
    intro k a
    rw [List.cons_append, stepK]
    by_cases h : x ≠ (a : Int) - 1 ∨ a = 0
    · rw [if_pos h, stepK, if_pos h]
    · rw [if_neg h, ih, show stepK out (x :: l) a = stepK out l (out.getD (a - 1) 0) from by rw [stepK, if_neg h]]
theorem stepK_bad (out : List Nat) {l : List Int} {k : Int} {a b : Nat} (h : stepK out l a = some b) (hb : k ≠ (b : Int) - 1 ∨ b = 0) : stepK out (l ++ [k]) a = none := by
  rw [stepK_snoc, h]; simp only; rw [if_pos hb]
theorem stepK_good (out : List Nat) {l : List Int} {a b : Nat} (h : stepK out l a = some (b + 1)) : stepK out (l ++ [(b : Int)]) a = some (out.getD b 0) := by
  rw [stepK_snoc, h]; simp only; rw [if_neg (by omega)]; rfl
theorem stepK_take (out : List Nat) : ∀ (l : List Int) (k a : Nat), stepK out (l.take k) a = none → stepK out l a = none := by
  intro l
  induction l with
  | nil => intro k a h; simpa using h
  | cons x l ih =>
    intro k a h
    cases k with
    | zero => simp [stepK] at h
    | succ k =>
      rw [List.take_succ_cons, stepK] at h
      rw [stepK]
      split
      · rfl
      · rename_i hn
        rw [if_neg hn] at h
        exact ih _ _ h
end Go.Proofs.YtfdmfkonneonaaaDoor
