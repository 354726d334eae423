/- Walks and lemmas of this seat (FSR): what each theorem says of the functions that it names. Conditions: those that each theorem states. -/
import Derived.Test.YtfdmfkonneonaaaDoorFMarks
import Derived.Test.YtfdmfkonneonaaaDoorDataNode
import Derived.Outline
import Derived.RegionIn
import Derived.BigRegionIn
import Derived.Deep.Slices
import Derived.Deep.OwnRows
namespace Go.Proofs.YtfdmfkonneonaaaDoor
set_option linter.unusedVariables false
set_option linter.unusedSimpArgs false
open Go.RowKit Go.Shelf

attribute [local go_sem] Oper.semAt_some

theorem implwithin_in (F : Fence) (n : Nat) (hF : F.fn 24) (hro : F.round = none) (a b c : Int) (w : World) : CallsIn F n Tryd.prog 24 #[.int .i64 a, .int .i64 b, .int .i64 c] w fun e w' => e = .returned (.bool (decide (b ≤ a ∧ a ≤ c))) ∧ w = w' := by
  by_cases h : b ≤ a
  · refine callsIn_of_wp Tryd.func24 rfl hF ?_ hro
    simp only [Tryd.ntmps24, List.size_toArray, List.length_cons, List.length_nil, Nat.reduceAdd, Nat.reduceSub, Array.replicate_succ, Array.replicate_zero, List.push_toArray, List.append_toArray, List.nil_append, List.cons_append]
    gi_wp2
    go_ret
    exact ⟨ret_bool (by simp [h]), rfl⟩
  · refine callsIn_of_wp Tryd.func24 rfl hF ?_ hro
    simp only [Tryd.ntmps24, List.size_toArray, List.length_cons, List.length_nil, Nat.reduceAdd, Nat.reduceSub, Array.replicate_succ, Array.replicate_zero, List.push_toArray, List.append_toArray, List.nil_append, List.cons_append]
    gi_wp2
    go_ret
    exact ⟨ret_bool (by simp; omega), rfl⟩

/-- Between two rounds of impl.startsOf's outer loop. -/
structure SR (w : World) (l0 : List Node) (k : Nat) (out : List Nat) (Ds : List Nat) (W : World) : Prop where
  hb : Below w.heap.size w W
  r0 : Boxed W w.heap.size 32 (.slice none 0 0)
  r1 : Boxed W (w.heap.size + 1) 4 (.bool false)
  st : Boxed W (w.heap.size + 1 + 1 + 1) 32 (.slice (some ⟨w.heap.size + 1 + 1, 0, none⟩) l0.length l0.length)
  fil : Filling W w.heap.size 3 1 (w.heap.size + 1 + 1) l0.length (out.flatMap nat1)
  mks : Marks (w.heap.size + 4) W Ds
theorem SR.alloc {w : World} {l0 : List Node} {k : Nat} {out Ds : List Nat} {W : World} (h : SR w l0 k out Ds W) (o : Obj) : SR w l0 k out Ds (W.alloc o) :=
  ⟨h.hb.alloc h.hb.size o, h.r0.alloc o, h.r1.alloc o, h.st.alloc o, h.fil.below ((Below.refl _ _).alloc (Nat.le_refl _) o) (Nat.le_refl _), h.mks.alloc o⟩
theorem SR.own {w : World} {l0 : List Node} {k : Nat} {out Ds : List Nat} {A B : World} {B0 : Nat} {row : Option Nat} (h : SR w l0 k out Ds A) (hg : A.grownBy B row) (hr : ∀ r, row = some r → B0 ≤ r ∧ ∃ o : Obj, A.heap[r]? = some o ∧ o.isCells = false)
    (hN : w.heap.size ≤ B0) (hD : ∀ D ∈ Ds, D < B0) : SR w l0 k out Ds B := by
  have hx : ∀ (b : Nat) (c : Array Value) (t : TypeId) (p : Nat × Nat), A.heap[b]? = some (.cells c t p) → some b ≠ row := fun b c t p hb e => by
    obtain ⟨_, o, ho, hc⟩ := hr b e.symm
    rw [hb] at ho; cases ho; cases hc
  obtain ⟨c, hcc⟩ := cells_row h.fil
  exact ⟨h.hb.grown hg h.hb.size (fun r e => Nat.le_trans hN (hr r e).1), h.r0.kept hg (hx _ _ _ _ h.r0), h.r1.kept hg (hx _ _ _ _ h.r1), h.st.kept hg (hx _ _ _ _ h.st), h.fil.grown hg (hx _ _ _ _ hcc),
    h.mks.kept hg fun r e hd => by have := (hr r e).1; have := hD r hd; omega⟩
/-- A store into a box behind the call's first four. -/
theorem SR.box {w : World} {l0 : List Node} {k : Nat} {out Ds : List Nat} {W : World} {b : Nat} {t : TypeId} {v : Value} (h : SR w l0 k out Ds W) (hb : Boxed W b t v) (hlt : w.heap.size + 1 + 1 + 1 < b) (u : Value) : SR w l0 k out Ds (W.setCell ⟨b, 0, none⟩ u) :=
  ⟨h.hb.setCell (p := ⟨b, 0, none⟩) (show w.heap.size ≤ b by omega) u, h.r0.other (by omega) u, h.r1.other (by omega) u, h.st.other (by omega) u, h.fil.grown (grown_set W b 0 u) (by intro e; cases e; omega), h.mks.set hb 0 u⟩
theorem SR.put {w : World} {l0 : List Node} {k : Nat} {out Ds : List Nat} {W : World} (h : SR w l0 k out Ds W) (hk : out.length < l0.length) (a : Nat) : SR w l0 (k + 1) (out ++ [a]) Ds (W.setCell ⟨w.heap.size + 1 + 1, out.length, none⟩ (.int .i64 a)) := by
  obtain ⟨c, hcc⟩ := cells_row h.fil
  have hg := grown_set W (w.heap.size + 1 + 1) out.length (.int .i64 a)
  exact ⟨h.hb.setCell (p := ⟨w.heap.size + 1 + 1, out.length, none⟩) (show w.heap.size ≤ w.heap.size + 1 + 1 by omega) _, h.r0.kept hg (by intro e; simp at e; omega), h.r1.kept hg (by intro e; simp at e), h.st.kept hg (by intro e; simp at e), h.fil.put hk a, h.mks.set hcc _ _⟩
/-- Within a round: behind the values that have come. -/
structure SI (w : World) (l0 : List Node) (k : Nat) (out Ds : List Nat) (Ba : Nat) (pre : List (Nat × Int)) (W : World) : Prop where
  sr : SR w l0 k out Ds W
  at_ : ∃ a : Nat, stepK out (pre.map Prod.snd) k = some a ∧ Boxed W Ba 3 (.int .i64 ((a : Int) - 1))
theorem SI.own {w : World} {l0 : List Node} {k : Nat} {out Ds : List Nat} {Ba B0 : Nat} (hN : w.heap.size ≤ B0) (hD : ∀ D ∈ Ds, D < B0) : OwnFrom B0 (SI w l0 k out Ds Ba) := fun pre A B row h hg hr => by
  obtain ⟨a, ha, hb⟩ := h.at_
  refine ⟨h.sr.own hg hr hN hD, a, ha, hb.kept hg fun e => ?_⟩
  obtain ⟨_, o, ho, hc⟩ := hr Ba e.symm
  rw [show A.heap[Ba]? = _ from hb] at ho; cases ho; cases hc
/-- Where a round has returned. -/
def SX (w : World) (l0 : List Node) (k : Nat) (out Ds : List Nat) (c : Code) (pre : List (Nat × Int)) (W : World) : Prop := c = .ret ∧ stepK out (pre.map Prod.snd) k = none ∧ SR w l0 k out Ds W
theorem SX.own {w : World} {l0 : List Node} {k : Nat} {out Ds : List Nat} {B0 : Nat} (hN : w.heap.size ≤ B0) (hD : ∀ D ∈ Ds, D < B0) (c : Code) : OwnFrom B0 (SX w l0 k out Ds c) := fun pre A B row h hg hr => ⟨h.1, h.2.1, h.2.2.own hg hr hN hD⟩
theorem SR.res {w : World} {l0 : List Node} {k : Nat} {out Ds : List Nat} {W : World} (h : SR w l0 k out Ds W) : SR w l0 k out Ds ((W.setCell ⟨w.heap.size, 0, none⟩ (.slice none 0 0)).setCell ⟨w.heap.size + 1, 0, none⟩ (.bool false)) := by
  have hs : SR w l0 k out Ds (W.setCell ⟨w.heap.size, 0, none⟩ (.slice none 0 0)) :=
    ⟨h.hb.setCell (p := ⟨w.heap.size, 0, none⟩) (Nat.le_refl _) _, h.r0.set _, h.r1.other (by omega) _, h.st.other (by omega) _, h.fil.grown (grown_set W w.heap.size 0 _) (by intro e; simp at e; omega), h.mks.set h.r0 0 _⟩
  exact ⟨hs.hb.setCell (p := ⟨w.heap.size + 1, 0, none⟩) (show w.heap.size ≤ w.heap.size + 1 by omega) _, hs.r0.other (by omega) _, hs.r1.set _, hs.st.other (by omega) _, hs.fil.grown (grown_set _ (w.heap.size + 1) 0 _) (by intro e; simp at e), hs.mks.set hs.r1 0 _⟩
theorem kept_set {B b : Nat} {W : World} (c : Array Value) (t : TypeId) (p : Nat × Nat) (hb : W.heap[b]? = some (.cells c t p)) (o : Nat) (u : Value) : KeepsFrom B W (W.setCell ⟨b, o, none⟩ u) := (KeepsOthers.setCell _ _ _).from _

end Go.Proofs.YtfdmfkonneonaaaDoor
