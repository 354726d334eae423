/- Walks and lemmas of this seat (FLayI0): what each theorem says of the functions that it names. Conditions: those that each theorem states. -/
import Derived.Test.YtfabfkaolnidiaaFBehind
import Derived.Test.YtfabfkaolnidiaaFLine
namespace Go.Proofs.Ytfabfkaolnidiaa
set_option linter.unusedVariables false
set_option linter.unusedSimpArgs false
open Go.RowKit

/-! The writer's loop: the state between two steps. -/
def PB (W : World) : Option Nat → Bool → Prop
  | none, _ => True
  | some h, ok => W.heap[h]? = some (.cells #[.bool ok] 4 (0, 0))
/-- Worlds that differ only in new memory, in the writer's box and in the box of what the caller asks. -/
structure Wf (g : Nat) (h : Option Nat) (w w' : World) : Prop where
  os : w'.os = w.os
  tape : w'.tape = w.tape
  output : w'.output = w.output
  size : w.heap.size ≤ w'.heap.size
  block : ∀ b, b < w.heap.size → b ≠ g → some b ≠ h → w'.heap[b]? = w.heap[b]?
/-- Worlds that differ only in new memory and in that box. -/
structure FrB (h : Option Nat) (w w' : World) : Prop where
  os : w'.os = w.os
  tape : w'.tape = w.tape
  output : w'.output = w.output
  size : w.heap.size ≤ w'.heap.size
  block : ∀ b, b < w.heap.size → some b ≠ h → w'.heap[b]? = w.heap[b]?
theorem Wf.refl (g : Nat) (h : Option Nat) (w : World) : Wf g h w w := ⟨rfl, rfl, rfl, Nat.le_refl _, fun _ _ _ _ => rfl⟩
theorem Wf.trans {g : Nat} {h : Option Nat} {a b c : World} (x : Wf g h a b) (y : Wf g h b c) : Wf g h a c :=
  ⟨y.os.trans x.os, y.tape.trans x.tape, y.output.trans x.output, Nat.le_trans x.size y.size, fun i hi h1 h2 => (y.block i (Nat.lt_of_lt_of_le hi x.size) h1 h2).trans (x.block i hi h1 h2)⟩
theorem FrB.fr {g : Nat} {h : Option Nat} {a b : World} (x : FrB h a b) : Wf g h a b := ⟨x.os, x.tape, x.output, x.size, fun i hi _ h2 => x.block i hi h2⟩
theorem frB_of {h : Option Nat} {a b : World} (x : Below a.heap.size a b) : FrB h a b := ⟨x.os, x.tape, x.output, x.size, fun i hi _ => x.block i hi⟩
theorem fr_of {g : Nat} {h : Option Nat} {a b : World} (x : Below a.heap.size a b) : Wf g h a b := (frB_of x).fr
theorem Wf.drew {g : Nat} {h : Option Nat} {a b : World} (x : Wf g h a b) : Wf g h a b.drew := ⟨x.os, x.tape, x.output, x.size, x.block⟩
theorem Wf.drewN {g : Nat} {h : Option Nat} {a b : World} (x : Wf g h a b) (n : Nat) : Wf g h a (b.drewN n) := ⟨x.os, x.tape, x.output, x.size, x.block⟩
theorem Wf.set {g j : Nat} {h : Option Nat} {a b : World} (x : Wf g h a b) (u : Value) : Wf g h a (b.setCell ⟨g, j, none⟩ u) := ⟨x.os, x.tape, x.output, by simpa using x.size, fun i hi h1 h2 => (heap_setCell_other b ⟨g, j, none⟩ i u h1).trans (x.block i hi h1 h2)⟩
theorem Wf.alloc {g : Nat} {h : Option Nat} {a b : World} (x : Wf g h a b) (o : Obj) : Wf g h a (b.alloc o) := x.trans (fr_of ((Below.refl _ _).alloc (Nat.le_refl _) o))
/-- What the writer's helpers do keeps the rest below B. -/
theorem Wf.lk {g : Nat} {e : TypeId} {h : Option Nat} {w a b : World} (x : Wf g h w a) (y : Lk g e w.heap.size a b) : Wf g h w b :=
  ⟨y.os.trans x.os, y.tape.trans x.tape, y.output.trans x.output, Nat.le_trans x.size y.size, fun i hi h1 h2 => (y.block i (Nat.lt_of_lt_of_le hi x.size) h1 (.inl hi)).trans (x.block i hi h1 h2)⟩
theorem PB.of {W W' : World} {h : Option Nat} {ok : Bool} (x : PB W h ok) (hk : ∀ b, h = some b → W'.heap[b]? = W.heap[b]?) : PB W' h ok := by
  cases h with
  | none => trivial
  | some b => exact (hk b rfl).trans x
theorem PB.lt {W : World} {b : Nat} {ok : Bool} (x : PB W (some b) ok) : b < W.heap.size := heap_lt (show W.heap[b]? = some _ from x)
theorem PB.below {W W' : World} {h : Option Nat} {ok : Bool} (x : PB W h ok) (hb : Below W.heap.size W W') : PB W' h ok := x.of fun b e => by subst e; exact hb.block b x.lt
theorem PB.set {W : World} {g j : Nat} {h : Option Nat} {ok : Bool} {u : Value} (x : PB W h ok) (hg : h ≠ some g) : PB (W.setCell ⟨g, j, none⟩ u) h ok := x.of fun b e => heap_setCell_other W ⟨g, j, none⟩ b u (fun e2 => hg (by rw [e]; exact congrArg some e2))
theorem PB.lk {W W' : World} {g B : Nat} {e : TypeId} {h : Option Nat} {ok : Bool} (x : PB W h ok) (hl : Lk g e B W W') (hg : h ≠ some g) (hB : ∀ b, h = some b → b < B) : PB W' h ok := x.of fun b e => by
  subst e
  exact hl.block b x.lt (fun e2 => hg (by rw [e2])) (.inl (hB b rfl))
theorem DocIs.fr {g : Nat} {h : Option Nat} {w W : World} {S : Nat → Prop} {t : Doc} {v : Value} (hS : ∀ b, S b → b < w.heap.size ∧ b ≠ g ∧ some b ≠ h) (x : Wf g h w W) (ht : DocIs S w t v) : DocIs S W t v := ht.keep fun b hb _ => ⟨x.block b (hS b hb).1 (hS b hb).2.1 (hS b hb).2.2, hb⟩
theorem DocIs.fr_back {g : Nat} {h : Option Nat} {w W : World} {S : Nat → Prop} {t : Doc} {v : Value} (hS : ∀ b, S b → b < w.heap.size ∧ b ≠ g ∧ some b ≠ h) (x : Wf g h w W) (ht : DocIs S W t v) : DocIs S w t v := ht.keep fun b hb _ => ⟨(x.block b (hS b hb).1 (hS b hb).2.1 (hS b hb).2.2).symm, hb⟩
theorem own_frB {h : Option Nat} {w W : World} {B : Nat} {e : TypeId} {s n : Nat} {v : Value} {xs : List Value} (ho : w.ownsRow B e s v n xs) (x : FrB h w W) (hB : ∀ b, h = some b → b < B) : W.ownsRow B e s v n xs := by
  refine ⟨ho.1, ?_⟩
  rcases ho.2 with h0 | ⟨r, cap, cur, rfl, hr, hgg, hc, hm, hs, ht⟩
  · exact .inl h0
  · refine .inr ⟨r, cap, cur, rfl, hr, ?_, hc, hm, hs, ht⟩
    rw [x.block r (heap_lt hgg) (fun e => by have := hB r e.symm; omega)]
    exact hgg

section
variable (dec : Nat → List LIt → LIt → Bool) (out : List UInt8) (col : Nat) (ok : Bool) (C : List LIt) (x : LIt)
theorem stp1 (h : x.d.kind = 1) : layStep dec out col ok C x = ⟨out ++ x.d.text.data.toList, col + x.d.text.size, ok, C⟩ := by
  unfold layStep; rw [if_pos h]
theorem stp2 (h : x.d.kind = 2) (hf : x.flat = true) : layStep dec out col ok C x = ⟨out ++ [32], col + 1, ok, C⟩ := by
  unfold layStep; rw [if_neg (by omega), if_pos ⟨h, hf⟩]
theorem stp3 (h : (x.d.kind = 2 ∧ x.flat = false) ∨ x.d.kind = 3) : layStep dec out col ok C x = ⟨out ++ brk x.ind, x.ind, ok, C⟩ := by
  unfold layStep
  rw [if_neg (by omega), if_neg (fun h2 => by
    rcases h with h | h
    · rw [h.2] at h2; cases h2.2
    · omega), if_pos (by omega)]
theorem stp5 (h : x.d.kind = 5) : layStep dec out col ok C x = ⟨out, col, ok && (x.flat || !dec col C x || x.d.flat.isSome), kidIts x.d x.ind (x.flat || dec col C x) ++ C⟩ := by
  unfold layStep
  rw [if_neg (by omega), if_neg (by omega), if_neg (by omega), if_pos h]
theorem stp6 (h : ¬ x.d.kind = 1 ∧ ¬ x.d.kind = 2 ∧ ¬ x.d.kind = 3 ∧ ¬ x.d.kind = 5) : layStep dec out col ok C x = ⟨out, col, ok, kidIts x.d (x.ind + x.d.n.toNat) x.flat ++ C⟩ := by
  unfold layStep
  rw [if_neg h.1, if_neg (by omega), if_neg (by omega), if_neg h.2.2.2]
end
/-- How the writer stands between two steps. -/
structure ILay (dec : Nat → List LIt → LIt → Bool) (ans : List UInt8 × Bool) (gk : Nat) (out : List UInt8) (col : Nat) (ok : Bool) (L : List PIt) : Prop where
  run : ∃ c, c + gk ≤ 4001 ∧ LayB c ⟨out, col, ok, pIts L⟩
  eq : layRun dec gk ⟨out, col, ok, pIts L⟩ = ans
  wt : itWts (pIts L) ≤ gk
theorem ILay.next {dec : Nat → List LIt → LIt → Bool} {ans : List UInt8 × Bool} {gk : Nat} {out out' : List UInt8} {col col' : Nat} {ok ok' : Bool} {L L' : List PIt} {x : PIt} (h : ILay dec ans (gk + 1) out col ok (L ++ [x])) (hs : layStep dec out col ok (pIts L) x.it = ⟨out', col', ok', pIts L'⟩) : ILay dec ans gk out' col' ok' L' := by
  obtain ⟨c, hc, hB⟩ := h.run
  have hr := h.eq
  have hw := h.wt
  rw [pIts_snoc] at hB hr hw
  rw [layRun_cons, hs] at hr
  have hB2 := hB.next (by omega) dec
  rw [hs] at hB2
  refine ⟨⟨c + 1, by omega, hB2⟩, hr, ?_⟩
  have h9 := layStep_wts dec out col ok (pIts L) x.it
  rw [hs] at h9
  have h8 : itWts (pIts L') + 1 ≤ itWts (x.it :: pIts L) := h9
  omega
theorem pIts_len (L : List PIt) : L.length ≤ itWts (pIts L) := by
  have h := wts_len ((pIts L).map LIt.d)
  have h2 : ((pIts L).map LIt.d).length = L.length := by simp [pIts]
  rw [h2] at h
  exact h
theorem ILay.size {dec : Nat → List LIt → LIt → Bool} {ans : List UInt8 × Bool} {gk : Nat} {out : List UInt8} {col : Nat} {ok : Bool} {L : List PIt} (h : ILay dec ans gk out col ok L) : out.length ≤ 8002000000 ∧ col ≤ 8002000000 ∧ L.length ≤ 4001 ∧ gk ≤ 4001 ∧ itWts (pIts L) ≤ 4001 ∧ ∀ x ∈ L, x.it.ind ≤ 160040 ∧ x.it.d.Fine := by
  obtain ⟨c, hc, hB⟩ := h.run
  have h1 := hB.out
  have h2 := hB.col
  have h3 := pIts_len L
  have h4 := h.wt
  simp only at h1 h2
  have hcm : c * 2000000 ≤ 4001 * 2000000 := Nat.mul_le_mul_right _ (by omega)
  refine ⟨by omega, by omega, by omega, by omega, by omega, fun x hx => ?_⟩
  have h5 := hB.st x.it (by unfold pIts; exact List.mem_reverse.2 (List.mem_map_of_mem hx))
  have h6 : x.it.ind ≤ c * 40 := h5.1
  exact ⟨by omega, h5.2⟩
theorem ILay.pop {dec : Nat → List LIt → LIt → Bool} {ans : List UInt8 × Bool} {gk : Nat} {out : List UInt8} {col : Nat} {ok : Bool} {L : List PIt} {x : PIt} (h : ILay dec ans gk out col ok (L ++ [x])) : ∃ g, gk = g + 1 ∧ x.it.d.kids.length + L.length ≤ g := by
  have hw := h.wt
  have := pIts_len L
  rw [pIts_snoc, itWts_cons, x.it.d.wt_eq] at hw
  have := wts_len x.it.d.kids
  exact ⟨gk - 1, by omega, by omega⟩
/-- What the writer holds: a row of its own, or nothing. -/
theorem pIts_push (L q : List PIt) (t : Doc) (ind : Nat) (f : Bool) (hq : q.map PIt.it = (kidIts t ind f).reverse) : pIts (L ++ q) = kidIts t ind f ++ pIts L := by
  rw [pIts_append]
  show (q.map PIt.it).reverse ++ _ = _
  rw [hq, List.reverse_reverse]
theorem kids_pd {Pd : Doc → Prop} {q : List PIt} {t : Doc} {ind : Nat} {f : Bool} (hq : q.map PIt.it = (kidIts t ind f).reverse) (hP : ∀ u ∈ t.kids, Pd u) : ∀ p ∈ q, Pd p.it.d := fun p hp => by
  have h1 : p.it ∈ (kidIts t ind f).reverse := by rw [← hq]; exact List.mem_map_of_mem hp
  obtain ⟨u, hu, e⟩ := List.mem_map.1 (List.mem_reverse.1 h1)
  rw [← e]
  exact hP u hu
end Go.Proofs.Ytfabfkaolnidiaa
