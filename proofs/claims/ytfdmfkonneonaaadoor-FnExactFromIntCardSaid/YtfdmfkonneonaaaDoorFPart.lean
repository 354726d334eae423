/- Walks and lemmas of this seat (FPart): what each theorem says of the functions that it names. Conditions: those that each theorem states. -/
import Derived.Test.YtfdmfkonneonaaaDoorFAdd
namespace Go.Proofs.YtfdmfkonneonaaaDoor
set_option linter.unusedVariables false
set_option linter.unusedSimpArgs false
open Go.RowKit

theorem implwithin_any (a b c : Int) (w : World) : Calls Tryd.prog 24 #[.int .i64 a, .int .i64 b, .int .i64 c] w fun e w' => e = .returned (.bool (decide (b ≤ a ∧ a ≤ c))) ∧ w = w' :=
  (callsIn_wide (n := 1)).1 (implwithin_in Fence.wide 1 trivial rfl a b c w)
theorem OwnNode.nil (w : World) (lo hi : Nat) : OwnNode w lo hi (.slice none 0 0) [] := ⟨[], rfl, ⟨⟨by simp, .inl ⟨rfl, rfl⟩⟩, fun k h => by simp [Value.ownBlock] at h⟩, by simp, by simp⟩
set_option maxRecDepth 100000 in
set_option maxHeartbeats 1600000 in
/-- (tree).list: the nodes of a tree that lies below lo, in memory from lo on. -/
theorem impllist_any (t : Tree) (ka : Option Addr) (kn kc : Nat) (w : World) (S : Nat → Prop) (ht : TreeIs S w t (.slice ka kn kc)) (hS : ∀ b, S b → b < w.heap.size) (hbd : (t.addTo []).length ≤ 1048576) :
    Calls Tryd.prog 16 #[.agg #[.int .i64 t.kind, .int .i64 t.op, .string t.text, .string t.other, .slice ka kn kc]] w fun e w' => ∃ v', e = .returned v' ∧ Below w.heap.size w w' ∧ OwnNode w' w.heap.size w'.heap.size v' (t.addTo []) := by
  have hcall := hid (fun o => impladd_any _ t _ S (fun _ => False) (w.alloc o) (.slice none 0 0) [] (Nat.lt_succ_self _) (ht.keep fun b h hl => ⟨Below.heap_alloc _ _ _ hl, h⟩) (OwnS.nil _ _) (fun b h => h.elim) (fun b h => ⟨fun h => h, by have := hS b h; simp; omega⟩) hbd)
  go_enter Tryd.func16, Tryd.ntmps16
  go_wp2_with fail
  refine (hcall.out _).mono ?_; rintro e w2 ⟨v2, q2, rfl, hg2, hr2, hqe2, hn2⟩
  have hB : Below w.heap.size w w2 := ((Below.refl w.heap.size w).alloc (Nat.le_refl _) _).grown hg2 (by simp) (fun k e => by simp [Value.ownBlock] at e)
  have hO := hn2.own (lo := w.heap.size) (fun g h => by
    rcases h with h | h
    · exact h.elim
    · simp at h; omega)
  rw [hqe2] at hO
  replace hO := hid hO
  obtain ⟨va, vc, rfl, _⟩ := own_slice hn2.row
  clear hn2 hr2 hqe2
  go_wp2
  go_ret
  exact ⟨_, rfl, hB, hO.out⟩

/-- StartOf, as far as Part asks: below 0 or not. -/
def inPart (l : List Node) (i : Int) : Bool := shapeOk (l.map Node.kids) && decide (0 ≤ i ∧ i < l.length)
theorem inPart_yes {l : List Node} {i : Int} (h : inPart l i = true) : shapeOk (l.map Node.kids) = true ∧ 0 ≤ i ∧ i < l.length := by
  unfold inPart at h; simp at h; exact ⟨h.1, h.2.1, h.2.2⟩
theorem part_no {l : List Node} {i : Int} (h : inPart l i = false) : part l i = [] := by
  unfold part
  rw [if_neg]
  intro h2
  unfold inPart at h
  simp [h2.1, h2.2.1, h2.2.2] at h
def StartPost (w : World) (l : List Node) (i : Int) (e : Ending) (w' : World) : Prop := ∃ z : Int, e = .returned (.int .i64 z) ∧ Below w.heap.size w w' ∧ (inPart l i = true → 0 ≤ z) ∧ (inPart l i = false → z = -1)

end Go.Proofs.YtfdmfkonneonaaaDoor
