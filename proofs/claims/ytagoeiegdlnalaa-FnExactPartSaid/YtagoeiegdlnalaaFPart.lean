/- Walks and lemmas of this seat (FPart): what each theorem says of the functions that it names. Conditions: those that each theorem states. -/
import Derived.Test.YtagoeiegdlnalaaFAdd
namespace Go.Proofs.Ytagoeiegdlnalaa
set_option linter.unusedVariables false
set_option linter.unusedSimpArgs false
open Go.RowKit

theorem implwithin_any (a b c : Int) (w : World) : Calls Try.prog 96 #[.int .i64 a, .int .i64 b, .int .i64 c] w fun e w' => e = .returned (.bool (decide (b ≤ a ∧ a ≤ c))) ∧ w = w' :=
  (callsIn_wide (n := 1)).1 (implwithin_in Fence.wide 1 trivial rfl a b c w)
theorem OwnNode.nil (w : World) (lo hi : Nat) : OwnNode w lo hi (.slice none 0 0) [] := ⟨[], rfl, ⟨⟨by simp, .inl ⟨rfl, rfl⟩⟩, fun k h => by simp [Value.ownBlock] at h⟩, by simp, by simp⟩
set_option maxRecDepth 100000 in
set_option maxHeartbeats 1600000 in
/-- (tree).list: the nodes of a tree that lies below lo, in memory from lo on. -/
theorem impllist_any (t : Tree) (ka : Option Addr) (kn kc : Nat) (w : World) (S : Nat → Prop) (ht : TreeIs S w t (.slice ka kn kc)) (hS : ∀ b, S b → b < w.heap.size) (hbd : (t.addTo []).length ≤ 1048576) :
    Calls Try.prog 81 #[.agg #[.int .i64 t.kind, .int .i64 t.op, .string t.text, .string t.other, .slice ka kn kc]] w fun e w' => ∃ v', e = .returned v' ∧ Below w.heap.size w w' ∧ OwnNode w' w.heap.size w'.heap.size v' (t.addTo []) := by
  have hcall := hid (fun o => impladd_any _ t _ S (fun _ => False) (w.alloc o) (.slice none 0 0) [] (Nat.lt_succ_self _) (ht.keep fun b h hl => ⟨Below.heap_alloc _ _ _ hl, h⟩) (OwnS.nil _ _) (fun b h => h.elim) (fun b h => ⟨fun h => h, by have := hS b h; simp; omega⟩) hbd)
  go_enter Try.func81, Try.ntmps81
  go_wp2_with fail
  refine (hcall.out _).mono ?_; rintro e w2 ⟨v2, q2, rfl, hg2, hr2, hqe2, hn2⟩
  have hB : Below w.heap.size w w2 := ((Below.refl w.heap.size w).alloc (Nat.le_refl _) _).grown hg2 (by simp) (fun k e => by simp [Value.ownBlock] at e)
  have hO := hn2.own (lo := w.heap.size) (fun g h => by
    rcases h with h | h
    · exact h.elim
    · simp at h; omega)
  rw [hqe2] at hO
  replace hO := hid hO
  obtain ⟨va, vc, rfl, _⟩ := own_slice hn2.row
  clear hn2 hr2 hqe2
  go_wp2
  go_ret
  exact ⟨_, rfl, hB, hO.out⟩

/-- StartOf, as far as Part asks: below 0 or not. -/
def inPart (l : List Node) (i : Int) : Bool := shapeOk (l.map Node.kids) && decide (0 ≤ i ∧ i < l.length)
theorem inPart_yes {l : List Node} {i : Int} (h : inPart l i = true) : shapeOk (l.map Node.kids) = true ∧ 0 ≤ i ∧ i < l.length := by
  unfold inPart at h; simp at h; exact ⟨h.1, h.2.1, h.2.2⟩
theorem part_no {l : List Node} {i : Int} (h : inPart l i = false) : part l i = [] := by
  unfold part
  rw [if_neg]
  intro h2
  unfold inPart at h
  simp [h2.1, h2.2.1, h2.2.2] at h
def StartPost (w : World) (l : List Node) (i : Int) (e : Ending) (w' : World) : Prop := ∃ z : Int, e = .returned (.int .i64 z) ∧ Below w.heap.size w w' ∧ (inPart l i = true → 0 ≤ z) ∧ (inPart l i = false → z = -1)

set_option maxRecDepth 100000 in
set_option maxHeartbeats 1600000 in
theorem implStartOf_any (l0 : List Node) (v0 : Value) (a1 : Int) (w : World) (hx0 : ∀ x ∈ l0, x.Ok) (hn0 : bulk Node.sizes l0 ≤ 1048576) (hv0 : NodeSlc w v0 l0) (ha1 : I64 a1) :
    Calls Try.prog 79 #[v0, .int .i64 a1] w fun e w' => StartPost w l0 a1 e w' := by
  have hcall := implstartsOf_any l0 v0 w hx0 hn0 hv0
  have hlen := Nat.le_trans (length_bulk Node.sizes l0) hn0
  obtain ⟨a, cap, rfl, hm, hc, hsl⟩ := hv0.shape
  unfold I64 at ha1
  have hval : Hid (shapeOk (l0.map Node.kids) = (decide (1 ≤ (l0.map Node.kids).length ∧ (l0.map Node.kids).length ≤ 400) && startsLast (l0.map Node.kids))) := hid rfl
  go_enter Try.func79, Try.ntmps79
  go_wp2_with fail
  refine hcall.mono ?_; rintro e w2 ⟨hb2, v', rfl, hown⟩
  clear hcall
  rw [← hval.out] at *
  by_cases hok : shapeOk (l0.map Node.kids) = true
  · obtain ⟨h1, h2, s, hs⟩ := shapeOk_yes hok
    have hl := (starts_len hs)
    rw [List.length_map] at hl
    have ho := hown s hs (by rw [List.length_map]; exact h1) (by rw [List.length_map]; exact h2)
    have hw := fun W => implwithin_any a1 0 ((l0.length : Int) - 1) W
    by_cases hin : 0 ≤ a1 ∧ a1 ≤ (l0.length : Int) - 1
    · obtain ⟨i, rfl⟩ : ∃ i : Nat, a1 = (i : Int) := ⟨a1.toNat, by omega⟩
      obtain ⟨g, cp, rfl, hcp⟩ := own_slice' ho (by omega)
      have r0 := own_read ho (nat1_at (show i < s.length by omega))
      have hd : decide ((0 : Int) ≤ (i : Int) ∧ (i : Int) ≤ (l0.length : Int) - 1) = true := by simp; omega
      rw [hd] at hw
      have hi1 : i < s.length := by omega
      have hP : Hid (inPart l0 (i : Int) = true) := hid (by unfold inPart; rw [hok]; simp; omega)
      generalize s.getD i 0 = val at r0
      have hw2 := hid hw
      rw [hok]
      clear hown hd hin hw ho hs hl hval hok
      go_wp2_with (go_at_call 96; refine (hw2.out _).mono ?_; rintro e w' ⟨rfl, rfl⟩)
      go_ret
      exact ⟨_, rfl, hb2, fun _ => by omega, fun h => by rw [hP.out] at h; cases h⟩
    · have hd : decide ((0 : Int) ≤ a1 ∧ a1 ≤ (l0.length : Int) - 1) = false := by simp; omega
      rw [hd] at hw
      have hP : Hid (inPart l0 a1 = false) := hid (by unfold inPart; rw [hok]; simp; omega)
      have hw2 := hid hw
      rw [hok]
      clear hown hd hin hw ho hs hl hval hok
      go_wp2_with (go_at_call 96; refine (hw2.out _).mono ?_; rintro e w' ⟨rfl, rfl⟩)
      go_ret
      exact ⟨_, rfl, hb2, (fun h => by rw [hP.out] at h; cases h), fun _ => rfl⟩
  · have hok : shapeOk (l0.map Node.kids) = false := by simpa using hok
    have hP : Hid (inPart l0 a1 = false) := hid (by unfold inPart; rw [hok]; rfl)
    rw [hok]
    clear hown hval hok
    go_wp2
    go_ret
    exact ⟨_, rfl, hb2, (fun h => by rw [hP.out] at h; cases h), fun _ => rfl⟩

set_option maxRecDepth 100000 in
set_option maxHeartbeats 1600000 in
theorem implPart_any (l0 : List Node) (v0 : Value) (a1 : Int) (w : World) (hx0 : ∀ x ∈ l0, x.Ok) (hn0 : bulk Node.sizes l0 ≤ 1048576) (hv0 : NodeSlc w v0 l0) (ha1 : I64 a1) :
    Calls Try.prog 47 #[v0, .int .i64 a1] w fun e w' => ∃ v', e = .returned v' ∧ Below w.heap.size w w' ∧ OwnNode w' w.heap.size w'.heap.size v' (part l0 a1) := by
  have hst := implStartOf_any l0 v0 a1 w hx0 hn0 hv0 ha1
  have hv := hv0
  obtain ⟨a, cap, rfl, hm, hc, hsl⟩ := hv0.shape
  by_cases hin : inPart l0 a1 = true
  · obtain ⟨hok, h0, h1⟩ := inPart_yes hin
    obtain ⟨i, rfl⟩ : ∃ i : Nat, a1 = (i : Int) := ⟨a1.toNat, by omega⟩
    have hil : i < l0.length := by omega
    have hpa := hid (part_add hok hil)
    have htree := hid (fun W (h : Below w.heap.size w W) => impltreeAt_any l0 _ w hv hx0 hn0 (shapeOk_ahead hok) i hil W h)
    have hbd : ((treeIx l0 i).addTo []).length ≤ 1048576 := by rw [← hpa.out]; exact Nat.le_trans (length_bulk Node.sizes _) (part_bulk l0 i hn0)
    replace hbd := hid hbd
    replace hin := hid hin
    clear hok
    go_enter Try.func47, Try.ntmps47
    go_wp2_with fail
    refine hst.mono ?_; rintro e w1 ⟨z, rfl, hb1, hz1, _⟩
    have hz := hz1 hin.out
    clear hz1 hst
    go_wp2_with fail
    refine (htree.out _ hb1).mono ?_; rintro e w2 ⟨ka, kn, kc, rfl, hb2, ht2⟩
    have ht3 := hid (ht2.keep (S' := fun b => b < w2.heap.size) fun b h hl => ⟨rfl, hl⟩)
    clear ht2
    go_wp2_with fail
    refine (impllist_any (treeIx l0 i) ka kn kc _ _ ht3.out (fun b h => h) hbd.out).mono ?_; rintro e w3 ⟨v3, rfl, hb3, ho3⟩
    have hB2 := hb1.trans (hb2.mono hb1.size)
    obtain ⟨q, hq, ho⟩ := ho3
    obtain ⟨va, vc, rfl, _⟩ := own_slice ho.1.1
    have hO := hid (show OwnNode w3 w.heap.size w3.heap.size _ _ from ⟨q, hq, ho.1.wide hB2.size (Nat.le_refl _), fun p hp => (ho.2.1 p hp).wide hB2.size (Nat.le_refl _), ho.2.2⟩)
    clear hq ho
    go_wp2
    go_ret
    exact ⟨_, rfl, hB2.trans (hb3.mono hB2.size), by rw [hpa.out]; exact hO.out⟩
  · have hin : inPart l0 a1 = false := by simpa using hin
    have hpa := hid (part_no hin)
    replace hin := hid hin
    go_enter Try.func47, Try.ntmps47
    go_wp2_with fail
    refine hst.mono ?_; rintro e w1 ⟨z, rfl, hb1, _, hz1⟩
    have hz := hz1 hin.out
    subst hz
    clear hz1 hst
    go_wp2
    go_ret
    exact ⟨_, rfl, hb1, by rw [hpa.out]; exact OwnNode.nil _ _ _⟩

end Go.Proofs.Ytagoeiegdlnalaa
