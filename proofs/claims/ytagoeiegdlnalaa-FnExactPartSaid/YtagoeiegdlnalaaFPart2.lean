/- Walks and lemmas of this seat (FPart2): what each theorem says of the functions that it names. Conditions: those that each theorem states. -/
import Derived.Test.YtagoeiegdlnalaaFPart
import Derived.Test.YtagoeiegdlnalaaFShift
import Derived.Deep.RegionHeld3
import Derived.Outline
namespace Go.Proofs.Ytagoeiegdlnalaa
set_option linter.unusedVariables false
set_option linter.unusedSimpArgs false
open Go.RowKit

attribute [local go_sem ↓] Go.wp_at_zero Go.wp_at_succ

theorem RowAt.sub {w : World} {b off lo : Nat} {α : Type} {f : α → List Value} {s : Nat} {l : List α} {n : Nat} (hf : ∀ x, (f x).length = s) (h : RowAt w b off (l.flatMap f)) : RowAt w b (off + lo * s) (((l.drop lo).take n).flatMap f) := by
  intro j u hj
  have e : l.flatMap f = (l.take lo).flatMap f ++ ((l.drop lo).take n).flatMap f ++ ((l.drop lo).drop n).flatMap f := by
    rw [List.append_assoc, ← List.flatMap_append, List.take_append_drop, ← List.flatMap_append, List.take_append_drop]
  have hjl := (List.getElem?_eq_some_iff.1 hj).1
  by_cases hlo : lo ≤ l.length
  · have hl : ((l.take lo).flatMap f).length = lo * s := by rw [flat_len f s hf, List.length_take, Nat.min_eq_left hlo]
    have := h (lo * s + j) u (by
      rw [e, List.append_assoc, List.getElem?_append_right (by rw [hl]; omega), hl, show lo * s + j - lo * s = j by omega, List.getElem?_append_left hjl]
      exact hj)
    rw [Nat.add_assoc]; exact this
  · rw [List.drop_of_length_le (by omega)] at hj; simp at hj
theorem NodeSlc.sub {w : World} {b off cap : Nat} {l : List Node} (h : NodeSlc w (.slice (some ⟨b, off, none⟩) l.length cap) l) (lo hi : Nat) (h1 : lo ≤ hi) (h2 : hi ≤ l.length) : NodeSlc w (.slice (some ⟨b, off + lo * 5, none⟩) (hi - lo) (cap - lo)) (seg l lo hi) := by
  obtain ⟨q, rfl, ⟨_, a, cap', hv, hc, hm, hrow⟩, hk⟩ := h
  simp at hv h2
  obtain ⟨rfl, rfl⟩ := hv
  have hsl : ((q.drop lo).take (hi - lo)).length = hi - lo := by rw [List.length_take, List.length_drop]; omega
  refine ⟨(q.drop lo).take (hi - lo), by rw [List.map_take, List.map_drop]; rfl, ⟨by rw [flat_len _ 5 Node.len], some ⟨b, off + lo * 5, none⟩, cap - lo, by rw [hsl], by rw [hsl]; omega, by omega, ?_⟩, fun p hp => hk p (List.mem_of_mem_drop (List.mem_of_mem_take hp))⟩
  rcases hrow with h0 | ⟨b', off', e, hro⟩
  · left; omega
  · simp at e
    obtain ⟨rfl, rfl⟩ := e
    exact .inr ⟨b, off + lo * 5, rfl, hro.sub Node.len⟩

theorem OwnNode.wide {w : World} {lo lo' hi : Nat} {v : Value} {l : List Node} (h : OwnNode w lo hi v l) (hl : lo' ≤ lo) : OwnNode w lo' hi v l := by
  obtain ⟨q, h1, h2, h3, h4⟩ := h
  exact ⟨q, h1, h2.wide hl (Nat.le_refl _), fun p hp => (h3 p hp).wide hl (Nat.le_refl _), h4⟩
theorem OwnNode.empty (w : World) (lo : Nat) (h : lo ≤ w.heap.size) : OwnNode (w.alloc (.cells #[] 71)) lo (w.alloc (.cells #[] 71)).heap.size (.slice (some ⟨w.heap.size, 0, none⟩) 0 0) [] :=
  ⟨[], rfl, ⟨own_base (own_new0 w 71 5) h, fun k hk => by simp [Value.ownBlock] at hk; subst hk; simp⟩, by simp, by simp⟩

set_option maxRecDepth 100000 in
set_option maxHeartbeats 1600000 in
theorem specl6Part_any (l0 : List Node) (v0 : Value) (i : Nat) (w : World) (hx0 : ∀ x ∈ l0, x.Ok) (hn0 : bulk Node.sizes l0 ≤ 1048576) (hv0 : NodeSlc w v0 l0) (hok : shapeOk (l0.map Node.kids) = true) (hi : i < l0.length) :
    Calls Try.prog 78 #[v0, .int .i64 i] w fun e w' => ∃ v', e = .returned v' ∧ Below w.heap.size w w' ∧ OwnNode w' w.heap.size w'.heap.size v' (part l0 (i : Int)) := by
  obtain ⟨h1, h2, s, hs⟩ := shapeOk_yes hok
  obtain ⟨hlow, hslen⟩ := starts_len hs
  rw [List.length_map] at hslen
  have hah := ahead_of hs
  have hle := hlow.getD i
  have hst := specl6Starts_any l0 v0 w (by omega) hx0 hv0
  have hv := hv0
  obtain ⟨a, cap, rfl, hm, hc, hsl⟩ := hv0.shape
  obtain ⟨x0, ka0, kc0, b, off, hxx, rfl, _⟩ := hsl.at (Below.refl w.heap.size w) (Nat.le_refl _) hi
  clear hxx
  have hpart : Hid (part l0 (i : Int) = (seg l0 (s.getD i 0) (i + 1)).map (Node.shift (-(s.getD i 0 : Nat)))) := hid (by
    unfold part; rw [if_pos ⟨hok, by omega, by omega⟩, hs]; simp)
  have hsegm : ∀ x ∈ seg l0 (s.getD i 0) (i + 1), x ∈ l0 := fun x hx => List.mem_of_mem_drop (List.mem_of_mem_take hx)
  have hkb : ∀ x ∈ seg l0 (s.getD i 0) (i + 1), ∀ k ∈ x.kids, I64 (k + -(s.getD i 0 : Nat)) := fun x hx k hk => by
    obtain ⟨j, hj⟩ := List.getElem?_of_mem (hsegm x hx)
    have := hah j x hj k hk
    have := (List.getElem?_eq_some_iff.1 hj).1
    unfold I64; omega
  have hbk : bulk Node.sizes (seg l0 (s.getD i 0) (i + 1)) ≤ 1048576 := by
    have := part_bulk l0 i hn0
    rw [hpart.out] at this
    unfold bulk at this ⊢
    rw [List.length_map, List.map_map] at this
    have e : (Node.sizes ∘ Node.shift (-(s.getD i 0 : Nat))) = Node.sizes := by funext x; simp [Node.sizes, Node.shift]
    rw [e] at this
    exact this
  have hcall := hid (fun W (hb : Below w.heap.size w W) => specl6Shift_any (seg l0 (s.getD i 0) (i + 1)) (.slice (some ⟨b, off + s.getD i 0 * 5, none⟩) (i + 1 - s.getD i 0) (cap - s.getD i 0)) (-(s.getD i 0 : Nat)) W (fun x hx => hx0 x (hsegm x hx)) hbk ((hsl.mono hb (Nat.le_refl _)).sub _ _ (by omega) (by omega)) hkb)
  have hnat := hid (fun z : List Nat => @nat1_at z i)
  clear hsegm hkb hbk
  have hs' := hid hs
  have hstE : Hid (∀ s', starts (l0.map Node.kids) = some s' → s' = s) := hid fun s' h => by rw [hs] at h; simpa using h.symm
  clear hs hah
  go_enter Try.func78, Try.ntmps78
  go_wp2_with fail
  refine hst.mono ?_; rintro e w2 ⟨hb2, ⟨hno, v', rfl⟩ | ⟨s', v', hs2, rfl, hown⟩⟩
  · exact absurd hs'.out (by rw [hno]; simp)
  · obtain rfl := hstE.out s' hs2
    clear hs2 hst
    obtain ⟨g, cp, rfl, hcp⟩ := own_slice' hown (by omega)
    have r0 := own_read hown (nat1_at (show i < s'.length by omega))
    generalize hval : s'.getD i 0 = val at r0 hle hcall hpart
    clear hval
    have hi1 : (i : Int) < (s'.length : Int) := by omega
    have hi2 : i < s'.length := by omega
    have i0 : (0 : Int) ≤ (i : Int) := by omega
    have w1 : IntKind.wrap .i64 ((i : Int) + 1) = (i : Int) + 1 := wrap_in _ (by unfold I64; omega)
    have w2' : IntKind.wrap .i64 (-(val : Int)) = -(val : Int) := wrap_in _ (by unfold I64; omega)
    have v0' : (0 : Int) ≤ (val : Int) := by omega
    have v1 : (val : Int) ≤ (i : Int) + 1 := by omega
    have v2 : (i : Int) + 1 ≤ (cap : Int) := by omega
    have v3 : ((i : Int) + 1).toNat = i + 1 := by omega
    have hgl := World.block_lt_of_cell? w2 _ r0
    have hcv : ¬ cap = val := by omega
    replace hown := hid hown
    go_wp2_with fail
    go_region_held3 (fun W => W.cell? ⟨g, i, none⟩ = some (.int .i64 (val : Nat)))
      (first
        | exact (hb3.cell (p := ⟨g, i, none⟩) hgl).trans r0
        | go_keep)
      (first | (go_at_call 95; refine (hcall.out _ (by first | exact hb2 | exact hb2.drew)).mono ?_; rintro e w3 ⟨v3', rfl, hb3, ho3⟩))
    have hB : Below w.heap.size w w3 := hb2.trans ((show Below w2.heap.size w2 w3 from ⟨hb3.os, hb3.tape, hb3.output, hb3.size, hb3.block⟩).mono hb2.size)
    have hO := hid (OwnNode.wide ho3 (show w.heap.size ≤ w2.heap.size from hb2.size))
    clear ho3 hcall hnat
    go_wp2
    go_ret
    exact ⟨_, rfl, hB, by rw [hpart.out]; exact hO.out⟩

set_option maxRecDepth 100000 in
set_option maxHeartbeats 1600000 in
theorem specPart_any (l0 : List Node) (v0 : Value) (a1 : Int) (w : World) (hx0 : ∀ x ∈ l0, x.Ok) (hn0 : bulk Node.sizes l0 ≤ 1048576) (hv0 : NodeSlc w v0 l0) (ha1 : I64 a1) :
    Calls Try.prog 46 #[v0, .int .i64 a1] w fun e w' => ∃ v', e = .returned v' ∧ Below w.heap.size w w' ∧ OwnNode w' w.heap.size w'.heap.size v' (part l0 a1) := by
  have hsh := specShapeOk_any l0 v0 w hx0 hn0 hv0
  have hv := hv0
  have hlen := Nat.le_trans (length_bulk Node.sizes l0) hn0
  obtain ⟨a, cap, rfl, hm, hc, hsl⟩ := hv0.shape
  have ha := ha1
  unfold I64 at ha
  by_cases hok : shapeOk (l0.map Node.kids) = true
  · by_cases hin : 0 ≤ a1 ∧ a1 ≤ (l0.length : Int) - 1
    · obtain ⟨i, rfl⟩ : ∃ i : Nat, a1 = (i : Int) := ⟨a1.toNat, by omega⟩
      have hil : i < l0.length := by omega
      have hd : decide ((0 : Int) ≤ (i : Int) ∧ (i : Int) ≤ (l0.length : Int) - 1) = true := by simp; omega
      have hw := fun W => specl1In_any (i : Int) 0 ((l0.length : Int) - 1) W
      rw [hd] at hw
      have hp := hid (fun W (hb : Below w.heap.size w W) => specl6Part_any l0 _ i W hx0 hn0 (hv.mono hb (Nat.le_refl _)) hok hil)
      rw [hok] at hsh
      replace hw := hid hw
      clear hd hin hok
      go_enter Try.func46, Try.ntmps46
      go_wp2_with fail
      refine hsh.mono ?_; rintro e w1 ⟨rfl, hb1⟩
      clear hsh
      go_wp2_with (go_at_call 77; refine (hw.out _).mono ?_; rintro e w' ⟨rfl, rfl⟩)
      refine (hp.out _ hb1).mono ?_; rintro e w2 ⟨v2, rfl, hb2, ho2⟩
      have hO := hid (OwnNode.wide ho2 (show w.heap.size ≤ w1.heap.size from hb1.size))
      clear ho2
      go_wp2
      go_ret
      exact ⟨_, rfl, hb1.trans (hb2.mono hb1.size), hO.out⟩
    · have hd : decide ((0 : Int) ≤ a1 ∧ a1 ≤ (l0.length : Int) - 1) = false := by simp; omega
      have hw := fun W => specl1In_any a1 0 ((l0.length : Int) - 1) W
      rw [hd] at hw
      have hpa := hid (part_no (l := l0) (i := a1) (by unfold inPart; rw [hok]; simp; omega))
      rw [hok] at hsh
      replace hw := hid hw
      clear hd hin hok
      go_enter Try.func46, Try.ntmps46
      go_wp2_with fail
      refine hsh.mono ?_; rintro e w1 ⟨rfl, hb1⟩
      clear hsh
      have hbs := hb1.size
      go_wp2_with (go_at_call 77; refine (hw.out _).mono ?_; rintro e w' ⟨rfl, rfl⟩)
      go_ret
      exact ⟨_, rfl, hb1.alloc hb1.size _, by rw [hpa.out]; exact OwnNode.empty w1 w.heap.size hb1.size⟩
  · have hok : shapeOk (l0.map Node.kids) = false := by simpa using hok
    have hpa := hid (part_no (l := l0) (i := a1) (by unfold inPart; rw [hok]; rfl))
    rw [hok] at hsh
    clear hok
    go_enter Try.func46, Try.ntmps46
    go_wp2_with fail
    refine hsh.mono ?_; rintro e w1 ⟨rfl, hb1⟩
    clear hsh
    have hbs := hb1.size
    go_wp2
    go_ret
    exact ⟨_, rfl, hb1.alloc hb1.size _, by rw [hpa.out]; exact OwnNode.empty w1 w.heap.size hb1.size⟩

end Go.Proofs.Ytagoeiegdlnalaa
