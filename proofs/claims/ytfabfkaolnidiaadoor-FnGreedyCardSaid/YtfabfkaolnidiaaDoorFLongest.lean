/- Walks and lemmas of this seat (FLongest): what each theorem says of the functions that it names. Conditions: those that each theorem states. -/
import Derived.Test.YtfabfkaolnidiaaDoorFLines2
namespace Go.Proofs.YtfabfkaolnidiaaDoor
set_option linter.unusedVariables false
set_option linter.unusedSimpArgs false
open Go.RowKit

theorem linesAcc_small : ∀ (l cur : List UInt8), (linesAcc cur l).length ≤ l.length + (if cur = [] then 0 else 1) ∧ ∀ x ∈ linesAcc cur l, x.length ≤ cur.length + l.length := by
  intro l
  induction l with
  | nil =>
    intro cur
    rw [linesAcc]
    by_cases h : cur = []
    · rw [if_pos h, if_pos h]; simp
    · rw [if_neg h, if_neg h]; simp
  | cons c l ih =>
    intro cur
    rw [linesAcc]
    by_cases hc : c = 10
    · rw [if_pos hc]
      have h1 := ih []
      rw [if_pos rfl] at h1
      refine ⟨by simp only [List.length_cons]; omega, fun x hx => ?_⟩
      rcases List.mem_cons.1 hx with rfl | hx
      · omega
      · have := h1.2 x hx; simp at this ⊢; omega
    · rw [if_neg hc]
      have h1 := ih (cur ++ [c])
      rw [if_neg (by simp)] at h1
      refine ⟨by simp only [List.length_cons]; omega, fun x hx => ?_⟩
      have := h1.2 x hx; simp at this ⊢; omega
theorem linesOf_len (s : ByteArray) : (linesOf s).length ≤ s.size := by
  have := (linesAcc_small s.data.toList []).1
  rw [if_pos rfl] at this
  unfold linesOf
  rw [List.length_map]
  exact this
theorem linesOf_size {s x : ByteArray} (h : x ∈ linesOf s) : x.size ≤ s.size := by
  unfold linesOf at h
  obtain ⟨l, hl, rfl⟩ := List.mem_map.1 h
  have := (linesAcc_small s.data.toList []).2 l hl
  have e : s.data.toList.length = s.size := rfl
  have e2 : (⟨l.toArray⟩ : ByteArray).size = l.length := rfl
  simp at this
  omega
/-- The length of the longest line. -/
def longestFrom (m : Nat) (l : List ByteArray) : Nat := l.foldl (fun m x => max m x.size) m
def longest (s : ByteArray) : Nat := longestFrom 0 (linesOf s)

set_option maxRecDepth 100000 in
theorem implLongest_any (s0 : ByteArray) (w : World) (hs0 : s0.size ≤ 1048576) (hM : HasMaxLen w) :
    Calls Tryd.prog 8 #[.string s0] w fun e w' => e = .returned (.int .i64 (longest s0 : Nat)) ∧ Below w.heap.size w w' := by
  have hlen := linesOf_len s0
  have hsz : Hid (∀ x ∈ linesOf s0, x.size ≤ s0.size) := hid fun x h => linesOf_size h
  have hcall := implLinesOf_any s0 w hs0 hM
  have hL : Hid (longest s0 = longestFrom 0 (linesOf s0)) := hid rfl
  generalize linesOf s0 = L at hlen hsz hcall hL
  generalize longest s0 = ans at hL ⊢
  clear hM
  go_enter Tryd.func8, Tryd.ntmps8
  go_wp2_with fail
  refine hcall.mono ?_; rintro e w1 ⟨v', rfl, hb1, ho1⟩
  obtain ⟨_, a, cap, rfl, hc, hm, hrow⟩ := Slc.of_own ho1
  unfold maxLen at hm
  have hbs1 := hb1.size
  clear hcall ho1
  go_wp2
  go_loopw [3, 9] (fun v i wr => ∃ (k m : Nat), i = .int .i64 k ∧ k ≤ L.length ∧ v = .int .i64 m ∧ m ≤ s0.size ∧ Below w1.heap.size w1 wr ∧ Hid (ans = longestFrom m (L.drop k))) (fun _ i _ => L.length - (intOf i).toNat)
  case atStart => exact ⟨0, 0, rfl, by omega, rfl, by omega, Below.refl _ _, hid hL.out⟩
  clear hL
  obtain ⟨k, m, rfl, hk, rfl, hmm, hb, hrel⟩ := hrel
  by_cases hlt : k < L.length
  · obtain ⟨x, hx⟩ := get_of_lt hlt
    obtain ⟨b, off, rfl, hro⟩ := slc_some hrow (by omega)
    have c0 := (hro.mono hb (Nat.le_refl _)).one str1_len hx rfl
    have hxs := hsz.out x (List.mem_of_getElem? hx)
    rw [drop_cons hx] at hrel
    clear hx hro
    go_wp2
    all_goals go_roundw
    all_goals first
      | (simp [intOf]; omega)
      | (refine ⟨k + 1, max m x.size, by go_num, by omega, ?_, by omega, hb, hid (by rw [hrel.out]; rfl)⟩
         first
           | rfl
           | (congr 1; omega)
           | (by_cases hcm : m < x.size
              · rw [if_pos (by omega), Nat.max_eq_right (by omega)]
              · rw [if_neg (by omega), Nat.max_eq_left (by omega)]))
  · go_wp2
    go_ret
    exact ⟨ret_int (by rw [hrel.out, List.drop_of_length_le (by omega)]; rfl), hb1.trans (hb.mono hb1.size)⟩
end Go.Proofs.YtfabfkaolnidiaaDoor
