/- Walks and lemmas of this seat (FDocOk2): what each theorem says of the functions that it names. Conditions: those that each theorem states. -/
import Derived.Test.YtfabfkaolnidiaaFDocOk
namespace Go.Proofs.Ytfabfkaolnidiaa
set_option linter.unusedVariables false
set_option linter.unusedSimpArgs false
open Go.RowKit

def docOk (l : List DNode) : Bool := decide (1 ≤ l.length ∧ l.length ≤ 4000) && l.all docNode && startsLast (l.map DNode.kids)
theorem sizes_mem {l : List DNode} {x : DNode} (h : x ∈ l) (hn : bulk DNode.sizes l ≤ 1048576) : x.sizes ≤ 1048576 := Nat.le_trans (bulk_mem DNode.sizes h) hn

set_option maxRecDepth 100000 in
set_option maxHeartbeats 1600000 in
theorem specDocOk_any (l0 : List DNode) (v0 : Value) (w : World) (hx0 : ∀ x ∈ l0, x.Ok) (hn0 : bulk DNode.sizes l0 ≤ 1048576) (hv0 : DNodeSlc w v0 l0) :
    Calls Try.prog 24 #[v0] w fun e w' => e = .returned (.bool (docOk l0)) ∧ Below w.heap.size w w' := by
  have hv := hv0
  obtain ⟨a, cap, rfl, hm, hc, hsl⟩ := hv0.shape
  have hlen := length_bulk DNode.sizes l0
  by_cases hin : 1 ≤ l0.length ∧ l0.length ≤ 4000
  · have hd : decide ((1 : Int) ≤ (l0.length : Int) ∧ (l0.length : Int) ≤ 4000) = true := by simp; omega
    have hw1 := specl1In_an (l0.length : Int) 1 4000 w
    rw [hd] at hw1
    have hR : Hid (docOk l0 = (l0.all docNode && startsLast (l0.map DNode.kids))) := hid (by unfold docOk; rw [show decide (1 ≤ l0.length ∧ l0.length ≤ 4000) = true from by simpa using hin, Bool.true_and])
    clear hd
    go_enter Try.func24, Try.ntmps24
    go_wp2_with fail
    refine hw1.mono ?_; rintro e w1 ⟨rfl, rfl⟩
    clear hw1
    go_wp2
    go_loopw [3] (fun i wr => ∃ (k : Nat), i = .int .i64 k ∧ k ≤ l0.length ∧ Below w.heap.size w wr ∧ Hid (l0.all docNode = (l0.drop k).all docNode)) (fun i _ => l0.length - (intOf i).toNat)
    case atStart => exact ⟨0, rfl, by omega, Below.refl _ _, hid rfl⟩
    obtain ⟨k, rfl, hk, hb, hrel⟩ := hrel
    have hbs := hb.size
    by_cases hlt : k < l0.length
    · obtain ⟨x, ka, kc, b, off, hx, rfl, c0, c1, c2, c3, hkd⟩ := hsl.at hb (Nat.le_refl _) hlt
      have hmem := List.mem_of_getElem? hx
      have hxo := hx0 x hmem
      have hxs := sizes_mem hmem hn0
      rw [drop_cons hx, List.all_cons] at hrel
      have HR := hrel
      clear hx hrel hmem
      have hcall := specl15Node_any x _ wr hxo hxs hkd
      clear hxo
      by_cases hd : docNode x = true
      · rw [hd] at hcall
        rw [hd, Bool.true_and] at HR
        clear hd
        go_wp2_with (go_at_call 57; refine hcall.mono ?_; rintro e w2 ⟨rfl, hb2⟩)
        go_roundw
        case rel => exact ⟨k + 1, by go_num, by omega, hb.trans (hb2.mono hb.size), HR⟩
        case measure => simp [intOf]; omega
      · have hd : docNode x = false := by simpa using hd
        rw [hd] at hcall
        rw [hd, Bool.false_and] at HR
        clear hd
        go_wp2_with (go_at_call 57; refine hcall.mono ?_; rintro e w2 ⟨rfl, hb2⟩)
        go_ret
        exact ⟨ret_bool (by rw [hR.out, HR.out, Bool.false_and]), hb.trans (hb2.mono hb.size)⟩
    · have hR2 : Hid (docOk l0 = startsLast (l0.map DNode.kids)) := hid (by rw [hR.out, hrel.out, List.drop_of_length_le (by omega)]; rfl)
      have hcall := specl15Starts_any l0 _ wr (by omega) hx0 (hv.mono hb (Nat.le_refl _))
      clear hrel hR
      go_wp2_with fail
      refine hcall.mono ?_; rintro e w2 ⟨hb2, ⟨hno, v', rfl⟩ | ⟨s, v', hs, rfl, hown⟩⟩
      · have hR3 : Hid (docOk l0 = false) := hid (by rw [hR2.out]; unfold startsLast; rw [hno])
        clear hno hcall
        go_wp2
        go_ret
        exact ⟨ret_bool hR3.out.symm, hb.trans (hb2.mono hb.size)⟩
      · have hsl2 : s.length = l0.length := by have := (starts_len hs).2; simpa using this
        have hlt0 : l0.length - 1 < s.length := by omega
        have hR3 : Hid (docOk l0 = (s.getD (l0.length - 1) 0 == 0)) := hid (by rw [hR2.out]; unfold startsLast; rw [hs]; simp)
        obtain ⟨g, cp, rfl, hcp⟩ := own_slice' hown (by omega)
        have r0 := own_read hown (nat1_at hlt0)
        generalize s.getD (l0.length - 1) 0 = val at r0 hR3
        unfold maxLen at hcp
        obtain ⟨n', hn'⟩ : ∃ n', n' = l0.length - 1 := ⟨_, rfl⟩
        rw [← hn'] at r0
        have hv1 : (l0.length : Int) - 1 = (n' : Int) := by omega
        have hi1 : n' < s.length := by omega
        have hi2 : (n' : Int) < (s.length : Int) := by omega
        replace hn' := hid hn'
        replace hsl2 := hid hsl2
        clear hs hcall hown hlt0
        go_wp2
        go_ret
        exact ⟨ret_bool (by rw [hR3.out, Bool.eq_iff_iff]; simp), hb.trans (hb2.mono hb.size)⟩
  · have hd : decide ((1 : Int) ≤ (l0.length : Int) ∧ (l0.length : Int) ≤ 4000) = false := by simp; omega
    have hw1 := specl1In_an (l0.length : Int) 1 4000 w
    rw [hd] at hw1
    have hR : Hid (docOk l0 = false) := hid (by unfold docOk; rw [show decide (1 ≤ l0.length ∧ l0.length ≤ 4000) = false from by simpa using hin]; simp)
    clear hd hin
    go_enter Try.func24, Try.ntmps24
    go_wp2_with fail
    refine hw1.mono ?_; rintro e w1 ⟨rfl, rfl⟩
    clear hw1
    go_wp2
    go_ret
    exact ⟨ret_bool hR.out.symm, Below.refl _ _⟩

set_option maxRecDepth 100000 in
set_option maxHeartbeats 1600000 in
theorem implDocOk_any (l0 : List DNode) (v0 : Value) (w : World) (hx0 : ∀ x ∈ l0, x.Ok) (hn0 : bulk DNode.sizes l0 ≤ 1048576) (hv0 : DNodeSlc w v0 l0) :
    Calls Try.prog 39 #[v0] w fun e w' => e = .returned (.bool (docOk l0)) ∧ Below w.heap.size w w' := by
  have hv := hv0
  obtain ⟨a, cap, rfl, hm, hc, hsl⟩ := hv0.shape
  have hlen := length_bulk DNode.sizes l0
  have hR : Hid (docOk l0 = (l0.all docNode && (decide (1 ≤ l0.length ∧ l0.length ≤ 4000) && startsLast (l0.map DNode.kids)))) := hid (by unfold docOk; rw [← Bool.and_assoc, Bool.and_comm (l0.all docNode)])
  go_enter Try.func39, Try.ntmps39
  go_wp2
  go_loopw [9] (fun i wr => ∃ (k : Nat), i = .int .i64 k ∧ k ≤ l0.length ∧ Below w.heap.size w wr ∧ Hid (l0.all docNode = (l0.drop k).all docNode)) (fun i _ => l0.length - (intOf i).toNat)
  case atStart => exact ⟨0, rfl, by omega, Below.refl _ _, hid rfl⟩
  obtain ⟨k, rfl, hk, hb, hrel⟩ := hrel
  have hbs := hb.size
  by_cases hlt : k < l0.length
  · obtain ⟨x, ka, kc, b, off, hx, rfl, c0, c1, c2, c3, hkd⟩ := hsl.at hb (Nat.le_refl _) hlt
    have hmem := List.mem_of_getElem? hx
    have hxo := hx0 x hmem
    have hxs := sizes_mem hmem hn0
    rw [drop_cons hx, List.all_cons] at hrel
    have HR := hrel
    clear hx hrel hmem
    have hcall := fun o => impldocNodeOk_any x _ (wr.alloc o) hxo hxs (hkd.mono ((Below.refl _ _).alloc (Nat.le_refl _) o) (Nat.le_refl _))
    clear hxo
    by_cases hd : docNode x = true
    · rw [hd] at hcall
      rw [hd, Bool.true_and] at HR
      clear hd
      go_wp2_with (go_at_call 62; refine (hcall _).mono ?_; rintro e w2 ⟨rfl, hb2⟩)
      go_roundw
      case rel => exact ⟨k + 1, by go_num, by omega, (show Below w.heap.size w (wr.alloc _) from hb.alloc hb.size _).trans (hb2.mono (by simp; omega)), HR⟩
      case measure => simp [intOf]; omega
    · have hd : docNode x = false := by simpa using hd
      rw [hd] at hcall
      rw [hd, Bool.false_and] at HR
      clear hd
      go_wp2_with (go_at_call 62; refine (hcall _).mono ?_; rintro e w2 ⟨rfl, hb2⟩)
      go_ret
      exact ⟨ret_bool (by rw [hR.out, HR.out, Bool.false_and]), (show Below w.heap.size w (wr.alloc _) from hb.alloc hb.size _).trans (hb2.mono (by simp; omega))⟩
  · have hR2 : Hid (docOk l0 = (decide (1 ≤ l0.length ∧ l0.length ≤ 4000) && startsLast (l0.map DNode.kids))) := hid (by rw [hR.out, hrel.out, List.drop_of_length_le (by omega)]; rfl)
    have hcall := impldocStarts_any l0 _ wr (by omega) hx0 (hv.mono hb (Nat.le_refl _))
    clear hrel hR
    go_wp2_with fail
    refine hcall.mono ?_; rintro e w2 ⟨hb2, v', rfl, _⟩
    clear hcall
    generalize hval : (decide (1 ≤ (l0.map DNode.kids).length ∧ (l0.map DNode.kids).length ≤ 4000) && startsLast (l0.map DNode.kids)) = val
    replace hval := hid hval
    go_wp2
    go_ret
    exact ⟨ret_bool (by rw [hR2.out, ← hval.out, List.length_map]), hb.trans (hb2.mono hb.size)⟩

end Go.Proofs.Ytfabfkaolnidiaa
