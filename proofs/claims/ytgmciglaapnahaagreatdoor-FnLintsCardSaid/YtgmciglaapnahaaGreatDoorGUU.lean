/- Walks and lemmas of this seat (PUnused): what each theorem says of the functions that it names. Conditions: those that each theorem states. -/
import Derived.Test.YtgmciglaapnahaaGreatDoorGR
import Derived.Test.YtgmciglaapnahaaGreatDoorGP
import Derived.Test.YtgmciglaapnahaaGreatDoorGV
import Derived.Test.YtgmciglaapnahaaGreatDoorGH
namespace Go.Proofs.YtgmciglaapnahaaGreatDoor
set_option linter.unusedVariables false
set_option linter.unusedSimpArgs false
open Go.RowKit Go.Lib

/-! The body of a function, and the parameters that it does not name. -/
theorem part_ok {l : List Node} (hx : ∀ x ∈ l, x.Ok) (hl : l.length ≤ 1048576) (i : Int) : ∀ y ∈ part l i, y.Ok := by
  intro y hy
  unfold part at hy
  split at hy
  · rename_i h
    split at hy
    · simp at hy
    · rename_i s hs
      obtain ⟨x, hx', rfl⟩ := List.mem_map.1 hy
      have hm : x ∈ l := List.mem_of_mem_drop (List.mem_of_mem_take hx')
      obtain ⟨j, hj⟩ := List.getElem?_of_mem hm
      have hah := ahead_of hs j x hj
      have hjl := (List.getElem?_eq_some_iff.1 hj).1
      have hlow := (starts_len hs).1.getD i.toNat
      obtain ⟨h1, h2, h3, h4, h5, h6⟩ := hx x hm
      refine ⟨h1, h2, h3, h4, fun k hk => ?_, by simpa [Node.shift] using h6⟩
      obtain ⟨k', hk', rfl⟩ := List.mem_map.1 hk
      have := hah k' hk'
      unfold I64; omega
  · simp at hy
def bodyIx (l : List Node) (n : Nat) : Int := match l[n]? with | some x => x.kids.getD (x.kids.length - 1) 0 | none => 0
def bodyOf (l : List Node) (n : Nat) : List Node := part l (bodyIx l n)
def idle (l : List Node) (n : Nat) (s : ByteArray) : Bool := usesOf s (bodyOf l n) == 0
def unusedOf (l : List Node) (i : Int) : List ByteArray := namesT ((paramsOf l i).filter (idle l i.toNat))
theorem body_kid {l : List Node} (hok : treeOk l = true) {n : Nat} {x : Node} (hx : l[n]? = some x) (hk : 1 ≤ x.kids.length) : ∃ m : Nat, x.kids[x.kids.length - 1]? = some (m : Int) ∧ m < l.length ∧ bodyIx l n = (m : Int) := by
  obtain ⟨kid, hkid⟩ := get_of_lt (show x.kids.length - 1 < x.kids.length by omega)
  have h3 := shapeOk_ahead (treeOk_shape hok) n x hx kid (List.mem_of_getElem? hkid)
  have hl := (List.getElem?_eq_some_iff.1 hx).1
  have e : ((kid.toNat : Nat) : Int) = kid := by omega
  refine ⟨kid.toNat, by rw [hkid, e], by omega, ?_⟩
  unfold bodyIx
  rw [hx]
  simp only
  rw [List.getD_eq_getElem?_getD, hkid, e]; rfl
theorem params_small {l : List Node} (hn : bulk Node.sizes l ≤ 1048576) (i : Int) : ∀ s ∈ paramsOf l i, s.size ≤ 1048576 := by
  intro s hs
  unfold paramsOf at hs
  split at hs
  · unfold paramsAt at hs
    obtain ⟨k, _, rfl⟩ := List.mem_map.1 hs
    unfold textAt
    split
    · rename_i x hx'
      have h3 := Nat.le_trans (bulk_mem Node.sizes (List.mem_of_getElem? hx')) hn
      unfold Node.sizes at h3
      omega
    · show 0 ≤ 1048576; omega
  · simp at hs
theorem own_cut {w : World} {B : Nat} {e : TypeId} {n cap k g : Nat} {xs : List Value} (h : w.ownsRow B e 1 (.slice (some ⟨g, 0, none⟩) n cap) n xs) (hk : k ≤ n) : w.ownsRow B e 1 (.slice (some ⟨g, 0, none⟩) k cap) k (xs.take k) := by
  have hx := h.1
  refine ⟨by rw [List.length_take]; omega, ?_⟩
  rcases h.2 with ⟨e0, _⟩ | ⟨g', cap', cur, he, hb, hg, hc, hm, hs, ht⟩
  · cases e0
  · injection he with e1 _ e3
    injection e1 with e1
    injection e1 with e1
    subst e1; subst e3
    refine .inr ⟨g, cap, cur, rfl, hb, hg, by omega, hm, hs, ?_⟩
    rw [← ht, List.take_take]
    congr 1
    omega
theorem own_ne {w : World} {B : Nat} {e : TypeId} {s n : Nat} {v : Value} {xs : List Value} (h : w.ownsRow B e s v n xs) (hn : 0 < n) : v ≠ .slice none 0 0 := by
  intro e0
  subst e0
  rcases h.2 with ⟨_, h0⟩ | ⟨g, cap, cur, he, _⟩
  · omega
  · cases he
/-- How the row stands while it is thinned out: i kept of the first j. -/
structure Thin (p : ByteArray → Bool) (d dk : List ByteArray) (i j : Nat) : Prop where
  len : dk.length = d.length
  le : i ≤ j
  kept : dk.take i = (d.take j).filter p
  rest : dk.drop j = d.drop j
theorem Thin.keep {p : ByteArray → Bool} {d dk : List ByteArray} {i j : Nat} {x : ByteArray} (h : Thin p d dk i j) (hx : d[j]? = some x) (hp : p x = true) : Thin p d (dk.set i x) (i + 1) (j + 1) := by
  obtain ⟨h1, h2, h3, h4⟩ := h
  have hj := (List.getElem?_eq_some_iff.1 hx).1
  refine ⟨by simpa using h1, by omega, ?_, ?_⟩
  · have e : (dk.set i x).take (i + 1) = dk.take i ++ [x] := by
      rw [List.take_add_one, List.take_set_of_le (Nat.le_refl i)]
      congr 1
      rw [List.getElem?_set_self (by omega)]; rfl
    rw [e, h3, List.take_add_one, hx]
    simp [hp]
  · rw [List.drop_set_of_lt (by omega)]
    have := congrArg (List.drop 1) h4
    simpa [List.drop_drop] using this
theorem Thin.skip {p : ByteArray → Bool} {d dk : List ByteArray} {i j : Nat} {x : ByteArray} (h : Thin p d dk i j) (hx : d[j]? = some x) (hp : p x = false) : Thin p d dk i (j + 1) := by
  obtain ⟨h1, h2, h3, h4⟩ := h
  refine ⟨h1, by omega, ?_, ?_⟩
  · rw [h3, List.take_add_one, hx]
    simp [hp]
  · have := congrArg (List.drop 1) h4
    simpa [List.drop_drop] using this
theorem Thin.at {p : ByteArray → Bool} {d dk : List ByteArray} {i j : Nat} (h : Thin p d dk i j) (hj : j < d.length) : dk[j]? = d[j]? := by
  have := congrArg (fun l => l[0]?) h.rest
  simpa using this
theorem Thin.done {p : ByteArray → Bool} {d dk : List ByteArray} {i j : Nat} (h : Thin p d dk i j) (hj : d.length ≤ j) : dk.take i = d.filter p := by
  rw [h.kept, List.take_of_length_le hj]
theorem Thin.start {p : ByteArray → Bool} {d : List ByteArray} {k : Nat} {x : ByteArray} (hk : d[k]? = some x) (hx : p x = false) (ha : ∀ y ∈ d.take k, p y = true) : Thin p d d k (k + 1) := by
  refine ⟨rfl, by omega, ?_, rfl⟩
  rw [List.take_add_one, hk]
  simp [hx, List.filter_eq_self.2 ha]
end Go.Proofs.YtgmciglaapnahaaGreatDoor
/- Walks and lemmas of this seat (FProg): what each theorem says of the functions that it names. Conditions: those that each theorem states. -/
namespace Go.Proofs.YtgmciglaapnahaaGreatDoor
set_option linter.unusedVariables false
set_option linter.unusedSimpArgs false
open Go.RowKit Go.Lib

/-! Programs that are valid: both sides. -/
def progOkB (l : List Node) : Bool := treeOk l && kindAt l ((l.length - 1 : Nat) : Int) == 45
theorem progOk_tree {l : List Node} (h : progOkB l = true) : treeOk l = true := by unfold progOkB at h; simp only [Bool.and_eq_true] at h; exact h.1
set_option maxRecDepth 100000 in
set_option maxHeartbeats 1600000 in
theorem specProgramOk_any (l0 : List Node) (v0 : Value) (w : World) (hx0 : ∀ x ∈ l0, x.Ok) (hn0 : bulk Node.sizes l0 ≤ 1048576) (hv0 : NodeSlc w v0 l0) :
    Calls Tryz.prog 20 #[v0] w fun e w' => e = .returned (.bool (progOkB l0)) ∧ Below w.heap.size w w' := by
  have hv := hv0
  have hcall := specTreeOk_any l0 v0 w hx0 hn0 hv
  obtain ⟨a, cap, rfl, hm, hc, hsl⟩ := hv0.shape
  by_cases hok : treeOk l0 = true
  · obtain ⟨h1, h2, _⟩ := shapeOk_yes (treeOk_shape hok)
    obtain ⟨n, hn⟩ : ∃ n : Nat, n = l0.length - 1 := ⟨_, rfl⟩
    have hnl : n < l0.length := by omega
    have hni : (l0.length : Int) - 1 = (n : Int) := by omega
    obtain ⟨x, ka, kc, b, off, hx, rfl, C0, C1, C2, C3, C4, hkd⟩ := hsl.at (Below.refl _ _) (Nat.le_refl _) hnl
    have hR : Hid (progOkB l0 = (x.kind == 45)) := hid (by unfold progOkB; rw [hok, ← hn, kindAt_of hx, Bool.true_and])
    generalize progOkB l0 = ans at hR ⊢
    rw [hok] at hcall
    replace hn := hid hn
    clear hok hx hkd
    go_enter Tryz.func20, Tryz.ntmps20
    go_wp2_with (go_at_call 40; refine hcall.mono ?_; rintro e w1 ⟨rfl, hb1⟩; have c0 := keepc hb1 C0)
    go_ret
    exact ⟨ret_bool hR.out.symm, hb1⟩
  · have hok : treeOk l0 = false := by simpa using hok
    have hR : Hid (progOkB l0 = false) := hid (by unfold progOkB; rw [hok, Bool.false_and])
    rw [hok] at hcall
    clear hok
    go_enter Tryz.func20, Tryz.ntmps20
    go_wp2_with (go_at_call 40; refine hcall.mono ?_; rintro e w1 ⟨rfl, hb1⟩)
    go_ret
    exact ⟨ret_bool hR.out.symm, hb1⟩
set_option maxRecDepth 100000 in
set_option maxHeartbeats 1600000 in
theorem implProgramOk_any (l0 : List Node) (v0 : Value) (w : World) (hx0 : ∀ x ∈ l0, x.Ok) (hn0 : bulk Node.sizes l0 ≤ 1048576) (hv0 : NodeSlc w v0 l0) (hE : WordEnv w) :
    Calls Tryz.prog 90 #[v0] w fun e w' => e = .returned (.bool (progOkB l0)) ∧ Below w.heap.size w w' := by
  have hv := hv0
  have hcall := implTreeOk_any l0 v0 w hx0 hn0 hv hE
  obtain ⟨a, cap, rfl, hm, hc, hsl⟩ := hv0.shape
  by_cases hok : treeOk l0 = true
  · obtain ⟨h1, h2, _⟩ := shapeOk_yes (treeOk_shape hok)
    obtain ⟨n, hn⟩ : ∃ n : Nat, n = l0.length - 1 := ⟨_, rfl⟩
    have hnl : n < l0.length := by omega
    have hni : (l0.length : Int) - 1 = (n : Int) := by omega
    obtain ⟨x, ka, kc, b, off, hx, rfl, C0, C1, C2, C3, C4, hkd⟩ := hsl.at (Below.refl _ _) (Nat.le_refl _) hnl
    have hR : Hid (progOkB l0 = (x.kind == 45)) := hid (by unfold progOkB; rw [hok, ← hn, kindAt_of hx, Bool.true_and])
    generalize progOkB l0 = ans at hR ⊢
    rw [hok] at hcall
    replace hn := hid hn
    clear hok hx hkd
    go_enter Tryz.func90, Tryz.ntmps90
    go_wp2_with (go_at_call 97; refine hcall.mono ?_; rintro e w1 ⟨rfl, hb1⟩; have c0 := keepc hb1 C0)
    go_ret
    exact ⟨ret_bool hR.out.symm, hb1⟩
  · have hok : treeOk l0 = false := by simpa using hok
    have hR : Hid (progOkB l0 = false) := hid (by unfold progOkB; rw [hok, Bool.false_and])
    rw [hok] at hcall
    clear hok
    go_enter Tryz.func90, Tryz.ntmps90
    go_wp2_with (go_at_call 97; refine hcall.mono ?_; rintro e w1 ⟨rfl, hb1⟩)
    go_ret
    exact ⟨ret_bool hR.out.symm, hb1⟩
end Go.Proofs.YtgmciglaapnahaaGreatDoor
