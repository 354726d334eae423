/- Walks and lemmas of this seat (FDeleteT): what each theorem says of the functions that it names. Conditions: those that each theorem states. -/
import Derived.Lib.SliceRun
import Derived.Laws.IdiomCopy
import Derived.Test.YtkelhmgdajiocaaGreatDoorFSpellA
import Derived.Test.YtkelhmgdajiocaaGreatDoorFTok1
import Derived.Test.YtkelhmgdajiocaaGreatDoorPSpellLaw
import Derived.Test.YtkelhmgdajiocaaGreatDoorGO
import Derived.Test.YtkelhmgdajiocaaGreatDoorGSK
import Derived.Test.YtkelhmgdajiocaaGreatDoorPYieldT
namespace Go.Proofs.YtkelhmgdajiocaaGreatDoor
set_option linter.unusedVariables false
set_option linter.unusedSimpArgs false
open Go.RowKit Go.Lib

/-! slices.DeleteFunc at tokens, with the closure of Yield. -/
theorem setCells_all (g : Nat) (us : List Value) : ∀ (w : World) (o : Nat), w.setCells g o us = storeAll w g o us := by
  induction us with
  | nil => intro w o; rfl
  | cons u us ih => intro w o; exact ih _ _
theorem setAll_take (us : List Value) : ∀ (xs : List Value) (o : Nat), (setAll xs o us).take o = xs.take o := by
  induction us with
  | nil => intro xs o; rfl
  | cons u us ih =>
    intro xs o
    rw [setAll]
    have h := congrArg (List.take o) (ih (xs.set o u) (o + 1))
    rw [List.take_take, List.take_take, Nat.min_eq_left (by omega)] at h
    rw [h, List.take_set_of_le (Nat.le_refl o)]
theorem grown_storeAll (g : Nat) (us : List Value) : ∀ (w : World) (o : Nat), w.grownBy (storeAll w g o us) (some g) := by
  induction us with
  | nil => intro w o; exact grown_refl _ _
  | cons u us ih => intro w o; exact grown_trans (grown_set w g o u) (ih _ _)
theorem below_grown {w w' : World} (h : Below w.heap.size w w') (r : Option Nat) : w.grownBy w' r := ⟨h.os, h.tape, h.output, h.size, fun i hi _ => h.block i hi⟩
theorem own_froz {w : World} {B : Nat} {e : TypeId} {s n cap g : Nat} {xs : List Value} (h : w.ownsRow B e s (.slice (some ⟨g, 0, none⟩) n cap) n xs) (j : Nat) : w.frozen? ⟨g, j, none⟩ = false := by
  rcases h.2 with ⟨e0, _⟩ | ⟨g', cap', cur, he, _, hg, _⟩
  · cases e0
  · injection he with e1 _ _
    injection e1 with e1
    injection e1 with e1
    subst e1
    simp [World.frozen?, hg]
/-- How the row stands while it is thinned out: i kept of the first j. -/
structure ThinT (p : Token → Bool) (d dk : List Token) (i j : Nat) : Prop where
  len : dk.length = d.length
  le : i ≤ j
  kept : dk.take i = (d.take j).filter p
  rest : dk.drop j = d.drop j
theorem ThinT.keep {p : Token → Bool} {d dk : List Token} {i j : Nat} {x : Token} (h : ThinT p d dk i j) (hx : d[j]? = some x) (hp : p x = true) : ThinT p d (dk.set i x) (i + 1) (j + 1) := by
  obtain ⟨h1, h2, h3, h4⟩ := h
  have hj := (List.getElem?_eq_some_iff.1 hx).1
  refine ⟨by simpa using h1, by omega, ?_, ?_⟩
  · have e : (dk.set i x).take (i + 1) = dk.take i ++ [x] := by
      rw [List.take_add_one, List.take_set_of_le (Nat.le_refl i)]
      congr 1
      rw [List.getElem?_set_self (by omega)]; rfl
    rw [e, h3, List.take_add_one, hx]
    simp [hp]
  · rw [List.drop_set_of_lt (by omega)]
    have := congrArg (List.drop 1) h4
    simpa [List.drop_drop] using this
theorem ThinT.skip {p : Token → Bool} {d dk : List Token} {i j : Nat} {x : Token} (h : ThinT p d dk i j) (hx : d[j]? = some x) (hp : p x = false) : ThinT p d dk i (j + 1) := by
  obtain ⟨h1, h2, h3, h4⟩ := h
  refine ⟨h1, by omega, ?_, ?_⟩
  · rw [h3, List.take_add_one, hx]
    simp [hp]
  · have := congrArg (List.drop 1) h4
    simpa [List.drop_drop] using this
theorem ThinT.at {p : Token → Bool} {d dk : List Token} {i j : Nat} (h : ThinT p d dk i j) (hj : j < d.length) : dk[j]? = d[j]? := by
  have := congrArg (fun l => l[0]?) h.rest
  simpa using this
theorem ThinT.done {p : Token → Bool} {d dk : List Token} {i j : Nat} (h : ThinT p d dk i j) (hj : d.length ≤ j) : dk.take i = d.filter p := by
  rw [h.kept, List.take_of_length_le hj]
theorem ThinT.start {p : Token → Bool} {d : List Token} {k : Nat} {x : Token} (hk : d[k]? = some x) (hx : p x = false) (ha : ∀ y ∈ d.take k, p y = true) : ThinT p d d k (k + 1) := by
  refine ⟨rfl, by omega, ?_, rfl⟩
  rw [List.take_add_one, hk]
  simp [hx, List.filter_eq_self.2 ha]
def firstT (p : Token → Bool) : List Token → Nat → Int
  | [], _ => -1
  | x :: l, k => if p x = true then (k : Int) else firstT p l (k + 1)
theorem firstT_spec (p : Token → Bool) : ∀ (l : List Token) (k : Nat), (firstT p l k = -1 ∧ ∀ y ∈ l, p y = false) ∨ ∃ (n : Nat) (x : Token), firstT p l k = ((k + n : Nat) : Int) ∧ l[n]? = some x ∧ p x = true ∧ ∀ y ∈ l.take n, p y = false := by
  intro l
  induction l with
  | nil => intro k; exact .inl ⟨rfl, by simp⟩
  | cons z l ih =>
    intro k
    rw [firstT]
    cases hz : p z with
    | true => exact .inr ⟨0, z, by simp, rfl, hz, by simp⟩
    | false =>
      rw [if_neg (by simp)]
      rcases ih (k + 1) with ⟨h1, h2⟩ | ⟨n, x, h1, h2, h3, h4⟩
      · refine .inl ⟨h1, fun y hy => ?_⟩
        rcases List.mem_cons.1 hy with rfl | hy
        · exact hz
        · exact h2 y hy
      · refine .inr ⟨n + 1, x, by rw [h1]; congr 1; omega, by simpa using h2, h3, fun y hy => ?_⟩
        rw [List.take_succ_cons] at hy
        rcases List.mem_cons.1 hy with rfl | hy
        · exact hz
        · exact h4 y hy
theorem own_cutT {w : World} {B : Nat} {e : TypeId} {s n cap k g : Nat} {xs : List Value} (h : w.ownsRow B e s (.slice (some ⟨g, 0, none⟩) n cap) n xs) (hk : k ≤ n) : w.ownsRow B e s (.slice (some ⟨g, 0, none⟩) k cap) k (xs.take (k * s)) := by
  have hx := h.1
  have hks : k * s ≤ n * s := Nat.mul_le_mul_right s hk
  refine ⟨by rw [List.length_take]; omega, ?_⟩
  rcases h.2 with ⟨e0, _⟩ | ⟨g', cap', cur, he, hb, hg, hc, hm, hs, ht⟩
  · cases e0
  · injection he with e1 _ e3
    injection e1 with e1
    injection e1 with e1
    subst e1; subst e3
    refine .inr ⟨g, cap, cur, rfl, hb, hg, by omega, hm, hs, ?_⟩
    rw [← ht, List.take_take]
    congr 1
    omega
theorem own_clear3 {w : World} {B : Nat} {e : TypeId} {s n cap k g : Nat} {xs : List Value} (h : w.ownsRow B e s (.slice (some ⟨g, 0, none⟩) n cap) n xs) (hk : k ≤ n) (us : List Value) :
    (w.setCells g (k * s) us).ownsRow B e s (.slice (some ⟨g, 0, none⟩) k cap) k (xs.take (k * s)) ∧ w.grownBy (w.setCells g (k * s) us) (some g) := by
  rw [setCells_all]
  refine ⟨?_, grown_storeAll g us w (k * s)⟩
  have := own_cutT (own_storeAll us (k * s) h) hk
  rw [setAll_take] at this
  exact this
theorem run_clear_many {P : Program} (w : World) (t e ty : TypeId) (z : Value) (ht : P.underlying t = some (.slice e)) (hv : ∀ w, (zeroValue e).run P w = .ok z w) (zs : List Value) (b o n c : Nat) (hn : 0 < n)
    (hz : (Builtin.zeroCells z.cells n).toList = zs) (h1 : ∀ v ∈ zs, v.oneCell' = true)
    (hc : ∀ j, j < zs.length → (w.cell? ⟨b, o + j, none⟩).isSome = true) (hf : ∀ j, j < zs.length → w.frozen? ⟨b, o + j, none⟩ = false) :
    (Builtin.clear_ #[t] ty #[.slice (some ⟨b, o, none⟩) n c]).run P w = .ok (.tuple #[]) (w.setCells b o zs) := by
  have hst := run_storeCells_cells (P := P) b o zs 0 w (by simpa using hc) (by simpa using hf) h1
  simp only [Nat.add_zero] at hst
  obtain ⟨m, rfl⟩ : ∃ m, n = m + 1 := ⟨n - 1, by omega⟩
  simp [Builtin.clear_, run_underlying ht, hv, hz, hst]
theorem spell_box {w w' : World} {o : Obj} (hb : Below (w.alloc o).heap.size (w.alloc o) w') : w'.heap[w.heap.size]? = some o := (hb.block _ (by simp)).trans (heap_alloc_new w o)
theorem three_cells {w : World} {b : Nat} {v0 v1 v2 : Value} {T : TypeId} {k : Nat × Nat} (h : w.heap[b]? = some (.cells #[v0, v1, v2] T k)) : w.cell? ⟨b, 0, none⟩ = some v0 ∧ w.cell? ⟨b, 1, none⟩ = some v1 ∧ w.cell? ⟨b, 2, none⟩ = some v2 := ⟨by simp [World.cell?, h], by simp [World.cell?, h], by simp [World.cell?, h]⟩
def zeroTok : Value := .agg #[.int .i64 0, .string ⟨#[]⟩, .int .i64 0]
theorem zeroTok_run (w : World) : (zeroValue 50).run Tryz.prog w = .ok zeroTok w := by kernel_rfl
theorem zeroTok_cells : zeroTok.cells = #[.int .i64 0, .string ⟨#[]⟩, .int .i64 0] := by rfl
theorem zeros_len (n : Nat) : (Builtin.zeroCells zeroTok.cells n).toList.length = n * 3 := by
  rw [zeroTok_cells]; simp [Builtin.zeroCells]
theorem zeros_one (n : Nat) : ∀ v ∈ (Builtin.zeroCells zeroTok.cells n).toList, v.oneCell' = true := by
  rw [zeroTok_cells]
  intro v hv
  simp only [Builtin.zeroCells, Array.toList_map, List.mem_map] at hv
  obtain ⟨i, _, rfl⟩ := hv
  have h3 : i % 3 = 0 ∨ i % 3 = 1 ∨ i % 3 = 2 := by omega
  simp only [List.size_toArray, List.length_cons, List.length_nil]
  rcases h3 with h | h | h <;> simp [h] <;> rfl
theorem tok_get {l : List Token} {k : Nat} {x : Token} (h : l[k]? = some x) (j : Nat) {u : Value} (hu : x.cells[j]? = some u) : (l.flatMap Token.cells)[k * 3 + j]? = some u := flat_get Token.cells 3 Token.len l k j x u h hu
theorem tok_set {l : List Token} {k : Nat} (hk : k < l.length) (x : Token) : setAll (l.flatMap Token.cells) (k * 3) x.cells = (l.set k x).flatMap Token.cells := by
  obtain ⟨y, hy⟩ := get_of_lt hk
  have e : l = l.take k ++ y :: l.drop (k + 1) := by rw [← drop_cons hy]; exact (List.take_append_drop k l).symm
  have e2 : l.set k x = l.take k ++ x :: l.drop (k + 1) := by
    rw [List.set_eq_take_append_cons_drop, if_pos hk]
  rw [e2]
  conv => lhs; rw [e]
  rw [List.flatMap_append, List.flatMap_cons, setAll_mid _ _ y.cells _ _ (by rw [flat_len _ 3 Token.len, List.length_take, Nat.min_eq_left (by omega)]) (by simp [Token.cells]), List.flatMap_append, List.flatMap_cons]
theorem tok_take (l : List Token) (k : Nat) (hk : k ≤ l.length) : (l.flatMap Token.cells).take (k * 3) = (l.take k).flatMap Token.cells := by
  conv => lhs; rw [← List.take_append_drop k l]
  rw [List.flatMap_append, List.take_append_of_le_length (by rw [flat_len _ 3 Token.len, List.length_take, Nat.min_eq_left hk]; exact Nat.le_refl _), List.take_of_length_le (by rw [flat_len _ 3 Token.len, List.length_take, Nat.min_eq_left hk]; exact Nat.le_refl _)]
set_option maxRecDepth 100000 in
theorem implYield1_any (t : Token) (w : World) : Calls Tryz.prog 37 #[.agg #[.int .i64 t.kind, .string t.text, .int .i64 t.at_]] w fun e w' => e = .returned (.bool (!isOpd t)) ∧ Below w.heap.size w w' := by
  have hop := hid (fun W => implisOperand_any t W)
  unfold isOpd
  generalize leafB t.kind = b at *
  go_enter Tryz.func37, Tryz.ntmps37
  go_wp2_with (go_at_call 38; refine (hop.out _).mono ?_; rintro e w1 ⟨rfl, hb1⟩)
  go_ret
  exact ⟨rfl, ((Below.refl w.heap.size w).alloc (Nat.le_refl _) _).trans (hb1.mono (by simp))⟩

set_option maxRecDepth 100000 in
set_option maxHeartbeats 1600000 in
theorem indexFuncT (l0 : List Token) (g cap B : Nat) (w : World) (hn0 : l0.length ≤ 4194304) (hcap : cap ≤ maxLen) (ho : w.ownsRow B 50 3 (.slice (some ⟨g, 0, none⟩) l0.length cap) l0.length (l0.flatMap Token.cells)) :
    Calls Tryz.prog 60 #[.slice (some ⟨g, 0, none⟩) l0.length cap, .func (.func 37) #[] #[]] w fun e w' => e = .returned (.int .i64 (firstT (fun t => !isOpd t) l0 0)) ∧ Below w.heap.size w w' := by
  unfold maxLen at hcap
  replace ho := hid ho
  go_enter Tryz.func60, Tryz.ntmps60
  go_wp2
  go_loopw [8] (fun i wr => ∃ (k : Nat), i = .int .i64 k ∧ k ≤ l0.length ∧ Below w.heap.size w wr ∧ Hid (firstT (fun t => !isOpd t) l0 0 = firstT (fun t => !isOpd t) (l0.drop k) k)) (fun i _ => l0.length - (RowKit.intOf i).toNat)
  case atStart => exact ⟨0, rfl, by omega, by repeat (first | exact Below.refl _ _ | refine Below.alloc ?_ (by first | omega | (simp; done) | (simp; omega)) _ | refine Below.drew ?_), hid rfl⟩
  obtain ⟨k, rfl, hk, hb, hrel⟩ := hrel
  have hbs := hb.size
  by_cases hlt : k < l0.length
  · obtain ⟨x, hx⟩ := get_of_lt hlt
    have c0 := keepc hb (own_read ho.out (tok_get hx 0 rfl))
    have c1 := keepc hb (own_read ho.out (tok_get hx 1 rfl))
    have c2 := keepc hb (own_read ho.out (tok_get hx 2 rfl))
    simp only [Nat.add_zero] at c0
    have hcall := hid (implYield1_any x wr)
    rw [drop_cons hx, firstT] at hrel
    clear hx
    cases hd : (!isOpd x) with
    | true =>
      rw [hd] at hcall hrel
      have hR : Hid (firstT (fun t => !isOpd t) l0 0 = (k : Int)) := hid (by rw [hrel.out]; rfl)
      clear hrel hd
      go_wp2_with (go_at_call 37; refine hcall.out.mono ?_; rintro e w2 ⟨rfl, hb2⟩)
      go_ret
      exact ⟨ret_int hR.out.symm, hb.trans (hb2.mono hbs)⟩
    | false =>
      rw [hd] at hcall hrel
      have hR : Hid (firstT (fun t => !isOpd t) l0 0 = firstT (fun t => !isOpd t) (l0.drop (k + 1)) (k + 1)) := hid (by rw [hrel.out]; rfl)
      clear hrel hd
      go_wp2_with (go_at_call 37; refine hcall.out.mono ?_; rintro e w2 ⟨rfl, hb2⟩)
      go_roundw
      case rel => exact ⟨k + 1, by go_num, by omega, hb.trans (hb2.mono hbs), hR⟩
      case measure => simp [RowKit.intOf]; omega
  · have hR : Hid (firstT (fun t => !isOpd t) l0 0 = -1) := hid (by rw [hrel.out, List.drop_of_length_le (by omega), firstT])
    clear hrel
    go_wp2
    go_ret
    exact ⟨ret_int hR.out.symm, hb⟩

set_option maxRecDepth 100000 in
set_option maxHeartbeats 3200000 in
theorem deleteFuncT (l0 : List Token) (g cap B : Nat) (w : World) (hn0 : l0.length ≤ 4194304) (hcap : cap ≤ maxLen) (hlc : l0.length ≤ cap) (ho : w.ownsRow B 50 3 (.slice (some ⟨g, 0, none⟩) l0.length cap) l0.length (l0.flatMap Token.cells)) :
    Calls Tryz.prog 35 #[.slice (some ⟨g, 0, none⟩) l0.length cap, .func (.func 37) #[] #[]] w fun e w' =>
      e = .returned (.slice (some ⟨g, 0, none⟩) (l0.filter isOpd).length cap) ∧ w.grownBy w' (some g) ∧ w'.ownsRow B 50 3 (.slice (some ⟨g, 0, none⟩) (l0.filter isOpd).length cap) (l0.filter isOpd).length ((l0.filter isOpd).flatMap Token.cells) := by
  have hix := indexFuncT l0 g cap B w hn0 hcap ho
  have hcap2 := hcap
  unfold maxLen at hcap2
  rcases firstT_spec (fun t => !isOpd t) l0 0 with ⟨h1, h2⟩ | ⟨k0, x0, h1, h2, h3, h4⟩
  · have hF : (l0.filter isOpd) = l0 := List.filter_eq_self.2 fun y hy => by have := h2 y hy; simpa using this
    rw [h1] at hix
    rw [hF]
    replace ho := hid ho
    clear h2
    go_enter Tryz.func35, Tryz.ntmps35
    go_wp2_with (go_at_call 60; refine hix.mono ?_; rintro e w2 ⟨rfl, hb2⟩)
    go_ret
    exact ⟨rfl, below_grown hb2 _, own_below ho.out hb2 (Nat.le_refl _)⟩
  · have hk0 := (List.getElem?_eq_some_iff.1 h2).1
    rw [Nat.zero_add] at h1
    rw [h1] at hix
    have hne1 : ((k0 : Int) == -1) = false := by first | (simp; done) | (simp; omega)
    have hth := hid (ThinT.start (p := isOpd) h2 (by simpa using h3) (fun y hy => by have := h4 y hy; simpa using this))
    obtain ⟨F, hF⟩ : ∃ F, F = l0.filter isOpd := ⟨_, rfl⟩
    rw [← hF]
    replace ho := hid ho
    replace hF := hid hF
    clear h1 h2 h3 h4
    go_enter Tryz.func35, Tryz.ntmps35
    go_wp2_with (go_at_call 60; refine hix.mono ?_; rintro e w2 ⟨rfl, hb2⟩)
    clear hix
    go_loopw [5, 6, 7] (fun si sj sv wr => ∃ (i j : Nat) (dk : List Token), si = .int .i64 i ∧ sj = .int .i64 j ∧ j ≤ l0.length ∧ i < j ∧ w.grownBy wr (some g) ∧ wr.ownsRow B 50 3 (.slice (some ⟨g, 0, none⟩) l0.length cap) l0.length (dk.flatMap Token.cells) ∧ Hid (ThinT isOpd l0 dk i j)) (fun _ j _ _ => l0.length - (RowKit.intOf j).toNat)
    case atStart => exact ⟨k0, k0 + 1, l0, rfl, by go_num, by omega, by omega, below_grown hb2 _, own_below ho.out hb2 (Nat.le_refl _), hth⟩
    clear hth hb2
    obtain ⟨i, j, dk, rfl, rfl, hj, hij, hg, hown, hthin⟩ := hrel
    have hdl := hthin.out.len
    have hki : i < dk.length := by omega
    obtain ⟨y, hy⟩ := get_of_lt hki
    by_cases hlt : j < l0.length
    · obtain ⟨x, hx⟩ := get_of_lt hlt
      have hdx : dk[j]? = some x := (hthin.out.at hlt).trans hx
      have c0 := own_read hown (tok_get hdx 0 rfl)
      have c1 := own_read hown (tok_get hdx 1 rfl)
      have c2 := own_read hown (tok_get hdx 2 rfl)
      simp only [Nat.add_zero] at c0
      have hcall := hid (fun W => implYield1_any x W)
      cases hd : (isOpd x) with
      | false =>
        have hth2 := hid (hthin.out.skip hx hd)
        rw [hd] at hcall
        replace hown := hid hown
        replace hg := hid hg
        clear hthin hd hx hdx hy hdl hki
        go_wp2_with (go_at_call 37; refine (hcall.out _).mono ?_; rintro e w3 ⟨rfl, hb3⟩; have hb4 : Below wr.heap.size wr w3 := ((Below.refl wr.heap.size wr).alloc (Nat.le_refl _) _).trans (hb3.mono (by simp)))
        go_roundw
        case rel => exact ⟨i, j + 1, dk, rfl, by go_num, by omega, by omega, grown_trans hg.out (below_grown hb4 _), own_below hown.out hb4 (Nat.le_refl _), hth2⟩
        case measure => simp [RowKit.intOf]; omega
      | true =>
        have hth2 := hid (hthin.out.keep hx hd)
        rw [hd] at hcall
        have hyc := hid (fun j u (h : y.cells[j]? = some u) => tok_get hy j h)
        have hts := hid (tok_set (x := x) hki)
        replace hown := hid hown
        replace hg := hid hg
        clear hthin hd hx hdx hy hdl hki
        have hiz : (i : Int) < (l0.length : Int) := by omega
        go_wp2_with (go_at_call 37; refine (hcall.out _).mono ?_; rintro e w3 ⟨rfl, hb3⟩; have hb4 : Below wr.heap.size wr w3 := ((Below.refl wr.heap.size wr).alloc (Nat.le_refl _) _).trans (hb3.mono (by simp)); have hown3 := hid (own_below hown.out hb4 (Nat.le_refl _)); have hvb := hid (spell_box hb3); obtain ⟨t0, t1, t2⟩ := three_cells hvb.out; have k1 := own_read hown3.out (hyc.out 0 _ rfl); have k2 := own_froz hown3.out (i * 3); have k3 := own_read hown3.out (hyc.out 1 _ rfl); have k4 := own_froz hown3.out (i * 3 + 1); have k5 := own_read hown3.out (hyc.out 2 _ rfl); have k6 := own_froz hown3.out (i * 3 + 2); simp only [Nat.add_zero] at k1)
        go_roundw
        case rel =>
          have h9 := own_storeAll x.cells (i * 3) hown3.out
          rw [hts.out] at h9
          exact ⟨i + 1, j + 1, dk.set i x, by go_num, by go_num, by omega, by omega, grown_trans (grown_trans hg.out (below_grown hb4 _)) (grown_storeAll g x.cells w3 (i * 3)), h9, hth2⟩
        case measure => simp [RowKit.intOf]; omega
    · obtain rfl : j = l0.length := by omega
      have hfin := hid (hthin.out.done (Nat.le_refl _))
      have hz := zeros_len (l0.length - i)
      have hcl : ∀ ty, (Builtin.clear_ #[24] ty #[.slice (some ⟨g, i * 3, none⟩) (l0.length - i) (cap - i)]).run Tryz.prog wr = .ok (.tuple #[]) (wr.setCells g (i * 3) (Builtin.zeroCells zeroTok.cells (l0.length - i)).toList) :=
        fun ty => run_clear_many wr _ _ ty _ Tryz.underlying24 zeroTok_run _ g (i * 3) _ _ (by omega) rfl (zeros_one _) (fun t ht => by
          have hlen := flat_len Token.cells 3 Token.len dk
          obtain ⟨z, hz2⟩ := get_of_lt (l := dk.flatMap Token.cells) (k := i * 3 + t) (by omega)
          rw [own_read hown hz2]; rfl) (fun t ht => own_froz hown _)
      have hfl : F.length = i := by rw [hF.out, ← hfin.out, List.length_take]; omega
      obtain ⟨h8, h9⟩ := own_clear3 hown (k := i) (by omega) (Builtin.zeroCells zeroTok.cells (l0.length - i)).toList
      have hcut : (dk.flatMap Token.cells).take (i * 3) = F.flatMap Token.cells := by rw [tok_take _ _ (by omega), hfin.out, hF.out]
      rw [hcut] at h8
      generalize (Builtin.zeroCells zeroTok.cells (l0.length - i)).toList = zs at *
      replace hfl := hid hfl
      replace h8 := hid h8
      replace h9 := hid h9
      replace hg := hid hg
      clear hthin hy hcut hown hki hfin hz
      have hiz : (i : Int) ≤ (l0.length : Int) := by omega
      have hic : (i : Int) ≤ (cap : Int) := by omega
      go_wp2
      go_ret
      exact ⟨by rw [hfl.out]; rfl, grown_trans hg.out h9.out, by rw [hfl.out]; exact h8.out⟩
end Go.Proofs.YtkelhmgdajiocaaGreatDoor
/- Walks and lemmas of this seat (FYieldI): what each theorem says of the functions that it names. Conditions: those that each theorem states. -/
namespace Go.Proofs.YtkelhmgdajiocaaGreatDoor
set_option linter.unusedVariables false
set_option linter.unusedSimpArgs false
open Go.RowKit

/-! The program's Yield. -/
theorem yield_filter (l : List Node) : (exprToks l posTop).filter isOpd = yieldToks l := by
  unfold exprToks yieldToks
  by_cases h : exprOkB l = true
  · rw [if_pos ⟨h, posOk_top⟩, if_pos h]
    exact Tree.tks_yield false (exprOk_facts h).2.1 posTop
  · rw [if_neg h, if_neg (fun h2 => h h2.1)]; rfl
theorem nil_or {w : World} {B : Nat} {e : TypeId} {s n : Nat} {v : Value} {xs : List Value} (h : w.ownsRow B e s v n xs) : (v = .slice none 0 0 ∧ n = 0) ∨ ∃ g cap, v = .slice (some ⟨g, 0, none⟩) n cap ∧ n ≤ cap ∧ cap ≤ maxLen ∧ B ≤ g := by
  rcases h.2 with ⟨rfl, h2⟩ | ⟨g, cap, cur, rfl, hB, _, hc, hm, _⟩
  · exact .inl ⟨rfl, h2⟩
  · exact .inr ⟨g, cap, rfl, hc, hm, hB⟩
set_option maxRecDepth 100000 in
theorem indexNilT (w : World) : Calls Tryz.prog 60 #[.slice none 0 0, .func (.func 37) #[] #[]] w fun e w' => e = .returned (.int .i64 (-1)) ∧ Below w.heap.size w w' := by
  go_enter Tryz.func60, Tryz.ntmps60
  go_wp2
  go_loopw [8] (fun i wr => i = .int .i64 0 ∧ Below w.heap.size w wr) (fun _ _ => 0)
  case atStart => exact ⟨rfl, by repeat (first | exact Below.refl _ _ | refine Below.alloc ?_ (by first | omega | (simp; done) | (simp; omega)) _ | refine Below.drew ?_)⟩
  obtain ⟨rfl, hb⟩ := hrel
  go_wp2
  go_ret
  exact ⟨rfl, hb⟩
set_option maxRecDepth 100000 in
theorem deleteNilT (w : World) : Calls Tryz.prog 35 #[.slice none 0 0, .func (.func 37) #[] #[]] w fun e w' => e = .returned (.slice none 0 0) ∧ Below w.heap.size w w' := by
  go_enter Tryz.func35, Tryz.ntmps35
  go_wp2_with (go_at_call 60; refine (indexNilT _).mono ?_; rintro e w2 ⟨rfl, hb2⟩)
  go_ret
  exact ⟨rfl, hb2⟩
set_option maxRecDepth 100000 in
set_option maxHeartbeats 3200000 in
theorem implYield_any (l0 : List Node) (v0 : Value) (w : World) (hx0 : ∀ x ∈ l0, x.Ok) (hn0 : bulk Node.sizes l0 ≤ 1048576) (hv0 : NodeSlc w v0 l0) (hE : WordEnv w) :
    Calls Tryz.prog 11 #[v0] w fun e w' => ∃ v', e = .returned v' ∧ Below w.heap.size w w' ∧ w'.ownsRow w.heap.size 50 3 v' (yieldToks l0).length ((yieldToks l0).flatMap Token.cells) := by
  have hb0 : Below w.heap.size w (w.alloc (.cells #[.int .i64 1, .bool false, .bool false, .bool false, .bool false] 36)) := (Below.refl _ _).alloc (Nat.le_refl _) _
  have hcall := hid (implExprTokens_any l0 v0 posTop _ hx0 hn0 (hv0.mono hb0 (Nat.le_refl _)) (by unfold Pos.Ok posTop I64; decide) (hE.below hb0))
  have hR : Hid ((exprToks l0 posTop).filter isOpd = yieldToks l0) := hid (yield_filter l0)
  have hlen := exprToks_len l0 posTop
  replace hcall : Hid (Calls Tryz.prog 23 #[v0, .agg #[.int .i64 1, .bool false, .bool false, .bool false, .bool false]] (w.alloc (.cells #[.int .i64 1, .bool false, .bool false, .bool false, .bool false] 36)) fun e w' => ∃ v', e = .returned v' ∧ Below (w.alloc (.cells #[.int .i64 1, .bool false, .bool false, .bool false, .bool false] 36)).heap.size (w.alloc (.cells #[.int .i64 1, .bool false, .bool false, .bool false, .bool false] 36)) w' ∧ w'.ownsRow (w.alloc (.cells #[.int .i64 1, .bool false, .bool false, .bool false, .bool false] 36)).heap.size 50 3 v' (exprToks l0 posTop).length ((exprToks l0 posTop).flatMap Token.cells)) := hcall
  generalize yieldToks l0 = RT at *
  generalize exprToks l0 posTop = R at *
  obtain ⟨a, cap, rfl, hm, hc, hsl⟩ := hv0.shape
  clear hsl
  go_enter Tryz.func11, Tryz.ntmps11
  go_wp2_with (first
    | (go_at_call 36; refine (implTop_x _).mono ?_; rintro e w2 ⟨rfl, hw2⟩; subst hw2)
    | (go_at_call 23; refine hcall.out.mono ?_; rintro e w1 ⟨tv, rfl, hb1, ho1⟩))
  have hb2 := hid (hb0.trans (hb1.mono hb0.size))
  have ho2 := hid (own_base ho1 hb0.size)
  rcases nil_or ho1 with ⟨rfl, hz⟩ | ⟨g, c2, rfl, hc2, hm2, hg2⟩
  · have hr0 : R = [] := List.eq_nil_of_length_eq_zero hz
    have hRT : Hid (RT = []) := hid (by rw [← hR.out, hr0]; rfl)
    clear ho1 hz hr0
    refine (deleteNilT _).mono ?_; rintro e w3 ⟨rfl, hb3⟩
    go_wp2
    go_ret
    exact ⟨_, rfl, hb2.out.trans (hb3.mono hb2.out.size), by rw [hRT.out]; exact ⟨rfl, .inl ⟨rfl, rfl⟩⟩⟩
  · have hdel := hid (deleteFuncT R g c2 w.heap.size w1 (by omega) hm2 hc2 ho2.out)
    rw [hR.out] at hdel
    have hgw : Hid (w.heap.size ≤ g) := hid (Nat.le_trans hb0.size hg2)
    clear ho1 hm2 hc2 hg2 hlen
    refine hdel.out.mono ?_; rintro e w3 ⟨rfl, hgr, ho3⟩
    have hfin := hid ho3
    have hgr2 := hid hgr
    clear ho3 hgr
    go_wp2
    go_ret
    exact ⟨_, rfl, hb2.out.grown hgr2.out hb2.out.size (fun r e => by have := Option.some.inj e; have := hgw.out; omega), hfin.out⟩
end Go.Proofs.YtkelhmgdajiocaaGreatDoor
