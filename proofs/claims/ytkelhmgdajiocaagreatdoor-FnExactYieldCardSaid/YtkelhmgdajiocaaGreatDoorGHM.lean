/- Walks and lemmas of this seat (HPos): what each theorem says of the functions that it names. Conditions: those that each theorem states. -/
import Derived.Test.YtkelhmgdajiocaaGreatDoorRows
import Derived.Test.YtkelhmgdajiocaaGreatDoorGA
namespace Go.Proofs.YtkelhmgdajiocaaGreatDoor
set_option linter.unusedVariables false
set_option linter.unusedSimpArgs false
open Go.RowKit


section
open Go.ChangeShapes Go.WideShapes Go.ChangeAt
variable {H : Type} {enc : TypeId × Value → H} {w : World} {spare : Nat → Bool}
end


end Go.Proofs.YtkelhmgdajiocaaGreatDoor
/- Walks and lemmas of this seat (HTokenM): what each theorem says of the functions that it names. Conditions: those that each theorem states. -/
namespace Go.Proofs.YtkelhmgdajiocaaGreatDoor
set_option linter.unusedVariables false
set_option linter.unusedSimpArgs false
open Go.RowKit


def mkToken (q : Nat) : Token := ⟨((q : Nat) : Int), markT (q + 1), ((q + 2 : Nat) : Int)⟩
def markLToken (q n : Nat) : List Token := (List.range n).map fun i => mkToken (q + 3 * i)
theorem markLToken_len (q n : Nat) : (markLToken q n).length = n := by simp [markLToken]
theorem markLToken_get (q n i : Nat) (h : i < n) : (markLToken q n)[i]? = some (mkToken (q + 3 * i)) := by simp [markLToken, h]
theorem markLToken_succ (q i : Nat) : markLToken q (i + 1) = markLToken q i ++ [mkToken (q + 3 * i)] := by simp [markLToken, List.range_succ]
/-- The row while it is being marked. -/
def mixToken (k0 : Nat) (l : List Token) (i : Nat) : List Value := (markLToken k0 i).flatMap Token.cells ++ (l.drop i).flatMap Token.cells
theorem markToken_step {k0 k q : Nat} {l : List Token} {x : Token} (hx : l[k]? = some x) (hq : q = k0 + 3 * k) (hk : k < l.length) :
    setAll (mixToken k0 l k) (k * 3) [.int .i64 ((q : Int)), .string (markT (q + 1)), .int .i64 ((q : Int) + 2)] = mixToken k0 l (k + 1) := by
  unfold mixToken
  rw [drop_cons hx, List.flatMap_cons, setAll_mid _ _ x.cells _ _ (by rw [flat_len _ 3 Token.len, markLToken_len]) (by simp [Token.cells]), markLToken_succ, ← hq]
  simp [mkToken, Token.cells]

set_option maxRecDepth 100000 in
theorem markTokenS_any {B : Nat} (l : List Token) (v : Value) (k0 : Nat) (w : World) (hn : l.length ≤ 1048576) (hk0 : k0 ≤ 1048576) (h : w.ownsRow B 50 3 v l.length (l.flatMap Token.cells)) :
    Calls Tryz.prog 15 #[v, .int .i64 k0] w fun e w' => e = .returned (.int .i64 ((k0 + 3 * l.length : Nat) : Int)) ∧ w.grownBy w' v.ownBlock ∧ w'.ownsRow B 50 3 v l.length ((markLToken k0 l.length).flatMap Token.cells) := by
  obtain ⟨a, cap, rfl, hm⟩ := own_slice h
  unfold maxLen at hm
  go_enter Tryz.func15, Tryz.ntmps15
  go_wp2
  go_loopw [1, 5] (fun kv i wr => ∃ (k q : Nat), i = .int .i64 k ∧ k ≤ l.length ∧ kv = .int .i64 q ∧ q = k0 + 3 * k ∧ w.grownBy wr (Value.slice a l.length cap).ownBlock ∧ wr.ownsRow B 50 3 (.slice a l.length cap) l.length (mixToken k0 l k)) (fun _ i _ => l.length - (intOf i).toNat)
  case atStart => exact ⟨0, k0, rfl, by omega, rfl, by omega, grown_refl _ _, by simpa [mixToken, markLToken] using h⟩
  obtain ⟨k, q, rfl, hk, rfl, hq, hgr, hfr⟩ := hrel
  by_cases hlt : k < l.length
  · obtain ⟨x, hx0⟩ := get_of_lt hlt
    obtain ⟨g, rfl⟩ := own_some hfr (by omega)
    have hx : Hid (l[k]? = some x) := hx0
    have hqq : q ≤ k0 + 3 * k := by omega
    have hqq2 : k0 + 3 * k ≤ q := by omega
    have HQ := hid hq
    clear hx0 hq h
    obtain ⟨⟨d0, e0⟩, z0⟩ := own_cell hfr (k * 3) (by omega)
    go_wp2_with fail
    refine (markText_int _ (q + 1) _ (by omega) (by omega)).mono ?_; rintro e w2 ⟨rfl, hb2⟩
    have ho1 := own_below (hfr.stored (k * 3) (.int .i64 ((q : Int)))).1 hb2 (Nat.le_refl _)
    obtain ⟨⟨d1, e1⟩, z1⟩ := own_cell ho1 (k * 3 + 1) (by omega)
    obtain ⟨⟨d2, e2⟩, z2⟩ := own_cell ho1 (k * 3 + 2) (by omega)
    go_wp2
    go_roundw
    case rel => exact ⟨k + 1, q + 3, by go_num, by omega, by go_num, by omega, (grown_trans (grown_trans (grown_trans (grown_trans hgr (grown_set _ _ (k * 3) (.int .i64 ((q : Int))))) (grown_below hb2)) (grown_set _ _ (k * 3 + 1) (.string (markT (q + 1))))) (grown_set _ _ (k * 3 + 2) (.int .i64 ((q : Int) + 2)))), by have h := ((ho1.stored (k * 3 + 1) (.string (markT (q + 1)))).1.stored (k * 3 + 2) (.int .i64 ((q : Int) + 2))).1; rw [← markToken_step hx HQ.out (by omega)]; exact h⟩
    case measure => simp [intOf]; omega
  · go_wp2
    go_ret
    have hkl : k = l.length := by omega
    subst hkl
    exact ⟨ret_int (by rw [hq]), hgr, by simpa [mixToken] using hfr⟩

set_option maxRecDepth 100000 in
theorem heldTokenS_any (n : Nat) (v : Value) (k0 : Nat) (w : World) (hn : n ≤ 1048576) (hk0 : k0 ≤ 1048576) (hv : Slc w v 3 n ((markLToken k0 n).flatMap Token.cells)) :
    Calls Tryz.prog 16 #[v, .int .i64 k0] w fun e w' => e = .returned (.int .i64 ((k0 + 3 * n : Nat) : Int)) ∧ Below w.heap.size w w' := by
  obtain ⟨_, a, cap, rfl, hc, hm, hrow⟩ := hv
  unfold maxLen at hm
  go_enter Tryz.func16, Tryz.ntmps16
  go_wp2
  go_loopw [1, 5] (fun kv i wr => ∃ (k q : Nat), i = .int .i64 k ∧ k ≤ n ∧ kv = .int .i64 q ∧ q = k0 + 3 * k ∧ Below w.heap.size w wr) (fun _ i _ => n - (intOf i).toNat)
  case atStart => exact ⟨0, k0, rfl, by omega, rfl, by omega, Below.refl _ _⟩
  obtain ⟨k, q, rfl, hk, rfl, hq, hb⟩ := hrel
  by_cases hlt : k < n
  · have hx := markLToken_get k0 n k hlt
    rw [← hq] at hx
    obtain ⟨b, off, rfl, hro⟩ := slc_some hrow (by omega)
    have hqq : q ≤ k0 + 3 * k := by omega
    have hqq2 : k0 + 3 * k ≤ q := by omega
    have HQ := hid hq
    have HX := hid hx
    clear hq hx
    have hrw := hro.mono hb (Nat.le_refl _)
    have c0 := hrw.flat0 3 Token.len HX.out rfl
    simp only [mkToken] at c0
    have c1 := hrw.flat 3 Token.len HX.out 1 rfl
    simp only [mkToken] at c1
    have c2 := hrw.flat 3 Token.len HX.out 2 rfl
    simp only [mkToken] at c2
    go_wp2_with fail
    go_region_held3 (fun w2 => Below wr.heap.size wr w2 ∧ w2.cell? ⟨b, off + k * 3 + 1, none⟩ = some (.string (markT (q + 1)))) (first | exact ⟨(Below.refl _ _).drew, c1⟩ | exact keep_cell2 (by assumption) hbx0 c1 | exact keep_cell (by assumption) hbx0 c1 (Nat.le_refl _) | go_keep) (first | (go_at_call 41; refine (markText_int _ (q + 1) _ (by omega) (by omega)).mono ?_; rintro e wx0 ⟨rfl, hbx0⟩))
    have hS0 := (‹Below wr.heap.size wr wx0 ∧ _›).1
    have hrx0 := hrw.mono hS0 (Nat.le_refl _)
    have hacc0 := hb.trans (hS0.mono hb.size)
    clear c2
    have c2 := hrx0.flat 3 Token.len HX.out 2 rfl
    simp only [mkToken] at c2
    go_wp2
    go_roundw
    case rel => exact ⟨k + 1, q + 3, by go_num, by omega, by go_num, by omega, hacc0⟩
    case measure => simp [intOf]; omega
  · go_wp2
    go_ret
    have hkl : k = n := by omega
    subst hkl
    exact ⟨ret_int (by rw [hq]), hb⟩

end Go.Proofs.YtkelhmgdajiocaaGreatDoor
/- Walks and lemmas of this seat (HToken): what each theorem says of the functions that it names. Conditions: those that each theorem states. -/
namespace Go.Proofs.YtkelhmgdajiocaaGreatDoor
set_option linter.unusedVariables false
set_option linter.unusedSimpArgs false
open Go.RowKit
set_option maxRecDepth 100000


section
open Go.ChangeShapes Go.WideShapes Go.ChangeAt
variable {H : Type} {enc : TypeId × Value → H} {w : World} {spare : Nat → Bool}
end


theorem eqToken_any (x y : Token) (w : World) :
    Calls Tryz.prog 39 #[.agg #[.int .i64 x.kind, .string x.text, .int .i64 x.at_], .agg #[.int .i64 y.kind, .string y.text, .int .i64 y.at_]] w fun e w' => e = .returned (.bool (eqToken x y)) ∧ Below w.heap.size w w' := by
  go_enter Tryz.func39, Tryz.ntmps39
  go_wp2
  all_goals go_ret
  all_goals exact ⟨ret_bool (by unfold eqToken; simp_all), by repeat (first | exact Below.refl _ _ | refine Below.alloc ?_ (by first | omega | (simp; done) | (simp; omega)) _ | refine Below.drew ?_)⟩

set_option maxRecDepth 100000 in
theorem eqTokenS_any (l r : List Token) (v u : Value) (w : World) (hv : Slc w v 3 l.length (l.flatMap Token.cells)) (hu : Slc w u 3 r.length (r.flatMap Token.cells)) :
    Calls Tryz.prog 12 #[v, u] w fun e w' => e = .returned (.bool (eqList eqToken l r)) ∧ Below w.heap.size w w' := by
  obtain ⟨_, a, cap, rfl, hc, hm, hrow⟩ := hv
  obtain ⟨_, a', cap', rfl, hc', hm', hrow'⟩ := hu
  unfold maxLen at hm hm'
  by_cases hlen : l.length = r.length
  · have hle : ((l.length : Int) != (r.length : Int)) = false := by rw [hlen]; simp
    have HL := hid hlen
    have hl1 : l.length ≤ r.length := by omega
    have hl2 : r.length ≤ l.length := by omega
    clear hlen
    go_enter Tryz.func12, Tryz.ntmps12
    go_wp2
    go_loopw [5] (fun i wr => ∃ (k : Nat), i = .int .i64 k ∧ k ≤ l.length ∧ Below w.heap.size w wr ∧ Hid (eqList eqToken l r = eqLoop eqToken (l.drop k) (r.drop k))) (fun i _ => l.length - (intOf i).toNat)
    case atStart => exact ⟨0, rfl, by omega, Below.refl _ _, by show eqList _ _ _ = _; rw [eqList, if_pos HL.out]; rfl⟩
    obtain ⟨k, rfl, hk, hb, hrel⟩ := hrel
    by_cases hlt : k < l.length
    · obtain ⟨x, hx⟩ := get_of_lt hlt
      obtain ⟨y, hy⟩ := get_of_lt (l := r) (k := k) (by omega)
      obtain ⟨b, off, rfl, hro⟩ := slc_some hrow (by omega)
      obtain ⟨b', off', rfl, hro'⟩ := slc_some hrow' (by omega)
      have hrw := hro.mono hb (Nat.le_refl _)
      have hrw' := hro'.mono hb (Nat.le_refl _)
      have c0 := hrw.flat0 3 Token.len hx rfl
      have c1 := hrw.flat 3 Token.len hx 1 rfl
      have c2 := hrw.flat 3 Token.len hx 2 rfl
      have g0 := hrw'.flat0 3 Token.len hy rfl
      have g1 := hrw'.flat 3 Token.len hy 1 rfl
      have g2 := hrw'.flat 3 Token.len hy 2 rfl
      rw [drop_cons hx, drop_cons hy] at hrel
      have hkr : k < r.length := by omega
      clear hx hy
      by_cases hxy : eqToken x y = true
      · go_wp2_with fail
        go_still_tail 8, (by kernel_rfl)
        go_wp2_with (go_at_call 39; refine (eqToken_any x y _).mono ?_; rintro e w' ⟨rfl, hb1⟩)
        go_roundw
        case rel => exact ⟨k + 1, by go_num, by omega, hb.drew.trans (hb1.mono hb.size), by rw [hrel.out, eqLoop, if_pos hxy]; exact hid rfl⟩
        case measure => simp [intOf]; omega
      · have hxy' : eqToken x y = false := by simpa using hxy
        go_wp2_with fail
        go_still_tail 8, (by kernel_rfl)
        go_wp2_with (go_at_call 39; refine (eqToken_any x y _).mono ?_; rintro e w' ⟨rfl, hb1⟩)
        go_ret
        exact ⟨ret_bool (by rw [hrel.out, eqLoop, if_neg hxy]), hb.drew.trans (hb1.mono hb.size)⟩
    · go_wp2
      go_ret
      exact ⟨ret_bool (by rw [hrel.out, List.drop_of_length_le (by omega), eqLoop]; simp), hb⟩
  · have hle : ((l.length : Int) != (r.length : Int)) = true := by simp; omega
    have HL := hid hlen
    clear hlen
    go_enter Tryz.func12, Tryz.ntmps12
    go_wp2
    go_ret
    exact ⟨ret_bool (by rw [eqList, if_neg HL.out]), Below.refl _ _⟩

end Go.Proofs.YtkelhmgdajiocaaGreatDoor
/- Walks and lemmas of this seat (HIntM): what each theorem says of the functions that it names. Conditions: those that each theorem states. -/
namespace Go.Proofs.YtkelhmgdajiocaaGreatDoor
set_option linter.unusedVariables false
set_option linter.unusedSimpArgs false
open Go.RowKit



def mkInt (q : Nat) : Int := ((q : Nat) : Int)
def markLInt (q n : Nat) : List Int := (List.range n).map fun i => mkInt (q + i)
theorem markLInt_len (q n : Nat) : (markLInt q n).length = n := by simp [markLInt]
theorem markLInt_succ (q i : Nat) : markLInt q (i + 1) = markLInt q i ++ [mkInt (q + i)] := by simp [markLInt, List.range_succ]
def mixInt (k0 : Nat) (l : List Int) (i : Nat) : List Value := (markLInt k0 i).flatMap int1 ++ (l.drop i).flatMap int1
theorem markInt_step {k0 k q : Nat} {l : List Int} {x : Int} (hx : l[k]? = some x) (hq : q = k0 + k) :
    (mixInt k0 l k).set k (.int .i64 (q : Int)) = mixInt k0 l (k + 1) := by
  have h := setAll_mid [.int .i64 (q : Int)] ((markLInt k0 k).flatMap int1) (int1 x) ((l.drop (k + 1)).flatMap int1) k (by rw [flat_len _ 1 int1_len, markLInt_len]; omega) rfl
  unfold mixInt
  rw [drop_cons hx, List.flatMap_cons]
  have h' : (List.flatMap int1 (markLInt k0 k) ++ (int1 x ++ List.flatMap int1 (List.drop (k + 1) l))).set k (.int .i64 (q : Int)) = _ := h
  rw [h', markLInt_succ, ← hq]
  simp [mkInt, int1]

set_option maxRecDepth 100000 in
theorem markIntS_any {B : Nat} (l : List Int) (v : Value) (k0 : Nat) (w : World) (hn : l.length ≤ 16777216) (hk0 : k0 ≤ 16777216) (h : w.ownsRow B 3 1 v l.length (l.flatMap int1)) :
    Calls Tryz.prog 42 #[v, .int .i64 k0] w fun e w' => e = .returned (.int .i64 ((k0 + l.length : Nat) : Int)) ∧ w.grownBy w' v.ownBlock ∧ w'.ownsRow B 3 1 v l.length ((markLInt k0 l.length).flatMap int1) := by
  obtain ⟨a, cap, rfl, hm⟩ := own_slice h
  unfold maxLen at hm
  go_enter Tryz.func42, Tryz.ntmps42
  go_wp2
  go_loopw [1, 5] (fun kv i wr => ∃ (k q : Nat), i = .int .i64 k ∧ k ≤ l.length ∧ kv = .int .i64 q ∧ q = k0 + k ∧ w.grownBy wr (Value.slice a l.length cap).ownBlock ∧ wr.ownsRow B 3 1 (.slice a l.length cap) l.length (mixInt k0 l k)) (fun _ i _ => l.length - (intOf i).toNat)
  case atStart => exact ⟨0, k0, rfl, by omega, rfl, by omega, grown_refl _ _, by simpa [mixInt, markLInt] using h⟩
  obtain ⟨k, q, rfl, hk, rfl, hq, hgr, hfr⟩ := hrel
  by_cases hlt : k < l.length
  · obtain ⟨x, hx0⟩ := get_of_lt hlt
    obtain ⟨g, rfl⟩ := own_some hfr (by omega)
    have hx : Hid (l[k]? = some x) := hx0
    have hqq : q ≤ k0 + k := by omega
    have hqq2 : k0 + k ≤ q := by omega
    have HQ := hid hq
    clear hx0 hq h
    obtain ⟨⟨d0, e0⟩, z0⟩ := own_cell hfr k (by omega)
    have hst := hfr.stored k (.int .i64 q)
    have hgg := grown_trans hgr (grown_set _ _ k (.int .i64 q))
    rw [markInt_step hx HQ.out] at hst
    go_wp2
    go_roundw
    case rel => exact ⟨k + 1, q + 1, by go_num, by omega, by go_num, by omega, hgg, hst.1⟩
    case measure => simp [intOf]; omega
  · go_wp2
    go_ret
    have hkl : k = l.length := by omega
    subst hkl
    exact ⟨ret_int (by rw [hq]), hgr, by simpa [mixInt] using hfr⟩

end Go.Proofs.YtkelhmgdajiocaaGreatDoor
/- Walks and lemmas of this seat (HNodeM): what each theorem says of the functions that it names. Conditions: those that each theorem states. -/

namespace Go.Proofs.YtkelhmgdajiocaaGreatDoor
set_option linter.unusedVariables false
set_option linter.unusedSimpArgs false
open Go.RowKit


/-- A marked struct; the number behind it; the marked list, the number behind that. -/
def mkNode (u : Nat) (x : Node) : Node := ⟨((u : Nat) : Int), ((u + 1 : Nat) : Int), markT (u + 2), markT (u + 3), markLInt (u + 4) x.kids.length⟩
def markLNode : Nat → List Node → List Node
  | _, [] => []
  | u, x :: l => mkNode u x :: markLNode (u + 4 + x.kids.length) l
def endNode : Nat → List Node → Nat
  | u, [] => u
  | u, x :: l => endNode (u + 4 + x.kids.length) l
theorem endNode_le (l : List Node) : ∀ u, endNode u l ≤ u + 4 * l.length + (l.map Node.sizes).sum := by
  induction l with
  | nil => intro u; simp [endNode]
  | cons x l ih =>
    intro u
    have := ih (u + 4 + x.kids.length)
    simp only [endNode, List.map_cons, List.sum_cons, List.length_cons]
    have h2 : x.kids.length ≤ Node.sizes x := by unfold Node.sizes; omega
    omega
theorem endNode_take {l : List Node} {k : Nat} {x : Node} (h : l[k]? = some x) : ∀ u, endNode u (l.take (k + 1)) = endNode u (l.take k) + 4 + x.kids.length := by
  induction l generalizing k with
  | nil => simp at h
  | cons y l ih =>
    intro u
    cases k with
    | zero => simp at h; subst h; simp [endNode]
    | succ k => simp only [List.take_succ_cons, endNode]; exact ih (by simpa using h) _
theorem markLNode_take {l : List Node} {k : Nat} {x : Node} (h : l[k]? = some x) : ∀ u, markLNode u (l.take (k + 1)) = markLNode u (l.take k) ++ [mkNode (endNode u (l.take k)) x] := by
  induction l generalizing k with
  | nil => simp at h
  | cons y l ih =>
    intro u
    cases k with
    | zero => simp at h; subst h; simp [endNode, markLNode]
    | succ k => simp only [List.take_succ_cons, endNode, markLNode, List.cons_append]; rw [ih (by simpa using h) _]
/-- The raw form of such a slice of the call's own. -/
def RawNode (w : World) (lo hi : Nat) (v : Value) (q : List (Node × Value)) : Prop :=
  RawN 3 w 58 5 lo hi v q.length (q.flatMap Node.cells) (q.map fun p => (p.2, p.1.kids))
theorem RawNode.own {w : World} {lo hi : Nat} {v : Value} {q : List (Node × Value)} (h : RawNode w lo hi v q) : OwnNode w lo hi v (q.map Prod.fst) := by
  refine ⟨q, rfl, h.row, fun p hp => h.kids (p.2, p.1.kids) (List.mem_map.2 ⟨p, hp, rfl⟩), ?_⟩
  have := h.apart
  simpa [Function.comp_def] using this
theorem OwnNode.raw {w : World} {lo hi : Nat} {v : Value} {l : List Node} (h : OwnNode w lo hi v l) : ∃ q, q.map Prod.fst = l ∧ RawNode w lo hi v q := by
  obtain ⟨q, h1, h2, h3, h4⟩ := h
  refine ⟨q, h1, h2, fun p hp => ?_, by simpa [Function.comp_def] using h4⟩
  obtain ⟨p', hp', rfl⟩ := List.mem_map.1 hp
  exact h3 p' hp'
theorem flat_setNode {q : List (Node × Value)} {k : Nat} {p : Node × Value} (h : q[k]? = some p) (us : List Value) (hu : us.length = 4) (p' : Node × Value) (hp' : Node.cells p' = us ++ [p.2]) :
    setAll (q.flatMap Node.cells) (k * 5) us = (q.set k p').flatMap Node.cells := by
  have hk := (List.getElem?_eq_some_iff.1 h).1
  have e1 : q = q.take k ++ p :: q.drop (k + 1) := by rw [← drop_cons h, List.take_append_drop]
  have e2 : q.set k p' = q.take k ++ p' :: q.drop (k + 1) := by rw [List.set_eq_take_append_cons_drop, if_pos hk]
  rw [e2, List.flatMap_append, List.flatMap_cons, hp']
  have e3 : q.flatMap Node.cells = (q.take k).flatMap Node.cells ++ ((Node.cells p).take 4 ++ ([p.2] ++ (q.drop (k + 1)).flatMap Node.cells)) := by
    conv => lhs; rw [e1]
    rw [List.flatMap_append, List.flatMap_cons]
    simp [Node.cells]
  rw [e3, setAll_mid us _ _ _ _ (by rw [flat_len _ 5 Node.len, List.length_take, Nat.min_eq_left (by omega)]) (by rw [hu]; rfl)]
  simp


set_option maxRecDepth 100000 in
set_option maxHeartbeats 2000000 in
theorem markNodeS_any {lo hi : Nat} (l : List Node) (v : Value) (k0 : Nat) (w : World) (hn : bulk Node.sizes l ≤ 1048576) (hk0 : k0 ≤ 5242880) (h : OwnNode w lo hi v l) :
    Calls Tryz.prog 14 #[v, .int .i64 k0] w fun e w' => e = .returned (.int .i64 (endNode k0 l : Nat)) ∧ Fr lo hi w w' ∧ OwnNode w' lo hi v (markLNode k0 l) := by
  obtain ⟨q, rfl, hraw⟩ := h.raw
  clear h
  obtain ⟨a, cap, rfl, hm⟩ := own_slice hraw.row.1
  unfold maxLen at hm
  have hlb := length_bulk Node.sizes (q.map Prod.fst)
  rw [List.length_map] at hlb
  go_enter Tryz.func14, Tryz.ntmps14
  go_wp2
  go_loopw [1, 5] (fun kv i wr => ∃ (k u : Nat) (r : List (Node × Value)), i = .int .i64 k ∧ k ≤ q.length ∧ kv = .int .i64 u ∧ u ≤ 16777216 - 2097152 ∧ Hid (u = endNode k0 ((q.map Prod.fst).take k)) ∧ Fr lo hi w wr ∧ RawNode wr lo hi (.slice a q.length cap) r ∧ r.length = q.length ∧ Hid (r.drop k = q.drop k) ∧ Hid ((r.map Prod.fst).take k = markLNode k0 ((q.map Prod.fst).take k))) (fun _ i _ => q.length - (intOf i).toNat)
  case atStart => exact ⟨0, k0, q, rfl, by omega, rfl, by omega, hid rfl, Fr.refl _ _ _, hraw, rfl, hid rfl, hid rfl⟩
  obtain ⟨k, u, r, rfl, hk, rfl, hu, HU, hfr, hR0, hrl, hdrop, htake⟩ := hrel
  have HRL := hid hrl
  have hrl1 : r.length ≤ q.length := by omega
  have hrl2 : q.length ≤ r.length := by omega
  by_cases hlt : k < q.length
  · obtain ⟨p, hp⟩ := get_of_lt (l := r) (k := k) (by omega)
    have hR : RawN 3 wr 58 5 lo hi (.slice a q.length cap) r.length (r.flatMap Node.cells) (r.map fun p => (p.2, p.1.kids)) := hR0
    rw [hrl] at hR
    clear hrl hR0
    obtain ⟨g, rfl⟩ := own_some hR.row.1 (by omega)
    have hcl : p.1.kids.length ≤ 1048576 := by
      have hq : q[k]? = some p := by have := congrArg (fun z => z[0]?) hdrop.out; simp at this; rw [← this]; exact hp
      have := bulk_mem Node.sizes (List.mem_map_of_mem (f := Prod.fst) (List.mem_of_getElem? hq))
      unfold Node.sizes at this hn
      omega
    have HP := hid hp
    clear hp hraw
    obtain ⟨⟨d0, e0⟩, z0⟩ := hR.cell (k * 5) (by omega)
    obtain ⟨⟨d1, e1⟩, z1⟩ := hR.cell (k * 5 + 1) (by omega)
    go_wp2_with fail
    refine (markText_int _ (u + 2) _ (by omega) (by omega)).mono ?_; rintro e x1 ⟨rfl, hx1⟩
    have hR1 := ((hR.set (k * 5) (.int .i64 ((u : Int)))).set (k * 5 + 1) (.int .i64 ((u : Int) + 1))).below hx1 (Nat.le_refl _)
    have hF1 := (((((hfr).trans (hR.fr_set (k * 5) (.int .i64 ((u : Int)))))).trans ((hR.set (k * 5) (.int .i64 ((u : Int)))).fr_set (k * 5 + 1) (.int .i64 ((u : Int) + 1))))).trans (Fr.of_below (lo := lo) (hi := hi) hx1)
    obtain ⟨⟨d2, e2⟩, z2⟩ := hR1.cell (k * 5 + 2) (by omega)
    go_wp2_with fail
    refine (markText_int _ (u + 3) _ (by omega) (by omega)).mono ?_; rintro e x2 ⟨rfl, hx2⟩
    have hR2 := (hR1.set (k * 5 + 2) (.string (markT (u + 2)))).below hx2 (Nat.le_refl _)
    have hF2 := (((hF1).trans (hR1.fr_set (k * 5 + 2) (.string (markT (u + 2)))))).trans (Fr.of_below (lo := lo) (hi := hi) hx2)
    obtain ⟨⟨d3, e3⟩, z3⟩ := hR2.cell (k * 5 + 3) (by omega)
    have hRZ := hid (hR2.set (k * 5 + 3) (.string (markT (u + 3))))
    have hFZ := hid ((hF2).trans (hR2.fr_set (k * 5 + 3) (.string (markT (u + 3)))))
    have hxs := flat_setNode HP.out [.int .i64 ((u : Int)), .int .i64 ((u : Int) + 1), .string (markT (u + 2)), .string (markT (u + 3))] rfl (mkNode u p.1, p.2) rfl
    simp only [setAll] at hxs
    have hRY := hRZ.out
    rw [hxs] at hRY
    have hkv : (r.map fun p => (p.2, p.1.kids))[k]? = some (p.2, p.1.kids) := by rw [List.getElem?_map, HP.out]; rfl
    have hown0 : World.ownsRow _ lo 3 1 p.2 p.1.kids.length (p.1.kids.flatMap int1) := (hRY.kids _ (List.mem_of_getElem? hkv)).1
    have hown := hid hown0
    have hcell := hRY.read (flat_get Node.cells 5 Node.len (r.set k (mkNode u p.1, p.2)) k 4 (mkNode u p.1, p.2) p.2 (by rw [List.getElem?_set, if_pos rfl, if_pos (by omega)]) rfl)
    have HKV := hid hkv
    have HRY := hid hRY
    have HXS := hid hxs
    clear hxs hkv hRY hown0
    obtain ⟨ka, kc, hpk, _⟩ := own_slice hown.out
    rw [hpk] at hcell
    go_wp2_with (go_at_call 42; rw [← hpk]; refine (markIntS_any p.1.kids p.2 (u + 4) _ (by omega) (by omega) hown.out).mono ?_; rintro e wz ⟨rfl, hgz, hoz⟩)
    have hRM := HRY.out.mark HKV.out hgz (ks' := markLInt (u + 4) p.1.kids.length) (by rw [markLInt_len]; exact hoz)
    have hRF : RawNode wz lo hi (.slice (some ⟨g, 0, none⟩) q.length cap) (r.set k (mkNode u p.1, p.2)) := by
      unfold RawNode; rw [List.length_set, HRL.out, List.map_set]; exact hRM
    have hFR := hFZ.out.trans (HRY.out.fr_mark (List.mem_of_getElem? HKV.out) hgz)
    have hq : q[k]? = some p := by have := congrArg (fun z => z[0]?) hdrop.out; simp at this; rw [← this]; exact HP.out
    have hq1 : (q.map Prod.fst)[k]? = some p.1 := by rw [List.getElem?_map, hq]; rfl
    have hend := endNode_take hq1 k0
    rw [← HU.out] at hend
    have hle := endNode_le ((q.map Prod.fst).take (k + 1)) k0
    have hle2 := sum_take_le Node.sizes (q.map Prod.fst) (k + 1)
    have hle3 : ((q.map Prod.fst).take (k + 1)).length ≤ q.length := by rw [List.length_take, List.length_map]; exact Nat.min_le_right _ _
    have hbound : u + 4 + p.1.kids.length ≤ 16777216 - 2097152 := by
      rw [← hend]
      unfold bulk at hn
      rw [List.length_map] at hn
      omega
    go_roundw
    case rel =>
      refine ⟨k + 1, u + 4 + p.1.kids.length, r.set k (mkNode u p.1, p.2), by go_num, by omega, by go_num, hbound, hid hend.symm, hFR, hRF, by rw [List.length_set]; exact HRL.out, hid ?_, hid ?_⟩
      · rw [List.drop_set_of_lt (by omega)]
        have := congrArg (List.drop 1) hdrop.out
        simpa using this
      · rw [markLNode_take hq1, ← HU.out, take_next (x := mkNode u p.1) (by rw [List.getElem?_map, List.getElem?_set, if_pos rfl, if_pos (by omega)]; rfl), List.map_set, take_set_self, htake.out]
    case measure => simp [intOf]; omega
  · go_wp2
    go_ret
    have hkq : k = q.length := by omega
    subst hkq
    have e1 : (q.map Prod.fst).take q.length = q.map Prod.fst := List.take_of_length_le (by simp)
    have e2 : (r.map Prod.fst).take q.length = r.map Prod.fst := List.take_of_length_le (by simp; omega)
    rw [e1, e2] at htake
    rw [e1] at HU
    refine ⟨ret_int (by rw [HU.out]), hfr, ?_⟩
    rw [← htake.out]; exact hR0.own

end Go.Proofs.YtkelhmgdajiocaaGreatDoor
