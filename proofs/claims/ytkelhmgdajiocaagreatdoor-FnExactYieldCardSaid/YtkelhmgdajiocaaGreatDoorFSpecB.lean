/- Walks and lemmas of this seat (FSpecB): what each theorem says of the functions that it names. Conditions: those that each theorem states. -/
import Derived.Test.YtkelhmgdajiocaaGreatDoorFSpecA
import Derived.Test.YtkelhmgdajiocaaGreatDoorFKidPosS
import Derived.Test.YtkelhmgdajiocaaGreatDoorFKidPosI
import Derived.Deep.RegionHeldLaw
namespace Go.Proofs.YtkelhmgdajiocaaGreatDoor
set_option linter.unusedVariables false
set_option linter.unusedSimpArgs false
open Go.RowKit

theorem keep1 {w W : World} {C : Prop} (h : Below w.heap.size w W ∧ C) : Below w.heap.size w W := h.1
theorem below_d {w W : World} (h : Below w.drew.heap.size w.drew W) : Below w.heap.size w W := ((Below.refl w.heap.size w).drew).trans (h.mono (Nat.le_refl _))
set_option maxRecDepth 100000 in
set_option maxHeartbeats 3200000 in
/-- A name and a list in brackets. -/
theorem specl10Named_any {w0 : World} {l0 : List Node} {a0 : Option Addr} {cap : Nat} {full : Bool} (ks : List Int) (ka : Option Addr) (kc : Nat) (hks : ∀ k ∈ ks, 0 ≤ k ∧ SAtC w0 l0 a0 cap full k.toNat ∧ ((treeIx l0 k.toNat).tks full posTop).length ≤ 10000 ∧ (treeIx l0 k.toNat).tks full posTop ≠ []) (hn : ks.length ≤ 10) (tk : Int) (ts : ByteArray) (o s : Int) (hos : IntKind.wrap .i64 (o + 1) = s) (hlen : (commas (ks.map fun k => (treeIx l0 k.toNat).tks full posTop)).length ≤ 200000) (W : World) (hb : Below w0.heap.size w0 W) (hk : Slc W (.slice ka ks.length kc) 1 ks.length (ks.flatMap int1)) :
    Calls Tryz.prog 101 #[.agg #[.slice a0 l0.length cap, .bool full], .agg #[.int .i64 tk, .string ts, .int .i64 0], .slice ka ks.length kc, .int .i64 o] W fun e w' => TokPost W (⟨tk, ts, 0⟩ :: sgn o :: (commas (ks.map fun k => (treeIx l0 k.toNat).tks full posTop) ++ [sgn s])) e w' := by
  have hlist := hid (fun W' (hW : Below W.heap.size W W') => specl10List_any ks ka kc hks hn W' (hb.trans (hW.mono hb.size)) (hk.mono hW (Nat.le_refl _)))
  generalize commas (ks.map fun k => (treeIx l0 k.toNat).tks full posTop) = R at *
  have hws : Hid (((W.alloc (.cells #[.slice a0 l0.length cap, .bool full] 80)).alloc (.cells #[.int .i64 tk, .string ts, .int .i64 0] 50)).heap.size = W.heap.size + 1 + 1) := hid (by simp)
  have hB1 := hid (show Below W.heap.size W ((W.alloc (.cells #[.slice a0 l0.length cap, .bool full] 80)).alloc (.cells #[.int .i64 tk, .string ts, .int .i64 0] 50)) from ((Below.refl _ _).alloc (Nat.le_refl _) _).alloc (by simp) _)
  have hx0 := hid (at_first W (.cells #[.slice a0 l0.length cap, .bool full] 80) (.cells #[.int .i64 tk, .string ts, .int .i64 0] 50))
  have hx1 := hid (at_second W (.cells #[.slice a0 l0.length cap, .bool full] 80) (.cells #[.int .i64 tk, .string ts, .int .i64 0] 50))
  clear hks hb hk
  go_enter Tryz.func101, Tryz.ntmps101
  go_wp2_with fail
  generalize (W.alloc (.cells #[.slice a0 l0.length cap, .bool full] 80)).alloc (.cells #[.int .i64 tk, .string ts, .int .i64 0] 50) = W1 at hB1 hx0 hx1 hws ⊢
  have hS := hid (show ∀ W', Below W1.heap.size W1 W' → Below W1.heap.size W1 W' ∧ W'.cell? ⟨W.heap.size, 0, none⟩ = some (.slice a0 l0.length cap) ∧ W'.cell? ⟨W.heap.size, 1, none⟩ = some (.bool full) ∧ W'.cell? ⟨W.heap.size + 1, 0, none⟩ = some (.int .i64 tk) ∧ W'.cell? ⟨W.heap.size + 1, 1, none⟩ = some (.string ts) ∧ W'.cell? ⟨W.heap.size + 1, 2, none⟩ = some (.int .i64 0) from fun W' hW =>
    ⟨hW, box_cell (boxb hx0.out hW) rfl, box_cell (boxb hx0.out hW) rfl, box_cell (boxb hx1.out hW) rfl, box_cell (boxb hx1.out hW) rfl, box_cell (boxb hx1.out hW) rfl⟩)
  go_region_held_law (fun W' => Below W1.heap.size W1 W' ∧ W'.cell? ⟨W.heap.size, 0, none⟩ = some (.slice a0 l0.length cap) ∧ W'.cell? ⟨W.heap.size, 1, none⟩ = some (.bool full) ∧ W'.cell? ⟨W.heap.size + 1, 0, none⟩ = some (.int .i64 tk) ∧ W'.cell? ⟨W.heap.size + 1, 1, none⟩ = some (.string ts) ∧ W'.cell? ⟨W.heap.size + 1, 2, none⟩ = some (.int .i64 0))
    (first
      | (refine hS.out _ ?_
         with_reducible (first
           | exact (Below.refl _ _).drew
           | exact hBt
           | exact hBl
           | exact keep_a (by assumption) _
           | exact hT2.hb)))
    (first
      | (go_at_call 79; refine (specl10Tok_any o _).mono ?_; rintro e wt ⟨rfl, hbt⟩; have hBt : Below W1.heap.size W1 wt := keep_b2 (by assumption) hbt)
      | (go_at_call 104; refine (hlist.out _ (hB1.out.trans ((keep1 (w := W1) (by assumption)).mono hB1.out.size))).mono ?_; rintro e wl ⟨vl, rfl, hTl⟩; have hBl : Below W1.heap.size W1 wl := keep_b2 (by assumption) hTl.hb)
      | (refine step_append_tok (w := W1) (by rfl) _ _ (by rfl) _ vl [⟨tk, ts, 0⟩, sgn o] R (by rfl) (by rfl)
          (by first
            | exact TokAt.lit2 hBt _ _ _ _
            | exact TokAt.lit2 hBl _ _ _ _
            | exact (TokAt.lit2 hBt _ _ _ _).below hTl.hb
            | exact (TokAt.lit2 hBt _ _ _ _).drew.below hTl.hb)
          (by first
            | exact hTl
            | exact hTl.alloc _
            | exact (hTl.below hbt).alloc _) (by simp; omega) ?_; intro v2 w2 hT2 hfr))
  all_goals
    have hT3 := hid (hT2.elder hB1.out)
    clear hT2 hfr hS hx0 hx1 hlist
    go_wp2_with fail
    refine (specl10Tok_any s w2).mono ?_; rintro e w3 ⟨rfl, hb3⟩
    have hTa := hid ((hT3.out.below hb3).alloc (.cells #[.int .i64 s, .string (spellB s), .int .i64 0] 50))
    have hlit := hid (TokAt.lit1 (w := W) (hT3.out.below hb3).hb s (spellB s))
    clear hT3 hb3
    go_wp2_with (at_builtin; refine wpList_append_tok (w := W) (by rfl) _ _ (by rfl) v2 _ ([⟨tk, ts, 0⟩, sgn o] ++ R) [⟨s, spellB s, 0⟩] (by rfl) (by rfl) hTa.out hlit.out (by simp) (by simp; omega) ?_; intro v4 w4 hT4 hfr4)
    have hT5 : Hid (TokAt W w4 v4 (⟨tk, ts, 0⟩ :: sgn o :: (R ++ [sgn s]))) := hid (by simpa [sgn] using hT4)
    obtain ⟨va, vc, rfl, _⟩ := hT4.shape
    clear hT4 hfr4
    go_ret
    exact ⟨_, rfl, hT5.out⟩
end Go.Proofs.YtkelhmgdajiocaaGreatDoor
