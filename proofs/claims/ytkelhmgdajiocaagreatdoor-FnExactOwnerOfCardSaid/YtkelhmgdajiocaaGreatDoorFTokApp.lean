/- Walks and lemmas of this seat (FTokApp): what each theorem says of the functions that it names. Conditions: those that each theorem states. -/
import Derived.Test.YtkelhmgdajiocaaGreatDoorFSpellA
import Derived.Laws.OwnMore
namespace Go.Proofs.YtkelhmgdajiocaaGreatDoor
set_option linter.unusedVariables false
set_option linter.unusedSimpArgs false
open Go.RowKit

/-! Rows of tokens: a row of one's own, and what is put behind it. -/
/-- A row of tokens of one's own in new memory. -/
structure TokAt (w wr : World) (v : Value) (L : List Token) : Prop where
  hb : Below w.heap.size w wr
  own : wr.ownsRow w.heap.size 50 3 v L.length (L.flatMap Token.cells)
theorem TokAt.below {w wr w' : World} {v : Value} {L : List Token} (h : TokAt w wr v L) (hb : Below wr.heap.size wr w') : TokAt w w' v L := ⟨h.hb.trans (hb.mono h.hb.size), own_below h.own hb (Nat.le_refl _)⟩
theorem TokAt.drew {w wr : World} {v : Value} {L : List Token} (h : TokAt w wr v L) : TokAt w wr.drew v L := h.below (Below.refl _ _).drew
theorem TokAt.alloc {w wr : World} {v : Value} {L : List Token} (h : TokAt w wr v L) (o : Obj) : TokAt w (wr.alloc o) v L := h.below ((Below.refl _ _).alloc (Nat.le_refl _) o)
/-- From an elder world. -/
theorem TokAt.elder {w0 w wr : World} {v : Value} {L : List Token} (h : TokAt w wr v L) (hb : Below w0.heap.size w0 w) : TokAt w0 wr v L := ⟨hb.trans (h.hb.mono hb.size), own_base h.own hb.size⟩
def TokPost (w : World) (R : List Token) (e : Ending) (w' : World) : Prop := ∃ v', e = .returned v' ∧ TokAt w w' v' R
theorem TokAt.lit {w wr : World} (hb : Below w.heap.size w wr) (L : List Token) (hl : L.length ≤ 1000000) (cs : Array Value) (hcs : cs.toList = L.flatMap Token.cells) : TokAt w (wr.alloc (.cells cs 50)) (.slice (some ⟨wr.heap.size, 0, none⟩) L.length L.length) L := by
  refine ⟨hb.alloc hb.size _, ?_⟩
  rw [← hcs]
  refine World.ownsRow_lit wr cs L.length hb.size (by unfold maxLen; omega) ?_
  rw [← Array.length_toList, hcs]
  exact flat_len Token.cells 3 Token.len L
theorem TokAt.lit1 {w wr : World} (hb : Below w.heap.size w wr) (k : Int) (s : ByteArray) : TokAt w (wr.alloc (.cells #[.int .i64 k, .string s, .int .i64 0] 50)) (.slice (some ⟨wr.heap.size, 0, none⟩) 1 1) [⟨k, s, 0⟩] :=
  TokAt.lit hb [⟨k, s, 0⟩] (by simp) _ rfl
theorem TokAt.lit2 {w wr : World} (hb : Below w.heap.size w wr) (k k2 : Int) (s s2 : ByteArray) : TokAt w (wr.alloc (.cells #[.int .i64 k, .string s, .int .i64 0, .int .i64 k2, .string s2, .int .i64 0] 50)) (.slice (some ⟨wr.heap.size, 0, none⟩) 2 2) [⟨k, s, 0⟩, ⟨k2, s2, 0⟩] :=
  TokAt.lit hb [⟨k, s, 0⟩, ⟨k2, s2, 0⟩] (by simp) _ rfl
theorem TokAt.shape {w wr : World} {v : Value} {L : List Token} (h : TokAt w wr v L) : ∃ a cap, v = .slice a L.length cap ∧ cap ≤ 9223372036854775807 := by
  obtain ⟨a, cap, e, hm⟩ := own_slice h.own
  exact ⟨a, cap, e, by unfold maxLen at hm; omega⟩
theorem TokAt.news {w wr : World} {v : Value} {R : List Token} (h : TokAt w wr v R) (hR : 0 < R.length) : ∃ g cap, v = .slice (some ⟨g, 0, none⟩) R.length cap ∧ (R.flatMap Token.cells).length = R.length * 3 ∧ (∀ j u, (R.flatMap Token.cells)[j]? = some u → wr.cell? ((⟨g, 0, none⟩ : Addr).add j) = some u) ∧ ∀ u ∈ R.flatMap Token.cells, u.oneCell' = true := by
  obtain ⟨g, cap, rfl, _⟩ := own_slice' h.own hR
  refine ⟨g, cap, rfl, flat_len Token.cells 3 Token.len R, fun j u hu => ?_, fun u hu => ?_⟩
  · have hadd : (⟨g, 0, none⟩ : Addr).add j = ⟨g, j, none⟩ := by unfold Addr.add; split <;> simp_all
    rw [hadd]
    exact own_read h.own hu
  · obtain ⟨x, _, hx⟩ := List.mem_flatMap.1 hu
    simp only [Token.cells, List.mem_cons, List.not_mem_nil, or_false] at hx
    rcases hx with rfl | rfl | rfl <;> rfl
theorem TokAt.grown {w wr w' : World} {v v' : Value} {L R : List Token} (h : TokAt w wr v L) (hown : w'.ownsRow w.heap.size 50 3 v' (L.length + R.length) (L.flatMap Token.cells ++ R.flatMap Token.cells)) (hg : wr.grownBy w' v.ownBlock) : TokAt w w' v' (L ++ R) := by
  refine ⟨h.hb.grown hg h.hb.size (fun r e => (h.own.lt r e).1), ?_⟩
  rw [List.length_append, List.flatMap_append]
  exact hown
theorem run_append_zeroT {P : Program} {w : World} (base : Nat) (t ty e : TypeId) (i : TypeInfo) (size : Nat) (ht : P.underlying t = some (.slice e)) (hi : P.info? e = some i)
    (v : Value) (n : Nat) (xs : List Value) (hown : w.ownsRow base e size v n xs) (pa : Option Addr) (c : Nat) :
    (Builtin.append_ #[t, t] ty #[v, .slice pa 0 c]).run P w = .ok v w := by
  cases pa <;> rcases hown.2 with ⟨rfl, rfl⟩ | ⟨g, cap, cur, rfl, _, _, hnc, _⟩ <;> simp [Builtin.append_, run_underlying ht, sizeOf, typeInfo, hi, Builtin.lenOf, Builtin.firstCells, *, storeCells, loadCells, loadCellsFrom]
section
variable {ops : Array Oper} {rest : List Oper} {o : Oper} {a : Act} {Q : Exit → Act → World → Prop} {K : Act → World → Prop} {E : Prop} {w wr wB : World}
/-- One's own row grows by another: at a step. -/
theorem wpList_append_tok (hgd : o.guard = none) (s x : Operand) (ho : o.op = .call { callee := .builtin .append, args := #[s, x], argTypes := #[24, 24] })
    (v vB : Value) (L R : List Token) (hs : a.eval s = v) (hx : a.eval x = vB) (hA : TokAt w wr v L) (hB : TokAt wB wr vB R) (hR : 0 < R.length) (hl : L.length + R.length ≤ 1000000)
    (h : ∀ v' w', TokAt w w' v' (L ++ R) → (∀ b, b < wr.heap.size → some b ≠ v.ownBlock → w'.heap[b]? = wr.heap[b]?) → wpList Tryz.prog ops Q rest (a.put o.dst v') w') : wpList Tryz.prog ops Q (o :: rest) a wr := by
  obtain ⟨i0, hi, hz0, hz1, hz2⟩ := info_parts Tryz.infoTok
  obtain ⟨g, cap, rfl, h1, h2, h3⟩ := hB.news hR
  refine wpList_append_lies wr hgd s x 24 ho w.heap.size 50 i0 _ 3 32 Tryz.underlying24 hi hz0 hz1 hz2 rfl (by omega) v L.length (L.flatMap Token.cells) hs hA.own ⟨g, 0, none⟩ R.length cap (R.flatMap Token.cells) hx h1 h2 h3 hR (by unfold maxLen; omega) (by omega) hA.hb.size wr.heap.size rfl ?_
  intro gg cap2 w2 hown2 hgrow hat hlt3
  exact h _ _ (hA.grown hown2 hgrow) hgrow.block
theorem step_append_tok (hgd : o.guard = none) (s x : Operand) (ho : o.op = .call { callee := .builtin .append, args := #[s, x], argTypes := #[24, 24] })
    (v vB : Value) (L R : List Token) (hs : a.eval s = v) (hx : a.eval x = vB) (hA : TokAt w wr v L) (hB : TokAt wB wr vB R) (hl : L.length + R.length ≤ 1000000)
    (h : ∀ v' w', TokAt w w' v' (L ++ R) → (∀ b, b < wr.heap.size → some b ≠ v.ownBlock → w'.heap[b]? = wr.heap[b]?) → K (a.put o.dst v') w') : if Region.wanted o (yielded ops a.tmps) = true then Oper.wp Tryz.prog o a wr K Q else E := by
  obtain ⟨i0, hi, hz0, hz1, hz2⟩ := info_parts Tryz.infoTok
  by_cases hR0 : R.length = 0
  · obtain rfl : R = [] := List.eq_nil_of_length_eq_zero hR0
    obtain ⟨pa, pc, rfl, _⟩ := hB.shape
    have hw : Region.wanted o (yielded ops a.tmps) = true := by simp [Region.wanted, hgd]
    rw [if_pos hw]
    have hrun := run_append_zeroT (P := Tryz.prog) (w := wr) w.heap.size 24 o.type 50 i0 3 Tryz.underlying24 hi v L.length (L.flatMap Token.cells) hA.own pa pc
    have hx' : a.eval x = .slice pa 0 pc := hx
    unfold Oper.wp
    simp [execOp, ho, resolve, invoke, builtin, hs, hx', hrun, Result.andThen]
    exact h v wr (by rw [List.append_nil]; exact hA) fun _ _ _ => rfl
  have hR : 0 < R.length := by omega
  obtain ⟨g, cap, rfl, h1, h2, h3⟩ := hB.news hR
  refine step_append_lies wr hgd s x 24 ho w.heap.size 50 i0 _ 3 32 Tryz.underlying24 hi hz0 hz1 hz2 rfl (by omega) v L.length (L.flatMap Token.cells) hs hA.own ⟨g, 0, none⟩ R.length cap (R.flatMap Token.cells) hx h1 h2 h3 hR (by unfold maxLen; omega) (by omega) hA.hb.size wr.heap.size rfl ?_
  intro gg cap2 w2 hown2 hgrow hat hlt3
  exact h _ _ (hA.grown hown2 hgrow) hgrow.block
end
end Go.Proofs.YtkelhmgdajiocaaGreatDoor
