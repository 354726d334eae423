/- Walks and lemmas of this seat (FBentN): what each theorem says of the functions that it names. Conditions: those that each theorem states. -/
import Derived.Test.YtkelhmgdajiocaaGreatDoorGDZ
import Derived.Deep.RegionLaw
import Derived.Deep.DrawnRows
import Derived.Deep.AppendLies
namespace Go.Proofs.YtkelhmgdajiocaaGreatDoor
set_option linter.unusedVariables false
set_option linter.unusedSimpArgs false
open Go.RowKit

/-! Nodes of the call's own, set in place. -/
/-- Nodes that may stand in a call, few and small. -/
def FineN (l : List Node) : Prop := l.length ≤ 2700 ∧ ∀ x ∈ l, x.Ok ∧ x.sizes ≤ 100
theorem FineN.fine {l : List Node} (h : FineN l) : (∀ x ∈ l, x.Ok) ∧ bulk Node.sizes l ≤ 280000 := by
  refine ⟨fun x hx => (h.2 x hx).1, ?_⟩
  have : ∀ (L : List Node), (∀ x ∈ L, x.sizes ≤ 100) → bulk Node.sizes L ≤ L.length * 101 := fun L => by
    induction L with
    | nil => intro _; simp [bulk]
    | cons x L ih =>
      intro hL
      have h1 := hL x (by simp)
      have h2 := ih fun y hy => hL y (by simp [hy])
      simp only [bulk, List.map_cons, List.sum_cons, List.length_cons] at *
      omega
  have h2 := this l fun x hx => (h.2 x hx).2
  have := h.1
  omega
theorem SmallN.fineN {l : List Node} (h : SmallN l) (hl : l.length ≤ 1300) : FineN l := by
  refine ⟨by omega, fun x hx => ⟨(h.fine (by omega)).2.1 x hx, ?_⟩⟩
  obtain ⟨h1, _, _, h4, _⟩ := h.2 x hx
  unfold Node.sizes; omega
theorem FineN.set {l : List Node} {k : Nat} {x' : Node} (h : FineN l) (hx : x'.Ok ∧ x'.sizes ≤ 100) : FineN (l.set k x') := by
  refine ⟨by rw [List.length_set]; exact h.1, fun y hy => ?_⟩
  rcases List.mem_or_eq_of_mem_set hy with hy | rfl
  · exact h.2 y hy
  · exact hx
theorem FineN.take {l : List Node} (h : FineN l) (k : Nat) : FineN (l.take k) :=
  ⟨by rw [List.length_take]; have := h.1; omega, fun y hy => h.2 y (List.mem_of_mem_take hy)⟩
theorem flat_set1 {q : List (Node × Value)} {k i : Nat} {p p' : Node × Value} (h : q[k]? = some p) (hi : i < 5) (u : Value) (hp : Node.cells p' = (Node.cells p).set i u) : (q.flatMap Node.cells).set (k * 5 + i) u = (q.set k p').flatMap Node.cells := by
  induction q generalizing k with
  | nil => simp at h
  | cons y q ih =>
    cases k with
    | zero =>
      simp at h; subst h
      rw [List.flatMap_cons, Nat.zero_mul, Nat.zero_add, List.set_append_left _ _ (by rw [Node.len]; exact hi), List.set_cons_zero, List.flatMap_cons, hp]
    | succ k =>
      rw [List.flatMap_cons, List.set_append_right _ _ (by rw [Node.len]; omega), Node.len, show (k + 1) * 5 + i - 5 = k * 5 + i by omega, ih (by simpa using h), List.set_cons_succ, List.flatMap_cons]
theorem mem_set_ne {α : Type} {l : List α} {k : Nat} {x y : α} (h : y ∈ l.set k x) : y = x ∨ ∃ j, j ≠ k ∧ l[j]? = some y := by
  obtain ⟨j, hj⟩ := List.getElem?_of_mem h
  by_cases e : j = k
  · subst e
    rw [List.getElem?_set_self' ] at hj
    cases h2 : l[j]? with
    | none => simp [h2] at hj
    | some z => simp [h2] at hj; exact .inl hj.symm
  · rw [List.getElem?_set_ne (fun e2 => e e2.symm)] at hj
    exact .inr ⟨j, e, hj⟩
/-- The drawn list in parts: its row, its kids. -/
theorem OwnNode.parts {w : World} {lo hi : Nat} {v : Value} {l : List Node} (h : OwnNode w lo hi v l) (hne : l ≠ []) : ∃ (g cap : Nat) (q : List (Node × Value)), v = .slice (some ⟨g, 0, none⟩) l.length cap ∧ q.map Prod.fst = l ∧ cap ≤ 9223372036854775807 ∧ l.length ≤ cap ∧ w.ownsRow lo 58 5 (.slice (some ⟨g, 0, none⟩) l.length cap) l.length (q.flatMap Node.cells) ∧ (∀ p ∈ q, w.ownsRow lo 3 1 p.2 p.1.kids.length (p.1.kids.flatMap int1)) ∧ (∀ p ∈ q, p.2.ownBlock ≠ some g) ∧ (q.map Prod.snd).Pairwise Apart := by
  obtain ⟨q, h1, h2, h3, h4⟩ := h
  have hl : q.length = l.length := by rw [← h1]; simp
  have hpos := List.length_pos_iff.2 hne
  rw [hl] at h2
  rcases h2.1.2 with ⟨_, h0⟩ | ⟨g, cap, cur, he, hb, hg, hc, hm, hs, ht⟩
  · omega
  subst he
  have hap := List.pairwise_cons.1 h4
  refine ⟨g, cap, q, rfl, h1, by unfold maxLen at hm; omega, hc, h2.1, fun p hp => (h3 p hp).1, fun p hp => ?_, hap.2⟩
  have := hap.1 p.2 (List.mem_map.2 ⟨p, hp, rfl⟩)
  rcases this with h | h
  · simp [Value.ownBlock] at h
  · exact fun e => h e.symm
theorem NodeSlcX.of_parts {w : World} {lo g cap : Nat} {l : List Node} {q : List (Node × Value)} (hq : q.map Prod.fst = l) (hr : w.ownsRow lo 58 5 (.slice (some ⟨g, 0, none⟩) l.length cap) l.length (q.flatMap Node.cells)) (hk : ∀ p ∈ q, w.ownsRow lo 3 1 p.2 p.1.kids.length (p.1.kids.flatMap int1)) : NodeSlcX (fun b => lo ≤ b) w (.slice (some ⟨g, 0, none⟩) l.length cap) l := by
  have hl : q.length = l.length := by rw [← hq]; simp
  exact ⟨q, hq, by rw [hl]; exact SlcS.of_own hr, fun p hp => SlcS.of_own (hk p hp)⟩
theorem own_types2 {w : World} {B B' : Nat} {e e' : TypeId} {s s' n n' : Nat} {v v' : Value} {xs xs' : List Value} (h : w.ownsRow B e s v n xs) (h' : w.ownsRow B' e' s' v' n' xs') (hne : e ≠ e') : v.ownBlock = none ∨ v.ownBlock ≠ v'.ownBlock := by
  rcases h.2 with ⟨rfl, _⟩ | ⟨g, cap, cur, rfl, _, hg, _⟩
  · exact .inl rfl
  · refine .inr fun he => ?_
    rcases h'.2 with ⟨rfl, _⟩ | ⟨g', cap', cur', rfl, _, hg', _⟩
    · cases he
    · have he : g = g' := Option.some.inj he
      subst he
      rw [hg] at hg'
      injection hg' with hg'
      injection hg' with _ ht
      exact hne ht
/-- One cell of a node is set, not its kids. -/
theorem set_cell {w : World} {lo g cap k i : Nat} {l : List Node} {q : List (Node × Value)} {x x' : Node} {kv u : Value} (hq : q.map Prod.fst = l) (hr : w.ownsRow lo 58 5 (.slice (some ⟨g, 0, none⟩) l.length cap) l.length (q.flatMap Node.cells)) (hk : ∀ p ∈ q, w.ownsRow lo 3 1 p.2 p.1.kids.length (p.1.kids.flatMap int1)) (hne : ∀ p ∈ q, p.2.ownBlock ≠ some g)
    (hx : q[k]? = some (x, kv)) (hi : i < 5) (hu : Node.cells (x', kv) = (Node.cells (x, kv)).set i u) (hkids : x'.kids = x.kids) : NodeSlcX (fun b => lo ≤ b) (w.setCell ⟨g, k * 5 + i, none⟩ u) (.slice (some ⟨g, 0, none⟩) l.length cap) (l.set k x') := by
  have hl : (l.set k x').length = l.length := by simp
  have hs := hr.stored (k * 5 + i) u
  rw [flat_set1 hx hi u hu] at hs
  rw [← hl]
  refine NodeSlcX.of_parts (q := q.set k (x', kv)) (by rw [List.map_set, hq]) (by rw [hl]; exact hs.1) fun p hp => ?_
  rcases mem_set_ne hp with rfl | ⟨j, _, hj⟩
  · have hm := List.mem_of_getElem? hx
    show World.ownsRow _ lo _ 1 kv x'.kids.length (x'.kids.flatMap int1)
    rw [hkids]
    exact (hk _ hm).kept hs.2 (.inr (hne _ hm))
  · have hm := List.mem_of_getElem? hj
    exact (hk _ hm).kept hs.2 (.inr (hne _ hm))
/-- The kids of a node have grown, and are set. -/
theorem set_kids {w w2 : World} {o : Obj} {lo g cap k : Nat} {l : List Node} {q : List (Node × Value)} {x : Node} {kv kv2 : Value} {d : Int} (hq : q.map Prod.fst = l) (hr : w.ownsRow lo 58 5 (.slice (some ⟨g, 0, none⟩) l.length cap) l.length (q.flatMap Node.cells)) (hk : ∀ p ∈ q, w.ownsRow lo 3 1 p.2 p.1.kids.length (p.1.kids.flatMap int1)) (hne : ∀ p ∈ q, p.2.ownBlock ≠ some g) (hap : (q.map Prod.snd).Pairwise Apart)
    (hx : q[k]? = some (x, kv)) (hgr : (w.alloc o).grownBy w2 kv.ownBlock) (ho : w2.ownsRow lo 3 1 kv2 (x.kids.length + 1) (x.kids.flatMap int1 ++ [.int .i64 d])) : NodeSlcX (fun b => lo ≤ b) (w2.setCell ⟨g, k * 5 + 4, none⟩ kv2) (.slice (some ⟨g, 0, none⟩) l.length cap) (l.set k ⟨x.kind, x.op, x.text, x.other, x.kids ++ [d]⟩) := by
  have hl : (l.set k ⟨x.kind, x.op, x.text, x.other, x.kids ++ [d]⟩).length = l.length := by simp
  have hm := List.mem_of_getElem? hx
  have hr2 := (hr.alloc o).kept hgr (own_types2 (hr.alloc o) ((hk _ hm).alloc o) (by decide))
  have hs := hr2.stored (k * 5 + 4) kv2
  rw [flat_set1 (p' := (⟨x.kind, x.op, x.text, x.other, x.kids ++ [d]⟩, kv2)) hx (by omega) kv2 rfl] at hs
  rw [← hl]
  refine NodeSlcX.of_parts (q := q.set k (⟨x.kind, x.op, x.text, x.other, x.kids ++ [d]⟩, kv2)) (by rw [List.map_set, hq]) (by rw [hl]; exact hs.1) fun p hp => ?_
  rcases mem_set_ne hp with rfl | ⟨j, hjk, hj⟩
  · show World.ownsRow _ lo _ 1 kv2 (x.kids ++ [d]).length ((x.kids ++ [d]).flatMap int1)
    rw [List.length_append, List.length_singleton, List.flatMap_append]
    exact (show w2.ownsRow lo 3 1 kv2 (x.kids.length + 1) (x.kids.flatMap int1 ++ [d].flatMap int1) from ho).kept hs.2 (own_types2 ho hr2 (by decide))
  · have hmj := List.mem_of_getElem? hj
    have h1 := ((hk _ hmj).alloc o).kept hgr (by
      have hget : ∀ (a b : Nat) (pa pb : Node × Value), a < b → q[a]? = some pa → q[b]? = some pb → Apart pa.2 pb.2 := fun a b pa pb hab ha hb => by
        have h2 := List.pairwise_iff_getElem.1 hap a b (by rw [List.length_map]; exact (List.getElem?_eq_some_iff.1 ha).1) (by rw [List.length_map]; exact (List.getElem?_eq_some_iff.1 hb).1) hab
        rw [List.getElem_map, List.getElem_map, (List.getElem?_eq_some_iff.1 ha).2, (List.getElem?_eq_some_iff.1 hb).2] at h2
        exact h2
      rcases Nat.lt_or_gt_of_ne hjk with hlt | hlt
      · exact hget j k _ _ hlt hj hx
      · have h2 := hget k j _ _ hlt hx hj
        rcases h2 with h2 | h2
        · cases hpo : p.2.ownBlock with
          | none => exact .inl rfl
          | some r => exact .inr (by rw [show kv.ownBlock = none from h2]; exact fun e => by cases e)
        · exact .inr fun e => h2 e.symm)
    exact h1.kept hs.2 (own_types2 h1 hr2 (by decide))
theorem NodeSlcX.take {S : Nat → Prop} {w : World} {g cap n : Nat} {l : List Node} (h : NodeSlcX S w (.slice (some ⟨g, 0, none⟩) n cap) l) (k : Nat) (hk : k ≤ l.length) : NodeSlcX S w (.slice (some ⟨g, 0, none⟩) k cap) (l.take k) := by
  obtain ⟨q, h1, ⟨h2, a, c, he, hc, hm, h3⟩, h4⟩ := h
  have hl : q.length = l.length := by rw [← h1]; simp
  simp only [Value.slice.injEq] at he
  obtain ⟨rfl, hn, rfl⟩ := he
  have hkl : (q.take k).length = k := by rw [List.length_take]; omega
  refine ⟨q.take k, by rw [List.map_take, h1], ?_, fun p hp => h4 p (List.mem_of_mem_take hp)⟩
  rw [hkl]
  refine ⟨by rw [flat_len _ 5 Node.len, hkl], _, _, rfl, by omega, hm, ?_⟩
  rcases h3 with h3 | ⟨b, off, h5, h6, h7⟩
  · exact .inl (by omega)
  · refine .inr ⟨b, off, h5, h6, fun j u hj => h7 j u ?_⟩
    have e : q.flatMap Node.cells = (q.take k).flatMap Node.cells ++ (q.drop k).flatMap Node.cells := by rw [← List.flatMap_append, List.take_append_drop]
    rw [e, List.getElem?_append_left (List.getElem?_eq_some_iff.1 hj).1]
    exact hj
/-- What l15Any hands back. -/
def AnyNX (w0 w : World) (p : Nat) (bv : Value) (bs : List UInt8) (e : Ending) (w' : World) : Prop :=
  ∃ (v : Value) (l : List Node), e = .returned v ∧ w.grownBy w' (some p) ∧ Cur w0 w' p bv bs ∧ NodeSlcX (fun b => w.heap.size ≤ b) w' v l ∧ FineN l
theorem grown_low {w w1 w2 : World} {r : Option Nat} {g : Nat} (h : w.grownBy w1 r) (hg : w.heap.size ≤ g) (h2 : w1.grownBy w2 (some g)) : w.grownBy w2 r :=
  ⟨h2.os.trans h.os, h2.tape.trans h.tape, h2.output.trans h.output, Nat.le_trans h.size h2.size, fun k hk hne => (h2.block k (Nat.lt_of_lt_of_le hk h.size) fun e => by have := Option.some.inj e; omega).trans (h.block k hk hne)⟩
theorem grown_low2 {w w1 w2 : World} {r s : Option Nat} (h : w.grownBy w1 r) (hg : ∀ g, s = some g → w.heap.size ≤ g) (h2 : w1.grownBy w2 s) : w.grownBy w2 r :=
  ⟨h2.os.trans h.os, h2.tape.trans h.tape, h2.output.trans h.output, Nat.le_trans h.size h2.size, fun k hk hne => (h2.block k (Nat.lt_of_lt_of_le hk h.size) fun e => by have := hg k e.symm; omega).trans (h.block k hk hne)⟩
theorem Cur.low {w0 w1 w2 : World} {p : Nat} {bv : Value} {bs : List UInt8} {s : Option Nat} (hc : Cur w0 w1 p bv bs) (hg : ∀ g, s = some g → p < g) (h2 : w1.grownBy w2 s) : Cur w0 w2 p bv bs := by
  have hat := hc.at_
  exact ⟨hc.code, hc.small, hc.at_, hc.old.grown h2 hc.old.size (fun r e => by have := hg r e; omega), hc.box.keep (h2.block p hc.box.lt fun e => by have := hg p e.symm; omega)⟩

/-- The drawn list in parts, in a later world. -/
structure DP (w : World) (lo g cap : Nat) (l : List Node) (q : List (Node × Value)) : Prop where
  hq : q.map Prod.fst = l
  row : w.ownsRow lo 58 5 (.slice (some ⟨g, 0, none⟩) l.length cap) l.length (q.flatMap Node.cells)
  kids : ∀ p ∈ q, w.ownsRow lo 3 1 p.2 p.1.kids.length (p.1.kids.flatMap int1)
  ne : ∀ p ∈ q, p.2.ownBlock ≠ some g
  apart : (q.map Prod.snd).Pairwise Apart
theorem DP.kept {w w' : World} {lo g cap p : Nat} {l : List Node} {q : List (Node × Value)} (h : DP w lo g cap l q) (hg : w.grownBy w' (some p)) (hp : p < lo) : DP w' lo g cap l q :=
  ⟨h.hq, h.row.kept hg (ownBlock_ne h.row hp), fun r hr => (h.kids r hr).kept hg (ownBlock_ne (h.kids r hr) hp), h.ne, h.apart⟩
theorem DP.alloc {w : World} {lo g cap : Nat} {l : List Node} {q : List (Node × Value)} (h : DP w lo g cap l q) (o : Obj) : DP (w.alloc o) lo g cap l q :=
  ⟨h.hq, h.row.alloc o, fun r hr => (h.kids r hr).alloc o, h.ne, h.apart⟩
theorem DP.at {w : World} {lo g cap k : Nat} {l : List Node} {q : List (Node × Value)} (h : DP w lo g cap l q) (hk : k < l.length) : ∃ (x : Node) (kv : Value), q[k]? = some (x, kv) ∧ l[k]? = some x ∧ w.cell? ⟨g, k * 5, none⟩ = some (.int .i64 x.kind) ∧ w.cell? ⟨g, k * 5 + 1, none⟩ = some (.int .i64 x.op) ∧ w.cell? ⟨g, k * 5 + 2, none⟩ = some (.string x.text) ∧ w.cell? ⟨g, k * 5 + 3, none⟩ = some (.string x.other) ∧ w.cell? ⟨g, k * 5 + 4, none⟩ = some kv ∧ ∀ j, w.frozen? ⟨g, j, none⟩ = false := by
  have hl : q.length = l.length := by rw [← h.hq]; simp
  obtain ⟨⟨x, kv⟩, hx⟩ := get_of_lt (l := q) (k := k) (by omega)
  have hr : RowAt w g 0 (q.flatMap Node.cells) := fun j u hj => by
    rw [Nat.zero_add, h.row.cellAt j (by have := (List.getElem?_eq_some_iff.1 hj).1; have := h.row.1; omega)]; exact hj
  refine ⟨x, kv, hx, by rw [← h.hq, List.getElem?_map, hx]; rfl, ?_, ?_, ?_, ?_, ?_, h.row.frozenAt⟩
  · simpa using hr.flat0 5 Node.len hx rfl
  · simpa using hr.flat 5 Node.len hx 1 rfl
  · simpa using hr.flat 5 Node.len hx 2 rfl
  · simpa using hr.flat 5 Node.len hx 3 rfl
  · simpa using hr.flat 5 Node.len hx 4 rfl
theorem DP.slc {w : World} {lo g cap : Nat} {l : List Node} {q : List (Node × Value)} (h : DP w lo g cap l q) : NodeSlcX (fun b => lo ≤ b) w (.slice (some ⟨g, 0, none⟩) l.length cap) l := .of_parts h.hq h.row h.kids
theorem cell_of_heap2 {w w' : World} {b o : Nat} (h : w'.heap[b]? = w.heap[b]?) : w'.cell? ⟨b, o, none⟩ = w.cell? ⟨b, o, none⟩ := by
  unfold World.cell?
  simp only [h]
end Go.Proofs.YtkelhmgdajiocaaGreatDoor
/- Walks and lemmas of this seat (FBentD): what each theorem says of the functions that it names. Conditions: those that each theorem states. -/
namespace Go.Proofs.YtkelhmgdajiocaaGreatDoor
set_option linter.unusedVariables false
set_option linter.unusedSimpArgs false
open Go.RowKit

def intsB (k : Nat) : List Int := [-1, (k : Int), 0, 99]
theorem Ok_kindN {x : Node} {z : Int} (h : x.Ok ∧ x.sizes ≤ 100) (hz : I64 z) : (⟨z, x.op, x.text, x.other, x.kids⟩ : Node).Ok ∧ (⟨z, x.op, x.text, x.other, x.kids⟩ : Node).sizes ≤ 100 := ⟨⟨h.1.1, h.1.2.1, hz, h.1.2.2.2.1, h.1.2.2.2.2.1, h.1.2.2.2.2.2⟩, h.2⟩
theorem Ok_opN {x : Node} {z : Int} (h : x.Ok ∧ x.sizes ≤ 100) (hz : I64 z) : (⟨x.kind, z, x.text, x.other, x.kids⟩ : Node).Ok ∧ (⟨x.kind, z, x.text, x.other, x.kids⟩ : Node).sizes ≤ 100 := ⟨⟨h.1.1, h.1.2.1, h.1.2.2.1, hz, h.1.2.2.2.2.1, h.1.2.2.2.2.2⟩, h.2⟩
theorem Ok_textN {x : Node} {t : ByteArray} (h : x.Ok ∧ x.sizes ≤ 90) (hz : t.size ≤ 8) : (⟨x.kind, x.op, t, x.other, x.kids⟩ : Node).Ok ∧ (⟨x.kind, x.op, t, x.other, x.kids⟩ : Node).sizes ≤ 100 := ⟨⟨by unfold maxLen; show t.size ≤ _; omega, h.1.2.1, h.1.2.2.1, h.1.2.2.2.1, h.1.2.2.2.2.1, h.1.2.2.2.2.2⟩, by have := h.2; unfold Node.sizes at *; show t.size + x.other.size + x.kids.length ≤ 100; omega⟩
theorem Ok_otherN {x : Node} {t : ByteArray} (h : x.Ok ∧ x.sizes ≤ 90) (hz : t.size ≤ 8) : (⟨x.kind, x.op, x.text, t, x.kids⟩ : Node).Ok ∧ (⟨x.kind, x.op, x.text, t, x.kids⟩ : Node).sizes ≤ 100 := ⟨⟨h.1.1, by unfold maxLen; show t.size ≤ _; omega, h.1.2.2.1, h.1.2.2.2.1, h.1.2.2.2.2.1, h.1.2.2.2.2.2⟩, by have := h.2; unfold Node.sizes at *; show x.text.size + t.size + x.kids.length ≤ 100; omega⟩
theorem Ok_kidsN {x : Node} {d : Int} (h : x.Ok ∧ x.sizes ≤ 90) (hz : I64 d) : (⟨x.kind, x.op, x.text, x.other, x.kids ++ [d]⟩ : Node).Ok ∧ (⟨x.kind, x.op, x.text, x.other, x.kids ++ [d]⟩ : Node).sizes ≤ 100 := by
  have h2 := h.2
  unfold Node.sizes at h2
  refine ⟨⟨h.1.1, h.1.2.1, h.1.2.2.1, h.1.2.2.2.1, fun k hk => ?_, by unfold maxLen; simp; omega⟩, by unfold Node.sizes; simp; omega⟩
  rcases List.mem_append.1 hk with hk | hk
  · exact h.1.2.2.2.2.1 k hk
  · rw [List.mem_singleton.1 hk]; exact hz
theorem Ok_kid0N {x : Node} {d : Int} (h : x.Ok ∧ x.sizes ≤ 90) (hz : I64 d) : (⟨x.kind, x.op, x.text, x.other, x.kids.set 0 d⟩ : Node).Ok ∧ (⟨x.kind, x.op, x.text, x.other, x.kids.set 0 d⟩ : Node).sizes ≤ 100 := by
  have h2 := h.2
  unfold Node.sizes at h2
  refine ⟨⟨h.1.1, h.1.2.1, h.1.2.2.1, h.1.2.2.2.1, fun k hk => ?_, by unfold maxLen; simp; omega⟩, by unfold Node.sizes; simp; omega⟩
  rcases List.mem_or_eq_of_mem_set hk with hk | rfl
  · exact h.1.2.2.2.2.1 k hk
  · exact hz
theorem SmallN.fine90 {l : List Node} (h : SmallN l) (hl : l.length ≤ 1300) : ∀ x ∈ l, x.Ok ∧ x.sizes ≤ 90 := fun x hx => ⟨(h.fine (by omega)).2.1 x hx, by
  obtain ⟨h1, _, _, h4, _⟩ := h.2 x hx
  unfold Node.sizes; omega⟩
theorem FineN.twice {l : List Node} (h : FineN l) (hl : l.length ≤ 1300) : FineN (l ++ l) :=
  ⟨by simp; omega, fun x hx => h.2 x (by rcases List.mem_append.1 hx with h | h <;> exact h)⟩
theorem lset_same {α : Type} {xs : List α} {o : Nat} {v : α} (h : xs[o]? = some v) : xs.set o v = xs := by
  obtain ⟨h1, h2⟩ := List.getElem?_eq_some_iff.1 h
  rw [← h2]
  exact List.set_getElem_self h1
/-- The first kid of a node is set. -/
theorem set_kid0 {w : World} {lo g cap k kg kc : Nat} {l : List Node} {q : List (Node × Value)} {x : Node} {d : Int} (h : DP w lo g cap l q)
    (hx : q[k]? = some (x, .slice (some ⟨kg, 0, none⟩) x.kids.length kc)) (h0 : 0 < x.kids.length) : NodeSlcX (fun b => lo ≤ b) (w.setCell ⟨kg, 0, none⟩ (.int .i64 d)) (.slice (some ⟨g, 0, none⟩) l.length cap) (l.set k ⟨x.kind, x.op, x.text, x.other, x.kids.set 0 d⟩) := by
  have hl : (l.set k ⟨x.kind, x.op, x.text, x.other, x.kids.set 0 d⟩).length = l.length := by simp
  have hm := List.mem_of_getElem? hx
  have hko := h.kids _ hm
  simp only at hko
  have hs := hko.stored 0 (.int .i64 d)
  have hrow := h.row.kept hs.2 (own_types2 h.row hko (by decide))
  have hkl : (x.kids.set 0 d).length = x.kids.length := by simp
  have hks : (x.kids.flatMap int1).set 0 (.int .i64 d) = (x.kids.set 0 d).flatMap int1 := by
    cases hk : x.kids with
    | nil => rw [hk] at h0; simp at h0
    | cons a r => rfl
  have hcells : q.flatMap Node.cells = (q.set k (⟨x.kind, x.op, x.text, x.other, x.kids.set 0 d⟩, .slice (some ⟨kg, 0, none⟩) x.kids.length kc)).flatMap Node.cells := by
    have := flat_set1 (p' := (⟨x.kind, x.op, x.text, x.other, x.kids.set 0 d⟩, .slice (some ⟨kg, 0, none⟩) x.kids.length kc)) (i := 4) hx (by omega) (.slice (some ⟨kg, 0, none⟩) x.kids.length kc) rfl
    rw [← this]
    have hc : (q.flatMap Node.cells)[k * 5 + 4]? = some (.slice (some ⟨kg, 0, none⟩) x.kids.length kc) := flat_get _ 5 Node.len q k 4 _ _ hx rfl
    exact (lset_same hc).symm
  rw [← hl]
  refine NodeSlcX.of_parts (q := q.set k (⟨x.kind, x.op, x.text, x.other, x.kids.set 0 d⟩, .slice (some ⟨kg, 0, none⟩) x.kids.length kc)) (by rw [List.map_set, h.hq]) (by rw [hl, ← hcells]; exact hrow) fun p hp => ?_
  rcases mem_set_ne hp with rfl | ⟨j, hjk, hj⟩
  · show World.ownsRow _ lo _ 1 (.slice (some ⟨kg, 0, none⟩) x.kids.length kc) (x.kids.set 0 d).length ((x.kids.set 0 d).flatMap int1)
    rw [hkl, ← hks]
    exact hs.1
  · have hmj := List.mem_of_getElem? hj
    have hget : ∀ (a b : Nat) (pa pb : Node × Value), a < b → q[a]? = some pa → q[b]? = some pb → Apart pa.2 pb.2 := fun a b pa pb hab ha hb => by
      have h2 := List.pairwise_iff_getElem.1 h.apart a b (by rw [List.length_map]; exact (List.getElem?_eq_some_iff.1 ha).1) (by rw [List.length_map]; exact (List.getElem?_eq_some_iff.1 hb).1) hab
      rw [List.getElem_map, List.getElem_map, (List.getElem?_eq_some_iff.1 ha).2, (List.getElem?_eq_some_iff.1 hb).2] at h2
      exact h2
    refine (h.kids _ hmj).kept hs.2 ?_
    rcases Nat.lt_or_gt_of_ne hjk with hlt | hlt
    · exact hget j k _ _ hlt hj hx
    · have h2 := hget k j _ _ hlt hx hj
      rcases h2 with h2 | h2
      · simp [Value.ownBlock] at h2
      · cases hpo : p.2.ownBlock with
        | none => exact .inl rfl
        | some r => exact .inr fun e => h2 (by rw [hpo]; exact e.symm)

theorem DP.drew {w : World} {lo g cap : Nat} {l : List Node} {q : List (Node × Value)} (h : DP w lo g cap l q) : DP w.drew lo g cap l q := ⟨h.hq, h.row, h.kids, h.ne, h.apart⟩
theorem grown_drew1 (w : World) (r : Option Nat) : w.grownBy w.drew r := ⟨rfl, rfl, rfl, Nat.le_refl _, fun _ _ _ => rfl⟩
/-- What l6Bent and l7Spoilt hand back. -/
theorem AnyNX.of {w0 w w2 : World} {p : Nat} {bv v : Value} {bs : List UInt8} {l : List Node} (h1 : w.grownBy w2 (some p)) (h2 : Cur w0 w2 p bv bs) (h3 : NodeSlcX (fun b => w.heap.size ≤ b) w2 v l) (h4 : FineN l) : AnyNX w0 w p bv bs (.returned v) w2 := ⟨v, l, rfl, h1, h2, h3, h4⟩

end Go.Proofs.YtkelhmgdajiocaaGreatDoor
/- Walks and lemmas of this seat (FBentW): what each theorem says of the functions that it names. Conditions: those that each theorem states. -/
namespace Go.Proofs.YtkelhmgdajiocaaGreatDoor
set_option linter.unusedVariables false
set_option linter.unusedSimpArgs false
open Go.RowKit

set_option maxRecDepth 100000 in
set_option maxHeartbeats 6400000 in
theorem specl6Bent_any (w0 w : World) (p : Nat) (bv : Value) (bs : List UInt8) (hc : Cur w0 w p bv bs) :
    Calls Tryz.prog 83 #[.pointer (some ⟨p, 0, none⟩)] w fun e w' => AnyNX w0 w p bv bs e w' := by
  have hpw := hc.box.lt
  have hcall := hid (any_drawn w0 w p bv bs hc)
  clear hc
  obtain ⟨i0, hi, hz0, hz1, hz2⟩ := info_parts Tryz.info3
  obtain ⟨j0, hj, hy0, hy1, hy2⟩ := info_parts Tryz.info58
  go_enter Tryz.func83, Tryz.ntmps83
  go_wp2_with fail
  refine hcall.out.mono ?_; rintro e w1 ⟨v, l, rfl, hg1, hc1, ho1, hs1, hn1⟩
  clear hcall
  have hlen0 := List.length_pos_iff.2 hs1.1
  obtain ⟨g, cap, q, rfl, hq, hcm, hlc, hr, hk, hne, hap⟩ := ho1.parts hs1.1
  have hdp : DP w1 w.heap.size g cap l q := ⟨hq, hr, hk, hne, hap⟩
  have hfd := hid (hs1.fineN hn1)
  have hf90 := hid (hs1.fine90 hn1)
  have hgw := (hr.lt g rfl).1
  clear hq hr hk hne hap ho1 hs1
  have hcall := hid (specl1Below_any w0 w1 p bv bs l.length (by unfold I64; omega) hc1)
  replace hdp := hid hdp
  replace hg1 := hid hg1
  clear hc1
  go_wp2_with fail
  refine hcall.out.mono ?_; rintro e w2 ⟨k', rfl, hk0, hk1, _, hg2, hc2⟩
  obtain ⟨k, rfl⟩ : ∃ k : Nat, k' = (k : Int) := ⟨k'.toNat, by omega⟩
  have hkl : k < l.length := by have := hk1 (by omega); omega
  have hdp := hid (hdp.out.kept hg2 hpw)
  have hg2 := hid (grown_trans hg1.out hg2)
  have hcall2 := hid (specl1Below_any w0 w2 p bv bs 12 (by unfold I64; omega) hc2)
  clear hc2 hcall hg1 hk0 hk1
  go_wp2_with fail
  refine hcall2.out.mono ?_; rintro e w3 ⟨y, rfl, hy0', hy1', _, hg3, hc3⟩
  have hdp := hid (hdp.out.kept hg3 hpw)
  have hg3 := hid (grown_trans hg2.out hg3)
  clear hcall2 hg2
  by_cases y0 : y = 0
  · subst y0
    have hfin := hid (hdp.out.slc.take k (by omega))
    replace hc3 := hid hc3
    go_wp2
    go_ret
    exact .of hg3.out hc3.out hfin.out (hfd.out.take k)
  by_cases y1 : y = 1
  · subst y1
    have hpw3 := hc3.box.lt
    obtain ⟨x, kv, hx, hxl, c0, c1, c2, c3, c4, cf⟩ := hdp.out.at hkl
    have hko := hdp.out.kids _ (List.mem_of_getElem? hx)
    simp only at hko
    obtain ⟨ka, kc, rfl, _⟩ := own_slice hko
    have hcall := hid (fun o => specl1PickInt_any w0 (w3.alloc (.cells ((intsB k).flatMap int1).toArray o)).drew p bv bs (intsB k) w3.heap.size 4 (by simp [intsB]) (by simp [intsB]) (by simp [intsB]) (by omega) (rowAt_lit w3 ((intsB k).flatMap int1) o) (hc3.below (((Below.refl _ _).alloc (Nat.le_refl _) _).drew)))
    have hgl := (hdp.out.row.lt g rfl).2
    have hkne := hdp.out.ne _ (List.mem_of_getElem? hx)
    have hx90 := hf90.out x (List.mem_of_getElem? hxl)
    have hkb : x.kids.length ≤ 90 := by have := hx90.2; unfold Node.sizes at this; omega
    have hlo : Hid (∀ r, (Value.slice ka x.kids.length kc).ownBlock = some r → w.heap.size ≤ r) := hid fun r e => (hko.lt r e).1
    clear hc3 c0 c1 c2 c3 hxl
    have hki : (k : Int) < (l.length : Int) := by omega
    replace hx := hid hx
    replace hko := hid hko
    replace hx90 := hid hx90
    replace hkne := hid hkne
    go_wp2_with fail
    go_region_law (first
      | (go_simp; go_at_call 67; refine (hcall.out _).mono ?_; rintro e w4 ⟨z, hz, rfl, hg4, hc4⟩
         have hzb := hid hz
         have hdp4 := hid (((hdp.out.alloc _).drew).kept hg4 hpw)
         have hgw4 := hid (grown_trans (grown_trans (grown_al hg3.out _) (grown_drew1 _ _)) hg4)
         have hko4 := hid (show w4.ownsRow w.heap.size 3 1 (.slice ka x.kids.length kc) x.kids.length (x.kids.flatMap int1) from hdp4.out.kids _ (List.mem_of_getElem? hx.out))
         have q4 : w4.cell? ⟨g, k * 5 + 4, none⟩ = some (.slice ka x.kids.length kc) := by
           obtain ⟨x', kv', hx', _, _, _, _, _, d4, _⟩ := hdp4.out.at hkl
           rw [hx.out] at hx'
           cases hx'
           exact d4
         have f4 : ∀ j, w4.frozen? ⟨g, j, none⟩ = false := by
           obtain ⟨x', kv', hx', _, _, _, _, _, _, d4⟩ := hdp4.out.at hkl
           exact d4
         have hgl4 : g < w4.heap.size := (hdp4.out.row.lt g rfl).2
         replace hc4 := hid hc4
         clear hg4 hz)
      | (refine step_append_lies _ (by rfl) _ _ _ (by rfl) w.heap.size 3 i0 _ 1 8 Tryz.underlying54 hi hz0 hz1 hz2 rfl (by omega) (.slice ka x.kids.length kc) x.kids.length (x.kids.flatMap int1) (by rfl) (hko4.out.alloc _) ⟨w4.heap.size, 0, none⟩ 1 1 [.int .i64 z] (by rfl) (by rfl) (World.news_of_block (cs := #[.int .i64 z]) (t := 3) (fr := (0, 0)) (heap_alloc_new w4 _)) (by simp [Value.oneCell']) (by omega) (by unfold maxLen; omega) (by omega) (by have := hgw4.out.size; simp; omega) (w4.heap.size + 1) (by simp) ?_
         intro gg cap2 w5 hown5 hgr5 hat5 hlt5
         have d3 : w5.cell? ⟨g, k * 5 + 4, none⟩ = some (.slice ka x.kids.length kc) := by
           rw [cell_of_heap2 ((hgr5.block g (by simp; omega) (fun e => hkne.out e.symm)).trans (Below.heap_alloc _ _ _ hgl4))]; exact q4
         have df : ∀ j, w5.frozen? ⟨g, j, none⟩ = false := fun j => by
           have e := (hgr5.block g (by simp; omega) (fun e => hkne.out e.symm)).trans (Below.heap_alloc _ _ _ hgl4)
           have := f4 j
           unfold World.frozen? at this ⊢
           simp only [e]
           exact this))
    all_goals
      have hz2 : I64 z := by
        have h := hzb.out
        unfold intsB at h
        simp at h
        unfold I64
        omega
      have hfx := hid (Ok_kidsN (d := z) hx90.out hz2)
      have hfin := hid (set_kids hdp4.out.hq hdp4.out.row hdp4.out.kids hdp4.out.ne hdp4.out.apart hx.out hgr5 hown5)
      have hg5 := hid (grown_low2 (grown_al hgw4.out _) hlo.out hgr5)
      have hc5 := hid ((hc4.out.below ((Below.refl _ _).alloc (Nat.le_refl _) _)).low (s := (Value.slice ka x.kids.length kc).ownBlock) (fun r e => by have := hlo.out r e; omega) hgr5)
      clear hgr5 hown5
      go_wp2
      go_ret
      exact .of (grown_low hg5.out hgw (grown_set _ _ _ _)) (hc5.out.low (s := some g) (fun r e => by have := Option.some.inj e; omega) (grown_set _ _ _ _)) hfin.out (hfd.out.set hfx.out)
  by_cases y2 : y = 2
  · subst y2
    obtain ⟨x, kv, hx, hxl, c0, c1, c2, c3, c4, cf⟩ := hdp.out.at hkl
    have hko := hdp.out.kids _ (List.mem_of_getElem? hx)
    simp only at hko
    obtain ⟨ka, kc, rfl, _⟩ := own_slice hko
    have hcall := hid (specl1Below_any w0 w3.drew p bv bs ((k : Int) + 1) (by unfold I64; omega) (hc3.below ((Below.refl _ _).drew)))
    have hx90 := hf90.out x (List.mem_of_getElem? hxl)
    clear c0 c1 c2 c3 hxl
    have hki : (k : Int) < (l.length : Int) := by omega
    by_cases h0 : x.kids.length = 0
    · simp only [h0] at c4
      have hfin := hid hdp.out.slc
      replace hc3 := hid hc3
      clear hx hko hcall
      go_wp2
      go_ret
      exact .of hg3.out hc3.out hfin.out hfd.out
    · have h1 : (0 : Int) < (x.kids.length : Int) := by omega
      have h2 : 0 < x.kids.length := by omega
      have hwk := wrap_in ((k : Int) + 1) (by unfold I64; omega)
      obtain ⟨kg, rfl⟩ := own_some hko h2
      have hlo : w.heap.size ≤ kg := (hko.lt kg rfl).1
      clear hc3 h0
      replace hx := hid hx
      replace hko := hid hko
      replace hx90 := hid hx90
      go_wp2_with fail
      go_region_law (first
        | (go_simp; go_at_call 66; refine hcall.out.mono ?_; rintro e w4 ⟨z, rfl, hz3, hz4, hz5, hg4, hc4⟩
           have hz6 := hz4 (by omega)
           have hwr := wrap_in (z - 1) (by unfold I64; omega)
           have hdp4 := hid ((hdp.out.drew).kept hg4 hpw)
           have hgw4 := hid (grown_trans (grown_trans hg3.out (grown_drew1 _ _)) hg4)
           have hko4 := hid (show w4.ownsRow w.heap.size 3 1 (.slice (some ⟨kg, 0, none⟩) x.kids.length kc) x.kids.length (x.kids.flatMap int1) from hdp4.out.kids _ (List.mem_of_getElem? hx.out))
           have q4 : w4.cell? ⟨g, k * 5 + 4, none⟩ = some (.slice (some ⟨kg, 0, none⟩) x.kids.length kc) := by
             obtain ⟨x', kv', hx', _, _, _, _, _, d4, _⟩ := hdp4.out.at hkl
             rw [hx.out] at hx'
             cases hx'
             exact d4
           have q5 : ∃ u, w4.cell? ⟨kg, 0, none⟩ = some u := by
             obtain ⟨u, hu⟩ := get_of_lt h2
             exact ⟨_, own_read hko4.out (j := 0) (u := .int .i64 u) (by simpa using flat_get int1 1 int1_len x.kids 0 0 u (.int .i64 u) hu rfl)⟩
           obtain ⟨u5, q5⟩ := q5
           have f5 : ∀ j, w4.frozen? ⟨kg, j, none⟩ = false := hko4.out.frozenAt
           replace hc4 := hid hc4
           clear hg4 hz4 hz5))
      all_goals
        have hfx := hid (Ok_kid0N (d := z - 1) hx90.out (by unfold I64; omega))
        have hfin := hid (set_kid0 (d := z - 1) hdp4.out hx.out h2)
        go_wp2
        go_ret
        exact .of (grown_low hgw4.out hlo (grown_set _ _ _ _)) (hc4.out.low (s := some kg) (fun r e => by have := Option.some.inj e; omega) (grown_set _ _ _ _)) hfin.out (hfd.out.set hfx.out)
  by_cases y3 : y = 3
  · subst y3
    have hnews : Hid (∀ (j : Nat) u, (q.flatMap Node.cells)[j]? = some u → w3.cell? ((⟨g, 0, none⟩ : Addr).add j) = some u) := hid fun j u h => by
      have ha : (⟨g, 0, none⟩ : Addr).add j = ⟨g, j, none⟩ := by cases j <;> simp [Addr.add]
      rw [ha]
      exact own_read hdp.out.row h
    have hone : Hid (∀ u ∈ q.flatMap Node.cells, u.oneCell' = true) := hid fun u hu => by
      obtain ⟨y, hy, hu⟩ := List.mem_flatMap.1 hu
      obtain ⟨ya, yc, hyv, _⟩ := own_slice (hdp.out.kids y hy)
      unfold Node.cells at hu
      rw [hyv] at hu
      simp at hu
      rcases hu with rfl | rfl | rfl | rfl | rfl <;> rfl
    have hfl : Hid ((q.flatMap Node.cells).length = l.length * 5) := hid hdp.out.row.1
    have hrow := hid hdp.out.row
    replace hc3 := hid hc3
    go_wp2_with (at_builtin; refine Hid.out ?_)
    refine hid ?_
    refine wpList_append_lies _ (by rfl) _ _ _ (by rfl) w.heap.size 58 j0 _ 5 72 Tryz.underlying26 hj hy0 hy1 hy2 rfl (by omega) _ l.length (q.flatMap Node.cells) (by rfl) hrow.out ⟨g, 0, none⟩ l.length cap (q.flatMap Node.cells) (by rfl) hfl.out hnews.out hone.out (by omega) (by unfold maxLen; omega) (by omega) (by have := hg3.out.size; omega) w3.heap.size rfl ?_
    intro gg cap3 w5 hown5 hg5 hat5 hlt5
    have hfin : Hid (NodeSlcX (fun b => w.heap.size ≤ b) w5 (.slice (some ⟨gg, 0, none⟩) (l.length + l.length) cap3) (l ++ l)) := hid (by
      rw [← List.length_append]
      refine NodeSlcX.of_parts (q := q ++ q) (by rw [List.map_append, hdp.out.hq]) (by rw [List.length_append, List.flatMap_append]; exact hown5) fun p hp => ?_
      have hp : p ∈ q := by rcases List.mem_append.1 hp with h | h <;> exact h
      exact (hdp.out.kids p hp).kept hg5 (.inr (hdp.out.ne p hp)))
    have hgw5 := hid (grown_low hg3.out hgw hg5)
    have hc5 := hid (hc3.out.low (s := some g) (fun r e => by have := Option.some.inj e; omega) hg5)
    clear hown5 hg5 hat5 hlt5 hrow hfl hone hnews
    go_wp2
    go_ret
    exact .of hgw5.out hc5.out hfin.out (hfd.out.twice hn1)
  · have hfin := hid hdp.out.slc
    replace hc3 := hid hc3
    go_wp2
    go_ret
    exact .of hg3.out hc3.out hfin.out hfd.out

theorem NodeSlcX.vshape {S : Nat → Prop} {w : World} {v : Value} {l : List Node} (h : NodeSlcX S w v l) : ∃ a cap, v = .slice a l.length cap := by
  obtain ⟨a, cap, e, _⟩ := h.slc.shape
  exact ⟨a, cap, e⟩
end Go.Proofs.YtkelhmgdajiocaaGreatDoor
/- Walks and lemmas of this seat (FSpoilt): what each theorem says of the functions that it names. Conditions: those that each theorem states. -/
namespace Go.Proofs.YtkelhmgdajiocaaGreatDoor
set_option linter.unusedVariables false
set_option linter.unusedSimpArgs false
open Go.RowKit

/-! A drawn tree that may not be right. -/
def intsO : List Int := [0, 1, 56, 99, 54, 51, -1]
def textsS : List ByteArray := [⟨#[]⟩, ⟨#[120]⟩, ⟨#[105, 102]⟩, ⟨#[108, 101, 110, 103, 116, 104]⟩, ⟨#[49]⟩, ⟨#[47]⟩]
def othersS : List ByteArray := [⟨#[]⟩, ⟨#[62]⟩, ⟨#[120]⟩]
theorem AnyNX.up {w0 w w1 w2 : World} {p : Nat} {bv : Value} {bs : List UInt8} {e : Ending} (hg : w.grownBy w1 (some p)) (h : AnyNX w0 w1 p bv bs e w2) : AnyNX w0 w p bv bs e w2 := by
  obtain ⟨v, l, rfl, h1, h2, h3, h4⟩ := h
  exact ⟨v, l, rfl, grown_trans hg h1, h2, h3.keep fun b hS _ => ⟨rfl, Nat.le_trans hg.size hS⟩, h4⟩
set_option maxRecDepth 100000 in
set_option maxHeartbeats 6400000 in
theorem specl7Spoilt_any (w0 w : World) (p : Nat) (bv : Value) (bs : List UInt8) (hc : Cur w0 w p bv bs) :
    Calls Tryz.prog 64 #[.pointer (some ⟨p, 0, none⟩)] w fun e w' => AnyNX w0 w p bv bs e w' := by
  have hpw := hc.box.lt
  have hcall := hid (any_drawn w0 w p bv bs hc)
  clear hc
  go_enter Tryz.func64, Tryz.ntmps64
  go_wp2_with fail
  refine hcall.out.mono ?_; rintro e w1 ⟨v, l, rfl, hg1, hc1, ho1, hs1, hn1⟩
  clear hcall
  have hlen0 := List.length_pos_iff.2 hs1.1
  obtain ⟨g, cap, q, rfl, hq, hcm, hlc, hr, hk, hne, hap⟩ := ho1.parts hs1.1
  have hdp : DP w1 w.heap.size g cap l q := ⟨hq, hr, hk, hne, hap⟩
  have hfd := hid (hs1.fineN hn1)
  have hf90 := hid (hs1.fine90 hn1)
  have hgw := (hr.lt g rfl).1
  clear hq hr hk hne hap ho1 hs1
  have hcall := hid (specl1Below_any w0 w1 p bv bs l.length (by unfold I64; omega) hc1)
  replace hdp := hid hdp
  replace hg1 := hid hg1
  clear hc1
  go_wp2_with fail
  refine hcall.out.mono ?_; rintro e w2 ⟨k', rfl, hk0, hk1, _, hg2, hc2⟩
  obtain ⟨k, rfl⟩ : ∃ k : Nat, k' = (k : Int) := ⟨k'.toNat, by omega⟩
  have hkl : k < l.length := by have := hk1 (by omega); omega
  have hdp := hid (hdp.out.kept hg2 hpw)
  have hg2 := hid (grown_trans hg1.out hg2)
  have hcall2 := hid (specl1Below_any w0 w2 p bv bs 14 (by unfold I64; omega) hc2)
  clear hc2 hcall hg1 hk0 hk1
  go_wp2_with fail
  refine hcall2.out.mono ?_; rintro e w3 ⟨y, rfl, hy0', hy1', _, hg3, hc3⟩
  have hdp := hid (hdp.out.kept hg3 hpw)
  have hg3 := hid (grown_trans hg2.out hg3)
  clear hcall2 hg2
  by_cases y0 : y = 0
  · subst y0
    have hcall := hid (specl1Below_any w0 w3 p bv bs 47 (by unfold I64; omega) hc3)
    clear hc3
    go_wp2_with fail
    refine hcall.out.mono ?_; rintro e w4 ⟨z, rfl, hz3, hz4, _, hg4, hc4⟩
    have hdp := hid (hdp.out.kept hg4 hpw)
    have hg4 := hid (grown_trans hg3.out hg4)
    obtain ⟨x, kv, hx, hxl, c0, c1, c2, c3, c4, cf⟩ := hdp.out.at hkl
    have hfx := hid (Ok_kindN (z := z) (hfd.out.2 x (List.mem_of_getElem? hxl)) (by unfold I64; omega))
    have hfin := hid (set_cell (i := 0) (x' := ⟨z, x.op, x.text, x.other, x.kids⟩) (u := .int .i64 z) hdp.out.hq hdp.out.row hdp.out.kids hdp.out.ne hx (by omega) rfl rfl)
    replace hc4 := hid hc4
    clear hcall hg3 hx hxl c1 c2 c3 c4
    go_wp2
    go_ret
    exact .of (grown_low hg4.out hgw (grown_set _ _ _ _)) (hc4.out.low (s := some g) (fun r e => by have := Option.some.inj e; omega) (grown_set _ _ _ _)) hfin.out (hfd.out.set hfx.out)
  by_cases y1 : y = 1
  · subst y1
    have hpw3 := hc3.box.lt
    have hcall := hid (fun o => specl1PickInt_any w0 (w3.alloc (.cells (intsO.flatMap int1).toArray o)) p bv bs intsO w3.heap.size 7 (by decide) (by decide) (by decide) (by omega) (rowAt_lit _ _ _) (hc3.below ((Below.refl _ _).alloc (Nat.le_refl _) _)))
    clear hc3
    go_wp2_with fail
    refine (hcall.out _).mono ?_; rintro e w4 ⟨z, hz, rfl, hg4, hc4⟩
    have hzb : I64 z := by
      have : ∀ z ∈ intsO, -1 ≤ z ∧ z ≤ 99 := by decide
      have := this z hz
      unfold I64; omega
    have hdp := hid ((hdp.out.alloc _).kept hg4 hpw)
    have hg4 := hid (grown_trans (grown_al hg3.out _) hg4)
    obtain ⟨x, kv, hx, hxl, c0, c1, c2, c3, c4, cf⟩ := hdp.out.at hkl
    have hfx := hid (Ok_opN (z := z) (hfd.out.2 x (List.mem_of_getElem? hxl)) hzb)
    have hfin := hid (set_cell (i := 1) (x' := ⟨x.kind, z, x.text, x.other, x.kids⟩) (u := .int .i64 z) hdp.out.hq hdp.out.row hdp.out.kids hdp.out.ne hx (by omega) rfl rfl)
    replace hc4 := hid hc4
    clear hcall hg3 hx hxl c0 c2 c3 c4 hz hzb
    go_wp2
    go_ret
    exact .of (grown_low hg4.out hgw (grown_set _ _ _ _)) (hc4.out.low (s := some g) (fun r e => by have := Option.some.inj e; omega) (grown_set _ _ _ _)) hfin.out (hfd.out.set hfx.out)
  by_cases y2 : y = 2
  · subst y2
    have hpw3 := hc3.box.lt
    have hcall := hid (fun o => specl1Pick_any w0 (w3.alloc (.cells (textsS.flatMap str1).toArray o)) p bv bs textsS w3.heap.size 6 (by decide) (by decide) (by decide) (by omega) (rowAt_lit _ _ _) (hc3.below ((Below.refl _ _).alloc (Nat.le_refl _) _)))
    clear hc3
    go_wp2_with fail
    refine (hcall.out _).mono ?_; rintro e w4 ⟨z, hz, rfl, hg4, hc4⟩
    have hzb : z.size ≤ 8 := by
      have : ∀ z ∈ textsS, z.size ≤ 8 := by decide
      exact this z hz
    have hdp := hid ((hdp.out.alloc _).kept hg4 hpw)
    have hg4 := hid (grown_trans (grown_al hg3.out _) hg4)
    obtain ⟨x, kv, hx, hxl, c0, c1, c2, c3, c4, cf⟩ := hdp.out.at hkl
    have hfx := hid (Ok_textN (t := z) (hf90.out x (List.mem_of_getElem? hxl)) hzb)
    have hfin := hid (set_cell (i := 2) (x' := ⟨x.kind, x.op, z, x.other, x.kids⟩) (u := .string z) hdp.out.hq hdp.out.row hdp.out.kids hdp.out.ne hx (by omega) rfl rfl)
    replace hc4 := hid hc4
    clear hcall hg3 hx hxl c0 c1 c3 c4 hz hzb
    go_wp2
    go_ret
    exact .of (grown_low hg4.out hgw (grown_set _ _ _ _)) (hc4.out.low (s := some g) (fun r e => by have := Option.some.inj e; omega) (grown_set _ _ _ _)) hfin.out (hfd.out.set hfx.out)
  by_cases y3 : y = 3
  · subst y3
    have hpw3 := hc3.box.lt
    have hcall := hid (fun o => specl1Pick_any w0 (w3.alloc (.cells (othersS.flatMap str1).toArray o)) p bv bs othersS w3.heap.size 3 (by decide) (by decide) (by decide) (by omega) (rowAt_lit _ _ _) (hc3.below ((Below.refl _ _).alloc (Nat.le_refl _) _)))
    clear hc3
    go_wp2_with fail
    refine (hcall.out _).mono ?_; rintro e w4 ⟨z, hz, rfl, hg4, hc4⟩
    have hzb : z.size ≤ 8 := by
      have : ∀ z ∈ othersS, z.size ≤ 8 := by decide
      exact this z hz
    have hdp := hid ((hdp.out.alloc _).kept hg4 hpw)
    have hg4 := hid (grown_trans (grown_al hg3.out _) hg4)
    obtain ⟨x, kv, hx, hxl, c0, c1, c2, c3, c4, cf⟩ := hdp.out.at hkl
    have hfx := hid (Ok_otherN (t := z) (hf90.out x (List.mem_of_getElem? hxl)) hzb)
    have hfin := hid (set_cell (i := 3) (x' := ⟨x.kind, x.op, x.text, z, x.kids⟩) (u := .string z) hdp.out.hq hdp.out.row hdp.out.kids hdp.out.ne hx (by omega) rfl rfl)
    replace hc4 := hid hc4
    clear hcall hg3 hx hxl c0 c1 c2 c4 hz hzb
    go_wp2
    go_ret
    exact .of (grown_low hg4.out hgw (grown_set _ _ _ _)) (hc4.out.low (s := some g) (fun r e => by have := Option.some.inj e; omega) (grown_set _ _ _ _)) hfin.out (hfd.out.set hfx.out)
  by_cases y4 : y = 4
  · subst y4
    have hcall := hid (specl6Bent_any w0 w3 p bv bs hc3)
    clear hc3
    go_wp2_with fail
    refine hcall.out.mono ?_; rintro e w4 h
    have h := h.up hg3.out
    obtain ⟨v2, l2, rfl, h2⟩ := h
    go_wp2
    go_ret
    exact ⟨v2, l2, rfl, h2⟩
  · have hfin := hid hdp.out.slc
    replace hc3 := hid hc3
    go_wp2
    go_ret
    exact .of hg3.out hc3.out hfin.out hfd.out
end Go.Proofs.YtkelhmgdajiocaaGreatDoor
