/- Walks and lemmas of this seat (FGrow): what each theorem says of the functions that it names. Conditions: those that each theorem states. -/
import Derived.Test.YtfabfkaolnidiaaDoorPGreedy
import Derived.Test.YtfabfkaolnidiaaDoorFMem
namespace Go.Proofs.YtfabfkaolnidiaaDoor
set_option linter.unusedVariables false
set_option linter.unusedSimpArgs false
open Go.RowKit

/-! The nodes of a group of words while they are gathered, and the numbers of the kids. -/
theorem infoDNode : (Tryd.prog.info? 28).map (fun i => (i.zero, i.size, i.bytes)) = some (some (.agg #[.int .i64 0, .int .i64 0, .string ⟨#[]⟩, .slice none 0 0]), 4, 56) := by kernel_rfl
def nilV : Value := .slice none 0 0
def leafV (x : DNode) : DNode × Value := (x, nilV)
def upto (n : Nat) : List Int := (List.range n).map Int.ofNat
theorem upto_succ (n : Nat) : upto (n + 1) = upto n ++ [(n : Int)] := by unfold upto; rw [List.range_succ]; simp
theorem upto_len (n : Nat) : (upto n).length = n := by simp [upto]
/-- Rows of two types lie apart. -/
theorem own_types {w : World} {B B' : Nat} {e e' : TypeId} {s s' n n' : Nat} {v v' : Value} {xs xs' : List Value} (h : w.ownsRow B e s v n xs) (h' : w.ownsRow B' e' s' v' n' xs') (hne : e ≠ e') : v.ownBlock = none ∨ v.ownBlock ≠ v'.ownBlock := by
  rcases h.2 with ⟨rfl, _⟩ | ⟨g, cap, cur, rfl, _, hg, _⟩
  · exact .inl rfl
  · refine .inr fun he => ?_
    rcases h'.2 with ⟨rfl, _⟩ | ⟨g', cap', cur', rfl, _, hg', _⟩
    · cases he
    · have he : g = g' := Option.some.inj he
      subst he
      rw [hg] at hg'
      injection hg' with hg'
      injection hg' with _ ht
      exact hne ht
theorem kept_types {w w' : World} {B B' : Nat} {e e' : TypeId} {s s' n n' : Nat} {v v' : Value} {xs xs' : List Value} (hg : w.grownBy w' v'.ownBlock) (h : w.ownsRow B e s v n xs) (h' : w.ownsRow B' e' s' v' n' xs') (hne : e ≠ e') : w'.ownsRow B e s v n xs := h.kept hg (own_types h h' hne)
/-- Between two rounds: the leaves so far, the numbers of the kids. -/
structure GL (w : World) (L : List DNode) (lv kv : Value) (wr : World) : Prop where
  hb : Below w.heap.size w wr
  row : wr.ownsRow w.heap.size 28 4 lv L.length ((L.map leafV).flatMap DNode.cells)
  nums : wr.ownsRow w.heap.size 3 1 kv L.length ((upto L.length).flatMap int1)
/-- A node is appended, not yet its number. -/
structure GH (w : World) (L : List DNode) (x : DNode) (lv kv : Value) (wr : World) : Prop where
  hb : Below w.heap.size w wr
  row : wr.ownsRow w.heap.size 28 4 lv (L.length + 1) (((L ++ [x]).map leafV).flatMap DNode.cells)
  nums : wr.ownsRow w.heap.size 3 1 kv L.length ((upto L.length).flatMap int1)
theorem GL.push {w wr w2 : World} {L : List DNode} {x : DNode} {lv kv lv2 : Value} (h : GL w L lv kv wr) (o : Obj) (ho : w2.ownsRow w.heap.size 28 4 lv2 (L.length + 1) ((L.map leafV).flatMap DNode.cells ++ [.int .i64 x.kind, .int .i64 x.n, .string x.text, .slice none 0 0])) (hg : (wr.alloc o).grownBy w2 lv.ownBlock) : GH w L x lv2 kv w2 := by
  have hbs := h.hb.size
  refine ⟨(h.hb.alloc hbs o).grown hg (by simp; omega) (fun r e => (h.row.lt r e).1), ?_, (h.nums.alloc o).kept hg (own_types h.nums h.row (by decide))⟩
  rw [List.map_append, List.flatMap_append]
  exact ho
theorem GH.push {w wr w2 : World} {L : List DNode} {x : DNode} {lv kv kv2 : Value} {d : Int} (h : GH w L x lv kv wr) (o : Obj) (ho : w2.ownsRow w.heap.size 3 1 kv2 (L.length + 1) ((upto L.length).flatMap int1 ++ [.int .i64 d])) (hd : d = (L.length : Int)) (hg : (wr.alloc o).grownBy w2 kv.ownBlock) : GL w (L ++ [x]) lv kv2 w2 := by
  have hbs := h.hb.size
  subst hd
  refine ⟨(h.hb.alloc hbs o).grown hg (by simp; omega) (fun r e => (h.nums.lt r e).1), ?_, ?_⟩
  · rw [List.length_append]
    exact (h.row.alloc o).kept hg (own_types h.row h.nums (by decide))
  · rw [List.length_append, List.length_singleton, upto_succ, List.flatMap_append]
    exact ho
theorem GL.start (w : World) : GL w [] (.slice (some ⟨w.heap.size, 0, none⟩) 0 0) (.slice (some ⟨w.heap.size + 1, 0, none⟩) 0 0) ((w.alloc (.cells #[] 28)).alloc (.cells #[] 3)) := by
  refine ⟨by repeat (first | exact Below.refl _ _ | refine Below.alloc ?_ (by first | omega | (simp; done) | (simp; omega)) _ | refine Below.drew ?_), (own_new0 w _ _).alloc _, ?_⟩
  have := own_new0 (w.alloc (.cells #[] 28)) 3 1
  have h : ((w.alloc (.cells #[] 28)).alloc (.cells #[] 3)).ownsRow (w.heap.size + 1) 3 1 (.slice (some ⟨w.heap.size + 1, 0, none⟩) 0 0) 0 [] := by simpa using this
  exact own_base h (by omega)
/-- The whole document in memory. -/
theorem greedy_slc {w : World} {L : List DNode} {lv kv k1 k2 : Value} {a b c : DNode} (hrow : w.ownsRow 0 28 4 lv (L.length + 3) (((L.map leafV) ++ [(a, kv), (b, k1), (c, k2)]).flatMap DNode.cells))
    (hL : ∀ x ∈ L, x.kids = []) (ha : Slc w kv 1 a.kids.length (a.kids.flatMap int1)) (hb : Slc w k1 1 b.kids.length (b.kids.flatMap int1)) (hc : Slc w k2 1 c.kids.length (c.kids.flatMap int1)) : DNodeSlc w lv (L ++ [a, b, c]) := by
  refine ⟨(L.map leafV) ++ [(a, kv), (b, k1), (c, k2)], ?_, ?_, ?_⟩
  · rw [List.map_append, List.map_map]
    have : L.map (Prod.fst ∘ leafV) = L := by
      conv => rhs; rw [← List.map_id L]
      exact List.map_congr_left fun _ _ => rfl
    rw [this]; rfl
  · have : ((L.map leafV) ++ [(a, kv), (b, k1), (c, k2)]).length = L.length + 3 := by simp
    rw [this]; exact Slc.of_own hrow
  · intro p hp
    rcases List.mem_append.1 hp with hp | hp
    · obtain ⟨x, hx, rfl⟩ := List.mem_map.1 hp
      show Slc w nilV 1 x.kids.length (x.kids.flatMap int1)
      rw [hL x hx]
      exact Slc.of_own (World.ownsRow_nil w 0 3 1)
    · simp only [List.mem_cons, List.not_mem_nil, or_false] at hp
      rcases hp with rfl | rfl | rfl
      · exact ha
      · exact hb
      · exact hc
end Go.Proofs.YtfabfkaolnidiaaDoor
