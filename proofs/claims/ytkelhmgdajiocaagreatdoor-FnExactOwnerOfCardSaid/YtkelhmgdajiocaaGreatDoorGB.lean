/- Walks and lemmas of this seat (FMake): what each theorem says of the functions that it names. Conditions: those that each theorem states. -/
import Derived.Test.YtkelhmgdajiocaaGreatDoorGP
import Derived.Test.YtkelhmgdajiocaaGreatDoorGD
import Derived.Test.YtkelhmgdajiocaaGreatDoorGE
namespace Go.Proofs.YtkelhmgdajiocaaGreatDoor
set_option linter.unusedVariables false
set_option linter.unusedSimpArgs false
open Go.RowKit

/-! spec.l6Make: a node over parts. -/
def makeStep (a : List Node × List Int) (p : List Node) : List Node × List Int :=
  (a.1 ++ p.map (Node.shift a.1.length), a.2 ++ [((a.1.length + p.length : Nat) : Int) - 1])
def makeK (ps : List (List Node)) : List Node × List Int := ps.foldl makeStep ([], [])
/-- The nodes of a node over parts. -/
def makeN (x : Node) (ps : List (List Node)) : List Node := (makeK ps).1 ++ [⟨x.kind, x.op, x.text, x.other, (makeK ps).2⟩]
theorem makeK_snoc (ps : List (List Node)) (p : List Node) : makeK (ps ++ [p]) = makeStep (makeK ps) p := by unfold makeK; rw [List.foldl_append]; rfl
theorem makeK_len (ps : List (List Node)) : (makeK ps).1.length = (ps.map List.length).sum ∧ (makeK ps).2.length = ps.length := by
  unfold makeK
  suffices h : ∀ a : List Node × List Int, (ps.foldl makeStep a).1.length = a.1.length + (ps.map List.length).sum ∧ (ps.foldl makeStep a).2.length = a.2.length + ps.length by simpa using h ([], [])
  induction ps with
  | nil => intro a; simp
  | cons p ps ih =>
    intro a
    have := ih (makeStep a p)
    simp only [List.foldl_cons, List.map_cons, List.sum_cons, List.length_cons]
    unfold makeStep at this ⊢
    simp only [List.length_append, List.length_map, List.length_cons, List.length_nil] at this
    omega

/-- Nodes of the call's own are appended to nodes of its own. -/
theorem OwnS.pushAll {S S' : Nat → Prop} {w w' : World} {v v' : Value} {q q' : List (Node × Value)} (h : OwnS S w v q) (hrow : w'.ownsRow 0 58 5 v' (q.length + q'.length) (q.flatMap Node.cells ++ q'.flatMap Node.cells))
    (hv' : ∀ g, v'.ownBlock = some g → S' g ∧ (v.ownBlock = some g ∨ w.heap.size ≤ g))
    (hkv : ∀ p ∈ q', w'.ownsRow 0 3 1 p.2 p.1.kids.length (p.1.kids.flatMap int1)) (hkS : ∀ p ∈ q', ∀ g, p.2.ownBlock = some g → S' g ∧ ¬ S g ∧ g < w.heap.size) (hpw : (q'.map Prod.snd).Pairwise Apart)
    (hk : ∀ b, S b → b < w.heap.size → (some b ≠ v.ownBlock → w'.heap[b]? = w.heap[b]?) ∧ S' b) : OwnS S' w' v' (q ++ q') := by
  have hap := List.pairwise_cons.1 h.apart
  have hne : ∀ p ∈ q, ∀ g, p.2.ownBlock = some g → some g ≠ v.ownBlock := fun p hp g hg e => by
    have := hap.1 p.2 (List.mem_map.2 ⟨p, hp, rfl⟩)
    unfold Apart at this
    rcases this with h0 | h0
    · rw [← e] at h0; cases h0
    · exact h0 (by rw [hg, e])
  refine ⟨by simpa using hrow, fun g hg => (hv' g hg).1, fun p hp => ?_, fun p hp g hg => ?_, ?_⟩
  · rcases List.mem_append.1 hp with hp | hp
    · have ho := h.kids p hp
      refine ⟨ho.1, ?_⟩
      rcases ho.2 with hn | ⟨g, cap, cur, hpv, hg, hgg, r⟩
      · exact .inl hn
      · have hgo : p.2.ownBlock = some g := by rw [hpv]; rfl
        exact .inr ⟨g, cap, cur, hpv, hg, ((hk g (h.kidsS p hp g hgo) (Array.getElem?_eq_some_iff.1 hgg).1).1 (hne p hp g hgo)).trans hgg, r⟩
    · exact hkv p hp
  · rcases List.mem_append.1 hp with hp | hp
    · exact (hk g (h.kidsS p hp g hg) ((h.kids p hp).lt g hg).2).2
    · exact (hkS p hp g hg).1
  · rw [List.map_append, List.pairwise_cons]
    refine ⟨fun a ha => ?_, List.pairwise_append.2 ⟨hap.2, hpw, fun a ha b hb => ?_⟩⟩
    · refine apart_ne fun g hg => ?_
      rcases (hv' g hg).2 with hg2 | hg2
      · rcases List.mem_append.1 ha with ha | ha
        · obtain ⟨p, hp, rfl⟩ := List.mem_map.1 ha
          exact fun e => hne p hp g e hg2.symm
        · obtain ⟨p, hp, rfl⟩ := List.mem_map.1 ha
          exact fun e => (hkS p hp g e).2.1 (h.rowS g hg2)
      · rcases List.mem_append.1 ha with ha | ha
        · obtain ⟨p, hp, rfl⟩ := List.mem_map.1 ha
          exact fun e => by have := ((h.kids p hp).lt g e).2; omega
        · obtain ⟨p, hp, rfl⟩ := List.mem_map.1 ha
          exact fun e => by have := (hkS p hp g e).2.2; omega
    · obtain ⟨p, hp, rfl⟩ := List.mem_map.1 ha
      obtain ⟨p', hp', rfl⟩ := List.mem_map.1 hb
      exact apart_ne fun g hg e => (hkS p' hp' g e).2.1 (h.kidsS p hp g hg)

/-- Between two rounds of l6Make's loop. -/
structure ML (x : Node) (w : World) (ps : List (List Node)) (vo nkv : Value) (q : List (Node × Value)) (wr : World) : Prop where
  hb : Below w.heap.size w wr
  box : wr.heap[w.heap.size]? = some (.cells #[.int .i64 x.kind, .int .i64 x.op, .string x.text, .string x.other, nkv] 58 (0, 0))
  own : wr.ownsRow (w.heap.size + 1) 3 1 nkv ps.length ((makeK ps).2.flatMap int1)
  eq : q.map Prod.fst = (makeK ps).1
  nodes : OwnS (fun g => w.heap.size + 1 ≤ g ∧ some g ≠ nkv.ownBlock) wr vo q
theorem ML.start (x : Node) (w : World) : ML x w [] (.slice (some ⟨w.heap.size + 1, 0, none⟩) 0 0) (.slice (some ⟨w.heap.size + 1 + 1, 0, none⟩) 0 0) [] (((w.alloc (.cells #[.int .i64 x.kind, .int .i64 x.op, .string x.text, .string x.other, .slice (some ⟨w.heap.size + 1 + 1, 0, none⟩) 0 0] 58)).alloc (.cells #[] 58)).alloc (.cells #[] 3)) := by
  have hbx : (((w.alloc (.cells #[.int .i64 x.kind, .int .i64 x.op, .string x.text, .string x.other, .slice (some ⟨w.heap.size + 1 + 1, 0, none⟩) 0 0] 58)).alloc (.cells #[] 58)).alloc (.cells #[] 3)).heap[w.heap.size]? = some (.cells #[.int .i64 x.kind, .int .i64 x.op, .string x.text, .string x.other, .slice (some ⟨w.heap.size + 1 + 1, 0, none⟩) 0 0] 58 (0, 0)) :=
    (Below.heap_alloc _ _ _ (by simp; omega)).trans ((Below.heap_alloc _ _ _ (by simp)).trans (heap_alloc_new w _))
  have h1 : (((w.alloc (.cells #[.int .i64 x.kind, .int .i64 x.op, .string x.text, .string x.other, .slice (some ⟨w.heap.size + 1 + 1, 0, none⟩) 0 0] 58)).alloc (.cells #[] 58)).alloc (.cells #[] 3)).ownsRow (w.heap.size + 1) 58 5 (.slice (some ⟨w.heap.size + 1, 0, none⟩) 0 0) 0 [] := by
    have := (own_new0 (w.alloc (.cells #[.int .i64 x.kind, .int .i64 x.op, .string x.text, .string x.other, .slice (some ⟨w.heap.size + 1 + 1, 0, none⟩) 0 0] 58)) 58 5).alloc (.cells #[] 3)
    simpa using this
  have h2 : (((w.alloc (.cells #[.int .i64 x.kind, .int .i64 x.op, .string x.text, .string x.other, .slice (some ⟨w.heap.size + 1 + 1, 0, none⟩) 0 0] 58)).alloc (.cells #[] 58)).alloc (.cells #[] 3)).ownsRow (w.heap.size + 1 + 1) 3 1 (.slice (some ⟨w.heap.size + 1 + 1, 0, none⟩) 0 0) 0 [] := by
    have := own_new0 ((w.alloc (.cells #[.int .i64 x.kind, .int .i64 x.op, .string x.text, .string x.other, .slice (some ⟨w.heap.size + 1 + 1, 0, none⟩) 0 0] 58)).alloc (.cells #[] 58)) 3 1
    simpa using this
  have hbb : Below w.heap.size w (((w.alloc (.cells #[.int .i64 x.kind, .int .i64 x.op, .string x.text, .string x.other, .slice (some ⟨w.heap.size + 1 + 1, 0, none⟩) 0 0] 58)).alloc (.cells #[] 58)).alloc (.cells #[] 3)) := by repeat (first | exact Below.refl _ _ | refine Below.alloc ?_ (by first | omega | (simp; done) | (simp; omega)) _ | refine Below.drew ?_)
  refine ⟨hbb, hbx, own_base h2 (by omega), rfl, ?_⟩
  refine ⟨own_base h1 (Nat.zero_le _), fun g hg => ?_, by simp, by simp, by simp⟩
  simp [Value.ownBlock] at hg
  subst hg
  exact ⟨by omega, by simp [Value.ownBlock]⟩
/-- Behind the part's nodes: the row of the nodes has grown. -/
theorem ML.grow {x : Node} {w : World} {ps : List (List Node)} {vo nkv v3 : Value} {q q' : List (Node × Value)} {wr w2 w3 : World} (h : ML x w ps vo nkv q wr) (hb2 : Below wr.heap.size wr w2) (hlt : w.heap.size < wr.heap.size)
    (hq' : ∀ p ∈ q', OwnIn w2 wr.heap.size w2.heap.size 3 1 p.2 p.1.kids.length (p.1.kids.flatMap int1)) (hpw : (q'.map Prod.snd).Pairwise Apart)
    (hrow : w3.ownsRow 0 58 5 v3 (q.length + q'.length) (q.flatMap Node.cells ++ q'.flatMap Node.cells)) (hg : w2.grownBy w3 vo.ownBlock) (hat : ∀ g, v3.ownBlock = some g → vo.ownBlock = some g ∨ g = w2.heap.size) :
    Below w.heap.size w w3 ∧ w3.heap[w.heap.size]? = some (.cells #[.int .i64 x.kind, .int .i64 x.op, .string x.text, .string x.other, nkv] 58 (0, 0)) ∧ w3.ownsRow (w.heap.size + 1) 3 1 nkv ps.length ((makeK ps).2.flatMap int1) ∧ OwnS (fun g => w.heap.size + 1 ≤ g ∧ some g ≠ nkv.ownBlock) w3 v3 (q ++ q') := by
  have hvo : ∀ g, vo.ownBlock = some g → w.heap.size + 1 ≤ g ∧ g < wr.heap.size := fun g hg => ⟨(h.nodes.rowS g hg).1, (h.nodes.row.lt g hg).2⟩
  have hnk : ∀ g, nkv.ownBlock = some g → w.heap.size + 1 ≤ g ∧ g < wr.heap.size := fun g hg => h.own.lt g hg
  have hnv : ∀ g, nkv.ownBlock = some g → some g ≠ vo.ownBlock := fun g hg e => (h.nodes.rowS g e.symm).2 hg.symm
  have hs2 := hb2.size
  refine ⟨(h.hb.trans (hb2.mono h.hb.size)).grown hg (by have := h.hb.size; omega) (fun r e => by have := (hvo r e).1; omega), ?_, ?_, ?_⟩
  · exact (hg.block _ (by omega) (fun e => by have := (hvo _ e.symm).1; omega)).trans ((hb2.block _ hlt).trans h.box)
  · refine (own_below h.own hb2 (Nat.le_refl _)).kept hg ?_
    cases hno : nkv.ownBlock with
    | none => exact .inl rfl
    | some g => exact .inr (hnv g hno)
  · have hO : OwnS (fun g => (w.heap.size + 1 ≤ g ∧ some g ≠ nkv.ownBlock) ∧ g < wr.heap.size) w2 vo q := h.nodes.keep fun b hS hl => ⟨hb2.block b hl, hS, hl⟩
    refine hO.pushAll hrow (fun g hg2 => ?_) (fun p hp => ?_) (fun p hp g hg2 => ?_) hpw (fun b hS hl => ⟨fun hne => hg.block b hl hne, hS.1⟩)
    · rcases hat g hg2 with h2 | h2
      · exact ⟨h.nodes.rowS g h2, .inl h2⟩
      · exact ⟨⟨by omega, fun e => by have := (hnk g e.symm).2; omega⟩, .inr (by omega)⟩
    · refine own_base ((hq' p hp).1.kept hg ?_) (Nat.zero_le _)
      cases hno : p.2.ownBlock with
      | none => exact .inl rfl
      | some g => exact .inr fun e => by have := (hvo g e.symm).2; have := ((hq' p hp).1.lt g hno).1; omega
    · have h1 := ((hq' p hp).1.lt g hg2).1
      have h2 := (hq' p hp).2 g hg2
      exact ⟨⟨by omega, fun e => by have := (hnk g e.symm).2; omega⟩, fun e => by omega, h2⟩
/-- Behind the node's kids: the round is done. -/
theorem ML.step {x : Node} {w : World} {ps : List (List Node)} {p : List Node} {v3 nkv : Value} {q' : List (Node × Value)} {w3 w4 : World} {o : Obj} {gg cap m : Nat} {d : Int}
    (hb3 : Below w.heap.size w w3) (hbox : w3.heap[w.heap.size]? = some (.cells #[.int .i64 x.kind, .int .i64 x.op, .string x.text, .string x.other, nkv] 58 (0, 0))) (hown : w3.ownsRow (w.heap.size + 1) 3 1 nkv ps.length ((makeK ps).2.flatMap int1))
    (hO : OwnS (fun g => w.heap.size + 1 ≤ g ∧ some g ≠ nkv.ownBlock) w3 v3 q') (heq : q'.map Prod.fst = (makeStep (makeK ps) p).1)
    (hown4 : w4.ownsRow (w.heap.size + 1) 3 1 (.slice (some ⟨gg, 0, none⟩) m cap) m ((makeK ps).2.flatMap int1 ++ [.int .i64 d])) (hm : m = ps.length + 1) (hd : d = ((makeK ps).1.length + p.length : Nat) - 1) (hg : (w3.alloc o).grownBy w4 nkv.ownBlock) (hat : nkv.ownBlock = some gg ∨ gg = w3.heap.size + 1) :
    ML x w (ps ++ [p]) v3 (.slice (some ⟨gg, 0, none⟩) m cap) q' (w4.setCell ⟨w.heap.size, 4, none⟩ (.slice (some ⟨gg, 0, none⟩) m cap)) := by
  have hnk : ∀ g, nkv.ownBlock = some g → w.heap.size + 1 ≤ g ∧ g < w3.heap.size := fun g hg => hown.lt g hg
  have hlt : w.heap.size < w3.heap.size := (Array.getElem?_eq_some_iff.1 hbox).1
  have hgg := (hown4.lt gg rfl).1
  subst hm hd
  have hsz : w3.heap.size + 1 ≤ w4.heap.size := by have := hg.size; simpa using this
  refine ⟨?_, ?_, ?_, by rw [makeK_snoc]; exact heq, ?_⟩
  · exact ((hb3.alloc hb3.size o).grown hg (by simp; omega) (fun r e => by have := (hnk r e).1; omega)).setCell (p := ⟨w.heap.size, 4, none⟩) (Nat.le_refl _) _
  · have := (hg.block w.heap.size (by simp; omega) (fun e => by have := (hnk _ e.symm).1; omega)).trans ((Below.heap_alloc _ _ _ hlt).trans hbox)
    rw [heap_setCell_at this]; rfl
  · rw [makeK_snoc]
    have := hown4.kept (grown_set w4 w.heap.size 4 (.slice (some ⟨gg, 0, none⟩) (ps.length + 1) cap)) (.inr (by simp [Value.ownBlock]; omega))
    simpa [makeStep, List.flatMap_append, int1] using this
  · refine hO.keep fun b hS hl => ⟨?_, hS.1, fun e => ?_⟩
    · rw [heap_setCell_other _ _ _ _ (by show b ≠ w.heap.size; omega)]
      exact (hg.block b (by simp; omega) hS.2).trans (Below.heap_alloc _ _ _ hl)
    · have e : b = gg := Option.some.inj e
      rcases hat with h | h
      · exact hS.2 (by rw [h, e])
      · omega

/-- The parts in memory: a slice of slices of nodes. -/
def PartsIs (w : World) (v : Value) (ps : List (List Node × Value)) : Prop := Slc w v 1 ps.length (ps.flatMap fun p => [p.2]) ∧ ∀ p ∈ ps, NodeSlc w p.2 p.1
def part1 (p : List Node × Value) : List Value := [p.2]
theorem part1_len (p : List Node × Value) : (part1 p).length = 1 := rfl

set_option maxRecDepth 100000 in
set_option maxHeartbeats 3200000 in
theorem specl6Make_any (x : Node) (kv v : Value) (ps : List (List Node × Value)) (w : World) (hv : Slc w v 1 ps.length (ps.flatMap part1)) (hN : ∀ p ∈ ps, NodeSlc w p.2 p.1) (hne : ∀ p ∈ ps, p.1 ≠ [] ∧ (∀ y ∈ p.1, y.Ok) ∧ bulk Node.sizes p.1 ≤ 1048576 ∧ ∀ y ∈ p.1, ∀ k ∈ y.kids, 0 ≤ k ∧ k ≤ 1048576)
    (htot : ((ps.map Prod.fst).map List.length).sum ≤ 1048575) (hkv : ∃ a n c, kv = .slice a n c) :
    Calls Tryz.prog 113 #[.agg #[.int .i64 x.kind, .int .i64 x.op, .string x.text, .string x.other, kv], v] w fun e w' => ∃ v', e = .returned v' ∧ Below w.heap.size w w' ∧ OwnNode w' w.heap.size w'.heap.size v' (makeN x (ps.map Prod.fst)) := by
  obtain ⟨_, a, cap, rfl, hcap, hm, hrow⟩ := hv
  unfold maxLen at hm
  obtain ⟨kva, kvn, kvc, rfl⟩ := hkv
  obtain ⟨i0, hi, hz0, hz1, hz2⟩ := info_parts Tryz.info3
  obtain ⟨i1, hj, hy0, hy1, hy2⟩ := info_parts Tryz.info58
  replace hN := hid hN
  replace hne := hid hne
  replace htot := hid htot
  have hpl : ps.length ≤ 1048576 := by
    have h1 : ∀ (l : List (List Node × Value)), (∀ p ∈ l, p.1 ≠ []) → l.length ≤ ((l.map Prod.fst).map List.length).sum := fun l => by
      induction l with
      | nil => intro _; simp
      | cons p l ih =>
        intro h
        have h2 := ih fun q hq => h q (List.mem_cons_of_mem _ hq)
        have h3 := List.length_pos_iff.2 (h p (List.mem_cons_self ..))
        simp only [List.map_cons, List.sum_cons, List.length_cons]
        omega
    have := h1 ps fun p hp => (hne.out p hp).1
    have := htot.out
    omega
  go_enter Tryz.func113, Tryz.ntmps113
  go_wp2
  go_loopw [5, 6] (fun vo i wr => ∃ (k : Nat) (nkv : Value) (q : List (Node × Value)), i = .int .i64 k ∧ k ≤ ps.length ∧ ML x w ((ps.map Prod.fst).take k) vo nkv q wr) (fun _ i _ => ps.length - (RowKit.intOf i).toNat)
  case atStart => exact ⟨0, _, [], rfl, by omega, ML.start x w⟩
  obtain ⟨k, nkv, q, rfl, hk, hML⟩ := hrel
  have hbs := hML.hb.size
  have hlb := (Array.getElem?_eq_some_iff.1 hML.box).1
  by_cases hlt : k < ps.length
  · obtain ⟨p, hp⟩ := get_of_lt hlt
    obtain ⟨b, off, rfl, hro⟩ := slc_some hrow (by omega)
    have c0 := (hro.mono hML.hb (Nat.le_refl _)).one part1_len hp rfl
    have hpm := List.mem_of_getElem? hp
    obtain ⟨hpn, hpo, hpb, hpk⟩ := hne.out p hpm
    have hNp := (hN.out p hpm).mono hML.hb (Nat.le_refl _)
    have htk : (ps.map Prod.fst).take (k + 1) = (ps.map Prod.fst).take k ++ [p.1] := take_next (by rw [List.getElem?_map, hp]; rfl)
    have hql : q.length = (makeK ((ps.map Prod.fst).take k)).1.length := by rw [← hML.eq]; simp
    have hqs : q.length + p.1.length ≤ 1048575 := by
      rw [hql, (makeK_len _).1]
      have h1 := htot.out
      have h2 : (((ps.map Prod.fst).take (k + 1)).map List.length).sum ≤ ((ps.map Prod.fst).map List.length).sum := by
        conv => rhs; rw [← List.take_append_drop (k + 1) (ps.map Prod.fst), List.map_append, List.sum_append]
        exact Nat.le_add_right _ _
      rw [htk, List.map_append, List.sum_append, List.map_cons, List.map_nil, List.sum_cons, List.sum_nil] at h2
      omega
    have hcall := hid (specl6Shift_any p.1 p.2 (q.length : Int) wr hpo hpb hNp (fun y hy j hj => by have := hpk y hy j hj; unfold I64; omega))
    obtain ⟨va, vc, rfl, hvm⟩ := own_slice hML.nodes.row
    have hkl : ((ps.map Prod.fst).take k).length = k := by simp; omega
    have hwk := hML.own
    rw [hkl] at hwk
    obtain ⟨na, nc, rfl, hnm⟩ := own_slice hwk
    clear hwk
    obtain ⟨pa, pc, hpv, _, _, _⟩ := hNp.shape
    rw [hpv] at c0 hcall
    have hpl1 := List.length_pos_iff.2 hpn
    replace hML := hid hML
    replace hql := hid hql
    replace htk := hid htk
    clear hp hro hrow hpm hNp hpk hpo hpb hpv
    go_wp2_with fail
    refine hcall.out.mono ?_; rintro e w2 ⟨v2, rfl, hb2, q2, hq2, hr2, hk2, hpw2⟩
    have hs2 := hb2.size
    have hl2 : q2.length = p.1.length := by have := congrArg List.length hq2; simpa using this
    obtain ⟨g2, cap2, rfl, hcp2⟩ := own_slice' hr2.1 (by omega)
    have hnews : ∀ (j : Nat) u, (q2.flatMap Node.cells)[j]? = some u → w2.cell? ((⟨g2, 0, none⟩ : Addr).add j) = some u := fun j u h => by
      have hj := (List.getElem?_eq_some_iff.1 h).1
      have hl := hr2.1.1
      have := hr2.1.cellAt j (by omega)
      rw [h] at this
      have ha : (⟨g2, 0, none⟩ : Addr).add j = ⟨g2, j, none⟩ := by cases j <;> simp [Addr.add]
      rw [ha]
      exact this
    have hone : ∀ u ∈ q2.flatMap Node.cells, u.oneCell' = true := fun u hu => by
      obtain ⟨y, hy, hu⟩ := List.mem_flatMap.1 hu
      obtain ⟨ya, yc, hyv, _⟩ := own_slice (hk2 y hy).1
      unfold Node.cells at hu
      rw [hyv] at hu
      simp at hu
      rcases hu with rfl | rfl | rfl | rfl | rfl <;> rfl
    have hfl : (q2.flatMap Node.cells).length = q2.length * 5 := hr2.1.1
    have hrow2 := own_below hML.out.nodes.row hb2 (Nat.le_refl _)
    have hd1 : q2.length ≤ 1048576 := by omega
    have hd0 : q.length ≤ 1048576 := by omega
    have hx63 : q.length + q2.length ≤ maxLen := by unfold maxLen; omega
    have hq2p : 0 < q2.length := by omega
    have hqq : q.length + q2.length ≤ 1048576 := by omega
    replace hl2 := hid hl2
    replace hq2 := hid hq2
    replace hb2 := hid hb2
    replace hk2 := hid hk2
    replace hpw2 := hid hpw2
    replace hr2 := hid hr2
    replace hnews := hid hnews
    replace hone := hid hone
    replace hfl := hid hfl
    replace hrow2 := hid hrow2
    clear hcall
    go_wp2_with (at_builtin; refine Hid.out ?_)
    refine hid ?_
    refine wpList_append_lies _ (by rfl) _ _ _ (by rfl) 0 58 i1 _ 5 72 Tryz.underlying26 hj hy0 hy1 hy2 rfl (by omega) _ q.length (q.flatMap Node.cells) (by rfl) hrow2.out ⟨g2, 0, none⟩ q2.length cap2 (q2.flatMap Node.cells) (by rfl) hfl.out hnews.out hone.out (by omega) hx63 (by omega) (by omega) w2.heap.size rfl ?_
    intro gg cap3 w3 hown3 hg3 hat hlt3
    have hG := hML.out.grow hb2.out hlb hk2.out (List.pairwise_cons.1 hpw2.out).2 hown3 hg3 (fun g hg => by simp [Value.ownBlock] at hg; subst hg; exact hat)
    have n0 := box_cell (j := 4) hG.2.1 rfl
    have n1 := box_froz (j := 4) hG.2.1
    replace hG := hid hG
    obtain ⟨hB3, hbox3, hown3k, hO3⟩ := hG.out
    rw [hkl] at hown3k
    have hbs3 := hB3.size
    have hl3 : w.heap.size < w3.heap.size := (Array.getElem?_eq_some_iff.1 hbox3).1
    have hne3 : Hid (some w.heap.size ≠ (Value.slice na k nc).ownBlock) := hid fun e => by have := (hown3k.lt _ e.symm).1; omega
    have m0 := fun o => (((Below.refl w3.heap.size w3).alloc (Nat.le_refl _) o).cell (p := ⟨w.heap.size, 4, none⟩) hl3).trans n0
    have m1 := fun o => (((Below.refl w3.heap.size w3).alloc (Nat.le_refl _) o).frozen (p := ⟨w.heap.size, 4, none⟩) hl3).trans n1
    have hkm : k ≤ 1048576 := by omega
    have heq : Hid ((q ++ q2).map Prod.fst = (makeStep (makeK ((ps.map Prod.fst).take k)) p.1).1) := hid (by rw [List.map_append, hML.out.eq, hq2.out]; unfold makeStep; rw [hql.out])
    replace hown3k := hid hown3k
    replace hbox3 := hid hbox3
    replace hO3 := hid hO3
    replace hB3 := hid hB3
    clear hML hg3 hown3 hat hrow2 hr2 hnews hone hfl hk2 hpw2 hb2
    go_wp2_with (at_builtin; refine Hid.out ?_)
    refine hid ?_
    refine wpList_append_lies _ (by rfl) _ _ _ (by rfl) (w.heap.size + 1) 3 i0 _ 1 8 Tryz.underlying54 hi hz0 hz1 hz2 rfl (by omega) _ k ((makeK ((ps.map Prod.fst).take k)).2.flatMap int1) (by rfl) (hown3k.out.alloc _) ⟨w3.heap.size, 0, none⟩ 1 1 [.int .i64 ((q.length : Int) + (q2.length : Int) - 1)] (by rfl) (by rfl) (World.news_of_block (cs := #[.int .i64 ((q.length : Int) + (q2.length : Int) - 1)]) (t := 3) (fr := (0, 0)) (heap_alloc_new w3 _)) (by simp [Value.oneCell']) (by omega) (by unfold maxLen; omega) (by omega) (by simp; omega) (w3.heap.size + 1) (by simp) ?_
    intro gg4 cap4 w4 hown4 hg4 hat4 hlt4
    have q2x := (hg4.cell_far _ (by simp; omega) hne3.out).trans (m0 _)
    have q3x := (hg4.frozen_far _ (by simp; omega) hne3.out).trans (m1 _)
    go_wp2
    all_goals go_roundw
    all_goals first
      | (simp [RowKit.intOf]; omega)
      | (refine ⟨k + 1, .slice (some ⟨gg4, 0, none⟩) (k + 1) cap4, q ++ q2, by go_num, by omega, ?_⟩
         rw [htk.out]
         exact ML.step hB3.out hbox3.out (by rw [hkl]; exact hown3k.out) hO3.out heq.out hown4 (by rw [hkl]) (by rw [← hql.out, ← hl2.out]; omega) hg4 hat4)
  · obtain rfl : k = ps.length := by omega
    have hfull : (ps.map Prod.fst).take ps.length = ps.map Prod.fst := List.take_of_length_le (by simp)
    rw [hfull] at hML
    obtain ⟨va, vc, rfl, hvm⟩ := own_slice hML.nodes.row
    have hkl : (ps.map Prod.fst).length = ps.length := by simp
    have hwk := hML.own
    rw [hkl] at hwk
    obtain ⟨na, nc, rfl, hnm⟩ := own_slice hwk
    have hbx := hML.box
    have p0 := box_cell (j := 0) hbx rfl
    have p1 := box_cell (j := 1) hbx rfl
    have p2 := box_cell (j := 2) hbx rfl
    have p3 := box_cell (j := 3) hbx rfl
    have p4 := box_cell (j := 4) hbx rfl
    have hql : q.length ≤ 1048575 := by
      have h1 : q.length = (makeK (ps.map Prod.fst)).1.length := by rw [← hML.eq]; simp
      rw [h1, (makeK_len _).1]
      exact htot.out
    have hqe := hid hML.eq
    have hB := hid hML.hb
    have hO := hid hML.nodes
    have hkk : (makeK (ps.map Prod.fst)).2.length = ps.length := by rw [(makeK_len _).2, hkl]
    replace hwk := hid hwk
    clear hML hbx hrow
    go_wp2_with (at_builtin; refine Hid.out ?_)
    refine hid ?_
    refine wpList_append_lies _ (by rfl) _ _ _ (by rfl) 0 58 i1 _ 5 72 Tryz.underlying26 hj hy0 hy1 hy2 rfl (by omega) (.slice va q.length vc) q.length (q.flatMap Node.cells) (by rfl) (hO.out.row.alloc _) ⟨wr.heap.size, 0, none⟩ 1 1 [.int .i64 x.kind, .int .i64 x.op, .string x.text, .string x.other, .slice na ps.length nc] (by rfl) (by rfl) (World.news_of_block (cs := #[.int .i64 x.kind, .int .i64 x.op, .string x.text, .string x.other, .slice na ps.length nc]) (t := 58) (fr := (0, 0)) (heap_alloc_new wr _)) (by simp [Value.oneCell']) (by omega) (by unfold maxLen; omega) (by omega) (by omega) (wr.heap.size + 1) (by simp) ?_
    intro gg cap3 w3 hown3 hg3 hat hlt3
    go_wp2
    go_ret
    have h23 : ∀ b', b' < wr.heap.size → some b' ≠ (Value.slice va q.length vc).ownBlock → w3.heap[b']? = wr.heap[b']? := fun b' hb' hne' => (hg3.block b' (by simp; omega) hne').trans (Below.heap_alloc _ _ _ hb')
    have hnk : ∀ g, (Value.slice na ps.length nc).ownBlock = some g → w.heap.size + 1 ≤ g ∧ g < wr.heap.size := fun g hg => hwk.out.lt g hg
    have hnv : ∀ g, (Value.slice na ps.length nc).ownBlock = some g → some g ≠ (Value.slice va q.length vc).ownBlock := fun g hg e => (hO.out.rowS g e.symm).2 hg.symm
    have hvo : ∀ g, (Value.slice va q.length vc).ownBlock = some g → w.heap.size + 1 ≤ g := fun g hg => (hO.out.rowS g hg).1
    have hfin : OwnS (fun g => w.heap.size + 1 ≤ g) w3 (.slice (some ⟨gg, 0, none⟩) (q.length + 1) cap3) (q ++ [((⟨x.kind, x.op, x.text, x.other, (makeK (ps.map Prod.fst)).2⟩ : Node), .slice na ps.length nc)]) := by
      refine hO.out.push hown3 (fun g hg => ?_) ?_ (fun g hg => ⟨(hnk g hg).1, fun hS => hS.2 hg.symm, (hnk g hg).2⟩) (fun b' hS hl => ⟨h23 b' hl, hS.1⟩)
      · simp [Value.ownBlock] at hg
        subst hg
        rcases hat with hat | hat
        · exact ⟨hvo _ hat, .inl hat⟩
        · exact ⟨by omega, .inr (by omega)⟩
      · show w3.ownsRow 0 _ 1 _ (makeK (ps.map Prod.fst)).2.length ((makeK (ps.map Prod.fst)).2.flatMap int1)
        rw [hkk]
        refine own_base ((hwk.out.alloc _).kept hg3 ?_) (Nat.zero_le _)
        cases hno : (Value.slice na ps.length nc).ownBlock with
        | none => exact .inl rfl
        | some g => exact .inr (hnv g hno)
    have hres := hfin.own (lo := w.heap.size) (fun g h => by omega)
    rw [List.map_append, hqe.out] at hres
    exact ⟨_, rfl, (hB.out.alloc hB.out.size _).grown hg3 (by have := hB.out.size; simp; omega) (fun r e => by have := hvo r e; omega), hres⟩
end Go.Proofs.YtkelhmgdajiocaaGreatDoor
/- Walks and lemmas of this seat (PTreeN): what each theorem says of the functions that it names. Conditions: those that each theorem states. -/
namespace Go.Proofs.YtkelhmgdajiocaaGreatDoor
set_option linter.unusedVariables false
set_option linter.unusedSimpArgs false
open Go.RowKit

/-! The nodes of a tree: a node over the parts of its kids. -/
theorem Node.shift_shift (a b : Int) (x : Node) : Node.shift a (Node.shift b x) = Node.shift (b + a) x := by
  unfold Node.shift
  simp only [List.map_map, Node.mk.injEq, true_and]
  congr 1
  funext k
  simp only [Function.comp]
  omega
theorem Node.shift_zero (x : Node) : Node.shift 0 x = x := by
  unfold Node.shift
  simp
theorem Tree.addsTo_shift : ∀ (l : List Tree), (∀ t ∈ l, ∀ acc : List Node, t.addTo acc = acc ++ (t.addTo []).map (Node.shift acc.length)) → ∀ (acc m : List Node) (ks : List Int),
    Tree.addsTo l (acc ++ m.map (Node.shift acc.length)) (ks.map (· + (acc.length : Int))) = (acc ++ (Tree.addsTo l m ks).1.map (Node.shift acc.length), (Tree.addsTo l m ks).2.map (· + (acc.length : Int))) := by
  intro l
  induction l with
  | nil => intro _ acc m ks; rfl
  | cons t l ih =>
    intro h acc m ks
    have ht := h t (by simp)
    rw [Tree.addsTo, Tree.addsTo]
    have e1 : t.addTo (acc ++ m.map (Node.shift acc.length)) = acc ++ (t.addTo m).map (Node.shift acc.length) := by
      rw [ht (acc ++ m.map (Node.shift acc.length)), ht m, List.map_append, List.map_map, List.append_assoc]
      congr 2
      apply List.map_congr_left
      intro x _
      simp only [Function.comp, Node.shift_shift, List.length_append, List.length_map]
      congr 1
      omega
    have e2 : ks.map (· + (acc.length : Int)) ++ [(((t.addTo (acc ++ m.map (Node.shift acc.length))).length : Nat) : Int) - 1] = (ks ++ [((t.addTo m).length : Int) - 1]).map (· + (acc.length : Int)) := by
      rw [e1, List.map_append]
      simp only [List.length_append, List.length_map, List.map_cons, List.map_nil]
      congr 2
      omega
    rw [e2, e1]
    exact ih (fun u hu => h u (by simp [hu])) acc (t.addTo m) _
theorem Tree.addTo_shiftN (n : Nat) : ∀ (t : Tree), SizeOf.sizeOf t < n → ∀ (acc : List Node), t.addTo acc = acc ++ (t.addTo []).map (Node.shift acc.length) := by
  induction n with
  | zero => intro t h; omega
  | succ n ih =>
    intro t h acc
    have hk := Tree.addsTo_shift t.kids (fun u hu => ih u (by have := Tree.kid_lt hu; omega)) acc [] []
    simp only [List.map_nil, List.append_nil] at hk
    rw [Tree.addTo_eq, Tree.addTo_eq t [], hk, List.map_append]
    simp [Node.shift]
theorem Tree.addTo_shift (t : Tree) (acc : List Node) : t.addTo acc = acc ++ (t.addTo []).map (Node.shift acc.length) := Tree.addTo_shiftN _ t (Nat.lt_succ_self _) acc
theorem makeK_adds : ∀ (l : List Tree) (a : List Node × List Int), (l.map fun t => t.addTo []).foldl makeStep a = Tree.addsTo l a.1 a.2 := by
  intro l
  induction l with
  | nil => intro a; rfl
  | cons t l ih =>
    intro a
    rw [List.map_cons, List.foldl_cons, ih, Tree.addsTo]
    unfold makeStep
    simp only
    rw [t.addTo_shift a.1]
    simp only [List.length_append, List.length_map]
/-- A node over the parts of its kids. -/
theorem Tree.make (x : Node) (l : List Tree) : (Tree.mk x.kind x.op x.text x.other l).addTo [] = makeN x (l.map fun t => t.addTo []) := by
  unfold makeN makeK
  rw [makeK_adds, Tree.addTo]

/-! Weights. -/
mutual
def Tree.weight : Tree → Nat
  | .mk _ _ a b l => Tree.weightL l + (1 + a.size + b.size + l.length)
def Tree.weightL : List Tree → Nat
  | [] => 0
  | t :: l => t.weight + Tree.weightL l
end
mutual
def Tree.count : Tree → Nat
  | .mk _ _ _ _ l => Tree.countL l + 1
def Tree.countL : List Tree → Nat
  | [] => 0
  | t :: l => t.count + Tree.countL l
end
mutual
/-- Kinds and operators are numbers of 64 bits. -/
def Tree.Sane : Tree → Prop
  | .mk k o _ _ l => I64 k ∧ I64 o ∧ Tree.SaneL l
def Tree.SaneL : List Tree → Prop
  | [] => True
  | t :: l => t.Sane ∧ Tree.SaneL l
end
theorem Tree.weight_eq (t : Tree) : t.weight = Tree.weightL t.kids + (1 + t.text.size + t.other.size + t.kids.length) := by cases t; rw [Tree.weight]; rfl
theorem Tree.sane_eq (t : Tree) : t.Sane ↔ I64 t.kind ∧ I64 t.op ∧ Tree.SaneL t.kids := by cases t; rw [Tree.Sane]; rfl
theorem Tree.saneL_mem {l : List Tree} : Tree.SaneL l ↔ ∀ t ∈ l, t.Sane := by
  induction l with
  | nil => simp [Tree.SaneL]
  | cons t l ih => rw [Tree.SaneL, ih]; simp
theorem Tree.weightL_mem {t : Tree} {l : List Tree} (h : t ∈ l) : t.weight ≤ Tree.weightL l := by
  induction l with
  | nil => simp at h
  | cons u l ih =>
    rw [Tree.weightL]
    rcases List.mem_cons.1 h with rfl | h
    · omega
    · have := ih h; omega
theorem bulk_append {α : Type} (f : α → Nat) (a b : List α) : bulk f (a ++ b) = bulk f a + bulk f b := by
  unfold bulk
  rw [List.length_append, List.map_append, List.sum_append]
  omega
theorem bulk_shift (d : Int) (l : List Node) : bulk Node.sizes (l.map (Node.shift d)) = bulk Node.sizes l := by
  unfold bulk
  rw [List.length_map, List.map_map]
  have e : (Node.sizes ∘ Node.shift d) = Node.sizes := by funext x; simp [Node.sizes, Node.shift]
  rw [e]
theorem Tree.addsTo_bulk : ∀ (l : List Tree), (∀ t ∈ l, ∀ acc : List Node, bulk Node.sizes (t.addTo acc) = bulk Node.sizes acc + t.weight) → ∀ (acc : List Node) (ks : List Int), bulk Node.sizes (Tree.addsTo l acc ks).1 = bulk Node.sizes acc + Tree.weightL l := by
  intro l
  induction l with
  | nil => intro _ acc ks; rfl
  | cons t l ih =>
    intro h acc ks
    rw [Tree.addsTo, ih (fun u hu => h u (by simp [hu])), h t (by simp), Tree.weightL]
    omega
theorem Tree.addTo_bulkN (n : Nat) : ∀ (t : Tree), SizeOf.sizeOf t < n → ∀ (acc : List Node), bulk Node.sizes (t.addTo acc) = bulk Node.sizes acc + t.weight := by
  induction n with
  | zero => intro t h; omega
  | succ n ih =>
    intro t h acc
    have h1 := Tree.addsTo_bulk t.kids (fun u hu => ih u (by have := Tree.kid_lt hu; omega)) acc []
    have h2 := (Tree.adds_len t.kids acc []).2
    rw [Tree.addTo_eq, bulk_append, h1, t.weight_eq]
    simp [bulk, Node.sizes, h2]
    omega
theorem Tree.addTo_bulk (t : Tree) : bulk Node.sizes (t.addTo []) = t.weight := by
  rw [Tree.addTo_bulkN _ t (Nat.lt_succ_self _) []]
  simp [bulk]
/-- A node that is sound in a list of so many nodes. -/
def Node.Fine (W n : Nat) (y : Node) : Prop := y.text.size ≤ W ∧ y.other.size ≤ W ∧ I64 y.kind ∧ I64 y.op ∧ y.kids.length ≤ W ∧ ∀ k ∈ y.kids, 0 ≤ k ∧ k < (n : Int)
theorem Node.Fine.up {W n n' : Nat} {y : Node} (h : y.Fine W n) (hn : n ≤ n') : y.Fine W n' := by
  obtain ⟨h1, h2, h3, h4, h5, h6⟩ := h
  exact ⟨h1, h2, h3, h4, h5, fun k hk => by have := h6 k hk; omega⟩
theorem Tree.addsTo_fine {W : Nat} : ∀ (l : List Tree), (∀ t ∈ l, ∀ acc : List Node, (∀ y ∈ acc, y.Fine W acc.length) → ∀ y ∈ t.addTo acc, y.Fine W (t.addTo acc).length) → ∀ (acc : List Node) (ks : List Int), (∀ y ∈ acc, y.Fine W acc.length) → (∀ k ∈ ks, 0 ≤ k ∧ k < (acc.length : Int)) →
    (∀ y ∈ (Tree.addsTo l acc ks).1, y.Fine W (Tree.addsTo l acc ks).1.length) ∧ ∀ k ∈ (Tree.addsTo l acc ks).2, 0 ≤ k ∧ k < ((Tree.addsTo l acc ks).1.length : Int) := by
  intro l
  induction l with
  | nil => intro _ acc ks h1 h2; exact ⟨h1, h2⟩
  | cons t l ih =>
    intro h acc ks h1 h2
    rw [Tree.addsTo]
    have hl := Tree.addTo_len _ t (Nat.lt_succ_self _) acc
    refine ih (fun u hu => h u (by simp [hu])) _ _ (h t (by simp) acc h1) fun k hk => ?_
    rcases List.mem_append.1 hk with hk | hk
    · have := h2 k hk; omega
    · simp at hk; omega
theorem Tree.addTo_fineN {W : Nat} (n : Nat) : ∀ (t : Tree), SizeOf.sizeOf t < n → t.Sane → t.weight ≤ W → ∀ (acc : List Node), (∀ y ∈ acc, y.Fine W acc.length) → ∀ y ∈ t.addTo acc, y.Fine W (t.addTo acc).length := by
  induction n with
  | zero => intro t h; omega
  | succ n ih =>
    intro t h hs hw acc ha
    obtain ⟨s1, s2, s3⟩ := t.sane_eq.1 hs
    have hwe := t.weight_eq
    have h1 := Tree.addsTo_fine (W := W) t.kids (fun u hu => ih u (by have := Tree.kid_lt hu; omega) (Tree.saneL_mem.1 s3 u hu) (by have := Tree.weightL_mem hu; omega)) acc [] ha (by simp)
    have h2 := (Tree.adds_len t.kids acc []).2
    rw [Tree.addTo_eq]
    intro y hy
    rw [List.length_append]
    rcases List.mem_append.1 hy with hy | hy
    · exact (h1.1 y hy).up (by simp)
    · simp only [List.mem_singleton] at hy
      subst hy
      exact ⟨by simp only; omega, by simp only; omega, s1, s2, by simp only; simp at h2; omega, fun k hk => by have := h1.2 k hk; simp only [List.length_singleton]; omega⟩
theorem Tree.addTo_fine {t : Tree} (hs : t.Sane) (hw : t.weight ≤ 1048576) : ∀ y ∈ t.addTo [], y.Ok ∧ ∀ k ∈ y.kids, 0 ≤ k ∧ k ≤ 1048576 := by
  intro y hy
  have hb := t.addTo_bulk
  have hl : (t.addTo []).length ≤ 1048576 := by have := length_bulk Node.sizes (t.addTo []); omega
  obtain ⟨h1, h2, h3, h4, h5, h6⟩ := Tree.addTo_fineN _ t (Nat.lt_succ_self _) hs hw [] (by simp) y hy
  refine ⟨⟨by unfold maxLen; omega, by unfold maxLen; omega, h3, h4, fun k hk => by have := h6 k hk; unfold I64; omega, by unfold maxLen; omega⟩, fun k hk => by have := h6 k hk; omega⟩
theorem Tree.addTo_ne (t : Tree) : t.addTo [] ≠ [] := by
  have := Tree.addTo_len _ t (Nat.lt_succ_self _) []
  intro e
  rw [e] at this
  simp at this
theorem treeIx_sane {l : List Node} (hx : ∀ x ∈ l, x.Ok) (h : Ahead l) : ∀ (i : Nat), i < l.length → (treeIx l i).Sane := by
  intro i
  induction i using Nat.strongRecOn with
  | _ i ih =>
    intro hi
    obtain ⟨x, hxi⟩ := get_of_lt hi
    obtain ⟨_, _, o1, o2, _, _⟩ := hx x (List.mem_of_getElem? hxi)
    rw [treeIx_eq h hxi, Tree.Sane]
    refine ⟨o1, o2, Tree.saneL_mem.2 fun t ht => ?_⟩
    obtain ⟨k, hk, rfl⟩ := List.mem_map.1 ht
    have hk2 := h i x hxi k hk
    exact ih k.toNat hk2.2 (by omega)
theorem treeIx_weight {l : List Node} (hn : bulk Node.sizes l ≤ 1048576) (hok : shapeOk (l.map Node.kids) = true) {i : Nat} (hi : i < l.length) : (treeIx l i).weight ≤ 1048576 := by
  rw [← Tree.addTo_bulk, ← part_add hok hi]
  exact part_bulk l i hn

/-! Trees without comments. -/
mutual
def Tree.bare : Tree → Tree
  | .mk k o a b l => .mk k o a b (Tree.bareL l)
def Tree.bareL : List Tree → List Tree
  | [] => []
  | t :: l => if t.kind = 34 then Tree.bareL l else t.bare :: Tree.bareL l
end
theorem Tree.bare_eq (t : Tree) : t.bare = .mk t.kind t.op t.text t.other (Tree.bareL t.kids) := by cases t; rw [Tree.bare]; rfl
theorem Tree.bareL_len (l : List Tree) : (Tree.bareL l).length ≤ l.length := by
  induction l with
  | nil => simp [Tree.bareL]
  | cons t l ih => rw [Tree.bareL]; split <;> simp <;> omega
theorem Tree.bareL_eq (l : List Tree) : Tree.bareL l = (l.filter fun t => decide (t.kind ≠ 34)).map Tree.bare := by
  induction l with
  | nil => simp [Tree.bareL]
  | cons t l ih => rw [Tree.bareL, List.filter_cons]; by_cases h : t.kind = 34 <;> simp [h, ih]
theorem Tree.bareL_weight : ∀ (l : List Tree), (∀ t ∈ l, t.bare.weight ≤ t.weight) → Tree.weightL (Tree.bareL l) ≤ Tree.weightL l := by
  intro l
  induction l with
  | nil => intro _; simp [Tree.bareL]
  | cons t l ih =>
    intro h
    have h1 := ih fun u hu => h u (by simp [hu])
    have h2 := h t (by simp)
    rw [Tree.bareL]
    split
    · rw [Tree.weightL]; omega
    · rw [Tree.weightL, Tree.weightL]; omega
theorem Tree.bare_weightN (n : Nat) : ∀ (t : Tree), SizeOf.sizeOf t < n → t.bare.weight ≤ t.weight := by
  induction n with
  | zero => intro t h; omega
  | succ n ih =>
    intro t h
    have h1 := Tree.bareL_weight t.kids fun u hu => ih u (by have := Tree.kid_lt hu; omega)
    have h2 := Tree.bareL_len t.kids
    rw [t.bare_eq, Tree.weight, t.weight_eq]
    omega
theorem Tree.bare_weight (t : Tree) : t.bare.weight ≤ t.weight := Tree.bare_weightN _ t (Nat.lt_succ_self _)
theorem Tree.bare_saneN (n : Nat) : ∀ (t : Tree), SizeOf.sizeOf t < n → t.Sane → t.bare.Sane := by
  induction n with
  | zero => intro t h; omega
  | succ n ih =>
    intro t h hs
    obtain ⟨s1, s2, s3⟩ := t.sane_eq.1 hs
    rw [t.bare_eq, Tree.Sane]
    refine ⟨s1, s2, Tree.saneL_mem.2 fun u hu => ?_⟩
    rw [Tree.bareL_eq] at hu
    obtain ⟨v, hv, rfl⟩ := List.mem_map.1 hu
    have hv := (List.mem_filter.1 hv).1
    exact ih v (by have := Tree.kid_lt hv; omega) (Tree.saneL_mem.1 s3 v hv)
theorem Tree.bare_sane {t : Tree} (h : t.Sane) : t.bare.Sane := Tree.bare_saneN _ t (Nat.lt_succ_self _) h


end Go.Proofs.YtkelhmgdajiocaaGreatDoor
/- Walks and lemmas of this seat (FBareP): what each theorem says of the functions that it names. Conditions: those that each theorem states. -/
namespace Go.Proofs.YtkelhmgdajiocaaGreatDoor
set_option linter.unusedVariables false
set_option linter.unusedSimpArgs false
open Go.RowKit

/-! Lists of trees and lists of parts that grow in memory. -/
/-- The comments go: what NoComments hands back. -/
def noComments (l : List Node) : List Node := if treeOk l = true then (rootTree l).bare.addTo [] else []
/-- Nodes that can be read, their blocks in S. -/
def NodeSlcS (S : Nat → Prop) (w : World) (v : Value) (l : List Node) : Prop :=
  ∃ q : List (Node × Value), q.map Prod.fst = l ∧ SlcS S w v 5 q.length (q.flatMap Node.cells) ∧ ∀ p ∈ q, SlcS S w p.2 1 p.1.kids.length (p.1.kids.flatMap int1)
theorem NodeSlcS.slc {S : Nat → Prop} {w : World} {v : Value} {l : List Node} (h : NodeSlcS S w v l) : NodeSlc w v l := by
  obtain ⟨q, h1, h2, h3⟩ := h
  exact ⟨q, h1, h2.slc, fun p hp => (h3 p hp).slc⟩
theorem NodeSlcS.keep {S S' : Nat → Prop} {w w' : World} {v : Value} {l : List Node} (h : NodeSlcS S w v l) (hk : ∀ b, S b → b < w.heap.size → w'.heap[b]? = w.heap[b]? ∧ S' b) : NodeSlcS S' w' v l := by
  obtain ⟨q, h1, h2, h3⟩ := h
  exact ⟨q, h1, h2.keep (by decide) hk, fun p hp => (h3 p hp).keep (by decide) hk⟩
theorem NodeSlcS.of_own {w : World} {lo hi : Nat} {v : Value} {l : List Node} (h : OwnNode w lo hi v l) : NodeSlcS (fun b => lo ≤ b) w v l := by
  obtain ⟨q, h1, h2, h3, _⟩ := h
  exact ⟨q, h1, SlcS.of_own h2.1, fun p hp => SlcS.of_own (h3 p hp).1⟩
/-- Parts while they are gathered. -/
structure Parts (w : World) (v : Value) (ps : List (List Node × Value)) (wr : World) : Prop where
  hb : Below w.heap.size w wr
  own : wr.ownsRow w.heap.size 26 1 v ps.length (ps.flatMap part1)
  sub : ∀ p ∈ ps, NodeSlcS (fun b => some b ≠ v.ownBlock) wr p.2 p.1
theorem Parts.step {w wr w1 w2 : World} {v v1 : Value} {ps : List (List Node × Value)} {part : List Node} {gg cap : Nat} {o : Obj} {hi : Nat} (h : Parts w v ps wr) (hb1 : Below wr.heap.size wr w1) (ho1 : OwnNode w1 wr.heap.size hi v1 part)
    (hown : w2.ownsRow w.heap.size 26 1 (.slice (some ⟨gg, 0, none⟩) (ps.length + 1) cap) (ps.length + 1) (ps.flatMap part1 ++ [v1])) (hg : (w1.alloc o).grownBy w2 v.ownBlock) (hat : v.ownBlock = some gg ∨ gg = w1.heap.size + 1) :
    Parts w (.slice (some ⟨gg, 0, none⟩) (ps.length + 1) cap) (ps ++ [(part, v1)]) w2 := by
  have hlo : ∀ r, v.ownBlock = some r → w.heap.size ≤ r ∧ r < wr.heap.size := fun r e => h.own.lt r e
  have hs1 := hb1.size
  have h12 : ∀ b, b < w1.heap.size → some b ≠ v.ownBlock → w2.heap[b]? = w1.heap[b]? := fun b hb hne => (hg.block b (by simp; omega) hne).trans (Below.heap_alloc _ _ _ hb)
  refine ⟨?_, ?_, fun p hp => ?_⟩
  · have e1 : Below w.heap.size w w1 := h.hb.trans (hb1.mono h.hb.size)
    exact (e1.alloc e1.size o).grown hg (by have := e1.size; simp; omega) (fun r e => (hlo r e).1)
  · rw [List.length_append, List.length_singleton, List.flatMap_append]
    exact hown
  · rcases List.mem_append.1 hp with hp | hp
    · refine (h.sub p hp).keep fun b hS hlt => ⟨(h12 b (by omega) hS).trans (hb1.block b hlt), fun e => ?_⟩
      have e : b = gg := Option.some.inj e
      rcases hat with hat | hat
      · exact hS (by rw [hat, e])
      · omega
    · simp only [List.mem_singleton] at hp
      subst hp
      refine (NodeSlcS.of_own ho1).keep fun b hS hlt => ?_
      refine ⟨h12 b hlt fun e => by have := (hlo b e.symm).2; omega, fun e => ?_⟩
      have e : b = gg := Option.some.inj e
      rcases hat with hat | hat
      · have := (hlo gg hat).2; omega
      · omega
/-- Trees while they are gathered, behind a box of the tree that is walked and one of the result. -/
structure Twigs (w : World) (bx rx : Array Value) (T : TypeId) (v : Value) (q : List (Tree × Value)) (wr : World) : Prop where
  hb : Below w.heap.size w wr
  box : wr.heap[w.heap.size]? = some (.cells bx T (0, 0))
  res : wr.heap[w.heap.size + 1]? = some (.cells rx T (0, 0))
  own : wr.ownsRow (w.heap.size + 1 + 1) 99 5 v q.length (q.flatMap Tree.cells)
  sub : ∀ p ∈ q, TreeIs (fun b => w.heap.size + 1 + 1 ≤ b ∧ some b ≠ v.ownBlock) wr p.1 p.2
theorem Twigs.push {w w0 w1 w2 : World} {bx rx : Array Value} {T : TypeId} {v kv1 : Value} {q : List (Tree × Value)} {t : Tree} {gg cap : Nat} {o : Obj} {B : Nat} (h : Twigs w bx rx T v q w0) (hB : w.heap.size + 1 + 1 ≤ B) (hlo : ∀ r, v.ownBlock = some r → r < B) (hb1 : Below w0.heap.size w0 w1) (ht1 : TreeIs (fun b => B ≤ b) w1 t kv1)
    (hown : w2.ownsRow (w.heap.size + 1 + 1) 99 5 (.slice (some ⟨gg, 0, none⟩) (q.length + 1) cap) (q.length + 1) (q.flatMap Tree.cells ++ Tree.cells (t, kv1))) (hg : (w1.alloc o).grownBy w2 v.ownBlock) (hat : v.ownBlock = some gg ∨ gg = w1.heap.size + 1) :
    Twigs w bx rx T (.slice (some ⟨gg, 0, none⟩) (q.length + 1) cap) (q ++ [(t, kv1)]) w2 := by
  have hl2 : ∀ r, v.ownBlock = some r → w.heap.size + 1 + 1 ≤ r ∧ r < w0.heap.size := fun r e => h.own.lt r e
  have hs1 := hb1.size
  have hl0 : w.heap.size < w0.heap.size := (Array.getElem?_eq_some_iff.1 h.box).1
  have hl1 : w.heap.size + 1 < w0.heap.size := (Array.getElem?_eq_some_iff.1 h.res).1
  have h12 : ∀ b, b < w1.heap.size → some b ≠ v.ownBlock → w2.heap[b]? = w1.heap[b]? := fun b hb hne => (hg.block b (by simp; omega) hne).trans (Below.heap_alloc _ _ _ hb)
  refine ⟨?_, ?_, ?_, ?_, fun p hp => ?_⟩
  · have e1 : Below w.heap.size w w1 := h.hb.trans (hb1.mono h.hb.size)
    exact (e1.alloc e1.size o).grown hg (by have := e1.size; simp; omega) (fun r e => by have := (hl2 r e).1; omega)
  · exact (h12 _ (by omega) (fun e => by have := (hl2 _ e.symm).1; omega)).trans ((hb1.block _ hl0).trans h.box)
  · exact (h12 _ (by omega) (fun e => by have := (hl2 _ e.symm).1; omega)).trans ((hb1.block _ hl1).trans h.res)
  · rw [List.length_append, List.length_singleton, List.flatMap_append, List.flatMap_cons, List.flatMap_nil, List.append_nil]
    exact hown
  · rcases List.mem_append.1 hp with hp | hp
    · refine (h.sub p hp).keep fun b hS hlt => ⟨(h12 b (by omega) hS.2).trans (hb1.block b hlt), hS.1, fun e => ?_⟩
      have e : b = gg := Option.some.inj e
      rcases hat with hat | hat
      · exact hS.2 (by rw [hat, e])
      · omega
    · simp only [List.mem_singleton] at hp
      subst hp
      refine ht1.keep fun b hS hlt => ?_
      have hS' : B ≤ b := hS
      refine ⟨h12 b hlt fun e => by have := hlo b e.symm; omega, by omega, fun e => ?_⟩
      have e : b = gg := Option.some.inj e
      rcases hat with hat | hat
      · have := hlo gg hat; omega
      · omega
theorem Twigs.below {w w0 w1 : World} {bx rx : Array Value} {T : TypeId} {v : Value} {q : List (Tree × Value)} (h : Twigs w bx rx T v q w0) (hb : Below w0.heap.size w0 w1) : Twigs w bx rx T v q w1 :=
  ⟨h.hb.trans (hb.mono h.hb.size), (hb.block _ (Array.getElem?_eq_some_iff.1 h.box).1).trans h.box, (hb.block _ (Array.getElem?_eq_some_iff.1 h.res).1).trans h.res, own_below h.own hb (Nat.le_refl _), fun p hp => (h.sub p hp).keep fun b hS hlt => ⟨hb.block b hlt, hS⟩⟩
theorem Twigs.tree {w wr : World} {bx rx : Array Value} {T : TypeId} {v : Value} {q : List (Tree × Value)} (h : Twigs w bx rx T v q wr) (k o : Int) (a b : ByteArray) : TreeIs (fun b => w.heap.size + 1 + 1 ≤ b) wr (.mk k o a b (q.map Prod.fst)) v := by
  refine TreeIs.close (q := q) rfl ?_ fun p hp => (h.sub p hp).keep fun b hS hlt => ⟨rfl, hS.1⟩
  exact (SlcS.of_own h.own).keep (by decide) fun b hS hlt => ⟨rfl, hS⟩
end Go.Proofs.YtkelhmgdajiocaaGreatDoor
/- Walks and lemmas of this seat (FWith): what each theorem says of the functions that it names. Conditions: those that each theorem states. -/
namespace Go.Proofs.YtkelhmgdajiocaaGreatDoor
set_option linter.unusedVariables false
set_option linter.unusedSimpArgs false
open Go.RowKit

theorem alloc2_at0 (w : World) (o1 o2 : Obj) : ((w.alloc o1).alloc o2).heap[w.heap.size]? = some o1 := (Below.heap_alloc (w.alloc o1) o2 _ (by simp)).trans (heap_alloc_new w o1)
theorem alloc2_at1 (w : World) (o1 o2 : Obj) : ((w.alloc o1).alloc o2).heap[w.heap.size + 1]? = some o2 := by
  have := heap_alloc_new (w.alloc o1) o2
  simpa using this
theorem five_kept {W : World} {b c : Nat} {u0 u1 u2 u3 u4 : Value} (h : c ≠ b) : (((((W.setCell ⟨b, 0, none⟩ u0).setCell ⟨b, 1, none⟩ u1).setCell ⟨b, 2, none⟩ u2).setCell ⟨b, 3, none⟩ u3).setCell ⟨b, 4, none⟩ u4).heap[c]? = W.heap[c]? :=
  storeAll_other [u0, u1, u2, u3, u4] 0 (w := W) (g := b) h
end Go.Proofs.YtkelhmgdajiocaaGreatDoor
