/- Walks and lemmas of this seat (FCopy): what each theorem says of the functions that it names. Conditions: those that each theorem states. -/
import Derived.Test.YtgmciglaapnahaaGreatDoorGE
import Derived.Test.YtgmciglaapnahaaGreatDoorGP
import Derived.Test.YtgmciglaapnahaaGreatDoorGH
import Derived.Test.YtgmciglaapnahaaGreatDoorShelf
namespace Go.Proofs.YtgmciglaapnahaaGreatDoor
set_option linter.unusedVariables false
set_option linter.unusedSimpArgs false
open Go.RowKit Go.Lib

theorem int_map (l : List Int) : l.flatMap int1 = l.map (Value.int .i64) := by
  induction l with
  | nil => rfl
  | cons x l ih => rw [List.flatMap_cons, ih]; rfl
theorem cloneKids (ks : List Int) (kv : Value) (W : World) (h : Slc W kv 1 ks.length (ks.flatMap int1)) (hn : ks.length ≤ 1048576) :
    Calls Tryz.prog 206 #[kv] W fun e w' => ∃ v', e = .returned v' ∧ Below W.heap.size W w' ∧ w'.ownsRow W.heap.size 3 1 v' ks.length (ks.flatMap int1) := by
  obtain ⟨_, a, c, rfl, hc, hm, hrow⟩ := h
  by_cases h0 : ks.length = 0
  · have hP : ks = [] := List.eq_nil_of_length_eq_zero h0
    subst hP
    cases a with
    | none =>
      refine (Tryz.slices_Clone_int_nil 0 c W).mono ?_
      rintro e w' ⟨rfl, rfl⟩
      exact ⟨_, rfl, Below.refl _ _, World.ownsRow_nil _ _ _ _⟩
    | some a =>
      refine (Tryz.slices_Clone_int_zero a c W).mono ?_
      rintro e w' ⟨v', rfl, ho, _, hb⟩
      exact ⟨_, rfl, hb, ho⟩
  · obtain ⟨b, off, rfl, hro⟩ := hrow.resolve_left h0
    refine (Tryz.slices_Clone_int b off ks.length c ks W (Nat.le_refl _) (by omega) (fun j hj => by
      obtain ⟨y, hy⟩ := get_of_lt hj
      rw [hro.one int1_len hy rfl, List.getD_eq_getElem?_getD, hy]; rfl)).mono ?_
    rintro e w' ⟨v', rfl, ho, _, hb⟩
    rw [List.take_length, ← int_map] at ho
    exact ⟨_, rfl, hb, ho⟩

set_option maxRecDepth 100000 in
set_option maxHeartbeats 3200000 in
theorem implcopyNodes_any (l0 : List Node) (v0 : Value) (w : World) (hx0 : ∀ x ∈ l0, x.Ok) (hn0 : bulk Node.sizes l0 ≤ 1048576) (hv0 : NodeSlc w v0 l0) :
    Calls Tryz.prog 133 #[v0] w fun e w' => ∃ v', e = .returned v' ∧ Below w.heap.size w w' ∧ OwnNode w' w.heap.size w'.heap.size v' l0 := by
  obtain ⟨a, cap, rfl, hm, hc, hsl⟩ := hv0.shape
  have hn := length_bulk Node.sizes l0
  obtain ⟨i1, hj, hy0, hy1, hy2⟩ := info_parts Tryz.info40
  go_enter Tryz.func133, Tryz.ntmps133
  go_wp2
  go_loopw [3, 9] (fun v i wr => ∃ (k : Nat) (q : List (Node × Value)) (kv : Value), kv = v ∧ i = .int .i64 k ∧ k ≤ l0.length ∧ Below w.heap.size w wr ∧ OwnS (fun b => w.heap.size ≤ b) wr kv q ∧ Hid (q.map Prod.fst = l0.take k)) (fun _ i _ => l0.length - (intOf i).toNat)
  case atStart =>
    refine ⟨0, [], _, rfl, rfl, by omega, by repeat (first | exact Below.refl _ _ | refine Below.alloc ?_ (by first | omega | (simp; done) | (simp; omega)) _ | refine Below.drew ?_), ⟨own_base (own_new0 w 40 5) (Nat.zero_le _), fun g hg => ?_, by simp, by simp, by simp⟩, hid rfl⟩
    have e : w.heap.size = g := Option.some.inj hg
    omega
  obtain ⟨k, q, v, rfl, rfl, hk, hb, hO, hq⟩ := hrel
  have hbs := hb.size
  by_cases hlt : k < l0.length
  · obtain ⟨x, ka, kc, b, off, hx, rfl, C0, C1, C2, C3, C4, hkd⟩ := hsl.at hb (Nat.le_refl _) hlt
    have hmem := List.mem_of_getElem? hx
    have hxs := Nat.le_trans (bulk_mem Node.sizes hmem) hn0
    unfold Node.sizes at hxs
    have hcl := hid fun o => cloneKids x.kids (.slice ka x.kids.length kc) (wr.alloc o) (hkd.mono ((Below.refl _ _).alloc (Nat.le_refl _) o) (Nat.le_refl _)) (by omega)
    have hql : q.length = k := by have := congrArg List.length hq.out; simp at this; omega
    have hq2 : Hid ((q ++ [(x, (Value.nilIface : Value))]).map Prod.fst = l0.take (k + 1)) := hid (by rw [List.map_append, hq.out, List.take_add_one, hx]; rfl)
    have hx63 : q.length + 1 ≤ maxLen := by unfold maxLen; omega
    have hx47 : (q.length + 1) * 72 ≤ 140737488355328 := by omega
    have hO2 := hid hO
    have hvb := hid fun g (h : v.ownBlock = some g) => And.intro (hO.rowS g h) (hO.row.lt g h).2
    clear hx hmem hkd hO hq
    go_wp2_with fail
    refine (hcl.out _).mono ?_; rintro e w1 ⟨ck, rfl, hb1, ho1⟩
    obtain ⟨ca, cc, rfl, hcm⟩ := own_slice ho1
    have hbx := (hb1.block wr.heap.size (by simp)).trans (heap_alloc_new wr _)
    obtain ⟨s0, s1, s2, s3, s4⟩ := box_cells hbx
    have f4 := box_frozen hbx 4
    have hS1 : wr.heap.size + 1 ≤ w1.heap.size := by have h9 := hb1.size; simpa using h9
    have hO3 : OwnS (fun b => w.heap.size ≤ b ∧ b < wr.heap.size) (w1.setCell ⟨wr.heap.size, 4, none⟩ (.slice ca x.kids.length cc)) v q := hO2.out.keep fun b hS hl => ⟨(heap_setCell_other _ _ _ _ (by show b ≠ wr.heap.size; omega)).trans ((hb1.block b (by simp; omega)).trans (Below.heap_alloc _ _ _ hl)), hS, hl⟩
    have hB2 : Below w.heap.size w (w1.setCell ⟨wr.heap.size, 4, none⟩ (.slice ca x.kids.length cc)) := ((hb.alloc hbs _).trans (hb1.mono (by simp; omega))).setCell (p := ⟨wr.heap.size, 4, none⟩) hbs _
    have hK2 := own_storeAll_below [.slice ca x.kids.length cc] 4 ho1 (show wr.heap.size < (wr.alloc (.cells #[.int .i64 x.kind, .int .i64 x.op, .string x.text, .string x.other, .slice ka x.kids.length kc] 40)).heap.size by simp)
    have hbx2 := heap_setCell_at (j := 4) (u := .slice ca x.kids.length cc) hbx
    have hs2 : (w1.setCell ⟨wr.heap.size, 4, none⟩ (.slice ca x.kids.length cc)).heap.size = w1.heap.size := by simp
    go_wp2_with (at_builtin; refine Hid.out ?_)
    refine hid ?_
    have hK3 : (w1.setCell ⟨wr.heap.size, 4, none⟩ (.slice ca x.kids.length cc)).ownsRow (wr.heap.size + 1) 3 1 (.slice ca x.kids.length cc) x.kids.length (x.kids.flatMap int1) := by
      have h9 := hK2
      rw [World.size_alloc] at h9
      exact h9
    clear hK2 hbx s0 s1 s2 s3 s4 f4 ho1 hb1 hbx2
    generalize w1.setCell ⟨wr.heap.size, 4, none⟩ (.slice ca x.kids.length cc) = w2 at hO3 hB2 hK3 hs2 ⊢
    rw [← hs2] at hS1 ⊢
    refine wpList_append_lies _ (by rfl) _ _ _ (by rfl) 0 40 i1 _ 5 72 Tryz.underlying24 hj hy0 hy1 hy2 rfl (by omega) v q.length (q.flatMap Node.cells) (by rfl) (hO3.row.alloc _) ⟨w2.heap.size, 0, none⟩ 1 1 [.int .i64 x.kind, .int .i64 x.op, .string x.text, .string x.other, .slice ca x.kids.length cc] (by rfl) (by rfl) (World.news_of_block (cs := #[.int .i64 x.kind, .int .i64 x.op, .string x.text, .string x.other, .slice ca x.kids.length cc]) (t := 40) (fr := (0, 0)) (heap_alloc_new w2 _)) (by simp [Value.oneCell']) (by omega) hx63 hx47 (Nat.zero_le _) (w2.heap.size + 1) (by simp) ?_
    intro gg cap3 w3 hown3 hg3 hat3 hlt3
    have hvb2 : ∀ g, v.ownBlock = some g → w.heap.size ≤ g ∧ g < wr.heap.size := fun g h => hvb.out g h
    have hkb : ∀ g, (Value.slice ca x.kids.length cc).ownBlock = some g → wr.heap.size + 1 ≤ g ∧ g < w2.heap.size := fun g h => hK3.lt g h
    have h23 : ∀ b, b < w2.heap.size → some b ≠ v.ownBlock → w3.heap[b]? = w2.heap[b]? := fun b hb hne => (hg3.block b (by simp; omega) hne).trans (Below.heap_alloc _ _ _ hb)
    have hnew : OwnS (fun b => w.heap.size ≤ b) w3 (.slice (some ⟨gg, 0, none⟩) (q.length + 1) cap3) (q ++ [(x, .slice ca x.kids.length cc)]) := by
      refine hO3.push hown3 (fun g hg => ?_) ?_ (fun g hg => ⟨by have := (hkb g hg).1; omega, fun h => by have := (hkb g hg).1; omega, (hkb g hg).2⟩) (fun b hS hl => ⟨fun hne => h23 b hl hne, hS.1⟩)
      · have e : gg = g := Option.some.inj hg
        rcases hat3 with h | h
        · have := hvb2 gg h
          exact ⟨by omega, .inl (by rw [h, e])⟩
        · exact ⟨by have := hB2.size; omega, .inr (by omega)⟩
      · refine own_base ((hK3.alloc _).kept hg3 ?_) (Nat.zero_le _)
        cases hno : (Value.slice ca x.kids.length cc).ownBlock with
        | none => exact .inl rfl
        | some g => exact .inr fun e => by have := (hkb g hno).1; have := (hvb2 g e.symm).2; omega
    have hB3 : Below w.heap.size w w3 := (hB2.alloc hB2.size _).grown hg3 (by have := hB2.size; simp; omega) (fun r e => (hvb2 r e).1)
    have hq3 := hq2.out
    rw [List.map_append] at hq3
    replace hq3 : Hid ((q ++ [(x, Value.slice ca x.kids.length cc)]).map Prod.fst = l0.take (k + 1)) := hid (by rw [List.map_append]; exact hq3)
    rw [hql] at hnew
    clear hown3 hg3 hat3 hlt3 hvb2 hkb h23 hO3 hK3 hB2
    go_wp2
    go_roundw
    case rel => exact ⟨k + 1, _, _, rfl, by go_num, by omega, hB3, hnew, hq3⟩
    case measure => simp [intOf]; omega
  · have hq2 : q.map Prod.fst = l0 := by rw [hq.out, List.take_of_length_le (by omega)]
    have hfin := hO.own (lo := w.heap.size) (fun g h => h)
    rw [hq2] at hfin
    replace hfin := hid hfin
    clear hO hq
    go_wp2
    go_ret
    exact ⟨_, rfl, hb, hfin.out⟩
end Go.Proofs.YtgmciglaapnahaaGreatDoor
