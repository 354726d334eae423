/- Walks and lemmas of this seat (FAdd): what each theorem says of the functions that it names. Conditions: those that each theorem states. -/
import Derived.Test.YtfdmfkonneonaaaDoorFAddP
import Derived.Test.YtfdmfkonneonaaaDoorHNode
namespace Go.Proofs.YtfdmfkonneonaaaDoor
set_option linter.unusedVariables false
set_option linter.unusedSimpArgs false
open Go.RowKit

set_option maxRecDepth 100000 in
set_option maxHeartbeats 3200000 in
theorem impladd_any (n : Nat) : ∀ (t : Tree) (kv : Value) (St S : Nat → Prop) (w : World) (v : Value) (q0 : List (Node × Value)), SizeOf.sizeOf t < n → TreeIs St w t kv → OwnS S w v q0 → (∀ b, S b → b < w.heap.size) → (∀ b, St b → ¬ S b ∧ b < w.heap.size) →
    (t.addTo (q0.map Prod.fst)).length ≤ 1048576 →
    Calls Tryd.prog 26 #[.agg #[.int .i64 t.kind, .int .i64 t.op, .string t.text, .string t.other, kv], v] w fun e w' => AddPost S w v (t.addTo (q0.map Prod.fst)) e w' := by
  induction n with
  | zero => intro t kv St S w v q0 h; omega
  | succ n ih =>
  intro t kv St S w v q0 hsz ht hown0 hSlt hdis hbd
  obtain ⟨qt, hqt, ⟨_, a, cap, rfl, hc, hm, hrow⟩, hsub⟩ := ht.open
  obtain ⟨va, vc, rfl, hvm⟩ := own_slice hown0.row
  unfold maxLen at hm
  have hte := hid (t.addTo_eq (q0.map Prod.fst))
  have hlenT := hid (Tree.adds_len t.kids (q0.map Prod.fst) [])
  have hql : qt.length = t.kids.length := by rw [← hqt]; simp
  have hbd2 : (Tree.addsTo t.kids (q0.map Prod.fst) []).1.length + 1 ≤ 1048576 := by rw [t.addTo_eq, List.length_append] at hbd; simpa using hbd
  have hkl : qt.length ≤ 1048576 := by have := hlenT.out.1; omega
  replace hql := hid hql
  replace hbd2 := hid hbd2
  replace hown0 := hid hown0
  replace hSlt := hid hSlt
  replace hdis := hid hdis
  replace hsub := hid hsub
  replace hqt := hid hqt
  replace ih := hid ih
  clear ht hbd
  obtain ⟨i0, hi, hz0, hz1, hz2⟩ := info_parts Tryd.info3
  obtain ⟨i1, hj, hy0, hy1, hy2⟩ := info_parts Tryd.info34
  go_enter Tryd.func26, Tryd.ntmps26
  go_wp2
  go_loopw [1, 20] (fun v i wr => ∃ (k : Nat) (nkv : Value) (q : List (Node × Value)), i = .int .i64 k ∧ k ≤ qt.length ∧ AL S t w (.slice a qt.length cap) (.slice va q0.length vc) (q0.map Prod.fst) k v nkv q wr) (fun _ i _ => qt.length - (intOf i).toNat)
  case atStart =>
    refine ⟨0, .slice none 0 0, q0, rfl, by omega, ⟨grown_trans (World.grownBy_alloc w _ _) (World.grownBy_alloc _ _ _), by simp, ?_, ?_, ⟨by simp [Tree.addsTo], .inl ⟨rfl, by simp [Tree.addsTo]⟩⟩, by simp [Tree.addsTo], fun g hg => .inl hg, ?_⟩⟩
    · rw [Below.heap_alloc _ _ _ (by simp)]; exact heap_alloc_new w _
    · have := heap_alloc_new (w.alloc (.cells #[.int .i64 t.kind, .int .i64 t.op, .string t.text, .string t.other, .slice a qt.length cap] 39)) (.cells #[.int .i64 t.kind, .int .i64 t.op, .string t.text, .string t.other, .slice none 0 0] 34)
      simpa using this
    · exact hown0.out.keep fun b hS hlt => ⟨by rw [Below.heap_alloc _ _ _ (by simp; omega), Below.heap_alloc _ _ _ hlt], .inl hS⟩
  obtain ⟨k, nkv, q, rfl, hk, hal⟩ := hrel
  have hsize := hal.size
  by_cases hlt : k < qt.length
  · obtain ⟨⟨pt, pv⟩, hp⟩ := get_of_lt hlt
    obtain ⟨b, off, rfl, hSb, hro⟩ := hrow.resolve_left (by omega)
    have hmem := List.mem_of_getElem? hp
    obtain ⟨pa, pn, pc, rfl⟩ := (hsub.out _ hmem).shape
    have hbw := (hdis.out b hSb).2
    have hst : ∀ b', St b' → wr.heap[b']? = w.heap[b']? := fun b' h => hal.gr.block b' (hdis.out b' h).2 (fun e => (hdis.out b' h).1 (hown0.out.rowS b' e.symm))
    have up : ∀ {o : Nat} {u : Value}, w.cell? ⟨b, o, none⟩ = some u → wr.cell? ⟨b, o, none⟩ = some u := fun {o u} h => (cell_of_heap (hst b hSb)).trans h
    have c0 := up (hro.flat0 5 Tree.len hp rfl)
    have c1 := up (hro.flat 5 Tree.len hp 1 rfl)
    have c2 := up (hro.flat 5 Tree.len hp 2 rfl)
    have c3 := up (hro.flat 5 Tree.len hp 3 rfl)
    have c4 := up (hro.flat 5 Tree.len hp 4 rfl)
    have htake : t.kids.take (k + 1) = t.kids.take k ++ [pt] := take_next (by rw [← hqt.out, List.getElem?_map, hp]; rfl)
    have hsn := hid (Tree.adds_snoc (t.kids.take k) pt (q0.map Prod.fst))
    rw [← htake, ← hal.eq] at hsn
    have hle := Tree.adds_le (t.kids.take (k + 1)) (t.kids.drop (k + 1)) (q0.map Prod.fst)
    rw [List.take_append_drop] at hle
    have hlen1 : (pt.addTo (q.map Prod.fst)).length ≤ 1048575 := by
      have e := congrArg (fun z => z.1.length) hsn.out
      simp only at e
      have := hbd2.out
      omega
    have hlen0 := Tree.addTo_len _ pt (Nat.lt_succ_self _) (q.map Prod.fst)
    have hksl : (Tree.addsTo (t.kids.take k) (q0.map Prod.fst) []).2.length ≤ 1048576 := by
      have := (Tree.adds_len (t.kids.take k) (q0.map Prod.fst) []).2
      simp at this
      omega
    have hszp : SizeOf.sizeOf pt < n := by
      have hm : pt ∈ t.kids := by rw [← hqt.out]; exact List.mem_map.2 ⟨_, hmem, rfl⟩
      have := Tree.kid_lt hm
      omega
    have hcall := hid (fun (o : Obj) => ih.out pt (.slice pa pn pc) St (fun g => (S g ∨ (w.heap.size + 1 + 1 ≤ g ∧ some g ≠ nkv.ownBlock)) ∧ g < wr.heap.size) (wr.alloc o) _ q hszp
      ((hsub.out _ hmem).keep fun b' h hl => ⟨(Below.heap_alloc _ _ _ (by have := (hdis.out b' h).2; have := hal.gr.size; omega)).trans (hst b' h), h⟩)
      (hal.nodes.keep fun b' h hl => ⟨Below.heap_alloc _ _ _ hl, h, hl⟩) (fun b' h => by simp; omega)
      (fun b' h => ⟨fun h2 => by
        rcases h2.1 with h3 | h3
        · exact (hdis.out b' h).1 h3
        · have := (hdis.out b' h).2; omega, by have := (hdis.out b' h).2; have := hal.gr.size; simp; omega⟩) (by omega))
    obtain ⟨ks, hks⟩ : ∃ ks, ks = (Tree.addsTo (t.kids.take k) (q0.map Prod.fst) []).2 := ⟨_, rfl⟩
    have hown := hal.own
    rw [← hks] at hown hksl
    have hks2 : Hid ((Tree.addsTo (t.kids.take (k + 1)) (q0.map Prod.fst) []).2 = ks ++ [((pt.addTo (q.map Prod.fst)).length : Int) - 1]) := hid (by rw [hsn.out, hks])
    have hq2 : Hid ((Tree.addsTo (t.kids.take (k + 1)) (q0.map Prod.fst) []).1 = pt.addTo (q.map Prod.fst)) := hid (by rw [hsn.out])
    replace hks := hid hks
    clear hsn hle hp hro htake up hrow hmem hszp
    replace hst := hid hst
    have hal2 := hid hal
    have hown2 := hid hown
    clear hal hown
    go_wp2_with fail
    refine (hcall.out _).mono ?_; rintro e w2 ⟨v2, q2, rfl, hg2, hr2, hqe2, hn2⟩
    obtain ⟨v2a, v2c, rfl, hv2m⟩ := own_slice hn2.row
    have hlq : q2.length = (pt.addTo (q.map Prod.fst)).length := by rw [← hqe2]; simp
    have hq2l : q2.length ≤ 1048576 := by omega
    have hq2p : 1 ≤ q2.length := by omega
    have hs2 : wr.heap.size + 1 ≤ w2.heap.size := by have := hg2.size; simpa using this
    have hvne : ∀ g, u1.ownBlock = some g → g ≠ w.heap.size + 1 ∧ nkv.ownBlock ≠ some g := fun g hg => by
      rcases hal2.out.nodes.rowS g hg with h1 | h1
      · have := hSlt.out g h1
        exact ⟨by omega, fun e => by have := (hal2.out.own.lt g e).1; omega⟩
      · exact ⟨by omega, fun e => h1.2 e.symm⟩
    have hN2 : Hid (w2.heap[w.heap.size + 1]? = some (.cells #[.int .i64 t.kind, .int .i64 t.op, .string t.text, .string t.other, nkv] 34 (0, 0))) := hid ((hg2.block _ (by simp; omega) (fun e => (hvne _ e.symm).1 rfl)).trans ((Below.heap_alloc _ _ _ (by omega)).trans hal2.out.nbox))
    have e0 : w2.cell? ⟨w.heap.size + 1, 4, none⟩ = some nkv := by have := hN2.out; simp [World.cell?, this]
    have e1 : w2.frozen? ⟨w.heap.size + 1, 4, none⟩ = false := by have := hN2.out; simp [World.frozen?, this]
    have hownw : Hid (w2.ownsRow (w.heap.size + 1 + 1) 3 1 nkv ks.length (ks.flatMap int1)) := hid ((hown2.out.alloc _).kept hg2 (by
      cases hno : nkv.ownBlock with
      | none => exact .inl rfl
      | some g => exact .inr fun e => (hvne g e.symm).2 hno))
    have hnkN : Hid (some (w.heap.size + 1) ≠ nkv.ownBlock) := hid fun e => by have := (hownw.out.lt _ e.symm).1; omega
    have hks3 : Hid ((Tree.addsTo (t.kids.take (k + 1)) (q0.map Prod.fst) []).2 = ks ++ [(q2.length : Int) - 1]) := hid (by rw [hks2.out, hlq])
    replace hqe2 := hid (hqe2.trans hq2.out.symm)
    replace hvne := hid hvne
    replace hr2 := hid hr2
    replace hn2 := hid hn2
    replace hg2 := hid hg2
    clear hlq hcall hlen1 hlen0
    have hx63 : ks.length + 1 ≤ maxLen := by unfold maxLen; omega
    have hx47 : (ks.length + 1) * 8 ≤ 140737488355328 := by omega
    have hxb : w.heap.size + 1 + 1 ≤ (w2.alloc (.cells #[.int .i64 ((q2.length : Int) - 1)] 3)).heap.size := by rw [World.size_alloc]; omega
    have hx3 : ∀ (gg cap3 : Nat) (w3 : World), (w2.alloc (.cells #[.int .i64 ((q2.length : Int) - 1)] 3)).grownBy w3 nkv.ownBlock → Hid (w3.heap[w.heap.size + 1]? = some (.cells #[.int .i64 t.kind, .int .i64 t.op, .string t.text, .string t.other, nkv] 34 (0, 0))) :=
      fun gg cap3 w3 hg3 => hid ((hg3.block (w.heap.size + 1) (by rw [World.size_alloc]; omega) hnkN.out).trans ((Below.heap_alloc _ _ _ (by omega)).trans hN2.out))
    have hx4 : ∀ (w3 : World), Hid (w3.heap[w.heap.size + 1]? = some (.cells #[.int .i64 t.kind, .int .i64 t.op, .string t.text, .string t.other, nkv] 34 (0, 0))) → w3.cell? ⟨w.heap.size + 1, 4, none⟩ = some nkv := fun w3 h => by have := h.out; simp [World.cell?, this]
    have hx5 : ∀ (w3 : World), Hid (w3.heap[w.heap.size + 1]? = some (.cells #[.int .i64 t.kind, .int .i64 t.op, .string t.text, .string t.other, nkv] 34 (0, 0))) → w3.frozen? ⟨w.heap.size + 1, 4, none⟩ = false := fun w3 h => by have := h.out; simp [World.frozen?, this]
    replace hx3 := hid hx3
    replace hx4 := hid hx4
    replace hx5 := hid hx5
    go_wp2_with (at_builtin; refine wpList_append_lies _ (by rfl) _ _ _ (by rfl) (w.heap.size + 1 + 1) 3 i0 _ 1 8 Tryd.underlying32 hi hz0 hz1 hz2 rfl (by omega) nkv ks.length (ks.flatMap int1) (by rfl) (hownw.out.alloc _) ⟨w2.heap.size, 0, none⟩ 1 1 [.int .i64 ((q2.length : Int) - 1)] (by rfl) (by rfl) (World.news_of_block (cs := #[.int .i64 ((q2.length : Int) - 1)]) (t := 3) (fr := (0, 0)) (heap_alloc_new w2 _)) (by simp [Value.oneCell']) (by omega) hx63 hx47 hxb (w2.heap.size + 1) (by simp) ?_; intro gg cap3 w3 hown3 hg3 hat hlt3; have hN3 := hx3.out gg cap3 w3 hg3; have s0 := hx4.out _ hN3; have s1 := hx5.out _ hN3; clear hN3)
    all_goals go_roundw
    all_goals first
      | (simp [intOf]; omega)
      | exact ⟨k + 1, _, q2, by go_num, by omega, hal2.out.step (ks := ks ++ [(q2.length : Int) - 1]) hSlt.out hown0.out.rowS hg2.out hr2.out hqe2.out hn2.out (by simpa [int1] using hown3) hks3.out.symm hg3 hat⟩
  · obtain rfl : k = qt.length := by omega
    have htk : t.kids.take qt.length = t.kids := List.take_of_length_le (by have := hql.out; omega)
    obtain ⟨xa, xc, rfl, hxm⟩ := own_slice hal.nodes.row
    have hown := hal.own
    have heq := hal.eq
    rw [htk] at hown heq
    have hqlen : q.length = (Tree.addsTo t.kids (q0.map Prod.fst) []).1.length := by rw [← heq]; simp
    have hq63 : q.length + 1 ≤ 1048576 := by have := hbd2.out; omega
    obtain ⟨na, nc, rfl, hnm⟩ := own_slice hown
    obtain ⟨ks, hks⟩ : ∃ ks, ks = (Tree.addsTo t.kids (q0.map Prod.fst) []).2 := ⟨_, rfl⟩
    rw [← hks] at hown hal
    have hnb := hal.nbox
    have p0 : wr.cell? ⟨w.heap.size + 1, 0, none⟩ = some (.int .i64 t.kind) := by simp [World.cell?, hnb]
    have p1 : wr.cell? ⟨w.heap.size + 1, 1, none⟩ = some (.int .i64 t.op) := by simp [World.cell?, hnb]
    have p2 : wr.cell? ⟨w.heap.size + 1, 2, none⟩ = some (.string t.text) := by simp [World.cell?, hnb]
    have p3 : wr.cell? ⟨w.heap.size + 1, 3, none⟩ = some (.string t.other) := by simp [World.cell?, hnb]
    have p4 : wr.cell? ⟨w.heap.size + 1, 4, none⟩ = some (.slice na ks.length nc) := by simp [World.cell?, hnb]
    have hx63 : q.length + 1 ≤ maxLen := by unfold maxLen; omega
    have hx47 : (q.length + 1) * 72 ≤ 140737488355328 := by omega
    have hal2 := hid hal
    have hown2 := hid hown
    replace hks := hid hks
    replace heq := hid heq
    clear hal hown hqlen htk hnb
    go_wp2_with (at_builtin; refine wpList_append_lies _ (by rfl) _ _ _ (by rfl) 0 34 i1 _ 5 72 Tryd.underlying22 hj hy0 hy1 hy2 rfl (by omega) (.slice xa q.length xc) q.length (q.flatMap Node.cells) (by rfl) (hal2.out.nodes.row.alloc _) ⟨wr.heap.size, 0, none⟩ 1 1 [.int .i64 t.kind, .int .i64 t.op, .string t.text, .string t.other, .slice na ks.length nc] (by rfl) (by rfl) (World.news_of_block (cs := #[.int .i64 t.kind, .int .i64 t.op, .string t.text, .string t.other, .slice na ks.length nc]) (t := 34) (fr := (0, 0)) (heap_alloc_new wr _)) (by simp [Value.oneCell']) (by omega) hx63 hx47 (by omega) (wr.heap.size + 1) (by simp) ?_; intro gg cap3 w3 hown3 hg3 hat hlt3)
    go_ret
    obtain ⟨r1, r2, r3⟩ := hal2.out.fin (ks := ks) hSlt.out (by rw [List.take_of_length_le (by have := hql.out; omega)]; exact hks.out) hown3 hg3 hat
    exact ⟨_, _, rfl, r1, r2, by rw [List.map_append, heq.out, hte.out, hks.out, List.map_cons, List.map_nil], r3⟩
end Go.Proofs.YtfdmfkonneonaaaDoor
