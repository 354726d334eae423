/- Walks and lemmas of this seat (FSpanZ): what each theorem says of the functions that it names. Conditions: those that each theorem states. -/
import Derived.Test.YtkelhmgdajiocaaGreatDoorGTA
import Derived.Test.YtkelhmgdajiocaaGreatDoorFSpanN
import Derived.Test.YtkelhmgdajiocaaGreatDoorGTB
import Derived.Test.YtkelhmgdajiocaaGreatDoorGSF
import Derived.Deep.QuietTactic
import Derived.BigQuiet
import Derived.Test.YtkelhmgdajiocaaGreatDoorGSK
import Derived.Test.YtkelhmgdajiocaaGreatDoorGA
namespace Go.Proofs.YtkelhmgdajiocaaGreatDoor
set_option linter.unusedVariables false
set_option linter.unusedSimpArgs false
open Go.RowKit

/-! The reference's spans, every kind of node. -/
theorem kl_one {ks : List Int} {n : Nat} (h : ks.length = n) (hn : n = 1) : ∃ a, ks = [a] := List.length_eq_one_iff.1 (h.trans hn)
theorem kl_two {ks : List Int} {n : Nat} (h : ks.length = n) (hn : n = 2) : ∃ a b, ks = [a, b] := by
  subst hn
  rcases ks with _ | ⟨x, _ | ⟨y, _ | ⟨z, l⟩⟩⟩ <;> simp at h
  exact ⟨x, y, rfl⟩
theorem kl_three {ks : List Int} {n : Nat} (h : ks.length = n) (hn : n = 3) : ∃ a b c, ks = [a, b, c] := by
  subst hn
  rcases ks with _ | ⟨x, _ | ⟨y, _ | ⟨z, _ | ⟨u, l⟩⟩⟩⟩ <;> simp at h
  exact ⟨x, y, z, rfl⟩
theorem tiles0 {s : List Nat} {b a : Nat} (h : Tiles s [] b a) : b = a := h
theorem tiles1 {s : List Nat} {j b a : Nat} (h : Tiles s [(j : Int)] b a) : s.getD j 0 = b ∧ j + 1 = a := by
  obtain ⟨i, e, h1, h2, h3⟩ := h
  obtain rfl : j = i := by omega
  exact ⟨h1, h3⟩
theorem tiles2 {s : List Nat} {j k b a : Nat} (h : Tiles s [(j : Int), (k : Int)] b a) : s.getD j 0 = b ∧ s.getD k 0 = j + 1 ∧ k + 1 = a := by
  obtain ⟨i, e, h1, h2, h3⟩ := h
  obtain rfl : j = i := by omega
  exact ⟨h1, tiles1 h3⟩
theorem tiles3 {s : List Nat} {j k m b a : Nat} (h : Tiles s [(j : Int), (k : Int), (m : Int)] b a) : s.getD j 0 = b ∧ s.getD k 0 = j + 1 ∧ s.getD m 0 = k + 1 ∧ m + 1 = a := by
  obtain ⟨i, e, h1, h2, h3⟩ := h
  obtain rfl : j = i := by omega
  exact ⟨h1, tiles2 h3⟩
theorem post_list (k o : Int) (a b : ByteArray) (l0 : List Node) (ks : List Int) : (Tree.mk k o a b (ks.map fun q => treeIx l0 q.toNat)).post.length = (ks.map fun q => (treeIx l0 q.toNat).post.length).sum + 1 := by
  rw [Tree.post_eq, List.length_append, List.length_singleton]
  congr 1
  show (Tree.postL (ks.map fun q => treeIx l0 q.toNat)).length = _
  induction ks with
  | nil => rfl
  | cons q ks ih => rw [List.map_cons, Tree.postL, List.length_append, ih, List.map_cons, List.sum_cons]
theorem spanNodeN {w0 : World} {l0 : List Node} {a0 : Option Addr} {cap sb g oc : Nat} {s : List Nat} (hv : NodeSlc w0 (.slice a0 l0.length cap) l0) (hok : treeOk l0 = true) (hs : starts (l0.map Node.kids) = some s) (n : Nat) :
    ∀ i, i < n → i < l0.length → (treeIx l0 i).Ex → LNodeC w0 l0 a0 cap sb g oc s i := by
  have hsh := treeOk_shape hok
  have ha := shapeOk_ahead hsh
  induction n with
  | zero => intro i h; omega
  | succ n ih =>
    intro i hin hil he
    obtain ⟨x, hx⟩ := get_of_lt hil
    have hT := treeIx_eq ha hx
    have hgi := span_seg hsh hs hil
    have htile := starts_tilesK hs (i := i) (ks := x.kids) (by rw [List.getElem?_map, hx]; rfl)
    have hbi : s.getD i 0 ≤ i := (starts_len hs).1.getD i
    obtain ⟨k, o, a, b2, ks⟩ := x
    simp only at hT htile
    have hex := (Tree.ex_eq _).1 he
    rw [hT] at hex he
    simp only [Tree.kind, Tree.op, Tree.kids, List.length_map] at hex
    have hkid : ∀ q ∈ ks, ∃ j : Nat, q = (j : Int) ∧ q.toNat = j ∧ LNodeC w0 l0 a0 cap sb g oc s j ∧ LAtC w0 l0 a0 cap sb g oc s j ∧ s.getD j 0 + (treeIx l0 j).post.length = j + 1 ∧ j < l0.length := fun q hq => by
      obtain ⟨h0, h1⟩ := ha i _ hx q hq
      have hjl : q.toNat < l0.length := by omega
      have hje : (treeIx l0 q.toNat).Ex := hex.2.2.2 _ (List.mem_map.2 ⟨q, hq, rfl⟩)
      have hjn := ih q.toNat (by omega) hjl hje
      have hjp := (ex_facts hok hjl).2.1
      refine ⟨q.toNat, by omega, rfl, hjn, specl30At_of hv ha hjl hje hjn (by have := (treeIx l0 q.toNat).tkb_len false; exact fun p => by have := this p; omega), span_seg hsh hs hjl, hjl⟩
    obtain ⟨har, hop, _, _⟩ := hex
    have har' := har
    have hop' := hop
    obtain ⟨h0, h1, h2, h3, h4, h5, h6⟩ := har
    have hb : 1 ≤ k ∧ k ≤ 15 := by unfold isExprB inB at h0; simp at h0; omega
    have hks : ∀ q ∈ ks, 0 ≤ q ∧ LAtC w0 l0 a0 cap sb g oc s q.toNat ∧ s.getD q.toNat 0 + (treeIx l0 q.toNat).post.length = q.toNat + 1 ∧ q.toNat < l0.length := fun q hq => by
      obtain ⟨j, e1, e2, _, hat, hl, hne⟩ := hkid q hq
      rw [e2]
      exact ⟨by omega, hat, hl, hne⟩
    have hpl : (treeIx l0 i).post.length = (ks.map fun q => (treeIx l0 q.toNat).post.length).sum + 1 := by rw [hT]; exact post_list ..
    have hk : k = 1 ∨ k = 2 ∨ k = 3 ∨ k = 4 ∨ k = 5 ∨ k = 6 ∨ k = 7 ∨ k = 8 ∨ k = 9 ∨ k = 10 ∨ k = 11 ∨ k = 12 ∨ k = 13 ∨ k = 14 ∨ k = 15 := by omega
    rcases hk with rfl | rfl | rfl | rfl | rfl | rfl | rfl | rfl | rfl | rfl | rfl | rfl | rfl | rfl | rfl
    · obtain rfl := List.eq_nil_of_length_eq_zero (h1 (by omega))
      exact specl30Node_1 hv hx hbi (tiles0 htile) (fun p at_ _ => by rw [hT]; exact spk_1 ..)
    · obtain rfl := List.eq_nil_of_length_eq_zero (h1 (by omega))
      exact specl30Node_2 hv hx hbi (tiles0 htile) (fun p at_ _ => by rw [hT]; exact spk_2 ..)
    · obtain rfl := List.eq_nil_of_length_eq_zero (h1 (by omega))
      exact specl30Node_3 hv hx hbi (tiles0 htile) (fun p at_ _ => by rw [hT]; exact spk_3 ..)
    · obtain rfl := List.eq_nil_of_length_eq_zero (h1 (by omega))
      exact specl30Node_4 hv hx hbi (tiles0 htile) (fun p at_ _ => by rw [hT]; exact spk_4 ..)
    · exact specl30Node_5 hv hx hbi hks (by have := h2 (by omega); omega) htile hgi hpl (fun p at_ hp => by rw [hT]; exact spk_5 hp he at_)
    · obtain ⟨q, rfl⟩ := kl_one rfl (h4 (by omega))
      obtain ⟨j, rfl, hj, hn, hat, hg, hl⟩ := hkid q (by simp)
      rw [List.map_cons, List.map_nil, hj] at hT
      exact specl30Node_6 hv hx hbi har' (by omega) hat (tiles1 htile).1 hg hgi (by rw [hT]; exact post1 ..) hl (fun p at_ hp => by rw [hT]; exact spk_6 ..)
    · exact specl30Node_7 hv hx hbi hks (by have := h3 (by omega); omega) htile hgi hpl (fun p at_ hp => by rw [hT]; exact spk_7 hp he at_)
    · exact specl30Node_8 hv hx hbi hks (by have := h3 (by omega); omega) htile hgi hpl (fun p at_ hp => by rw [hT]; exact spk_8 hp he at_)
    · obtain ⟨q, rfl⟩ := kl_one rfl (h4 (by omega))
      obtain ⟨j, rfl, hj, hn, hat, hg, hl⟩ := hkid q (by simp)
      rw [List.map_cons, List.map_nil, hj] at hT he
      exact specl30Node_9 hv hx hbi hn (tiles1 htile).1 hg hgi (by rw [hT]; exact post1 ..) hl (fun p at_ hp => by rw [hT]; exact spk_9 hp he at_)
    · obtain ⟨q, rfl⟩ := kl_one rfl (h4 (by omega))
      obtain ⟨j, rfl, hj, hn, hat, hg, hl⟩ := hkid q (by simp)
      rw [List.map_cons, List.map_nil, hj] at hT he
      exact specl30Node_10 hv hx hbi hn (tiles1 htile).1 hg hgi (by rw [hT]; exact post1 ..) hl (fun p at_ hp => by rw [hT]; exact spk_10 hp he at_)
    · obtain ⟨q, rfl⟩ := kl_one rfl (h4 (by omega))
      obtain ⟨j, rfl, hj, hn, hat, hg, hl⟩ := hkid q (by simp)
      rw [List.map_cons, List.map_nil, hj] at hT
      exact specl30Node_11 hv hx hbi har' (by omega) hat (tiles1 htile).1 hg hgi (by rw [hT]; exact post1 ..) hl (fun p at_ hp => by rw [hT]; exact spk_11 ..)
    · obtain ⟨q, r, rfl⟩ := kl_two rfl (h5 (by omega))
      obtain ⟨j, rfl, hj, hn, hat, hg, hl⟩ := hkid q (by simp)
      obtain ⟨j2, rfl, hj2, hn2, hat2, hg2, hl2⟩ := hkid r (by simp)
      rw [List.map_cons, List.map_cons, List.map_nil, hj, hj2] at hT
      obtain ⟨t1, t2, _⟩ := tiles2 htile
      by_cases ho : o = 99
      · subst ho
        exact specl30Node_99 hv hx hbi har' (hop'.2.2.1) hat hat2 t1 t2 hg hg2 hgi (by rw [hT]; exact post2 ..) hl hl2 (fun p at_ hp => by rw [hT]; exact spk_99 ..)
      · exact specl30Node_12 hv hx hbi ho har' (hop'.2.2.1) hat hat2 t1 t2 hg hg2 hgi (by rw [hT]; exact post2 ..) hl hl2 (fun p at_ hp => by rw [hT]; exact spk_12 ho ..)
    · have hlen := h2 (by omega)
      by_cases hn : 1 < ks.length
      · exact specl30Node_13b hv hx hbi hks (by omega) hn htile hgi hpl (fun p at_ hp => by rw [hT]; exact spk_13b hp he (by rw [List.length_map]; exact hn) at_)
      · obtain ⟨q, rfl⟩ := kl_one rfl (show ks.length = 1 by omega)
        obtain ⟨j, rfl, hj, hn, hat, hg, hl⟩ := hkid q (by simp)
        rw [List.map_cons, List.map_nil, hj] at hT
        exact specl30Node_13a hv hx hbi har' (by omega) hat (tiles1 htile).1 hg hgi (by rw [hT]; exact post1 ..) hl (fun p at_ hp => by rw [hT]; exact spk_13a ..)
    · obtain ⟨q, r, z, rfl⟩ := kl_three rfl (h6 rfl)
      obtain ⟨j, rfl, hj, hn, hat, hg, hl⟩ := hkid q (by simp)
      obtain ⟨j2, rfl, hj2, hn2, hat2, hg2, hl2⟩ := hkid r (by simp)
      obtain ⟨j3, rfl, hj3, hn3, hat3, hg3, hl3⟩ := hkid z (by simp)
      rw [List.map_cons, List.map_cons, List.map_cons, List.map_nil, hj, hj2, hj3] at hT
      obtain ⟨t1, t2, t3, _⟩ := tiles3 htile
      exact specl30Node_14 hv hx hbi har' (by omega) hat hat2 hat3 t1 t2 t3 hg hg2 hg3 hgi (by rw [hT]; exact post3 ..) hl hl2 hl3 (fun p at_ hp => by rw [hT]; exact spk_14 ..)
    · obtain ⟨q, r, rfl⟩ := kl_two rfl (h5 (by omega))
      obtain ⟨j, rfl, hj, hn, hat, hg, hl⟩ := hkid q (by simp)
      obtain ⟨j2, rfl, hj2, hn2, hat2, hg2, hl2⟩ := hkid r (by simp)
      rw [List.map_cons, List.map_cons, List.map_nil, hj, hj2] at hT he
      obtain ⟨t1, t2, _⟩ := tiles2 htile
      exact specl30Node_15 hv hx hbi har' (by intro h; exact absurd h (by decide)) hn hat2 t1 t2 hg hg2 hgi (by rw [hT]; exact post2 ..) hl hl2 (fun p at_ hp => by rw [hT]; exact spk_15 hp he at_)
/-- The reference's spans at a node. -/
theorem spanAt_any {w0 : World} {l0 : List Node} {a0 : Option Addr} {cap sb g oc : Nat} {s : List Nat} (hv : NodeSlc w0 (.slice a0 l0.length cap) l0) (hok : treeOk l0 = true) (hs : starts (l0.map Node.kids) = some s) {i : Nat} (hi : i < l0.length) (he : (treeIx l0 i).Ex) : LAtC w0 l0 a0 cap sb g oc s i :=
  specl30At_of hv (shapeOk_ahead (treeOk_shape hok)) hi he (spanNodeN hv hok hs _ i (Nat.lt_succ_self _) hi he) fun p => by have := (treeIx l0 i).tkb_len false p; have := (ex_facts hok hi).2.1; omega
end Go.Proofs.YtkelhmgdajiocaaGreatDoor
/- Walks and lemmas of this seat (FSpanE): what each theorem says of the functions that it names. Conditions: those that each theorem states. -/
namespace Go.Proofs.YtkelhmgdajiocaaGreatDoor
set_option linter.unusedVariables false
set_option linter.unusedSimpArgs false
open Go.RowKit Go.Lib

/-! The reference's SpansOf. -/
def spansOf (l : List Node) (p : Pos) : List Span := if exprOkB l = true ∧ posOkB p = true then (rootTree l).spS false p 0 else []
theorem spansOf_len (l : List Node) (p : Pos) : (spansOf l p).length ≤ 400 := by
  unfold spansOf
  split
  · rename_i h
    obtain ⟨_, _, h3, _, h5, _⟩ := exprOk_facts h.1
    rw [(rootTree l).spS_len]
    omega
  · simp
theorem flat_zeros (n : Nat) : (List.replicate n (⟨0, 0⟩ : Span)).flatMap Span.cells = List.replicate (n * 2) (.int .i64 0) := by
  induction n with
  | zero => rfl
  | succ n ih =>
    rw [List.replicate_succ, List.flatMap_cons, ih, show (n + 1) * 2 = n * 2 + 1 + 1 by omega, List.replicate_succ, List.replicate_succ]
    rfl
theorem made_spans (n : Nat) : (madeCells #[.int .i64 0, .int .i64 0] (n * 2)).toList = (List.replicate n (⟨0, 0⟩ : Span)).flatMap Span.cells := by
  rw [flat_zeros, List.eq_replicate_iff]
  refine ⟨by rw [Array.length_toList, size_madeCells], fun b hb => ?_⟩
  unfold madeCells at hb
  rw [Array.toList_map, List.mem_map] at hb
  obtain ⟨a, _, rfl⟩ := hb
  have h2 : a % 2 = 0 ∨ a % 2 = 1 := by omega
  show (#[Value.int .i64 0, Value.int .i64 0] : Array Value)[a % 2]! = _
  rcases h2 with h | h <;> rw [h] <;> rfl
theorem putS_all {O S : List Span} (h : O.length = S.length) : putS O 0 S = S := by
  unfold putS
  rw [List.take_zero, List.nil_append, List.drop_of_length_le (by omega), List.append_nil]
theorem spbox {w w' : World} {o : Obj} (hb : Below (w.alloc o).heap.size (w.alloc o) w') : w'.heap[w.heap.size]? = some o := (hb.block _ (by simp)).trans (heap_alloc_new w o)
theorem sp_info : (Tryz.prog.info? 70).map (fun i => (i.zero, i.size, i.bytes)) = some (some (.agg #[.int .i64 0, .int .i64 0]), 2, 16) := by kernel_rfl
set_option maxRecDepth 100000 in
set_option maxHeartbeats 3200000 in
theorem specSpansOf_any (l0 : List Node) (v0 : Value) (p : Pos) (w : World) (hx0 : ∀ x ∈ l0, x.Ok) (hn0 : bulk Node.sizes l0 ≤ 1048576) (hv0 : NodeSlc w v0 l0) :
    Calls Tryz.prog 43 #[v0, .agg #[.int .i64 p.level, .bool p.dollar, .bool p.noIn, .bool p.noGt, .bool p.noSign]] w fun e w' => ∃ v', e = .returned v' ∧ Below w.heap.size w w' ∧ w'.ownsRow w.heap.size 70 2 v' (spansOf l0 p).length ((spansOf l0 p).flatMap Span.cells) := by
  have hv := hv0
  obtain ⟨a, cap, rfl, hm, hc, hsl⟩ := hv0.shape
  clear hsl
  have hb0 : Below w.heap.size w (w.alloc (.cells #[.int .i64 p.level, .bool p.dollar, .bool p.noIn, .bool p.noGt, .bool p.noSign] 36)) := (Below.refl _ _).alloc (Nat.le_refl _) _
  have hok := hid (specExprOk_any l0 _ _ hx0 hn0 (hv.mono hb0 (Nat.le_refl _)))
  have hpos := hid (fun W => specPosOk_any p W)
  unfold Pos.val at hpos
  cases he : exprOkB l0 with
  | false =>
    have hR1 : spansOf l0 p = [] := by unfold spansOf; rw [he]; simp
    rw [hR1]
    rw [he] at hok
    clear hR1 he hpos
    go_enter Tryz.func43, Tryz.ntmps43
    go_wp2_with (go_at_call 24; refine hok.out.mono ?_; rintro e w1 ⟨rfl, hb1⟩)
    go_ret
    have h1 := hb0.trans (hb1.mono hb0.size)
    exact ⟨_, rfl, h1.alloc h1.size _, World.ownsRow_lit _ #[] 0 h1.size (by decide) rfl⟩
  | true =>
  cases hpp : posOkB p with
  | false =>
    have hR1 : spansOf l0 p = [] := by unfold spansOf; rw [hpp]; simp
    rw [hR1]
    rw [he] at hok
    rw [hpp] at hpos
    clear hR1 he hpp
    go_enter Tryz.func43, Tryz.ntmps43
    go_wp2_with (first
      | (go_at_call 24; refine hok.out.mono ?_; rintro e w1 ⟨rfl, hb1⟩; have z := spbox hb1; obtain ⟨z0, z1, z2, z3, z4⟩ := box_cells z; clear z)
      | (go_at_call 25; refine (hpos.out _).mono ?_; rintro e w2 ⟨rfl, hw2⟩; subst hw2))
    go_ret
    have h1 := (hb0.trans (hb1.mono hb0.size)).alloc (Nat.le_trans hb0.size hb1.size) (.cells #[.int .i64 p.level, .bool p.dollar, .bool p.noIn, .bool p.noGt, .bool p.noSign] 36)
    have h2 := World.ownsRow_lit (base := w.heap.size) (e := 70) (size := 2) _ #[] 0 h1.size (by decide) rfl
    exact ⟨_, rfl, h1.alloc h1.size _, by simp only [World.size_alloc] at h2; exact h2⟩
  | true =>
    obtain ⟨hto, hex, hpl, hl1, hl4, _⟩ := exprOk_facts he
    obtain ⟨n, hn⟩ : ∃ n : Nat, n = l0.length - 1 := ⟨_, rfl⟩
    have hnl : n < l0.length := by omega
    have hni : (l0.length : Int) - 1 = (n : Int) := by omega
    have hrt : rootTree l0 = treeIx l0 n := by unfold rootTree; rw [hn]
    obtain ⟨_, _, s, hs⟩ := shapeOk_yes (treeOk_shape hto)
    rw [hrt] at hex hpl
    have hsg := span_seg (treeOk_shape hto) hs hnl
    have hs0 : s.getD n 0 = 0 := by omega
    have hat := hid (fun (sb g oc : Nat) => spanAt_any (sb := sb) (g := g) (oc := oc) hv hto hs hnl hex)
    have hR1 : Hid (spansOf l0 p = (treeIx l0 n).spS false p 0) := hid (by unfold spansOf; rw [if_pos ⟨he, hpp⟩, hrt])
    have hRl : ((treeIx l0 n).spS false p 0).length = l0.length := by rw [(treeIx l0 n).spS_len, hpl]
    have hp2 := hid hpp
    have hatc := hid (fun sb g oc W O (h : OSt w W sb g oc a l0.length cap O) => show Calls Tryz.prog 62 #[.pointer (some ⟨sb, 0, none⟩), .int .i64 (n : Nat), .agg #[.int .i64 p.level, .bool p.dollar, .bool p.noIn, .bool p.noGt, .bool p.noSign], .int .i64 0] W fun e w' => SpanPost w W sb g oc a l0.length cap ((treeIx l0 n).spS false p 0) (0 + ((treeIx l0 n).tks false p).length) e w' from by
      have h2 := hat.out sb g oc p W O 0 hp2.out h (by omega)
      rw [hs0, putS_all (h.len.trans hRl.symm)] at h2
      exact h2)
    generalize spansOf l0 p = RT at *
    rw [he] at hok
    rw [hpp] at hpos
    unfold SpanPost at hatc
    generalize (treeIx l0 n).spS false p 0 = R at *
    replace hn := hid hn
    replace hRl := hid hRl
    have hl5 : 0 ≤ (l0.length : Int) ∧ (l0.length : Int) ≤ 400 := by omega
    clear he hpp hto hex hpl hrt hat hs hsg hs0
    obtain ⟨i0, hi, hz0, hz1, hz2⟩ := info_parts sp_info
    go_enter Tryz.func43, Tryz.ntmps43
    go_wp2_with (first
      | (go_at_call 24; refine hok.out.mono ?_; rintro e w1 ⟨rfl, hb1⟩; have z := spbox hb1; obtain ⟨z0, z1, z2, z3, z4⟩ := box_cells z; clear z)
      | (go_at_call 25; refine (hpos.out _).mono ?_; rintro e w2 ⟨rfl, hw2⟩; subst hw2)
      | (at_make; refine wpList_make_full _ rfl _ _ 67 rfl w.heap.size 70 i0 _ 2 Tryz.underlying67 hi hz0 hz1 .i64 .i64 l0.length l0.length l0.length rfl rfl rfl rfl ?c1 ?c2 ?c3 ?c4))
    case c1 => rw [hz2]; omega
    case c2 => unfold maxLen; omega
    case c3 => have := hb0.size; have := hb1.size; simp only [World.size_alloc] at *; omega
    case c4 =>
    intro w3 hown hgr
    have hbx := hid ((hb0.trans (hb1.mono hb0.size)).alloc (Nat.le_trans hb0.size hb1.size) (.cells #[.int .i64 p.level, .bool p.dollar, .bool p.noIn, .bool p.noGt, .bool p.noSign] 36))
    have hb3 := hid (hbx.out.grown hgr (by first | exact Nat.le_refl _ | exact hbx.out.size) (by simp))
    have b13 : Below w1.heap.size w1 w3 := ((Below.refl _ _).alloc (Nat.le_refl _) _).grown hgr (by first | exact Nat.le_refl _ | simp) (by simp)
    have y0 := fun o => cell?_alloc_some o (keepc b13 z0)
    have y1 := fun o => cell?_alloc_some o (keepc b13 z1)
    have y2 := fun o => cell?_alloc_some o (keepc b13 z2)
    have y3 := fun o => cell?_alloc_some o (keepc b13 z3)
    have y4 := fun o => cell?_alloc_some o (keepc b13 z4)
    have hw1 : w.heap.size ≤ w1.heap.size := by have := hb0.size; have := hb1.size; simp only [World.size_alloc] at *; omega
    have hO4 : Hid (OSt w (w3.alloc (.cells #[.slice a l0.length cap, .bool false, .slice (some ⟨w1.heap.size + 1, 0, none⟩) l0.length l0.length] 87)) w3.heap.size (w1.heap.size + 1) l0.length a l0.length cap (List.replicate l0.length ⟨0, 0⟩)) := hid (by
      have h9 : w1.heap.size + 1 < w3.heap.size := (hown.lt _ rfl).2
      refine ⟨hb3.out.alloc hb3.out.size _, hb3.out.size, by omega, by omega, heap_alloc_new _ _, ?_⟩
      rw [← made_spans]
      exact own_below hown ((Below.refl _ _).alloc (Nat.le_refl _) _) (Nat.le_refl _))
    clear hb0 hb1 hown hgr b13 hbx z0 z1 z2 z3 z4 hi hz0 hz1 hz2 hok hpos hw1
    go_wp2_with fail
    refine (hatc.out _ _ _ _ _ hO4.out).mono ?_; rintro e w5 ⟨rfl, hg5, hO5⟩
    have x2 : w5.cell? ⟨w3.heap.size, 2, none⟩ = some (.slice (some ⟨w1.heap.size + 1, 0, none⟩) l0.length l0.length) := box_cell hO5.box rfl
    replace hO5 := hid hO5
    clear hg5 hO4 y0 y1 y2 y3 y4
    go_wp2
    go_ret
    exact ⟨_, rfl, hO5.out.hb, by rw [hR1.out, hRl.out]; exact hO5.out.row⟩
end Go.Proofs.YtkelhmgdajiocaaGreatDoor
/- Walks and lemmas of this seat (FOwnP): what each theorem says of the functions that it names. Conditions: those that each theorem states. -/
namespace Go.Proofs.YtkelhmgdajiocaaGreatDoor
set_option linter.unusedVariables false
set_option linter.unusedSimpArgs false
open Go.RowKit

/-! The node that owns a token. Plain. -/
def SpB (B : Nat) (x : Span) : Prop := 0 ≤ x.lo ∧ x.lo ≤ (B : Int) ∧ 0 ≤ x.hi ∧ x.hi ≤ (B : Int)
theorem SpB.mono {B C : Nat} {x : Span} (h : SpB B x) (hc : B ≤ C) : SpB C x := ⟨h.1, by have := h.2.1; omega, h.2.2.1, by have := h.2.2.2; omega⟩
theorem kidTk_bd (k o : Int) (n : Nat) (p : Pos) (j : Nat) (u : Tree) : (kidTk false k o n p j u).length + 2 ≤ 8 * u.post.length := by
  unfold kidTk
  split
  · have := u.tkb_len false (kidPosB k o n j p); omega
  · exact u.tks_len false _
theorem sp_bdN (n : Nat) : ∀ (t : Tree), SizeOf.sizeOf t < n → ∀ (p : Pos) (at_ : Nat), ∀ x ∈ t.spB false p at_, SpB (at_ + 10 * t.post.length) x := by
  induction n with
  | zero => intro t h; omega
  | succ n ih =>
    intro t h p at_ x hx
    have hk : ∀ (l : List Tree) (j a : Nat), (∀ u ∈ l, u ∈ t.kids) → ∀ y ∈ (Tree.spL false t.kind t.op t.kids.length p j a l).flatten, SpB (a + 1 + 10 * (Tree.postL l).length) y := by
      intro l
      induction l with
      | nil => intro j a _ y hy; rw [Tree.spL] at hy; simp at hy
      | cons u l ihl =>
        intro j a hl y hy
        have hu := hl u (by simp)
        have h2 := fun q b => ih u (by have := Tree.kid_lt hu; omega) q b
        rw [Tree.spL_cons, List.flatten_cons, List.mem_append] at hy
        rw [Tree.postL, List.length_append]
        rcases hy with hy | hy
        · unfold kidSp Tree.spS at hy
          split at hy
          · exact (h2 _ _ _ hy).mono (by omega)
          · split at hy
            · exact (h2 _ _ _ hy).mono (by omega)
            · exact (h2 _ _ _ hy).mono (by omega)
        · have h3 := kidTk_bd t.kind t.op t.kids.length p j u
          have h4 : sepLen t.kind t.op ≤ 1 := by unfold sepLen; split <;> omega
          exact (ihl _ _ (fun v hv => hl v (by simp [hv])) _ hy).mono (by omega)
    have hpl : t.post.length = (Tree.postL t.kids).length + 1 := by rw [t.post_eq, List.length_append]; rfl
    rw [t.spB_eq, List.mem_append] at hx
    rcases hx with hx | hx
    · have h4 : headLen t.kind t.kids.length ≤ 2 := by unfold headLen; split <;> (try split) <;> (try split) <;> omega
      exact (hk _ _ _ (fun u hu => hu) _ hx).mono (by omega)
    · have h5 := t.tkb_len false p
      rw [List.mem_singleton] at hx
      subst hx
      unfold SpB
      simp only
      omega
theorem spansOf_bd (l : List Node) (p : Pos) : ∀ x ∈ spansOf l p, SpB 5000 x := by
  intro x hx
  unfold spansOf at hx
  split at hx
  · rename_i h
    obtain ⟨_, _, h3, _, h5, _⟩ := exprOk_facts h.1
    unfold Tree.spS at hx
    split at hx
    · exact (sp_bdN _ _ (Nat.lt_succ_self _) _ _ _ hx).mono (by omega)
    · exact (sp_bdN _ _ (Nat.lt_succ_self _) _ _ _ hx).mono (by omega)
  · simp at hx
/-- The first of the narrowest spans that hold k. -/
def ownL (k : Int) : List Span → Nat → Int → Int → Int
  | [], _, b, _ => b
  | x :: l, i, b, m => if x.lo ≤ k ∧ k < x.hi ∧ (b < 0 ∨ x.hi - x.lo < m) then ownL k l (i + 1) i (x.hi - x.lo) else ownL k l (i + 1) b m
def ownerOf (l : List Node) (p : Pos) (k : Int) : Int := ownL k (spansOf l p) 0 (-1) 0
def OwnAt (S : List Span) (i : Nat) (b m : Int) : Prop := (b = -1 ∧ m = 0) ∨ ∃ (j : Nat) (y : Span), b = (j : Int) ∧ j < i ∧ S[j]? = some y ∧ m = y.hi - y.lo
theorem OwnAt.next {S : List Span} {i : Nat} {b m : Int} (h : OwnAt S i b m) : OwnAt S (i + 1) b m := by
  rcases h with h | ⟨j, y, h1, h2, h3, h4⟩
  · exact .inl h
  · exact .inr ⟨j, y, h1, by omega, h3, h4⟩
theorem OwnAt.here {S : List Span} {i : Nat} {x : Span} (hx : S[i]? = some x) : OwnAt S (i + 1) i (x.hi - x.lo) := .inr ⟨i, x, rfl, Nat.lt_succ_self _, hx, rfl⟩
theorem own_yes {k b m : Int} {x : Span} {l : List Span} {i : Nat} (h1 : x.lo ≤ k) (h2 : k < x.hi) (h3 : b < 0 ∨ x.hi - x.lo < m) : ownL k (x :: l) i b m = ownL k l (i + 1) i (x.hi - x.lo) := by rw [ownL, if_pos ⟨h1, h2, h3⟩]
theorem own_no {k b m : Int} {x : Span} {l : List Span} {i : Nat} (h : ¬(x.lo ≤ k ∧ k < x.hi ∧ (b < 0 ∨ x.hi - x.lo < m))) : ownL k (x :: l) i b m = ownL k l (i + 1) b m := by rw [ownL, if_neg h]
theorem own_rng (k : Int) (l : List Span) : ∀ (i : Nat) (b m : Int), -1 ≤ b → b ≤ (i : Int) → -1 ≤ ownL k l i b m ∧ ownL k l i b m ≤ ((i + l.length : Nat) : Int) := by
  induction l with
  | nil => intro i b m h1 h2; rw [ownL]; simp; omega
  | cons x l ih =>
    intro i b m h1 h2
    rw [ownL, List.length_cons]
    split
    · have := ih (i + 1) i (x.hi - x.lo) (by omega) (by omega); omega
    · have := ih (i + 1) b m h1 (by omega); omega
theorem ownerOf_i64 (l : List Node) (p : Pos) (k : Int) : I64 (ownerOf l p k) := by
  have h1 := own_rng k (spansOf l p) 0 (-1) 0 (by omega) (by omega)
  have h2 := spansOf_len l p
  unfold ownerOf I64
  omega
end Go.Proofs.YtkelhmgdajiocaaGreatDoor
/- Walks and lemmas of this seat (FOwnS): what each theorem says of the functions that it names. Conditions: those that each theorem states. -/
namespace Go.Proofs.YtkelhmgdajiocaaGreatDoor
set_option linter.unusedVariables false
set_option linter.unusedSimpArgs false
open Go.RowKit Go.Lib

/-! The reference's OwnerOf. -/
set_option maxRecDepth 100000 in
set_option maxHeartbeats 3200000 in
theorem specOwnerOf_any (l0 : List Node) (v0 : Value) (p : Pos) (q : Int) (w : World) (hx0 : ∀ x ∈ l0, x.Ok) (hn0 : bulk Node.sizes l0 ≤ 1048576) (hv0 : NodeSlc w v0 l0) (hap : p.Ok) (haq : I64 q) :
    Calls Tryz.prog 17 #[v0, .agg #[.int .i64 p.level, .bool p.dollar, .bool p.noIn, .bool p.noGt, .bool p.noSign], .int .i64 q] w fun e w' => e = .returned (.int .i64 (ownerOf l0 p q)) ∧ Below w.heap.size w w' := by
  have hb0 : Below w.heap.size w (w.alloc (.cells #[.int .i64 p.level, .bool p.dollar, .bool p.noIn, .bool p.noGt, .bool p.noSign] 36)) := (Below.refl _ _).alloc (Nat.le_refl _) _
  have hcall := hid (specSpansOf_any l0 v0 p _ hx0 hn0 (hv0.mono hb0 (Nat.le_refl _)))
  have hbd := hid (spansOf_bd l0 p)
  have hSl := spansOf_len l0 p
  have hR : Hid (ownerOf l0 p q = ownL q (spansOf l0 p) 0 (-1) 0) := hid rfl
  generalize spansOf l0 p = S at *
  generalize ownerOf l0 p q = R at *
  obtain ⟨a, cap, rfl, hm, hc, hsl⟩ := hv0.shape
  clear hsl
  unfold I64 at haq
  go_enter Tryz.func17, Tryz.ntmps17
  go_wp2_with (go_at_call 43; refine hcall.out.mono ?_; rintro e w1 ⟨sv, rfl, hb1, hown⟩)
  have hbw := hid (hb0.trans (hb1.mono hb0.size))
  obtain ⟨_, sa, sc, rfl, hsc, hsm, hrow⟩ := Slc.of_own hown
  unfold maxLen at hsm
  clear hcall hb1 hown hb0
  go_wp2
  go_loopw [8, 9] (fun ov iv wr => ∃ (i : Nat) (o m : Int), ov = .int .i64 o ∧ iv = .int .i64 i ∧ i ≤ S.length ∧ Below w1.heap.size w1 wr ∧ Hid (ownL q S 0 (-1) 0 = ownL q (S.drop i) i o m) ∧ OwnAt S i o m) (fun _ i _ => S.length - (RowKit.intOf i).toNat)
  case atStart => exact ⟨0, -1, 0, rfl, rfl, by omega, Below.refl _ _, hid rfl, .inl ⟨rfl, rfl⟩⟩
  obtain ⟨i, o, m, rfl, rfl, hi, hb, hrel, hO⟩ := hrel
  by_cases hlt : i < S.length
  · obtain ⟨x, hx⟩ := get_of_lt hlt
    obtain ⟨b, off, rfl, hro⟩ := slc_some hrow (by omega)
    have hrw := hro.mono hb (Nat.le_refl _)
    have c0 := hrw.flat0 2 Span.len hx rfl
    have c1 := hrw.flat 2 Span.len hx 1 rfl
    have hxb := hbd.out x (List.mem_of_getElem? hx)
    unfold SpB at hxb
    have hhere := hid (OwnAt.here hx)
    rw [drop_cons hx] at hrel
    have HR := hrel
    have hwx : IntKind.wrap .i64 (x.hi - x.lo) = x.hi - x.lo := wrap_in _ (by unfold I64; omega)
    have hii : (i : Int) < (S.length : Int) := by omega
    have hO2 := hO
    replace hO := hid hO
    clear hx hrel hrow hro
    by_cases h1 : x.lo ≤ q
    · by_cases h2 : q < x.hi
      · rcases hO2 with ⟨rfl, rfl⟩ | ⟨j, y, rfl, hji, hy, rfl⟩
        · clear hrw
          go_wp2_with fail
          go_quiet (fail)
          go_wp2
          go_roundw
          case rel => exact ⟨i + 1, _, _, rfl, by go_num, by omega, below_drewN hb nq, hid (by rw [HR.out, own_yes h1 h2 (.inl (by omega))]), hhere.out⟩
          case measure => simp [RowKit.intOf]; omega
        · have d0 := hrw.flat0 2 Span.len hy rfl
          have d1 := hrw.flat 2 Span.len hy 1 rfl
          have hyb := hbd.out y (List.mem_of_getElem? hy)
          unfold SpB at hyb
          have hwy : IntKind.wrap .i64 (y.hi - y.lo) = y.hi - y.lo := wrap_in _ (by unfold I64; omega)
          have hjj : (j : Int) < (S.length : Int) := by omega
          have hj0 : decide ((j : Int) < 0) = false := by simp
          clear hrw hy
          by_cases h3 : x.hi - x.lo < y.hi - y.lo
          · clear hO
            go_wp2_with fail
            go_quiet (fail)
            go_wp2
            go_roundw
            case rel => exact ⟨i + 1, _, _, rfl, by go_num, by omega, below_drewN hb nq, hid (by rw [HR.out, own_yes h1 h2 (.inr h3)]), hhere.out⟩
            case measure => simp [RowKit.intOf]; omega
          · have h3d : decide (x.hi - x.lo < y.hi - y.lo) = false := by simp; omega
            clear hhere
            go_wp2_with fail
            go_quiet (fail)
            go_wp2
            go_roundw
            case rel => exact ⟨i + 1, _, _, rfl, by go_num, by omega, below_drewN hb nq, hid (by rw [HR.out, own_no (by omega)]), hO.out.next⟩
            case measure => simp [RowKit.intOf]; omega
      · have h2d : decide (q < x.hi) = false := by simp; omega
        clear hrw hO2
        clear hhere
        go_wp2_with fail
        go_quiet (fail)
        go_wp2
        go_roundw
        case rel => exact ⟨i + 1, _, m, rfl, by go_num, by omega, below_drewN hb nq, hid (by rw [HR.out, own_no (by omega)]), hO.out.next⟩
        case measure => simp [RowKit.intOf]; omega
    · have h1d : decide (x.lo ≤ q) = false := by simp; omega
      clear hrw hO2
      clear hhere
      go_wp2_with fail
      go_quiet (fail)
      go_wp2
      go_roundw
      case rel => exact ⟨i + 1, _, m, rfl, by go_num, by omega, below_drewN hb nq, hid (by rw [HR.out, own_no (by omega)]), hO.out.next⟩
      case measure => simp [RowKit.intOf]; omega
  · go_wp2
    go_ret
    rw [List.drop_of_length_le (by omega), ownL] at hrel
    exact ⟨ret_int (by rw [hR.out, hrel.out]), hbw.out.trans (hb.mono hbw.out.size)⟩
end Go.Proofs.YtkelhmgdajiocaaGreatDoor
/- Walks and lemmas of this seat (FOwnI): what each theorem says of the functions that it names. Conditions: those that each theorem states. -/
namespace Go.Proofs.YtkelhmgdajiocaaGreatDoor
set_option linter.unusedVariables false
set_option linter.unusedSimpArgs false
open Go.RowKit Go.Lib

/-! The program's SpansOf and OwnerOf. -/
set_option maxRecDepth 100000 in
set_option maxHeartbeats 3200000 in
theorem implSpansOf_any (l0 : List Node) (v0 : Value) (p : Pos) (w : World) (hx0 : ∀ x ∈ l0, x.Ok) (hn0 : bulk Node.sizes l0 ≤ 1048576) (hv0 : NodeSlc w v0 l0) (hE : WordEnv w) :
    Calls Tryz.prog 44 #[v0, .agg #[.int .i64 p.level, .bool p.dollar, .bool p.noIn, .bool p.noGt, .bool p.noSign]] w fun e w' => ∃ v', e = .returned v' ∧ Below w.heap.size w w' ∧ w'.ownsRow w.heap.size 70 2 v' (spansOf l0 p).length ((spansOf l0 p).flatMap Span.cells) := by
  have hb0 : Below w.heap.size w (w.alloc (.cells #[.int .i64 p.level, .bool p.dollar, .bool p.noIn, .bool p.noGt, .bool p.noSign] 36)) := (Below.refl _ _).alloc (Nat.le_refl _) _
  have hcall := hid (implspelled_any l0 v0 p false _ hx0 hn0 (hv0.mono hb0 (Nat.le_refl _)) (hE.below hb0))
  have hR : Hid (spelledSpans l0 p false = spansOf l0 p) := hid rfl
  generalize spansOf l0 p = RT at *
  generalize spelledToks l0 p false = R at *
  generalize spelledSpans l0 p false = M at *
  obtain ⟨a, cap, rfl, hm, hc, hsl⟩ := hv0.shape
  clear hsl
  go_enter Tryz.func44, Tryz.ntmps44
  go_wp2_with (go_at_call 49; refine hcall.out.mono ?_; rintro e w1 ⟨tv, sv, rfl, hT, hs⟩)
  have hb1 := hid hT.hb
  obtain ⟨va, vc, rfl, _⟩ := hT.shape
  obtain ⟨sa, sc, rfl, _⟩ := own_slice hs
  replace hs := hid hs
  clear hT
  all_goals try go_wp2
  go_ret
  exact ⟨_, rfl, hb0.trans (hb1.out.mono hb0.size), by rw [← hR.out]; exact own_base hs.out hb0.size⟩
set_option maxRecDepth 100000 in
set_option maxHeartbeats 3200000 in
theorem implOwnerOf_any (l0 : List Node) (v0 : Value) (p : Pos) (q : Int) (w : World) (hx0 : ∀ x ∈ l0, x.Ok) (hn0 : bulk Node.sizes l0 ≤ 1048576) (hv0 : NodeSlc w v0 l0) (hap : p.Ok) (haq : I64 q) (hE : WordEnv w) :
    Calls Tryz.prog 19 #[v0, .agg #[.int .i64 p.level, .bool p.dollar, .bool p.noIn, .bool p.noGt, .bool p.noSign], .int .i64 q] w fun e w' => e = .returned (.int .i64 (ownerOf l0 p q)) ∧ Below w.heap.size w w' := by
  have hb0 : Below w.heap.size w (w.alloc (.cells #[.int .i64 p.level, .bool p.dollar, .bool p.noIn, .bool p.noGt, .bool p.noSign] 36)) := (Below.refl _ _).alloc (Nat.le_refl _) _
  have hcall := hid (implSpansOf_any l0 v0 p _ hx0 hn0 (hv0.mono hb0 (Nat.le_refl _)) (hE.below hb0))
  have hbd := hid (spansOf_bd l0 p)
  have hSl := spansOf_len l0 p
  have hR : Hid (ownerOf l0 p q = ownL q (spansOf l0 p) 0 (-1) 0) := hid rfl
  generalize spansOf l0 p = S at *
  generalize ownerOf l0 p q = R at *
  obtain ⟨a, cap, rfl, hm, hc, hsl⟩ := hv0.shape
  clear hsl hE
  unfold I64 at haq
  go_enter Tryz.func19, Tryz.ntmps19
  go_wp2_with (go_at_call 44; refine hcall.out.mono ?_; rintro e w1 ⟨sv, rfl, hb1, hown⟩; obtain ⟨_, sa, sc, rfl, hsc, hsm, hrow⟩ := Slc.of_own hown)
  have hbw := hid (hb0.trans (hb1.mono hb0.size))
  unfold maxLen at hsm
  clear hcall hb1 hown hb0
  go_loopw [7, 8, 15] (fun ov mv iv wr => ∃ (i : Nat) (o m : Int), ov = .int .i64 o ∧ mv = .int .i64 m ∧ iv = .int .i64 i ∧ i ≤ S.length ∧ Below w1.heap.size w1 wr ∧ Hid (ownL q S 0 (-1) 0 = ownL q (S.drop i) i o m) ∧ OwnAt S i o m) (fun _ _ i _ => S.length - (RowKit.intOf i).toNat)
  case atStart => exact ⟨0, -1, 0, rfl, rfl, rfl, by omega, Below.refl _ _, hid rfl, .inl ⟨rfl, rfl⟩⟩
  obtain ⟨i, o, m, rfl, rfl, rfl, hi, hb, hrel, hO⟩ := hrel
  by_cases hlt : i < S.length
  · obtain ⟨x, hx⟩ := get_of_lt hlt
    obtain ⟨b, off, rfl, hro⟩ := slc_some hrow (by omega)
    have hrw := hro.mono hb (Nat.le_refl _)
    have c0 := hrw.flat0 2 Span.len hx rfl
    have c1 := hrw.flat 2 Span.len hx 1 rfl
    have hxb := hbd.out x (List.mem_of_getElem? hx)
    unfold SpB at hxb
    have hhere := hid (OwnAt.here hx)
    rw [drop_cons hx] at hrel
    have HR := hrel
    have hwx : IntKind.wrap .i64 (x.hi - x.lo) = x.hi - x.lo := wrap_in _ (by unfold I64; omega)
    have hw1 : IntKind.wrap .i64 (x.hi - 1) = x.hi - 1 := wrap_in _ (by unfold I64; omega)
    have hii : (i : Int) < (S.length : Int) := by omega
    have hO2 := hO
    replace hO := hid hO
    have hwi := implwithin_any q x.lo (x.hi - 1)
    clear hx hrel hrow hro hrw
    by_cases h1 : x.lo ≤ q ∧ q < x.hi
    · rw [show inB q x.lo (x.hi - 1) = true from by unfold inB; simp; omega] at hwi
      replace hwi := hid hwi
      rcases hO2 with ⟨rfl, rfl⟩ | ⟨j, y, rfl, hji, hy, rfl⟩
      · clear hO
        go_wp2_with (go_at_call 45; refine (hwi.out _).mono ?_; rintro e w2 ⟨rfl, rfl⟩)
        go_quiet (fail)
        go_wp2
        go_roundw
        case rel => exact ⟨i + 1, _, _, rfl, rfl, by go_num, by omega, below_drewN (hb.alloc hb.size _) nq, hid (by rw [HR.out, own_yes h1.1 h1.2 (.inl (by omega))]), hhere.out⟩
        case measure => simp [RowKit.intOf]; omega
      · have hj0 : decide ((j : Int) < 0) = false := by simp
        clear hy
        by_cases h3 : x.hi - x.lo < y.hi - y.lo
        · clear hO
          go_wp2_with (go_at_call 45; refine (hwi.out _).mono ?_; rintro e w2 ⟨rfl, rfl⟩)
          go_quiet (fail)
          go_wp2
          go_roundw
          case rel => exact ⟨i + 1, _, _, rfl, rfl, by go_num, by omega, below_drewN (hb.alloc hb.size _) nq, hid (by rw [HR.out, own_yes h1.1 h1.2 (.inr h3)]), hhere.out⟩
          case measure => simp [RowKit.intOf]; omega
        · have h3d : decide (x.hi - x.lo < y.hi - y.lo) = false := by simp; omega
          clear hhere
          go_wp2_with (go_at_call 45; refine (hwi.out _).mono ?_; rintro e w2 ⟨rfl, rfl⟩)
          go_roundw
          case rel => exact ⟨i + 1, _, _, rfl, rfl, by go_num, by omega, hb.alloc hb.size _, hid (by rw [HR.out, own_no (by omega)]), hO.out.next⟩
          case measure => simp [RowKit.intOf]; omega
    · rw [show inB q x.lo (x.hi - 1) = false from by unfold inB; simp; omega] at hwi
      replace hwi := hid hwi
      clear hO2 hhere
      go_wp2_with (go_at_call 45; refine (hwi.out _).mono ?_; rintro e w2 ⟨rfl, rfl⟩)
      go_roundw
      case rel => exact ⟨i + 1, _, m, rfl, rfl, by go_num, by omega, hb.alloc hb.size _, hid (by rw [HR.out, own_no (by omega)]), hO.out.next⟩
      case measure => simp [RowKit.intOf]; omega
  · go_wp2
    go_ret
    rw [List.drop_of_length_le (by omega), ownL] at hrel
    exact ⟨ret_int (by rw [hR.out, hrel.out]), hbw.out.trans (hb.mono hbw.out.size)⟩
end Go.Proofs.YtkelhmgdajiocaaGreatDoor
