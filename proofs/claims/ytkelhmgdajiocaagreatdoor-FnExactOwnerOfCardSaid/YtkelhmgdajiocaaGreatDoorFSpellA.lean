/- Walks and lemmas of this seat (FSpellA): what each theorem says of the functions that it names. Conditions: those that each theorem states. -/
import Derived.Test.YtkelhmgdajiocaaGreatDoorFSpFrame
import Derived.Test.YtkelhmgdajiocaaGreatDoorFSign
import Derived.Test.YtkelhmgdajiocaaGreatDoorGSF
import Derived.Test.YtkelhmgdajiocaaGreatDoorGF
import Derived.Deep.AppendLies
namespace Go.Proofs.YtkelhmgdajiocaaGreatDoor
set_option linter.unusedVariables false
set_option linter.unusedSimpArgs false
open Go.RowKit

theorem Tryz.infoTok : (Tryz.prog.info? 50).map (fun i => (i.zero, i.size, i.bytes)) = some (some (.agg #[.int .i64 0, .string ⟨#[]⟩, .int .i64 0]), 3, 32) := by kernel_rfl
theorem Tryz.infoSpn : (Tryz.prog.info? 70).map (fun i => (i.zero, i.size, i.bytes)) = some (some (.agg #[.int .i64 0, .int .i64 0]), 2, 16) := by kernel_rfl
/-- The words of the package lie below block g. -/
def WordLow (g : Nat) (w : World) : Prop := ∃ w0, WordEnv w0 ∧ w0.heap.size ≤ g ∧ Below w0.heap.size w0 w
theorem WordLow.env {g : Nat} {w : World} (h : WordLow g w) : WordEnv w := by
  obtain ⟨w0, h1, _, h3⟩ := h
  exact h1.below h3
theorem WordLow.sk {g B : Nat} {w w' : World} (h : WordLow g w) (hgB : g < B) (hk : Sk g B w w') : WordLow g w' := by
  obtain ⟨w0, h1, h2, h3⟩ := h
  exact ⟨w0, h1, h2, h3.trans ⟨hk.os, hk.tape, hk.output, hk.size, fun i hi => hk.block i (by have := h3.size; omega) (by omega) (.inl (by omega))⟩⟩
theorem WordLow.below {g : Nat} {w w' : World} (h : WordLow g w) (hb : Below w.heap.size w w') : WordLow g w' := by
  obtain ⟨w0, h1, h2, h3⟩ := h
  exact ⟨w0, h1, h2, h3.trans (hb.mono h3.size)⟩

set_option maxRecDepth 100000 in
set_option maxHeartbeats 1600000 in
/-- put: tokens that lie in new memory. -/
theorem implput_any (g B : Nat) (full : Bool) (L T : List Token) (M : List Span) (tv sv : Value) (w w1 : World) (b : Nat) (cs : Array Value) (hst : SpSt w g B full L M tv sv) (hgB : g < B) (hB : B ≤ w.heap.size) (hb : Below w.heap.size w w1) (hT : 0 < T.length) (hcs : cs.toList = T.flatMap Token.cells)
    (hx : w1.heap[b]? = some (.cells cs 50 (0, 0))) (hl : L.length + T.length ≤ 2000000) :
    Calls Tryz.prog 92 #[.pointer (some ⟨g, 0, none⟩), .slice (some ⟨b, 0, none⟩) T.length T.length] w1 fun e w' => e = .returned (.tuple #[]) ∧ ∃ tv', SpSt w' g B full (L ++ T) M tv' sv ∧ Sk g B w w' := by
  obtain ⟨i0, hi, hz0, hz1, hz2⟩ := info_parts Tryz.infoTok
  have h1 := hst.below hb
  have t0 := h1.box.c0
  have f0 := h1.box.fr 0
  have hgw := h1.box.lt
  have hne := hid (own_neS h1.tok hgB)
  have hown := hid h1.tok
  have hlen : (T.flatMap Token.cells).length = T.length * 3 := flat_len Token.cells 3 Token.len T
  have hnews : Hid (∀ j u, (T.flatMap Token.cells)[j]? = some u → w1.cell? ((⟨b, 0, none⟩ : Addr).add j) = some u) := hid (by rw [← hcs]; exact World.news_of_block hx)
  have hone : Hid (∀ u ∈ T.flatMap Token.cells, u.oneCell' = true) := hid fun u hu => by
    obtain ⟨x, _, hx⟩ := List.mem_flatMap.1 hu
    simp only [Token.cells, List.mem_cons, List.not_mem_nil, or_false] at hx
    rcases hx with rfl | rfl | rfl <;> rfl
  have hwe := hid hb.size
  replace hlen := hid hlen
  replace h1 := hid h1
  clear hx hcs
  go_enter Tryz.func92, Tryz.ntmps92
  go_wp2_with (at_builtin; refine wpList_append_lies _ (by rfl) _ _ _ (by rfl) B 50 i0 _ 3 32 Tryz.underlying24 hi hz0 hz1 hz2 rfl (by omega) tv L.length (L.flatMap Token.cells) (by rfl) hown.out ⟨b, 0, none⟩ T.length T.length (T.flatMap Token.cells) (by rfl) hlen.out hnews.out hone.out hT (by unfold maxLen; omega) (by omega) (by have := hwe.out; omega) w1.heap.size rfl ?_; intro gg cap2 w2 hown2 hgrow hat hlt3; have q2 := (hgrow.cell_far ⟨g, 0, none⟩ hgw hne.out).trans t0; have q3 := (hgrow.frozen_far ⟨g, 0, none⟩ hgw hne.out).trans f0)
  go_end0
  obtain ⟨k1, k2⟩ := hst.put hb hgB hown2 hgrow
  exact ⟨rfl, _, k1, k2⟩
theorem implput1 (g B : Nat) (full : Bool) (L : List Token) (M : List Span) (tv sv : Value) (w : World) (k : Int) (s : ByteArray) (hst : SpSt w g B full L M tv sv) (hgB : g < B) (hB : B ≤ w.heap.size) (hl : L.length + 1 ≤ 2000000) :
    Calls Tryz.prog 92 #[.pointer (some ⟨g, 0, none⟩), .slice (some ⟨w.heap.size, 0, none⟩) 1 1] (w.alloc (.cells #[.int .i64 k, .string s, .int .i64 0] 50)) fun e w' => e = .returned (.tuple #[]) ∧ ∃ tv', SpSt w' g B full (L ++ [⟨k, s, 0⟩]) M tv' sv ∧ Sk g B w w' :=
  implput_any g B full L [⟨k, s, 0⟩] M tv sv w _ w.heap.size #[.int .i64 k, .string s, .int .i64 0] hst hgB hB ((Below.refl _ _).alloc (Nat.le_refl _) _) (by simp) rfl (heap_alloc_new w _) hl
theorem implput2 (g B : Nat) (full : Bool) (L : List Token) (M : List Span) (tv sv : Value) (w : World) (k k2 : Int) (s s2 : ByteArray) (hst : SpSt w g B full L M tv sv) (hgB : g < B) (hB : B ≤ w.heap.size) (hl : L.length + 2 ≤ 2000000) :
    Calls Tryz.prog 92 #[.pointer (some ⟨g, 0, none⟩), .slice (some ⟨w.heap.size, 0, none⟩) 2 2] (w.alloc (.cells #[.int .i64 k, .string s, .int .i64 0, .int .i64 k2, .string s2, .int .i64 0] 50)) fun e w' => e = .returned (.tuple #[]) ∧ ∃ tv', SpSt w' g B full (L ++ [⟨k, s, 0⟩, ⟨k2, s2, 0⟩]) M tv' sv ∧ Sk g B w w' :=
  implput_any g B full L [⟨k, s, 0⟩, ⟨k2, s2, 0⟩] M tv sv w _ w.heap.size #[.int .i64 k, .string s, .int .i64 0, .int .i64 k2, .string s2, .int .i64 0] hst hgB hB ((Below.refl _ _).alloc (Nat.le_refl _) _) (by simp) rfl (heap_alloc_new w _) hl

set_option maxRecDepth 100000 in
set_option maxHeartbeats 1600000 in
/-- node: a tree's root, with as many kids. -/
theorem implnode_any (k o : Int) (a b : ByteArray) (ka : Option Addr) (kn kc : Nat) (w : World) (hn : kn ≤ 1000000) :
    Calls Tryz.prog 88 #[.agg #[.int .i64 k, .int .i64 o, .string a, .string b, .slice ka kn kc]] w fun e w' => ∃ (na : Option Addr) (nc : Nat), e = .returned (.agg #[.int .i64 k, .int .i64 o, .string a, .string b, .slice na kn nc]) ∧ Below w.heap.size w w' := by
  obtain ⟨i0, hi, hz0, hz1, hz2⟩ := info_parts Tryz.info3
  go_enter Tryz.func88, Tryz.ntmps88
  go_wp2
  go_loopw [17] (fun i wr => ∃ (j : Nat) (kv : Value) (xs : List Value), i = .int .i64 j ∧ j ≤ kn ∧ Below w.heap.size w wr ∧ wr.heap[w.heap.size + 1 + 1]? = some (.cells #[.int .i64 k, .int .i64 o, .string a, .string b, kv] 58 (0, 0)) ∧ wr.heap[w.heap.size + 1]? = some (.cells #[.int .i64 0, .int .i64 0, .string ⟨#[]⟩, .string ⟨#[]⟩, .slice none 0 0] 58 (0, 0)) ∧ wr.ownsRow (w.heap.size + 1 + 1 + 1) 3 1 kv j xs) (fun i _ => kn - (intOf i).toNat)
  case atStart =>
    refine ⟨0, .slice none 0 0, [], rfl, by omega, by repeat (first | exact Below.refl _ _ | refine Below.alloc ?_ (by first | omega | (simp; done) | (simp; omega)) _ | refine Below.drew ?_), ?_, ?_, ⟨rfl, .inl ⟨rfl, rfl⟩⟩⟩
    · have := heap_alloc_new ((w.alloc (.cells #[.int .i64 k, .int .i64 o, .string a, .string b, .slice ka kn kc] 99)).alloc (.cells #[.int .i64 0, .int .i64 0, .string ⟨#[]⟩, .string ⟨#[]⟩, .slice none 0 0] 58)) (.cells #[.int .i64 k, .int .i64 o, .string a, .string b, .slice none 0 0] 58)
      simpa using this
    · refine (Below.heap_alloc _ _ _ (by simp)).trans ?_
      have := heap_alloc_new (w.alloc (.cells #[.int .i64 k, .int .i64 o, .string a, .string b, .slice ka kn kc] 99)) (.cells #[.int .i64 0, .int .i64 0, .string ⟨#[]⟩, .string ⟨#[]⟩, .slice none 0 0] 58)
      simpa using this
  obtain ⟨j, kv, xs, rfl, hj, hb, hbox, hres, hown⟩ := hrel
  have hbs := hb.size
  have hlt2 := heap_lt hbox
  have hne : Hid (some (w.heap.size + 1 + 1) ≠ kv.ownBlock) := hid fun e => by have := (hown.lt _ e.symm).1; omega
  by_cases hlt : j < kn
  · have cb : wr.cell? ⟨w.heap.size + 1 + 1, 4, none⟩ = some kv := box_cell hbox rfl
    have fb : wr.frozen? ⟨w.heap.size + 1 + 1, 4, none⟩ = false := box_froz hbox
    have hown' := hid hown
    have hbox' := hid hbox
    have hres' := hid hres
    have hb' := hid hb
    have q4 := fun o => (((Below.refl wr.heap.size wr).alloc (Nat.le_refl _) o).cell (p := ⟨w.heap.size + 1 + 1, 4, none⟩) hlt2).trans cb
    have q5 := fun o => (((Below.refl wr.heap.size wr).alloc (Nat.le_refl _) o).frozen (p := ⟨w.heap.size + 1 + 1, 4, none⟩) hlt2).trans fb
    clear hown hbox hres hb
    go_wp2_with (at_builtin; refine wpList_append_lies _ (by rfl) _ _ _ (by rfl) (w.heap.size + 1 + 1 + 1) 3 i0 _ 1 8 Tryz.underlying54 hi hz0 hz1 hz2 rfl (by omega) kv j xs (by rfl) (hown'.out.alloc _) ⟨wr.heap.size, 0, none⟩ 1 1 [.int .i64 j] (by rfl) (by rfl) (World.news_of_block (cs := #[.int .i64 j]) (t := 3) (fr := (0, 0)) (heap_alloc_new wr _)) (by simp [Value.oneCell']) (by omega) (by unfold maxLen; omega) (by omega) (by simp only [World.size_alloc]; omega) (wr.heap.size + 1) (by simp) ?_; intro gg cap2 w2 hown2 hgrow hat hlt3; have q2 := (hgrow.cell_far ⟨w.heap.size + 1 + 1, 4, none⟩ (by simp; omega) hne.out).trans (q4 _); have q3 := (hgrow.frozen_far ⟨w.heap.size + 1 + 1, 4, none⟩ (by simp; omega) hne.out).trans (q5 _))
    all_goals go_roundw
    all_goals first
      | (simp [intOf]; omega)
      | exact (by
          have e2 : ∀ i, i < wr.heap.size → some i ≠ kv.ownBlock → w2.heap[i]? = wr.heap[i]? := fun i hi2 hn2 => (hgrow.block i (by simp; omega) hn2).trans (Below.heap_alloc _ _ _ hi2)
          have hr1 := heap_lt hres'.out
          refine ⟨j + 1, _, _, by go_num, by omega, ?_, ?_, ?_, own_setCellS hown2 (by omega)⟩
          · exact ((hb'.out.alloc hbs _).grown hgrow (by simp; omega) (fun r e => by have := (hown'.out.lt r e).1; omega)).setCell (p := ⟨w.heap.size + 1 + 1, 4, none⟩) (show w.heap.size ≤ w.heap.size + 1 + 1 by omega) _
          · rw [heap_setCell_at ((e2 _ hlt2 hne.out).trans hbox'.out)]; rfl
          · exact (heap_setCell_other w2 ⟨w.heap.size + 1 + 1, 4, none⟩ _ _ (by show w.heap.size + 1 ≠ w.heap.size + 1 + 1; omega)).trans ((e2 _ hr1 (fun e => by have := (hown'.out.lt _ e.symm).1; omega)).trans hres'.out))
  · obtain rfl : j = kn := by omega
    obtain ⟨na, nc, rfl, _⟩ := own_slice hown
    obtain ⟨p0, p1, p2, p3, p4⟩ := box_cells hbox
    obtain ⟨r0, r1, r2, r3, r4⟩ := box_cells hres
    have f0 : ∀ j, wr.frozen? ⟨w.heap.size + 1, j, none⟩ = false := fun j => box_froz hres
    replace hres := hid hres
    replace hb := hid hb
    clear hown hbox
    go_wp2
    refine form_done (.agg #[.int .i64 k, .int .i64 o, .string a, .string b, .slice na j nc]) hres.out (fun W hW => ?_) rfl ⟨na, nc, rfl, five_below hb.out (by omega)⟩
    obtain ⟨z0, z1, z2, z3, z4⟩ := box_cells hW
    simp [results, Tryz.results88, go_sem, z0, z1, z2, z3, z4]

set_option maxRecDepth 100000 in
theorem implisTarget_any (k o : Int) (a b : ByteArray) (ka : Option Addr) (kn kc : Nat) (j : Nat) (w : World) :
    Calls Tryz.prog 167 #[.agg #[.int .i64 k, .int .i64 o, .string a, .string b, .slice ka kn kc], .int .i64 j] w fun e w' => e = .returned (.bool (isTargetB k j)) ∧ Below w.heap.size w w' := by
  unfold isTargetB
  go_enter Tryz.func167, Tryz.ntmps167
  go_wp2
  all_goals go_ret
  all_goals exact ⟨ret_bool (by simp_all [Bool.or_assoc]), by repeat (first | exact Below.refl _ _ | refine Below.alloc ?_ (by first | omega | (simp; done) | (simp; omega)) _ | refine Below.drew ?_)⟩
end Go.Proofs.YtkelhmgdajiocaaGreatDoor
