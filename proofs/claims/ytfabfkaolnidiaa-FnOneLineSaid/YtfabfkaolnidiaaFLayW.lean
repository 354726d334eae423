/- Walks and lemmas of this seat (FLayW): what each theorem says of the functions that it names. Conditions: those that each theorem states. -/
import Derived.Test.YtfabfkaolnidiaaFLayS
import Derived.Deep.AppendLies
import Derived.Deep.RegionLaw
import Derived.BigQuiet
namespace Go.Proofs.Ytfabfkaolnidiaa
set_option linter.unusedVariables false
set_option linter.unusedSimpArgs false
open Go.RowKit

/-! The writer: what it still has to lay, and what it has laid. -/
theorem step_append_own_string {P : Program} {w : World} {ops : Array Oper} {o : Oper} {a : Act} {K : Act → World → Prop} {Q : Exit → Act → World → Prop} {E : Prop} (hgd : o.guard = none) (sl x : Operand) (t u : TypeId)
    (ho : o.op = .call { callee := .builtin .append, args := #[sl, x], argTypes := #[t, u] })
    (base : Nat) (e : TypeId) (i : TypeInfo) (ht : P.underlying t = some (.slice e)) (hu : P.underlying u = some .string) (hi : P.info? e = some i) (hz : i.zero = some (.int .u8 0))
    (hsize : i.size = 1) (hby : i.bytes = 1)
    (v : Value) (n : Nat) (xs : List Value) (hs : a.eval sl = v) (hown : w.ownsRow base e 1 v n xs) (s : ByteArray) (hx : a.eval x = .string s)
    (h63 : n + s.size ≤ maxLen) (hbytes : n + s.size ≤ 140737488355328) (hbase : base ≤ w.heap.size)
    (h : ∀ v' w', w'.ownsRow base e 1 v' (n + s.size) (xs ++ Lib.strCells s) → w.grownBy w' v.ownBlock → K (a.put o.dst v') w') :
    if Region.wanted o (yielded ops a.tmps) = true then Oper.wp P o a w K Q else E := by
  have hw : Region.wanted o (yielded ops a.tmps) = true := by simp [Region.wanted, hgd]
  rw [if_pos hw]
  obtain ⟨v', w', hr, h2, h3, h4⟩ := Lib.run_append_own_string (P := P) w base t u o.type e i ht hu hi hz hsize hby v n xs hown s h63 hbytes hbase
  unfold Oper.wp execOp
  simp only [ho, resolve, invoke, builtin, Sem.run_bind, Sem.run_pure, Result.andThen_ok, List.map_toArray, List.map_cons, List.map_nil, hs, hx, hr]
  exact h v' w' h2 h3

/-- A piece: what is to be laid, and where its kids lie. -/
structure PIt where
  it : LIt
  kv : Value
def PIt.cells (x : PIt) : List Value := [.int .i64 x.it.d.kind, .int .i64 x.it.d.n, .string x.it.d.text, x.kv, .int .i64 x.it.d.group, .int .i64 x.it.ind, .bool x.it.flat]
theorem PIt.len (x : PIt) : (PIt.cells x).length = 7 := rfl
theorem Try.info92 : (Try.prog.info? 92).map (fun i => (i.zero, i.size, i.bytes)) = some (some (.agg #[.int .i64 0, .int .i64 0, .string ⟨#[]⟩, .slice none 0 0, .int .i64 0, .int .i64 0, .bool false]), 7, 80) := by kernel_rfl

/-- Worlds that differ only in new memory, in block g and in rows of one type. -/
structure Lk (g : Nat) (e : TypeId) (B : Nat) (w w' : World) : Prop where
  os : w'.os = w.os
  tape : w'.tape = w.tape
  output : w'.output = w.output
  size : w.heap.size ≤ w'.heap.size
  block : ∀ b, b < w.heap.size → b ≠ g → (b < B ∨ ∀ c k, w.heap[b]? ≠ some (.cells c e k)) → w'.heap[b]? = w.heap[b]?
theorem Lk.refl (g : Nat) (e : TypeId) (B : Nat) (w : World) : Lk g e B w w := ⟨rfl, rfl, rfl, Nat.le_refl _, fun _ _ _ _ => rfl⟩
theorem Lk.trans {g : Nat} {e : TypeId} {B : Nat} {a b c : World} (h : Lk g e B a b) (k : Lk g e B b c) : Lk g e B a c :=
  ⟨k.os.trans h.os, k.tape.trans h.tape, k.output.trans h.output, Nat.le_trans h.size k.size, fun i hi hg ho => by
    have e1 := h.block i hi hg ho
    have ho2 : i < B ∨ ∀ c' k', b.heap[i]? ≠ some (.cells c' e k') := by rw [e1]; exact ho
    exact (k.block i (Nat.lt_of_lt_of_le hi h.size) hg ho2).trans e1⟩
theorem Lk.of_keeps {g : Nat} {e : TypeId} {B : Nat} {w w' : World} (h : Keeps e B w w') : Lk g e B w w' := ⟨h.os, h.tape, h.output, h.size, fun i hi _ ho => h.block i hi ho⟩
theorem Lk.of_below {g : Nat} {e : TypeId} {B : Nat} {w w' : World} (h : Below w.heap.size w w') : Lk g e B w w' := .of_keeps (.of_below h)
theorem Lk.alloc {g : Nat} {e : TypeId} {B : Nat} {w w' : World} (h : Lk g e B w w') (o : Obj) : Lk g e B w (w'.alloc o) := h.trans (.of_keeps ((Keeps.refl _ _ _).alloc o))
theorem Lk.set {g : Nat} {e : TypeId} {B : Nat} {w w' : World} (h : Lk g e B w w') (j : Nat) (u : Value) : Lk g e B w (w'.setCell ⟨g, j, none⟩ u) :=
  ⟨h.os, h.tape, h.output, by simpa using h.size, fun i hi hg ho => (heap_setCell_other w' ⟨g, j, none⟩ i u hg).trans (h.block i hi hg ho)⟩
theorem Lk.low {g : Nat} {e : TypeId} {B b : Nat} {w w' : World} (h : Lk g e B w w') (hb : b < B) (hB : B ≤ w.heap.size) (hg : b ≠ g) : w'.heap[b]? = w.heap[b]? := h.block b (by omega) hg (.inl hb)
theorem Lk.cell {g : Nat} {e : TypeId} {B b o : Nat} {w w' : World} (h : Lk g e B w w') (hb : b < B) (hB : B ≤ w.heap.size) (hg : b ≠ g) : w'.cell? ⟨b, o, none⟩ = w.cell? ⟨b, o, none⟩ := World.cell?_of_block (a := ⟨b, o, none⟩) (h.low hb hB hg)
theorem Lk.own {g : Nat} {e T : TypeId} {B B' : Nat} {s n : Nat} {w w' : World} {v : Value} {xs : List Value} (h : Lk g e B w w') (ho : w.ownsRow B' T s v n xs) (hne : T ≠ e) (hg : g < B') : w'.ownsRow B' T s v n xs := by
  refine ⟨ho.1, ?_⟩
  rcases ho.2 with h0 | ⟨r, cap, cur, rfl, hB, hgg, hc, hm, hs, ht⟩
  · exact .inl h0
  · refine .inr ⟨r, cap, cur, rfl, hB, ?_, hc, hm, hs, ht⟩
    rw [h.block r (Array.getElem?_eq_some_iff.1 hgg).1 (by omega) (.inr fun c k e1 => by rw [hgg] at e1; injection e1 with e1; injection e1 with _ e2 _; exact hne e2)]
    exact hgg
theorem Lk.box {g : Nat} {e T : TypeId} {B b : Nat} {w w' : World} {c : Array Value} {k : Nat × Nat} (h : Lk g e B w w') (hb : w.heap[b]? = some (.cells c T k)) (hne : T ≠ e) (hg : b ≠ g) : w'.heap[b]? = some (.cells c T k) := by
  rw [h.block b (Array.getElem?_eq_some_iff.1 hb).1 hg (.inr fun c' k' e1 => by rw [hb] at e1; injection e1 with e1; injection e1 with _ e2 _; exact hne e2)]
  exact hb

/-- The box of a writer. -/
def Wr (w : World) (g : Nat) (ov : Value) (c : Int) (tv : Value) : Prop := w.heap[g]? = some (.cells #[ov, .int .i64 c, tv] 66 (0, 0))
theorem Wr.c0 {w : World} {g : Nat} {ov tv : Value} {c : Int} (h : Wr w g ov c tv) : w.cell? ⟨g, 0, none⟩ = some ov := box_cell h rfl
theorem Wr.c1 {w : World} {g : Nat} {ov tv : Value} {c : Int} (h : Wr w g ov c tv) : w.cell? ⟨g, 1, none⟩ = some (.int .i64 c) := box_cell h rfl
theorem Wr.c2 {w : World} {g : Nat} {ov tv : Value} {c : Int} (h : Wr w g ov c tv) : w.cell? ⟨g, 2, none⟩ = some tv := box_cell h rfl
theorem Wr.fr {w : World} {g : Nat} {ov tv : Value} {c : Int} (h : Wr w g ov c tv) (j : Nat) : w.frozen? ⟨g, j, none⟩ = false := box_froz h
theorem Wr.lt {w : World} {g : Nat} {ov tv : Value} {c : Int} (h : Wr w g ov c tv) : g < w.heap.size := heap_lt h
theorem Wr.s0 {w : World} {g : Nat} {ov tv : Value} {c : Int} (h : Wr w g ov c tv) (u : Value) : Wr (w.setCell ⟨g, 0, none⟩ u) g u c tv := (heap_setCell_at h).trans rfl
theorem Wr.s1 {w : World} {g : Nat} {ov tv : Value} {c : Int} (h : Wr w g ov c tv) (u : Int) : Wr (w.setCell ⟨g, 1, none⟩ (.int .i64 u)) g ov u tv := (heap_setCell_at h).trans rfl
theorem Wr.s2 {w : World} {g : Nat} {ov tv : Value} {c : Int} (h : Wr w g ov c tv) (u : Value) : Wr (w.setCell ⟨g, 2, none⟩ u) g ov c u := (heap_setCell_at h).trans rfl
theorem Wr.of {w w' : World} {g : Nat} {ov tv : Value} {c : Int} (h : Wr w g ov c tv) (he : w'.heap[g]? = w.heap[g]?) : Wr w' g ov c tv := he.trans h
theorem Wr.below {w w' : World} {g : Nat} {ov tv : Value} {c : Int} (h : Wr w g ov c tv) (hb : Below w.heap.size w w') : Wr w' g ov c tv := h.of (hb.block g h.lt)
theorem Wr.alloc {w : World} {g : Nat} {ov tv : Value} {c : Int} (h : Wr w g ov c tv) (o : Obj) : Wr (w.alloc o) g ov c tv := h.below ((Below.refl _ _).alloc (Nat.le_refl _) o)
theorem own_setCell {w : World} {B g j : Nat} {e : TypeId} {s n : Nat} {v u : Value} {xs : List Value} (h : w.ownsRow B e s v n xs) (hg : g < B) : (w.setCell ⟨g, j, none⟩ u).ownsRow B e s v n xs := by
  refine ⟨h.1, ?_⟩
  rcases h.2 with hn | ⟨r, cap, cur, rfl, hr, hgg, rr⟩
  · exact .inl hn
  · refine .inr ⟨r, cap, cur, rfl, hr, ?_, rr⟩
    rw [heap_setCell_other w ⟨g, j, none⟩ r u (by show r ≠ g; omega)]; exact hgg
theorem own_ne {w : World} {B g : Nat} {e : TypeId} {s n : Nat} {v : Value} {xs : List Value} (h : w.ownsRow B e s v n xs) (hg : g < B) : some g ≠ v.ownBlock := fun e1 => by have := (h.lt g e1.symm).1; omega
/-- What an append to a row leaves of the writer's box. -/
theorem Lk.app {g B s n : Nat} {e : TypeId} {w w2 : World} {v : Value} {xs : List Value} (ho : w.ownsRow B e s v n xs) (hg : w.grownBy w2 v.ownBlock) : Lk g e B w w2 := .of_keeps (Keeps.app ho hg)
theorem grown_at {g B s n : Nat} {e : TypeId} {w w2 : World} {v : Value} {xs : List Value} (ho : w.ownsRow B e s v n xs) (hg : w.grownBy w2 v.ownBlock) (hgB : g < B) (hl : g < w.heap.size) : w2.heap[g]? = w.heap[g]? := hg.block g hl (own_ne ho hgB)

/-- What is put on the stack for the kids. -/
def pKids (q : List (Doc × Value)) (ind : Nat) (f : Bool) : List PIt := (q.map fun p => ⟨⟨p.1, ind, f⟩, p.2⟩).reverse
theorem pKids_drop {q : List (Doc × Value)} {k : Nat} {p : Doc × Value} (ind : Nat) (f : Bool) (h : q[k]? = some p) : pKids (q.drop k) ind f = pKids (q.drop (k + 1)) ind f ++ [⟨⟨p.1, ind, f⟩, p.2⟩] := by
  unfold pKids
  rw [drop_cons h, List.map_cons, List.reverse_cons]

set_option maxRecDepth 100000 in
set_option maxHeartbeats 3200000 in
theorem implpush_any (g B : Nat) (ov : Value) (c : Int) (tv : Value) (L : List PIt) (t : Doc) (kv : Value) (S : Nat → Prop) (ind : Nat) (f : Bool) (w : World)
    (hbox : Wr w g ov c tv) (hgB : g < B) (hB : B ≤ w.heap.size) (hown : w.ownsRow B 92 7 tv L.length (L.flatMap PIt.cells)) (ht : DocIs S w t kv) (hS : ∀ b, S b → b < B ∧ b ≠ g) (hl : L.length + t.kids.length ≤ 100000000) :
    Calls Try.prog 65 #[.pointer (some ⟨g, 0, none⟩), .agg #[.int .i64 t.kind, .int .i64 t.n, .string t.text, kv, .int .i64 t.group], .int .i64 ind, .bool f] w fun e w' => e = .returned (.tuple #[]) ∧ ∃ tv' q, Wr w' g ov c tv' ∧ q.map PIt.it = (kidIts t ind f).reverse ∧ (∀ p ∈ q, DocIs S w p.it.d p.kv) ∧ w'.ownsRow B 92 7 tv' (L ++ q).length ((L ++ q).flatMap PIt.cells) ∧ Lk g 92 B w w' ∧ (∀ b, b < w.heap.size → b ≠ g → some b ≠ tv.ownBlock → w'.heap[b]? = w.heap[b]?) := by
  obtain ⟨i0, hi, hz0, hz1, hz2⟩ := info_parts Try.info92
  obtain ⟨q, hq, ⟨_, a, cap, rfl, hc, hm, hrow⟩, hsub⟩ := ht.open
  unfold maxLen at hm
  have hql : q.length = t.kids.length := by rw [← hq, List.length_map]
  have hpk : Hid ((pKids q ind f).map PIt.it = (kidIts t ind f).reverse ∧ ∀ p ∈ pKids q ind f, DocIs S w p.it.d p.kv) := hid (by
    unfold pKids kidIts
    refine ⟨by rw [← hq, List.map_reverse, List.map_map, List.map_map]; rfl, fun p hp => ?_⟩
    obtain ⟨x, hx, rfl⟩ := List.mem_map.1 (List.mem_reverse.1 hp)
    exact hsub x hx)
  have hbx := heap_alloc_new w (.cells #[.int .i64 t.kind, .int .i64 t.n, .string t.text, .slice a q.length cap, .int .i64 t.group] 70)
  have hKb : Lk g 92 B w (w.alloc (.cells #[.int .i64 t.kind, .int .i64 t.n, .string t.text, .slice a q.length cap, .int .i64 t.group] 70)) := (Lk.refl _ _ _ _).alloc _
  have hgw := hbox.lt
  have hshape : Hid (∀ p ∈ q, ∃ a n c, p.2 = .slice a n c) := hid fun p hp => (hsub p hp).shape
  rw [← hql] at hl
  clear ht hsub hq hql
  go_enter Try.func65, Try.ntmps65
  go_wp2
  go_loopw [8] (fun i wr => ∃ (k : Nat) (tvk : Value), i = .int .i64 ((k : Int) - 1) ∧ k ≤ q.length ∧ Wr wr g ov c tvk ∧ wr.ownsRow B 92 7 tvk (L ++ pKids (q.drop k) ind f).length ((L ++ pKids (q.drop k) ind f).flatMap PIt.cells) ∧ Lk g 92 B w wr ∧ ((∀ b, b < w.heap.size → b ≠ g → some b ≠ tv.ownBlock → wr.heap[b]? = w.heap[b]?) ∧ ∀ r, tvk.ownBlock = some r → tv.ownBlock = some r ∨ w.heap.size ≤ r) ∧ wr.heap[w.heap.size]? = some (.cells #[.int .i64 t.kind, .int .i64 t.n, .string t.text, .slice a q.length cap, .int .i64 t.group] 70 (0, 0))) (fun i _ => (intOf i + 1).toNat)
  case atStart => exact ⟨q.length, tv, by first | rfl | go_num, by omega, hbox.alloc _, by rw [List.drop_length]; simpa [pKids] using hown.alloc _, hKb, ⟨fun b hb _ _ => Below.heap_alloc _ _ _ hb, fun r h => .inl h⟩, hbx⟩
  clear hbx hKb hbox hown
  obtain ⟨k, tvk, rfl, hkl, hW, ho, hK, hK2, hbx⟩ := hrel
  replace hK2 := hid hK2
  have hs := hK.size
  have hne := hid (own_ne ho hgB)
  by_cases hlt : 0 < k
  · obtain ⟨j, rfl⟩ : ∃ j, k = j + 1 := ⟨k - 1, by omega⟩
    obtain ⟨⟨pt, pv⟩, hp⟩ := get_of_lt (show j < q.length by omega)
    obtain ⟨pa, pn, pc, hpv⟩ := hshape.out _ (List.mem_of_getElem? hp)
    simp only at hpv
    subst hpv
    obtain ⟨b, off, rfl, hSb, hro⟩ := hrow.resolve_left (by omega)
    have hbS := hS b hSb
    have hrw : RowAt wr b off (q.flatMap Doc.cells) := fun j u hj => (hK.cell hbS.1 hB hbS.2).trans (hro j u hj)
    have c0 := hrw.flat0 5 Doc.len hp rfl
    have c1 := hrw.flat 5 Doc.len hp 1 rfl
    have c2 := hrw.flat 5 Doc.len hp 2 rfl
    have c3 := hrw.flat 5 Doc.len hp 3 rfl
    have c4 := hrw.flat 5 Doc.len hp 4 rfl
    have b3 : wr.cell? ⟨w.heap.size, 3, none⟩ = some (.slice (some ⟨b, off, none⟩) q.length cap) := box_cell hbx rfl
    have t2 := hW.c2
    have f2 := hW.fr 2
    have hgr := hW.lt
    have hnx := pKids_drop ind f hp
    have hll : (L ++ pKids (q.drop (j + 1)) ind f).length ≤ 100000000 := by unfold pKids; simp; omega
    obtain ⟨A, hA⟩ : ∃ A, A = L ++ pKids (q.drop (j + 1)) ind f := ⟨_, rfl⟩
    rw [← hA] at ho hll
    have hA2 : L ++ pKids (q.drop j) ind f = A ++ [⟨⟨pt, ind, f⟩, .slice pa pn pc⟩] := by rw [hnx, hA]; simp
    have e1 : ((j + 1 : Nat) : Int) - 1 = (j : Int) := by omega
    have hjk : (j : Int) < (q.length : Int) := by omega
    replace hA2 := hid hA2
    rw [e1]
    replace e1 := hid e1
    replace hbx := hid hbx
    replace hW := hid hW
    clear hnx hA hp hrow hro hrw
    go_wp2_with fail
    go_region_law
      (first
        | (refine step_append_lies _ (by rfl) _ _ _ (by rfl) B 92 i0 _ 7 80 Try.underlying64 hi hz0 hz1 hz2 rfl (by omega) tvk A.length (A.flatMap PIt.cells) (by rfl) (own_drew (ho.alloc _))
            ⟨wr.heap.size, 0, none⟩ 1 1 [.int .i64 pt.kind, .int .i64 pt.n, .string pt.text, .slice pa pn pc, .int .i64 pt.group, .int .i64 ind, .bool f] (by rfl) (by rfl) (World.news_of_block (cs := #[.int .i64 pt.kind, .int .i64 pt.n, .string pt.text, .slice pa pn pc, .int .i64 pt.group, .int .i64 ind, .bool f]) (t := 92) (fr := (0, 0)) (heap_alloc_new wr _)) (by simp [Value.oneCell'])
            (by omega) (by unfold maxLen; omega) (by omega) (by simp only [World.size_drew, World.size_alloc]; omega) (wr.heap.size + 1) (by simp) ?_; intro gg cap2 w2 hown2 hgrow hat hlt3; have q2 := (hgrow.cell_far _ (by simp; omega) hne.out).trans ((((Below.refl wr.heap.size wr).alloc (Nat.le_refl _) _).cell (p := ⟨g, 2, none⟩) hgr).trans t2); have q3 := (hgrow.frozen_far _ (by simp; omega) hne.out).trans ((((Below.refl wr.heap.size wr).alloc (Nat.le_refl _) _).frozen (p := ⟨g, 2, none⟩) hgr).trans f2)))
    all_goals go_wp2
    all_goals go_roundw
    all_goals first
      | (simp [intOf]; omega)
      | (simp [intOf]; done)
      | (simp only [intOf]; omega)
      | exact (by
          have hO := own_drew (ho.alloc (.cells #[.int .i64 pt.kind, .int .i64 pt.n, .string pt.text, .slice pa pn pc, .int .i64 pt.group, .int .i64 ind, .bool f] 92))
          have hL1 : Lk g 92 B wr w2 := (Lk.of_below (((Below.refl wr.heap.size wr).alloc (Nat.le_refl _) _).drew)).trans (Lk.app hO hgrow)
          have hW2 : Wr w2 g ov c tvk := ((hW.out.alloc _).below (Below.refl _ _).drew).of (grown_at hO hgrow hgB (by simp; omega))
          refine ⟨j, _, by go_num, by omega, hW2.s2 _, ?_, hK.trans (hL1.set 2 _), ⟨fun b hb h1 h2 => ?_, fun r h9 => ?_⟩, (hL1.set 2 _).box hbx.out (by decide) (by omega)⟩
          rotate_left
          · refine (heap_setCell_other w2 ⟨g, 2, none⟩ b _ h1).trans ((hgrow.block b (by simp; omega) fun e => ?_).trans ((Below.heap_alloc wr _ b (by omega)).trans (hK2.out.1 b hb h1 h2)))
            rcases hK2.out.2 b e.symm with h | h
            · exact h2 h.symm
            · omega
          · have h8 : gg = r := by simpa [Value.ownBlock] using h9
            subst h8
            rcases hat with h | h
            · exact hK2.out.2 gg h
            · exact .inr (by omega)
          rw [hA2.out, List.length_append, List.flatMap_append]
          rw [List.length_singleton, List.flatMap_singleton]
          exact own_setCell hown2 hgB)
  · obtain rfl : k = 0 := by omega
    go_wp2
    go_end0
    exact ⟨rfl, tvk, _, hW, hpk.out.1, hpk.out.2, ho, hK, hK2.out.1⟩
end Go.Proofs.Ytfabfkaolnidiaa
