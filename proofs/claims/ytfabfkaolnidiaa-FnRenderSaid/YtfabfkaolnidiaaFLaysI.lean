/- Walks and lemmas of this seat (FLaysI): what each theorem says of the functions that it names. Conditions: those that each theorem states. -/
import Derived.Test.YtfabfkaolnidiaaFLays
import Derived.Test.YtfabfkaolnidiaaFRend
import Derived.Test.YtfabfkaolnidiaaFLayL
namespace Go.Proofs.Ytfabfkaolnidiaa
set_option linter.unusedVariables false
set_option linter.unusedSimpArgs false
open Go.RowKit

theorem containsL (PL : List ByteArray) (pv : Value) (s : ByteArray) (W : World) (hn : PL.length ≤ 9223372036854775807) (h : Slc W pv 1 PL.length (PL.flatMap str1)) :
    Calls Try.prog 48 #[pv, .string s] W fun e w' => e = .returned (.bool (decide (0 ≤ findS s PL 0))) ∧ w' = W := by
  obtain ⟨_, pa, pc, rfl, hc, hm, hrow⟩ := h
  by_cases h0 : PL.length = 0
  · have hP : PL = [] := List.eq_nil_of_length_eq_zero h0
    subst hP
    exact Try.slices_Contains_string_empty pa pc s W
  · obtain ⟨b, off, rfl, hro⟩ := hrow.resolve_left h0
    have hhas := Try.slices_Contains_string b off PL.length pc PL s W (Nat.le_refl _) hn (fun j hj => by
      obtain ⟨y, hy⟩ := get_of_lt hj
      rw [hro.one str1_len hy rfl, List.getD_eq_getElem?_getD, hy]; rfl)
    have hcon : Lib.containsS (PL.take PL.length) s = decide (0 ≤ findS s PL 0) := by rw [List.take_length]; unfold Lib.containsS; rw [idx_find]
    rw [hcon] at hhas
    exact hhas
theorem own_wf {g : Nat} {h : Option Nat} {w W : World} {B : Nat} {e : TypeId} {s n : Nat} {v : Value} {xs : List Value} (ho : w.ownsRow B e s v n xs) (x : Wf g h w W) (hne : ∀ r, v.ownBlock = some r → r ≠ g ∧ some r ≠ h) : W.ownsRow B e s v n xs := by
  refine ⟨ho.1, ?_⟩
  rcases ho.2 with h0 | ⟨r, cap, cur, rfl, hr, hgg, hc, hm, hs, ht⟩
  · exact .inl h0
  · have := hne r rfl
    refine .inr ⟨r, cap, cur, rfl, hr, ?_, hc, hm, hs, ht⟩
    rw [x.block r (heap_lt hgg) this.1 this.2]
    exact hgg
theorem FrB.refl (h : Option Nat) (w : World) : FrB h w w := ⟨rfl, rfl, rfl, Nat.le_refl _, fun _ _ _ => rfl⟩
theorem FrB.trans {h : Option Nat} {a b c : World} (x : FrB h a b) (y : FrB h b c) : FrB h a c :=
  ⟨y.os.trans x.os, y.tape.trans x.tape, y.output.trans x.output, Nat.le_trans x.size y.size, fun i hi h1 => (y.block i (Nat.lt_of_lt_of_le hi x.size) h1).trans (x.block i hi h1)⟩
/-- New blocks of the round are not among the old ones. -/
theorem FrB.wf {h h2 : Option Nat} {g : Nat} {a b c d : World} (x : FrB h a b) (y : Below b.heap.size b c) (z : Wf g h2 c d) (hg : b.heap.size ≤ g) (h2b : ∀ r, h2 = some r → b.heap.size ≤ r) : FrB h a d :=
  ⟨z.os.trans (y.os.trans x.os), z.tape.trans (y.tape.trans x.tape), z.output.trans (y.output.trans x.output), Nat.le_trans x.size (Nat.le_trans y.size z.size), fun i hi h1 =>
    (z.block i (Nat.lt_of_lt_of_le hi (Nat.le_trans x.size y.size)) (by have := x.size; omega) (fun e => by have := h2b i e.symm; have := x.size; omega)).trans ((y.block i (Nat.lt_of_lt_of_le hi x.size)).trans (x.block i hi h1))⟩
theorem FrB.app {bo : Nat} {a b c : World} {v : Value} {o : Obj} (x : FrB (some bo) a b) (hg : (b.alloc o).grownBy c v.ownBlock) (hv : ∀ r, v.ownBlock = some r → r = bo ∨ a.heap.size ≤ r) : FrB (some bo) a c := by
  have hsz := hg.size
  simp only [World.size_alloc] at hsz
  refine ⟨hg.os.trans x.os, hg.tape.trans x.tape, hg.output.trans x.output, Nat.le_trans x.size (by omega), fun i hi h1 => ?_⟩
  have h2 := x.size
  refine (hg.block i (by simp; omega) fun e => ?_).trans ((Below.heap_alloc b o i (by omega)).trans (x.block i hi h1))
  rcases hv i e.symm with h | h
  · exact h1 (by rw [h])
  · omega
theorem FrB.below {bo : Nat} {w a b : World} (x : FrB (some bo) a b) (y : Below w.heap.size w a) (hb : w.heap.size ≤ bo) : Below w.heap.size w b :=
  ⟨x.os.trans y.os, x.tape.trans y.tape, x.output.trans y.output, Nat.le_trans y.size x.size, fun i hi => (x.block i (Nat.lt_of_lt_of_le hi y.size) (fun e => by have := Option.some.inj e; omega)).trans (y.block i hi)⟩

theorem layoutLay (l0 : List DNode) (m : Nat) (hm : m ≤ 1000) (hok : docOk l0 = true) (hn0 : bulk DNode.sizes l0 ≤ 1048576) (h8 : l0.countP isGroupB ≤ 8) (g pb mb : Nat) (S : Nat → Prop) (kv : Value) (w4 : World)
    (hdoc : DocIs S w4 (rootDoc l0) kv) (hS : ∀ b, S b → b < w4.heap.size ∧ b ≠ g ∧ b ≠ pb) (hbox : Wr w4 g (.slice none 0 0) 0 (.slice none 0 0)) (hpb : w4.heap[pb]? = some (.cells #[.bool true] 4 (0, 0))) (hmb : w4.cell? ⟨mb, 0, none⟩ = some (.int .i64 m)) (hgp : pb ≠ g) (hmg : mb ≠ g) (hmp : mb ≠ pb) :
    Calls Try.prog 41 #[.pointer (some ⟨g, 0, none⟩), .agg #[.int .i64 (rootDoc l0).kind, .int .i64 (rootDoc l0).n, .string (rootDoc l0).text, kv, .int .i64 (rootDoc l0).group], .func (.func 50) #[] #[.pointer (some ⟨mb, 0, none⟩), .pointer (some ⟨pb, 0, none⟩)]] w4 fun e w5 => e = .returned (.tuple #[]) ∧ Wf g (some pb) w4 w5 ∧ w5.heap[pb]? = some (.cells #[.bool (layMask l0 m).2] 4 (0, 0)) ∧ ∃ ov col tv, Wr w5 g ov col tv ∧ w5.ownsRow w4.heap.size 5 1 ov (layMask l0 m).1.length ((layMask l0 m).1.flatMap byte1) := by
  obtain ⟨hl1, hl2, hd, s, hs, _⟩ := docOk_starts hok
  have hah := aheadD_of hs
  have hwt := wt_root hok
  refine (impllay_L g (some pb) mb pb (maskDec m) (rootDoc l0) kv S w4 (fun b hb => ⟨(hS b hb).1, (hS b hb).2.1, fun e => (hS b hb).2.2 (Option.some.inj e)⟩) hbox (fun e => hgp (Option.some.inj e)) hpb hdoc (fine_ix hah hd hn0 _ (by omega)) (by show (docIx l0 (l0.length - 1)).wt ≤ _; omega)
    (fun d => ∃ i, i < l0.length ∧ d = docIx l0 i) ?_ ⟨l0.length - 1, by omega, rfl⟩ ?_).mono ?_
  · rintro d ⟨i, hi, rfl⟩ u hu
    obtain ⟨x, hx⟩ := get_of_lt hi
    rw [(docIx_parts hah hx).2.2.2] at hu
    obtain ⟨k, hk, rfl⟩ := List.mem_map.1 hu
    have := hah i x hx k hk
    exact ⟨k.toNat, by omega, rfl⟩
  · rintro W ov tv col ok L x hfr hW hP ho hdd hw hc ⟨i, hi, hxd⟩
    obtain ⟨y, hy⟩ := get_of_lt hi
    have hgx : x.it.d.group = (((l0.take i).countP isGroupB : Nat) : Int) := by rw [hxd]; exact group_ix hah hy
    have hgl := countP_le l0 i
    have hxx := hdd x (by simp)
    have hwx : x.it.d.wt ≤ 10000 := by rw [pIts_snoc, itWts_cons] at hw; omega
    have hq : W.cell? ⟨mb, 0, none⟩ = some (.int .i64 m) := (World.cell?_of_block (a := ⟨mb, 0, none⟩) (hfr.block mb (World.block_lt_of_cell? w4 _ hmb) hmg (fun e => hmp (Option.some.inj e)))).trans hmb
    have hdec : maskDec m col (pIts L) x.it = maskB m ((l0.take i).countP isGroupB) := by
      show maskB m x.it.d.group.toNat = _
      rw [hgx]; rfl
    rw [hdec]
    exact maskClosure mb pb m _ ok W x.it.d x.kv S hm hgx (by omega) hq hP hxx.1 (Nat.le_trans (fine_flat hxx.2 hwx).1 (by omega))
  · rintro e w5 ⟨rfl, hfr, ans, hans, hpp, ov, col, tv, hW, ho⟩
    have e1 : (rootDoc l0).wt = l0.length := hwt
    have e2 : ans = layMask l0 m := by rw [hans, e1]; rfl
    rw [e2] at hpp ho
    exact ⟨rfl, hfr, hpp, ov, col, tv, hW, ho⟩

set_option maxRecDepth 100000 in
set_option maxHeartbeats 6400000 in
theorem implLayouts_any (l0 : List DNode) (v0 : Value) (w : World) (hx0 : ∀ x ∈ l0, x.Ok) (hn0 : bulk DNode.sizes l0 ≤ 1048576) (hv0 : DNodeSlc w v0 l0) :
    Calls Try.prog 16 #[v0] w fun e w' => ∃ v', e = .returned v' ∧ Below w.heap.size w w' ∧ w'.ownsRow w.heap.size 9 1 v' (layoutsOf l0).length ((layoutsOf l0).flatMap str1) := by
  obtain ⟨i0, hi, hz0, hz1, hz2⟩ := info_parts Try.info9
  have hB0 : Below w.heap.size w (w.alloc (.cells #[] 9)) := (Below.refl _ _).alloc (Nat.le_refl _) _
  have ho0 := own_new0 w 9 1
  have hv := hid hv0
  obtain ⟨a, cap, rfl, hm, hc, hsl⟩ := hv0.shape
  obtain ⟨cg, hcg⟩ : ∃ cg, cg = l0.countP isGroupB := ⟨_, rfl⟩
  have hcl : cg ≤ 1048576 := by
    have h1 := length_bulk DNode.sizes l0
    have h2 := List.countP_le_length (p := isGroupB) (l := l0)
    omega
  have hgc := implGroupsIn_any l0 (.slice a l0.length cap) (w.alloc (.cells #[] 9)) hx0 hn0 (hv.out.mono hB0 (Nat.le_refl _))
  have hdk := hid fun (W : World) (hb : Below w.heap.size w W) => implDocOk_any l0 (.slice a l0.length cap) W hx0 hn0 (hv.out.mono hb (Nat.le_refl _))
  rw [← hcg] at hgc
  by_cases hok : docOk l0 = true
  case neg =>
    have hR : Hid (layoutsOf l0 = []) := hid (by unfold layoutsOf; rw [if_neg (fun h => hok h.1)])
    have hok : docOk l0 = false := by simpa using hok
    rw [hok] at hdk
    clear hok hcg
    go_enter Try.func16, Try.ntmps16
    go_wp2_with fail
    refine hgc.mono ?_; rintro e w1 ⟨rfl, hb1⟩
    have hB1 := hid (hB0.trans (hb1.mono (by simp)))
    have hO1 := hid (own_below ho0 hb1 (Nat.le_refl _))
    go_wp2_with fail
    refine (hdk.out _ hB1.out).mono ?_; rintro e w2 ⟨rfl, hb2⟩
    have hB2 := hid (hB1.out.trans (hb2.mono hB1.out.size))
    have hO2 := hid (own_below hO1.out hb2 (Nat.le_refl _))
    go_wp2
    go_ret
    exact ⟨_, rfl, hB2.out, by rw [hR.out]; exact hO2.out⟩
  rw [hok] at hdk
  by_cases h8 : cg ≤ 8
  case neg =>
    have hR : Hid (layoutsOf l0 = []) := hid (by unfold layoutsOf; rw [← hcg, if_neg (fun h => h8 h.2)])
    clear hok hcg
    go_enter Try.func16, Try.ntmps16
    go_wp2_with fail
    refine hgc.mono ?_; rintro e w1 ⟨rfl, hb1⟩
    have hB1 := hid (hB0.trans (hb1.mono (by simp)))
    have hO1 := hid (own_below ho0 hb1 (Nat.le_refl _))
    go_wp2_with fail
    refine (hdk.out _ hB1.out).mono ?_; rintro e w2 ⟨rfl, hb2⟩
    have hB2 := hid (hB1.out.trans (hb2.mono hB1.out.size))
    have hO2 := hid (own_below hO1.out hb2 (Nat.le_refl _))
    go_wp2
    go_ret
    exact ⟨_, rfl, hB2.out, by rw [hR.out]; exact hO2.out⟩
  have hR : Hid (layoutsOf l0 = layoutsTo l0 (2 ^ cg)) := hid (by unfold layoutsOf; rw [← hcg, if_pos ⟨hok, h8⟩])
  obtain ⟨hp1, hp2⟩ := pow_le h8
  obtain ⟨pw, hpw⟩ : ∃ pw : Nat, pw = 2 ^ cg := ⟨_, rfl⟩
  rw [← hpw] at hp1 hp2 hR
  have hsh : IntKind.wrap .i64 (2 ^ cg) = (pw : Int) := by rw [hpw, show ((2 : Int) ^ cg) = ((2 ^ cg : Nat) : Int) by push_cast; rfl, wrap_nat _ (by omega)]
  have hcg0 : (0 : Int) ≤ (cg : Int) := by omega
  have hcg64 : (cg : Int) ≤ 64 := by omega
  have hdof := hid fun (W : World) (hb : Below w.heap.size w W) => impldocOf_any l0 (.slice a l0.length cap) W hx0 hn0 (hv.out.mono hb (Nat.le_refl _)) hok
  have hlay := hid fun (m : Nat) (hm9 : m ≤ 1000) => layoutLay l0 m hm9 hok hn0 (by omega)
  clear hok hcg hpw hsl
  go_enter Try.func16, Try.ntmps16
  go_wp2_with fail
  refine hgc.mono ?_; rintro e w1 ⟨rfl, hb1⟩
  have hB1 := hid (hB0.trans (hb1.mono (by simp)))
  have hO1 := hid (own_below ho0 hb1 (Nat.le_refl _))
  have hs0 : w.heap.size + 1 ≤ w1.heap.size := by have := hb1.size; simpa using this
  clear hgc hB0 ho0 hb1
  go_wp2_with fail
  refine (hdk.out _ hB1.out).mono ?_; rintro e w2 ⟨rfl, hb2⟩
  have hB2 := hid (hB1.out.trans (hb2.mono hB1.out.size))
  have hO2 := hid (own_below hO1.out hb2 (Nat.le_refl _))
  have hs2 := hb2.size
  clear hdk hB1 hO1 hb2
  go_wp2_with fail
  refine (hdof.out _ hB2.out).mono ?_; rintro e w3 ⟨ka, kn, kc, rfl, hb3, hdoc⟩
  have hs3 := hb3.size
  have hBD : Hid (Below w.heap.size w (w3.alloc (.cells #[.int .i64 (rootDoc l0).kind, .int .i64 (rootDoc l0).n, .string (rootDoc l0).text, .slice ka kn kc, .int .i64 (rootDoc l0).group] 70))) := hid ((hB2.out.trans (hb3.mono hB2.out.size)).alloc (by have := hB2.out.size; omega) _)
  have hOD : Hid ((w3.alloc (.cells #[.int .i64 (rootDoc l0).kind, .int .i64 (rootDoc l0).n, .string (rootDoc l0).text, .slice ka kn kc, .int .i64 (rootDoc l0).group] 70)).ownsRow w.heap.size 9 1 (.slice (some ⟨w.heap.size, 0, none⟩) 0 0) 0 []) := hid ((own_below hO2.out hb3 (Nat.le_refl _)).alloc _)
  have hRD : Hid ((w3.alloc (.cells #[.int .i64 (rootDoc l0).kind, .int .i64 (rootDoc l0).n, .string (rootDoc l0).text, .slice ka kn kc, .int .i64 (rootDoc l0).group] 70)).heap[w3.heap.size]? = some (.cells #[.int .i64 (rootDoc l0).kind, .int .i64 (rootDoc l0).n, .string (rootDoc l0).text, .slice ka kn kc, .int .i64 (rootDoc l0).group] 70 (0, 0))) := hid (heap_alloc_new w3 _)
  have hDD : Hid (DocIs (fun b => w2.heap.size ≤ b ∧ b < w3.heap.size) (w3.alloc (.cells #[.int .i64 (rootDoc l0).kind, .int .i64 (rootDoc l0).n, .string (rootDoc l0).text, .slice ka kn kc, .int .i64 (rootDoc l0).group] 70)) (rootDoc l0) (.slice ka kn kc)) := hid (hdoc.keep fun b hb hlt => ⟨Below.heap_alloc _ _ _ hlt, hb, hlt⟩)
  have hszD : (w3.alloc (.cells #[.int .i64 (rootDoc l0).kind, .int .i64 (rootDoc l0).n, .string (rootDoc l0).text, .slice ka kn kc, .int .i64 (rootDoc l0).group] 70)).heap.size = w3.heap.size + 1 := by simp
  clear hdoc hb3 hO2 hB2 hdof
  generalize hrd : rootDoc l0 = rd at hBD hOD hRD hDD hszD hlay ⊢
  replace hrd := hid hrd
  go_wp2_with fail
  generalize (w3.alloc (.cells #[.int .i64 rd.kind, .int .i64 rd.n, .string rd.text, .slice ka kn kc, .int .i64 rd.group] 70)) = wD at hBD hOD hRD hDD hszD ⊢
  go_loopw [3, 25] (fun ov mv wr => ∃ (k : Nat) (on : Value), on = ov ∧ mv = .int .i64 k ∧ k ≤ pw ∧ FrB (some w.heap.size) wD wr ∧ wr.ownsRow w.heap.size 9 1 on (layoutsTo l0 k).length ((layoutsTo l0 k).flatMap str1) ∧ (∀ r, on.ownBlock = some r → r = w.heap.size ∨ wD.heap.size ≤ r)) (fun _ mv _ => pw - (intOf mv).toNat)
  case atStart => exact ⟨0, _, rfl, rfl, by omega, FrB.refl _ _, hOD.out, fun r e => .inl (by simpa [Value.ownBlock] using e.symm)⟩
  clear hOD
  rename World => wr
  obtain ⟨k, ov, rfl, rfl, hk, hF, ho, how⟩ := hrel
  have hFs := hF.size
  by_cases hlt : k < pw
  case neg =>
    obtain rfl : k = pw := by omega
    go_wp2
    go_ret
    exact ⟨_, rfl, hF.below hBD.out (Nat.le_refl _), by rw [hR.out]; exact ho⟩
  have hki : (k : Int) < (pw : Int) := by omega
  have hT := hid (layoutsTo_len l0 k)
  have hstep : Hid (layoutsTo l0 (k + 1) = if (layMask l0 k).2 = true ∧ findS ⟨(layMask l0 k).1.toArray⟩ (layoutsTo l0 k) 0 < 0 then layoutsTo l0 k ++ [⟨(layMask l0 k).1.toArray⟩] else layoutsTo l0 k) := hid rfl
  have hTl : (layoutsTo l0 k).length ≤ 256 := by have := hT.out; omega
  have hrb := (hF.block w3.heap.size (by omega) (fun e => by have := Option.some.inj e; omega)).trans hRD.out
  -- the world of the round
  have hBr : Hid (Below wr.heap.size wr (((wr.alloc (.cells #[.int .i64 k] 3)).alloc (.cells #[.slice none 0 0, .int .i64 0, .slice none 0 0] 66)).alloc (.cells #[.bool true] 4))) := hid ((((Below.refl _ _).alloc (Nat.le_refl _) _).alloc (by simp) _).alloc (by simp; omega) _)
  have hMr : Hid ((((wr.alloc (.cells #[.int .i64 k] 3)).alloc (.cells #[.slice none 0 0, .int .i64 0, .slice none 0 0] 66)).alloc (.cells #[.bool true] 4)).cell? ⟨wr.heap.size, 0, none⟩ = some (.int .i64 k)) := hid (carryA _ (box_cell (lt0 wr _ _) rfl))
  have hWr : Hid (Wr (((wr.alloc (.cells #[.int .i64 k] 3)).alloc (.cells #[.slice none 0 0, .int .i64 0, .slice none 0 0] 66)).alloc (.cells #[.bool true] 4)) (wr.heap.size + 1) (.slice none 0 0) 0 (.slice none 0 0)) := hid (Wr.alloc (show Wr _ (wr.heap.size + 1) (.slice none 0 0) 0 (.slice none 0 0) from lt1 wr _ _) _)
  have hPr : Hid ((((wr.alloc (.cells #[.int .i64 k] 3)).alloc (.cells #[.slice none 0 0, .int .i64 0, .slice none 0 0] 66)).alloc (.cells #[.bool true] 4)).heap[wr.heap.size + 1 + 1]? = some (.cells #[.bool true] 4 (0, 0))) := hid (by
    have h9 := lt1 (wr.alloc (.cells #[.int .i64 k] 3)) (.cells #[.slice none 0 0, .int .i64 0, .slice none 0 0] 66) (.cells #[.bool true] 4)
    rw [World.size_alloc] at h9
    exact h9)
  have hszr : Hid ((((wr.alloc (.cells #[.int .i64 k] 3)).alloc (.cells #[.slice none 0 0, .int .i64 0, .slice none 0 0] 66)).alloc (.cells #[.bool true] 4)).heap.size = wr.heap.size + 3) := hid (by simp)
  have hRr : Hid ((((wr.alloc (.cells #[.int .i64 k] 3)).alloc (.cells #[.slice none 0 0, .int .i64 0, .slice none 0 0] 66)).alloc (.cells #[.bool true] 4)).heap[w3.heap.size]? = some (.cells #[.int .i64 rd.kind, .int .i64 rd.n, .string rd.text, .slice ka kn kc, .int .i64 rd.group] 70 (0, 0))) := hid ((hBr.out.block w3.heap.size (by omega)).trans hrb)
  have hDr : Hid (DocIs (fun b => w2.heap.size ≤ b ∧ b < w3.heap.size) (((wr.alloc (.cells #[.int .i64 k] 3)).alloc (.cells #[.slice none 0 0, .int .i64 0, .slice none 0 0] 66)).alloc (.cells #[.bool true] 4)) rd (.slice ka kn kc)) := hid (hDD.out.keep fun b hb hlt9 => ⟨(hBr.out.block b (by omega)).trans (hF.block b hlt9 (fun e => by have := Option.some.inj e; omega)), hb⟩)
  have hOr : Hid ((((wr.alloc (.cells #[.int .i64 k] 3)).alloc (.cells #[.slice none 0 0, .int .i64 0, .slice none 0 0] 66)).alloc (.cells #[.bool true] 4)).ownsRow w.heap.size 9 1 ov (layoutsTo l0 k).length ((layoutsTo l0 k).flatMap str1)) := hid (((ho.alloc _).alloc _).alloc _)
  have hlk := hid fun W (h1 : DocIs (fun b => w2.heap.size ≤ b ∧ b < w3.heap.size) W rd (.slice ka kn kc)) h2 h3 h4 h5 => hlay.out k (by omega) (wr.heap.size + 1) (wr.heap.size + 1 + 1) wr.heap.size (fun b => w2.heap.size ≤ b ∧ b < w3.heap.size) (.slice ka kn kc) W h1 h2 h3 h4 h5 (by omega) (by omega) (by omega)
  generalize hE : layMask l0 k = E at hstep hlk
  obtain ⟨eo, eb⟩ := E
  replace hE := hid hE
  have hns := hid fun (s : ByteArray) (W : World) (hO : W.ownsRow w.heap.size 9 1 ov (layoutsTo l0 k).length ((layoutsTo l0 k).flatMap str1)) => containsL (layoutsTo l0 k) ov s W (by have := hT.out; omega) (Slc.of_own hO)
  have hol := hid fun r (e : ov.ownBlock = some r) => (ho.lt r e).2
  generalize layoutsTo l0 k = T at ho hstep hns hTl hOr
  replace ho := hid ho
  replace how := hid how
  obtain ⟨oa, oc, rfl, hocm⟩ := own_slice ho.out
  have r0 : (((wr.alloc (.cells #[.int .i64 k] 3)).alloc (.cells #[.slice none 0 0, .int .i64 0, .slice none 0 0] 66)).alloc (.cells #[.bool true] 4)).cell? ⟨w3.heap.size, 0, none⟩ = some (.int .i64 rd.kind) := box_cell hRr.out rfl
  have r1 : (((wr.alloc (.cells #[.int .i64 k] 3)).alloc (.cells #[.slice none 0 0, .int .i64 0, .slice none 0 0] 66)).alloc (.cells #[.bool true] 4)).cell? ⟨w3.heap.size, 1, none⟩ = some (.int .i64 rd.n) := box_cell hRr.out rfl
  have r2 : (((wr.alloc (.cells #[.int .i64 k] 3)).alloc (.cells #[.slice none 0 0, .int .i64 0, .slice none 0 0] 66)).alloc (.cells #[.bool true] 4)).cell? ⟨w3.heap.size, 2, none⟩ = some (.string rd.text) := box_cell hRr.out rfl
  have r3 : (((wr.alloc (.cells #[.int .i64 k] 3)).alloc (.cells #[.slice none 0 0, .int .i64 0, .slice none 0 0] 66)).alloc (.cells #[.bool true] 4)).cell? ⟨w3.heap.size, 3, none⟩ = some (.slice ka kn kc) := box_cell hRr.out rfl
  have r4 : (((wr.alloc (.cells #[.int .i64 k] 3)).alloc (.cells #[.slice none 0 0, .int .i64 0, .slice none 0 0] 66)).alloc (.cells #[.bool true] 4)).cell? ⟨w3.heap.size, 4, none⟩ = some (.int .i64 rd.group) := box_cell hRr.out rfl
  go_wp2_with fail
  generalize (((wr.alloc (.cells #[.int .i64 k] 3)).alloc (.cells #[.slice none 0 0, .int .i64 0, .slice none 0 0] 66)).alloc (.cells #[.bool true] 4)) = w4 at r0 r1 r2 r3 r4 hBr hMr hWr hPr hszr hRr hDr hOr ⊢
  have hS4 : ∀ b, (w2.heap.size ≤ b ∧ b < w3.heap.size) → b < w4.heap.size ∧ b ≠ wr.heap.size + 1 ∧ b ≠ wr.heap.size + 1 + 1 := fun b hb => by
    have := hszr.out
    omega
  refine (hlk.out w4 hDr.out hS4 hWr.out hPr.out hMr.out).mono ?_; rintro e w5 ⟨rfl, hf5, hp5, wv, col, tv, hW5, ho5⟩
  have hO5 : w5.ownsRow w.heap.size 9 1 (.slice oa T.length oc) T.length (T.flatMap str1) := own_wf hOr.out hf5 (fun r e => by
    have h9 := hol.out r e
    exact ⟨by omega, fun e2 => by have := Option.some.inj e2; omega⟩)
  have hF5 : FrB (some w.heap.size) wD w5 := hF.wf hBr.out hf5 (by omega) (fun r e => by have := Option.some.inj e; omega)
  have hs5 := hF5.size
  have t0 := hW5.c0
  have p0 : w5.cell? ⟨wr.heap.size + 1 + 1, 0, none⟩ = some (.bool eb) := box_cell hp5 rfl
  obtain ⟨va, vc, rfl, hvm⟩ := own_slice ho5
  have hcv := own_text ho5
  clear hf5 hp5 hW5 ho5 r0 r1 r2 r3 r4 hlk hBr hMr hWr hPr hszr hRr hDr hOr hF hrb hS4
  replace hF5 := hid hF5
  cases eb with
  | false =>
    have hst : Hid (layoutsTo l0 (k + 1) = T) := hid (by rw [hstep.out, if_neg (fun h => by cases h.1)])
    clear hstep hns
    go_wp2
    go_roundw
    case measure => simp [intOf]; omega
    case rel => exact ⟨k + 1, _, rfl, by go_num, by omega, hF5.out, by rw [hst.out]; exact hO5, how.out⟩
  | true =>
    simp only [true_and] at hstep
    have hfl := findS_lo (⟨eo.toArray⟩ : ByteArray) T 0
    have hns1 := hid (hns.out ⟨eo.toArray⟩ w5 hO5)
    clear hns
    generalize (⟨eo.toArray⟩ : ByteArray) = sb at hcv hstep hns1 hfl
    generalize hfd : findS sb T 0 = fd at hstep hns1 hfl
    by_cases hneg : fd < 0
    · have hst : Hid (layoutsTo l0 (k + 1) = T ++ [sb]) := hid (by rw [hstep.out, if_pos hneg])
      rw [show decide (0 ≤ fd) = false from by simpa using hneg] at hns1
      clear hstep hfl hfd hneg
      go_wp2_with (first
        | (go_at_call 48; refine hns1.out.mono ?_; rintro e w6 ⟨rfl, rfl⟩)
        | (at_builtin; refine wpList_append_lies _ (by rfl) _ _ _ (by rfl) w.heap.size 9 i0 _ 1 16 Try.underlying32 hi hz0 hz1 hz2 rfl (by omega) _ T.length (T.flatMap str1) (by rfl) (hO5.alloc _) ⟨w6.heap.size, 0, none⟩ 1 1 (str1 sb) (by rfl) (by rfl) (World.news_of_block (cs := #[.string sb]) (t := 9) (fr := (0, 0)) (heap_alloc_new w6 _)) (by simp [Value.oneCell', str1]) (by omega) (by unfold maxLen; omega) (by omega) (by simp; omega) (w6.heap.size + 1) (by simp) ?_; intro gg cap7 w7 hown7 hgr7 hat7 hlt7))
      all_goals go_roundw
      all_goals first
        | (simp [intOf]; omega)
        | exact ⟨k + 1, _, rfl, by go_num, by omega, hF5.out.app hgr7 how.out, by rw [hst.out, List.length_append, List.flatMap_append, List.flatMap_singleton]; exact hown7, fun r e => by
            have h8 : gg = r := by simpa [Value.ownBlock] using e
            subst h8
            rcases hat7 with h | h
            · exact how.out gg h
            · exact .inr (by omega)⟩
    · have hst : Hid (layoutsTo l0 (k + 1) = T) := hid (by rw [hstep.out, if_neg hneg])
      rw [show decide (0 ≤ fd) = true from by simp; omega] at hns1
      clear hstep hfl hfd hneg
      go_wp2_with (go_at_call 48; refine hns1.out.mono ?_; rintro e w6 ⟨rfl, rfl⟩)
      all_goals go_roundw
      all_goals first
        | (simp [intOf]; omega)
        | exact ⟨k + 1, _, rfl, by go_num, by omega, hF5.out, by rw [hst.out]; exact hO5, how.out⟩
end Go.Proofs.Ytfabfkaolnidiaa
