/- Walks and lemmas of this seat (FKind): what each theorem says of the functions that it names. Conditions: those that each theorem states. -/
import Derived.Test.YtgmciglaapnahaaGreatDoorRows
import Derived.Test.YtgmciglaapnahaaGreatDoorGA
import Derived.Test.YtgmciglaapnahaaGreatDoorGBD
import Derived.Test.YtgmciglaapnahaaGreatDoorGPM
import Derived.Test.YtgmciglaapnahaaGreatDoorGM
import Derived.Test.YtgmciglaapnahaaGreatDoorFBare
import Derived.Test.YtgmciglaapnahaaGreatDoorGUU
import Derived.Test.YtgmciglaapnahaaGreatDoorGHB
namespace Go.Proofs.YtgmciglaapnahaaGreatDoor
set_option linter.unusedVariables false
set_option linter.unusedSimpArgs false
open Go.RowKit

set_option maxRecDepth 100000 in
set_option maxHeartbeats 800000 in
theorem implKindCount_any (l0 : List Node) (v0 : Value) (a1 : Int) (w : World) (hx0 : ∀ x ∈ l0, x.Ok) (hn0 : bulk Node.sizes l0 ≤ 1048576) (hv0 : NodeSlc w v0 l0) (ha1 : I64 a1) :
    Calls Tryz.prog 47 #[v0, .int .i64 a1] w fun e w' => e = .returned (.int .i64 ((l0.countP (fun x => x.kind == a1) : Nat))) ∧ Below w.heap.size w w' := by
  obtain ⟨a, cap, rfl, hm, hc, hsl⟩ := hv0.shape
  go_enter Tryz.func47, Tryz.ntmps47
  go_wp2
  go_loopw [5, 10] (fun n i wr => ∃ (k q : Nat), i = .int .i64 k ∧ k ≤ l0.length ∧ n = .int .i64 q ∧ q ≤ k ∧ Below w.heap.size w wr ∧ Hid (l0.countP (fun x => x.kind == a1) = q + (l0.drop k).countP (fun x => x.kind == a1))) (fun _ i _ => l0.length - (intOf i).toNat)
  case atStart => exact ⟨0, 0, rfl, by omega, rfl, by omega, by repeat (first | exact Below.refl _ _ | refine Below.alloc ?_ (by first | omega | (simp; done) | (simp; omega)) _ | refine Below.drew ?_), by show l0.countP (fun x => x.kind == a1) = 0 + l0.countP (fun x => x.kind == a1); omega⟩
  obtain ⟨k, q, rfl, hk, rfl, hq, hb, hrel⟩ := hrel
  have hbs := hb.size
  by_cases hlt : k < l0.length
  · obtain ⟨x, ka, kc, b, off, hx, rfl, c0, c1, c2, c3, c4, hkd⟩ := hsl.at hb (Nat.le_refl _) hlt
    rw [drop_cons hx, List.countP_cons] at hrel
    clear hx hkd
    by_cases he : x.kind = a1
    · have he2 : (x.kind == a1) = true := by simpa using he
      have hrel2 : Hid (l0.countP (fun x => x.kind == a1) = (q + 1) + (l0.drop (k + 1)).countP (fun x => x.kind == a1)) := hid (by rw [hrel.out, if_pos he2]; omega)
      clear hrel he
      go_wp2
      all_goals go_roundw
      all_goals first
        | (simp [intOf]; omega)
        | exact ⟨k + 1, q + 1, by go_num, by omega, by go_num, by omega, by repeat (first | exact hb | refine Below.alloc ?_ (by first | omega | (simp; done) | (simp; omega)) _ | refine Below.drew ?_), hrel2⟩
    · have he2 : (x.kind == a1) = false := by simpa using he
      have hrel2 : Hid (l0.countP (fun x => x.kind == a1) = q + (l0.drop (k + 1)).countP (fun x => x.kind == a1)) := hid (by rw [hrel.out, if_neg (by simp [he2])]; omega)
      clear hrel he
      go_wp2
      all_goals go_roundw
      all_goals first
        | (simp [intOf]; omega)
        | exact ⟨k + 1, q, by go_num, by omega, rfl, by omega, by repeat (first | exact hb | refine Below.alloc ?_ (by first | omega | (simp; done) | (simp; omega)) _ | refine Below.drew ?_), hrel2⟩
  · go_wp2
    go_ret
    exact ⟨ret_int (by rw [hrel.out, List.drop_of_length_le (by omega)]; simp), hb⟩
end Go.Proofs.YtgmciglaapnahaaGreatDoor
/- Walks and lemmas of this seat (LFnMeasures): what each theorem says of the functions that it names. Conditions: those that each theorem states. -/
namespace Go.Proofs.YtgmciglaapnahaaGreatDoor
set_option linter.unusedVariables false
set_option linter.unusedSimpArgs false
open Go.RowKit Go.Lib

set_option maxRecDepth 100000 in
theorem specDrawMeasure_any (w : World) (bv : Value) (bs : List UInt8) (hc : Slc w bv 1 bs.length (bs.flatMap byte1)) (hs : bs.length ≤ 1048576) :
    Calls Tryz.prog 39 #[bv] w fun e w' => ∃ (v : Value) (l : List Node), e = .returned v ∧ Below w.heap.size w w' ∧ NodeSlc w' v l ∧ FineN l := by
  have hcall := hid (specl1New_any w bv bs hc hs)
  obtain ⟨_, a, cap, rfl, hcap, hm, hrow⟩ := hc
  go_enter Tryz.func39, Tryz.ntmps39
  go_wp2_with fail
  refine hcall.out.mono ?_; rintro e w1 ⟨p, rfl, hb1, hc1⟩
  have hcall2 := hid (specl7Spoilt_any _ _ _ _ _ hc1)
  clear hc1 hcall hrow
  go_wp2_with fail
  refine hcall2.out.mono ?_; rintro e w2 ⟨v, l, rfl, hg2, hc2, ho2, hf2⟩
  have hfin := hid (show Below w.heap.size w w2 ∧ NodeSlc w2 v l from ⟨hc2.old, ho2.slc⟩)
  obtain ⟨a2, cap2, rfl⟩ := ho2.vshape
  clear hc2 hcall2 hg2 ho2
  go_wp2
  go_ret
  exact ⟨_, l, rfl, hfin.out.1, hfin.out.2, hf2⟩
theorem take_sum_le {α : Type} (f : α → Nat) (M : Nat) (hf : ∀ a, f a ≤ M) : ∀ l : List α, (l.map f).sum ≤ l.length * M := by
  intro l
  induction l with
  | nil => simp
  | cons a l ih =>
    have := hf a
    simp only [List.map_cons, List.sum_cons, List.length_cons]
    rw [Nat.add_mul]; omega
theorem take_snocM {α β : Type} (f : α → β) {l : List α} {k : Nat} {x : α} (h : l[k]? = some x) : (l.take (k + 1)).map f = (l.take k).map f ++ [f x] := by rw [take_next h, List.map_append]; rfl
theorem measureOf_no {l : List Node} (h : treeOk l = false) : measureOf l = ⟨#[]⟩ := by unfold measureOf; rw [h]; rfl
theorem noComments_Ok2 {l : List Node} (hx : ∀ x ∈ l, x.Ok) (hn : bulk Node.sizes l ≤ 1048576) : ∀ y ∈ noComments l, y.Ok := by
  intro y hy
  unfold noComments at hy
  split at hy
  · rename_i hok
    have hs := treeOk_shape hok
    obtain ⟨h1, h2, _⟩ := shapeOk_yes hs
    have hsn : (rootTree l).bare.Sane := Tree.bare_sane (treeIx_sane hx (shapeOk_ahead hs) (l.length - 1) (by omega))
    have hw : (rootTree l).bare.weight ≤ 1048576 := Nat.le_trans (Tree.bare_weight _) (treeIx_weight hn hs (by omega))
    exact (Tree.addTo_fine hsn hw y hy).1
  · simp at hy

set_option maxRecDepth 100000 in
set_option maxHeartbeats 12800000 in
theorem lawFnMeasures {w : World} (bs : List UInt8) (v0 : Value) (hv0 : Slc w v0 1 bs.length (bs.flatMap byte1)) (hE0 : MeasEnv w) :
    Calls Tryz.prog 5 #[v0] w fun e w' => e = .returned (.bool true) ∧ Below w.heap.size w w' := by
  have hbig := hid (lawsbig_any v0 bs w hv0)
  by_cases hs : 1048576 < bs.length
  · have hd : decide (1048576 < bs.length) = true := by simpa using hs
    rw [hd] at hbig
    obtain ⟨_, a, cap, rfl, hcap, hm, hrow⟩ := hv0
    go_enter Tryz.func5, Tryz.ntmps5
    go_wp2_with (go_at_call 14; refine hbig.out.mono ?_; rintro e w' ⟨rfl, rfl⟩)
    go_ret
    exact ⟨rfl, Below.refl _ _⟩
  have hd : decide (1048576 < bs.length) = false := by simpa using hs
  rw [hd] at hbig
  have hdraw := hid (specDrawMeasure_any w v0 bs hv0 (by omega))
  obtain ⟨_, a, cap, rfl, hcap, hm, _⟩ := hv0
  clear hd hs
  go_enter Tryz.func5, Tryz.ntmps5
  go_wp2_with (go_at_call 14; refine hbig.out.mono ?_; rintro e w' ⟨rfl, hw'⟩; subst w')
  refine hdraw.out.mono ?_; rintro e w1 ⟨v, l, rfl, hbw, hD, hfn⟩
  have hf := hfn.fine
  have hlen := hfn.1
  obtain ⟨va, vc, rfl, hvm, hvc, hsl⟩ := hD.shape
  have hn0 : bulk Node.sizes l ≤ 1048576 := by omega
  have hE : MeasEnv w1 := hE0.below hbw
  have hws := hbw.size
  have hB := hid (fun (W : World) (hb : Below w1.heap.size w1 W) => hbw.trans (hb.mono hws))
  have hb1 := hid (Below.refl w1.heap.size w1)
  have ctree := hid (fun (W : World) (hb : Below w1.heap.size w1 W) => specTreeOk_any l _ W hf.1 hn0 (hD.mono hb (Nat.le_refl _)))
  have cmeas := hid (fun (W : World) (hb : Below w1.heap.size w1 W) => implMeasure_any l _ W hf.1 hn0 (hD.mono hb (Nat.le_refl _)) (hE.below hb))
  have csmeas := hid (fun (W : World) (hb : Below w1.heap.size w1 W) => specMeasure_any l _ W hf.1 hn0 (hD.mono hb (Nat.le_refl _)))
  by_cases hok : treeOk l = true
  · have hs := treeOk_shape hok
    obtain ⟨hl1, hl4, _⟩ := shapeOk_yes hs
    obtain ⟨x, hx⟩ := get_of_lt (l := l) (k := l.length - 1) (by omega)
    have hah := shapeOk_ahead hs
    rw [hok] at ctree
    have cpart := hid (fun (q : Int) (hq : q ∈ x.kids) (W : World) (hb : Below w1.heap.size w1 W) => specPart_any l _ q W hf.1 hn0 (hD.mono hb (Nat.le_refl _)) (by have := hah _ x hx q hq; unfold I64; omega))
    have hpx := hid (fun q => part_ok (l := l) hf.1 (by omega) q)
    have hpn := hid (fun q => part_bulk l q hn0)
    have cbr := hid (fun (q : Int) (v : Value) (W : World) (h : NodeSlc W v (part l q)) => implBranches_any (part l q) v W (hpx.out q) (hpn.out q) h)
    have cst := hid (fun (q : Int) (v : Value) (W : World) (h : NodeSlc W v (part l q)) => implStatements_any (part l q) v W (hpx.out q) (hpn.out q) h)
    have cbd := hid (fun (q : Int) (v : Value) (W : World) (h : NodeSlc W v (part l q)) => implBlockDepth_any (part l q) v W (hpx.out q) (hpn.out q) h)
    have lbr := hid (fun (W : World) (hb : Below w1.heap.size w1 W) => implBranches_any l _ W hf.1 hn0 (hD.mono hb (Nat.le_refl _)))
    have lst := hid (fun (W : World) (hb : Below w1.heap.size w1 W) => implStatements_any l _ W hf.1 hn0 (hD.mono hb (Nat.le_refl _)))
    have lbd := hid (fun (W : World) (hb : Below w1.heap.size w1 W) => implBlockDepth_any l _ W hf.1 hn0 (hD.mono hb (Nat.le_refl _)))
    have cbare := hid (fun (W : World) (hb : Below w1.heap.size w1 W) => specNoComments_any l _ W hf.1 hn0 (hD.mono hb (Nat.le_refl _)))
    have nbr := hid (fun (v : Value) (W : World) (h : NodeSlc W v (noComments l)) => implBranches_any (noComments l) v W (noComments_Ok2 hf.1 hn0) (noComments_bulk l hn0) h)
    have nst := hid (fun (v : Value) (W : World) (h : NodeSlc W v (noComments l)) => implStatements_any (noComments l) v W (noComments_Ok2 hf.1 hn0) (noComments_bulk l hn0) h)
    have ckind := hid (fun (W : World) (hb : Below w1.heap.size w1 W) => implKindCount_any l _ x.kind W hf.1 hn0 (hD.mono hb (Nat.le_refl _)) (hf.1 x (List.mem_of_getElem? hx)).2.2.1)
    rw [count_bare flat_branch (fun y hy => by unfold isBranchB; simp [hy]) hok] at nbr
    rw [count_bare flat_statement (fun y hy => by unfold isStatementB; simp [hy]) hok] at nst
    have tbr := count_root flat_branch hs hx
    have tst := count_root flat_statement hs hx
    have tbd := blocks_root hs hx
    have hkc : 1 ≤ l.countP (fun y => y.kind == x.kind) := List.countP_pos_iff.2 ⟨x, List.mem_of_getElem? hx, by simp⟩
    have hkc2 : l.countP (fun y => y.kind == x.kind) ≤ 400 := Nat.le_trans List.countP_le_length hl4
    have hbrl : l.countP isBranchB ≤ 400 := Nat.le_trans List.countP_le_length hl4
    have hstl : l.countP isStatementB ≤ 400 := Nat.le_trans List.countP_le_length hl4
    have hbdl : blockDepth l ≤ 400 := by
      have := treeIx_blocks_le hah (l.length - 1) (by omega)
      unfold blockDepth; rw [if_pos hs]; unfold rootTree; omega
    have hfb : ∀ q, (part l q).countP isBranchB ≤ 400 := fun q => part_bounds hl4 _ q
    have hfs : ∀ q, (part l q).countP isStatementB ≤ 400 := fun q => part_bounds hl4 _ q
    have hfd : ∀ q ∈ x.kids, blockDepth (part l q) ≤ 400 := fun q hq => by
      rw [(kid_part hs hx hq).1, blockDepth_tree _ (by rw [← (kid_part hs hx hq).1]; exact part_le hs hx hq)]
      obtain ⟨_, m, rfl, hm⟩ := kid_part hs hx hq
      have := treeIx_blocks_le hah m hm
      simp only [Int.toNat_natCast]
      omega
    have hkl := shapeOk_klen hs hx
    obtain ⟨n, hn⟩ : ∃ n : Nat, n = l.length - 1 := ⟨_, rfl⟩
    rw [← hn] at hx
    have hnl : n < l.length := by omega
    have hni : (l.length : Int) - 1 = (n : Int) := by omega
    obtain ⟨x', ka, kc, b, off, hx', rfl, c0, c1, c2, c3, c4, hkd⟩ := hsl.at hb1.out (Nat.le_refl _) hnl
    obtain rfl : x = x' := by rw [hx] at hx'; exact Option.some.inj hx'
    have hx63 : x.kids.length ≤ 400 := by omega
    replace tbr := hid tbr
    replace tst := hid tst
    replace tbd := hid tbd
    replace hx := hid hx
    clear hx' hs hah hok hn hkl
    go_wp2_with fail
    refine (ctree.out w1 hb1.out).mono ?_; rintro e w2 ⟨rfl, hbx⟩
    have hb2 := hid (hb1.out.trans (hbx.mono hb1.out.size))
    have e0 := (hbx.cell (p := ⟨b, off + n * 5, none⟩) (World.block_lt_of_cell? _ _ c0)).trans c0
    have e1 := (hbx.cell (p := ⟨b, off + n * 5 + 1, none⟩) (World.block_lt_of_cell? _ _ c1)).trans c1
    have e2 := (hbx.cell (p := ⟨b, off + n * 5 + 2, none⟩) (World.block_lt_of_cell? _ _ c2)).trans c2
    have e3 := (hbx.cell (p := ⟨b, off + n * 5 + 3, none⟩) (World.block_lt_of_cell? _ _ c3)).trans c3
    have e4 := (hbx.cell (p := ⟨b, off + n * 5 + 4, none⟩) (World.block_lt_of_cell? _ _ c4)).trans c4
    have hkd2 := hid (fun (W : World) (h : Below w1.heap.size w1 W) => hkd.mono h (Nat.le_refl _))
    clear hbx c0 c1 c2 c3 c4 hkd
    have hbox0 := hid (heap_alloc_new w2 (.cells #[.int .i64 x.kind, .int .i64 x.op, .string x.text, .string x.other, .slice ka x.kids.length kc] 40))
    have hba := hid (hb2.out.alloc hb2.out.size (.cells #[.int .i64 x.kind, .int .i64 x.op, .string x.text, .string x.other, .slice ka x.kids.length kc] 40))
    go_wp2
    go_loopw [5, 6, 7, 8] (fun bv sv dv i wr => ∃ (k bn sn dn : Nat), bv = .int .i64 bn ∧ sv = .int .i64 sn ∧ dv = .int .i64 dn ∧ i = .int .i64 k ∧ k ≤ x.kids.length ∧ bn ≤ 400 * k ∧ sn ≤ 400 * k ∧ dn ≤ 400 ∧ Hid (bn = ((x.kids.take k).map fun q => (part l q).countP isBranchB).sum) ∧ Hid (sn = ((x.kids.take k).map fun q => (part l q).countP isStatementB).sum) ∧ Hid (dn = maxUp ((x.kids.take k).map fun q => blockDepth (part l q))) ∧ Hid (Below w1.heap.size w1 wr) ∧ Hid (wr.heap[w2.heap.size]? = some (.cells #[.int .i64 x.kind, .int .i64 x.op, .string x.text, .string x.other, .slice ka x.kids.length kc] 40 (0, 0)))) (fun _ _ _ i _ => x.kids.length - (intOf i).toNat)
    case atStart => exact ⟨0, 0, 0, 0, rfl, rfl, rfl, rfl, by omega, by omega, by omega, by omega, hid rfl, hid rfl, hid rfl, hba, hbox0⟩
    obtain ⟨k, bn, sn, dn, rfl, rfl, rfl, rfl, hk, hb4, hs4, hd4, tb, ts, td, hbr, hbox⟩ := hrel
    rename World => wr
    have r0 : wr.cell? ⟨w2.heap.size, 0, none⟩ = some (.int .i64 x.kind) := box_cell hbox.out rfl
    have r4 : wr.cell? ⟨w2.heap.size, 4, none⟩ = some (.slice ka x.kids.length kc) := box_cell hbox.out rfl
    have hkil : x.kids.length ≤ 400 := hx63
    by_cases hlt : k < x.kids.length
    · obtain ⟨q, hq⟩ := get_of_lt hlt
      have hqm := List.mem_of_getElem? hq
      have tb2 := hid (take_snocM (fun q => (part l q).countP isBranchB) hq)
      have ts2 := hid (take_snocM (fun q => (part l q).countP isStatementB) hq)
      have td2 := hid (take_snocM (fun q => blockDepth (part l q)) hq)
      obtain ⟨_, ka', kc', hkv, hkc', hkm', hkrow⟩ := hkd2.out wr hbr.out
      simp at hkv
      obtain ⟨rfl, rfl⟩ := hkv
      obtain ⟨kb, koff, rfl, hkro⟩ := slc_some hkrow (by omega)
      have d0 := hkro.one int1_len hq rfl
      have hcp := hid (fun W h => cpart.out q hqm W h)
      have hcb := hid (fun v W h => cbr.out q v W h)
      have hcs := hid (fun v W h => cst.out q v W h)
      have hcd := hid (fun v W h => cbd.out q v W h)
      have q1 := hfb q
      have q2 := hfs q
      have q3 := hfd q hqm
      clear hq hkro hkrow hqm
      have hbl := (Array.getElem?_eq_some_iff.1 hbox.out).1
      replace tb2 := hid (show bn + (part l q).countP isBranchB = ((x.kids.take (k + 1)).map fun q => (part l q).countP isBranchB).sum by rw [tb2.out, List.sum_append, ← tb.out]; simp)
      replace ts2 := hid (show sn + (part l q).countP isStatementB = ((x.kids.take (k + 1)).map fun q => (part l q).countP isStatementB).sum by rw [ts2.out, List.sum_append, ← ts.out]; simp)
      replace td2 := hid (show max dn (blockDepth (part l q)) = maxUp ((x.kids.take (k + 1)).map fun q => blockDepth (part l q)) by rw [td2.out, maxUp_snoc, ← td.out])
      generalize (part l q).countP isBranchB = fb at *
      generalize (part l q).countP isStatementB = fs at *
      generalize blockDepth (part l q) = fd at *
      generalize part l q = P at *
      clear tb ts td hfb hfs hfd
      go_wp2_with fail
      refine (hcp.out wr hbr.out).mono ?_; rintro e w4 ⟨v4, rfl, hbx, ho4⟩
      have hbx4 := hid (hbr.out.trans (hbx.mono hbr.out.size))
      have hbox4 := hid ((hbx.block _ hbl).trans hbox.out)
      have hP4 := hid ho4.slc
      obtain ⟨a4, c4, rfl, _⟩ := hP4.out.shape
      have hbl4 := hid (Nat.lt_of_lt_of_le hbl hbx.size)
      clear hbx ho4 d0 r0 r4 hbl
      go_wp2_with fail
      refine (hcb.out _ w4 hP4.out).mono ?_; rintro e w5 ⟨rfl, hbx⟩
      have hbx5 := hid (hbx4.out.trans (hbx.mono hbx4.out.size))
      have hbox5 := hid ((hbx.block _ hbl4.out).trans hbox4.out)
      have hP5 := hid (hP4.out.mono hbx (Nat.le_refl _))
      have hbl5 := hid (Nat.lt_of_lt_of_le hbl4.out hbx.size)
      clear hbx
      go_wp2_with fail
      refine (hcs.out _ w5 hP5.out).mono ?_; rintro e w6 ⟨rfl, hbx⟩
      have hbx6 := hid (hbx5.out.trans (hbx.mono hbx5.out.size))
      have hbox6 := hid ((hbx.block _ hbl5.out).trans hbox5.out)
      have hP6 := hid (hP5.out.mono hbx (Nat.le_refl _))
      have hbl6 := hid (Nat.lt_of_lt_of_le hbl5.out hbx.size)
      clear hbx
      go_wp2_with fail
      refine (hcd.out _ w6 hP6.out).mono ?_; rintro e w7 ⟨rfl, hbx⟩
      have hbx7 := hid (hbx6.out.trans (hbx.mono hbx6.out.size))
      have hbox7 := hid ((hbx.block _ hbl6.out).trans hbox6.out)
      clear hbx hbx4 hbx5 hbx6 hbox4 hbox5 hbox6 hP4 hP5 hP6
      have hk1 : k + 1 ≤ x.kids.length := by omega
      by_cases hmx : dn < fd
      · have hmx2 : (dn : Int) < (fd : Int) := by omega
        have hmx3 : max dn fd = fd := by omega
        rw [hmx3] at td2
        clear hmx3 hmx
        go_wp2
        all_goals go_roundw
        all_goals first
          | (simp [intOf]; omega)
          | exact ⟨k + 1, bn + fb, sn + fs, fd, by go_num, by go_num, by first | rfl | (congr 1; omega), by go_num, hk1, by omega, by omega, by omega, tb2, ts2, td2, hbx7, hbox7⟩
      · have hmx2 : ¬ (dn : Int) < (fd : Int) := by omega
        have hmx3 : max dn fd = dn := by omega
        rw [hmx3] at td2
        clear hmx3 hmx
        go_wp2
        all_goals go_roundw
        all_goals first
          | (simp [intOf]; omega)
          | exact ⟨k + 1, bn + fb, sn + fs, dn, by go_num, by go_num, by first | rfl | (congr 1; omega), by go_num, hk1, by omega, by omega, by omega, tb2, ts2, td2, hbx7, hbox7⟩
    · obtain rfl : k = x.kids.length := by omega
      rw [List.take_length] at tb ts td
      have hcB : bn ≤ l.countP isBranchB ∧ l.countP isBranchB ≤ bn + 1 := by rw [tbr.out, tb.out]; split <;> omega
      have hcS : sn ≤ l.countP isStatementB ∧ l.countP isStatementB ≤ sn + 1 := by rw [tst.out, ts.out]; split <;> omega
      have hcD : dn ≤ blockDepth l ∧ blockDepth l ≤ dn + 1 := by rw [tbd.out, td.out]; split <;> omega
      have hbl := (Array.getElem?_eq_some_iff.1 hbox.out).1
      clear tb ts td tbr tst tbd hfb hfs hfd cpart cbr cst cbd hpx hpn hkd2 hx
      generalize l.countP isBranchB = cB at *
      generalize l.countP isStatementB = cS at *
      generalize blockDepth l = cD at *
      generalize noComments l = L at *
      generalize measureOf l = mt at *
      generalize l.countP (fun y => y.kind == x.kind) = cK at *
      have g1 : decide ((cB : Int) - (bn : Int) ≥ 0) = true := by simp; omega
      have g2 : decide ((cB : Int) - (bn : Int) ≤ 1) = true := by simp; omega
      have g3 : decide ((cS : Int) - (sn : Int) ≥ 0) = true := by simp; omega
      have g4 : decide ((cS : Int) - (sn : Int) ≤ 1) = true := by simp; omega
      have g5 : decide ((cD : Int) - (dn : Int) ≥ 0) = true := by simp; omega
      have g6 : decide ((cD : Int) - (dn : Int) ≤ 1) = true := by simp; omega
      have g7 : decide ((cK : Int) ≥ 1) = true := by simp; omega
      go_wp2_with fail
      refine (cbare.out wr hbr.out).mono ?_; rintro e w4 ⟨v4, rfl, hbx, ho4⟩
      have hbx4 := hid (hbr.out.trans (hbx.mono hbr.out.size))
      have hbox4 := hid ((hbx.block _ hbl).trans hbox.out)
      have hP4 := hid ho4.slc
      obtain ⟨a4, c4, rfl, _⟩ := hP4.out.shape
      have hbl4 := hid (Nat.lt_of_lt_of_le hbl hbx.size)
      clear hbx ho4 r0 r4 hbl
      go_wp2_with fail
      refine (lbr.out w4 hbx4.out).mono ?_; rintro e w5 ⟨rfl, hbx⟩
      have hbx5 := hid (hbx4.out.trans (hbx.mono hbx4.out.size))
      have hbox5 := hid ((hbx.block _ hbl4.out).trans hbox4.out)
      have hP5 := hid (hP4.out.mono hbx (Nat.le_refl _))
      have hbl5 := hid (Nat.lt_of_lt_of_le hbl4.out hbx.size)
      clear hbx
      go_wp2_with fail
      refine (lst.out w5 hbx5.out).mono ?_; rintro e w6 ⟨rfl, hbx⟩
      have hbx6 := hid (hbx5.out.trans (hbx.mono hbx5.out.size))
      have hbox6 := hid ((hbx.block _ hbl5.out).trans hbox5.out)
      have hP6 := hid (hP5.out.mono hbx (Nat.le_refl _))
      have hbl6 := hid (Nat.lt_of_lt_of_le hbl5.out hbx.size)
      clear hbx
      go_wp2_with fail
      refine (lbd.out w6 hbx6.out).mono ?_; rintro e w7 ⟨rfl, hbx⟩
      have hbx7 := hid (hbx6.out.trans (hbx.mono hbx6.out.size))
      have hbox7 := hid ((hbx.block _ hbl6.out).trans hbox6.out)
      have hP7 := hid (hP6.out.mono hbx (Nat.le_refl _))
      have hbl7 := hid (Nat.lt_of_lt_of_le hbl6.out hbx.size)
      clear hbx
      go_wp2_with fail
      refine (nst.out _ w7 hP7.out).mono ?_; rintro e w8 ⟨rfl, hbx⟩
      have hbx8 := hid (hbx7.out.trans (hbx.mono hbx7.out.size))
      have hbox8 := hid ((hbx.block _ hbl7.out).trans hbox7.out)
      have hP8 := hid (hP7.out.mono hbx (Nat.le_refl _))
      have hbl8 := hid (Nat.lt_of_lt_of_le hbl7.out hbx.size)
      clear hbx
      go_wp2_with fail
      refine (lst.out w8 hbx8.out).mono ?_; rintro e w9 ⟨rfl, hbx⟩
      have hbx9 := hid (hbx8.out.trans (hbx.mono hbx8.out.size))
      have hbox9 := hid ((hbx.block _ hbl8.out).trans hbox8.out)
      have hP9 := hid (hP8.out.mono hbx (Nat.le_refl _))
      have hbl9 := hid (Nat.lt_of_lt_of_le hbl8.out hbx.size)
      clear hbx
      go_wp2_with fail
      refine (nbr.out _ w9 hP9.out).mono ?_; rintro e w10 ⟨rfl, hbx⟩
      have hbx10 := hid (hbx9.out.trans (hbx.mono hbx9.out.size))
      have hbox10 := hid ((hbx.block _ hbl9.out).trans hbox9.out)
      have hbl10 := hid (Nat.lt_of_lt_of_le hbl9.out hbx.size)
      clear hbx
      go_wp2_with fail
      refine (lbr.out w10 hbx10.out).mono ?_; rintro e w11 ⟨rfl, hbx⟩
      have hbx11 := hid (hbx10.out.trans (hbx.mono hbx10.out.size))
      have hbox11 := hid ((hbx.block _ hbl10.out).trans hbox10.out)
      have hbl11 := hid (Nat.lt_of_lt_of_le hbl10.out hbx.size)
      clear hbx
      go_wp2_with fail
      refine (cmeas.out w11 hbx11.out).mono ?_; rintro e w12 ⟨rfl, hbx⟩
      have hbx12 := hid (hbx11.out.trans (hbx.mono hbx11.out.size))
      have hbox12 := hid ((hbx.block _ hbl11.out).trans hbox11.out)
      have hbl12 := hid (Nat.lt_of_lt_of_le hbl11.out hbx.size)
      clear hbx
      go_wp2_with fail
      refine (csmeas.out w12 hbx12.out).mono ?_; rintro e w13 ⟨rfl, hbx⟩
      have hbx13 := hid (hbx12.out.trans (hbx.mono hbx12.out.size))
      have hbox13 := ((hbx.block _ hbl12.out).trans hbox12.out)
      have z0 : w13.cell? ⟨w2.heap.size, 0, none⟩ = some (.int .i64 x.kind) := box_cell hbox13 rfl
      clear hbx hbox13
      go_wp2_with fail
      refine (ckind.out w13 hbx13.out).mono ?_; rintro e w14 ⟨rfl, hbx⟩
      have hbx14 := hid (hbx13.out.trans (hbx.mono hbx13.out.size))
      clear hbx
      go_wp2
      go_ret
      exact ⟨rfl, hB.out _ hbx14.out⟩
  · have hok : treeOk l = false := by simpa using hok
    have hm0 := measureOf_no hok
    rw [hok] at ctree
    rw [hm0] at cmeas
    clear hm0 hok csmeas
    go_wp2_with fail
    refine (ctree.out w1 hb1.out).mono ?_; rintro e w2 ⟨rfl, hbx⟩
    have hb2 := hid (hb1.out.trans (hbx.mono hb1.out.size))
    clear hbx
    go_wp2_with fail
    refine (cmeas.out w2 hb2.out).mono ?_; rintro e w3 ⟨rfl, hbx⟩
    have hb3 := hid (hb2.out.trans (hbx.mono hb2.out.size))
    clear hbx
    go_wp2
    go_ret
    exact ⟨rfl, hB.out _ hb3.out⟩
end Go.Proofs.YtgmciglaapnahaaGreatDoor
