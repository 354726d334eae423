/- Walks and lemmas of this seat (FFuncNames): what each theorem says of the functions that it names. Conditions: those that each theorem states. -/
import Derived.Test.YtndbpfamklnfaaaGR
import Derived.Test.YtndbpfamklnfaaaGA
import Derived.Test.YtndbpfamklnfaaaGV
import Derived.Deep.AppendLies
import Derived.Deep.RegionHeld3
import Derived.Deep.RegionLaw
namespace Go.Proofs.Ytndbpfamklnfaaa
set_option linter.unusedVariables false
set_option linter.unusedSimpArgs false
open Go.RowKit

/-- The names of functions as they come. -/
def fnames : List Node → List ByteArray
  | [] => []
  | x :: l => if x.kind = 7 ∨ x.kind = 44 then x.text :: fnames l else fnames l
theorem fnames_len (l : List Node) : (fnames l).length ≤ l.length := by
  induction l with
  | nil => simp [fnames]
  | cons x l ih => unfold fnames; split <;> simp <;> omega
def funcNames (l : List Node) : List ByteArray := namesT (fnames l)
theorem putT_mem {P : ByteArray → Prop} {s : ByteArray} {l : List ByteArray} (hs : P s) (hl : ∀ x ∈ l, P x) : ∀ x ∈ putT s l, P x := by
  intro x hx
  have h1 : dat x ∈ (putT s l).map dat := List.mem_map_of_mem hx
  rw [putT_dat, putN_mem] at h1
  rcases h1 with h | h
  · rw [dat_inj h]; exact hs
  · obtain ⟨y, hy, e⟩ := List.mem_map.1 h
    rw [← dat_inj e]; exact hl y hy

set_option maxRecDepth 100000 in
set_option maxHeartbeats 1600000 in
theorem specFuncNames_any (l0 : List Node) (v0 : Value) (w : World) (hx0 : ∀ x ∈ l0, x.Ok) (hn0 : bulk Node.sizes l0 ≤ 1048576) (hv0 : NodeSlc w v0 l0) :
    Calls Try.prog 11 #[v0] w fun e w' => ∃ v', e = .returned v' ∧ Below w.heap.size w w' ∧ w'.ownsRow w.heap.size 9 1 v' (funcNames l0).length ((funcNames l0).flatMap str1) := by
  obtain ⟨a, cap, rfl, hm, hc, hsl⟩ := hv0.shape
  have hn := length_bulk Node.sizes l0
  go_enter Try.func11, Try.ntmps11
  go_wp2
  go_loopw [3, 4] (fun v i wr => ∃ (k : Nat) (acc : List ByteArray), i = .int .i64 k ∧ k ≤ l0.length ∧ acc.length ≤ k ∧ (∀ x ∈ acc, x.size ≤ maxLen) ∧ Below w.heap.size w wr ∧ wr.ownsRow w.heap.size 9 1 v acc.length (acc.flatMap str1) ∧ Hid (funcNames l0 = (fnames (l0.drop k)).foldl (fun l s => putT s l) acc)) (fun _ i _ => l0.length - (intOf i).toNat)
  case atStart => exact ⟨0, [], rfl, by omega, by simp, by simp, by repeat (first | exact Below.refl _ _ | refine Below.alloc ?_ (by first | omega | (simp; done) | (simp; omega)) _ | refine Below.drew ?_), own_new0 _ _ _, hid rfl⟩
  obtain ⟨k, acc, rfl, hk, hacc, hxa, hb, hown, hrel⟩ := hrel
  have hbs := hb.size
  by_cases hlt : k < l0.length
  · obtain ⟨x, ka, kc, b, off, hx, rfl, c0, c1, c2, c3, c4, hkd⟩ := hsl.at hb (Nat.le_refl _) hlt
    have hmem := List.mem_of_getElem? hx
    rw [drop_cons hx] at hrel
    have HX := hid hx
    clear hx
    have hxo := (hx0 x hmem).1
    have hput := specl23Put_any acc _ x.text wr w.heap.size hbs (by omega) hxo hxa hown
    by_cases hk7 : x.kind = 7 ∨ x.kind = 44
    · have hr2 : Hid (funcNames l0 = (fnames (l0.drop (k + 1))).foldl (fun l s => putT s l) (putT x.text acc)) := hid (by rw [hrel.out, fnames, if_pos hk7, List.foldl_cons])
      have hpl := putT_len x.text acc
      have hpm := putT_mem (P := fun x => x.size ≤ maxLen) hxo hxa
      clear hrel HX
      replace hxa := hid hxa
      replace hpm := hid hpm
      rcases hk7 with hk7 | hk7
      all_goals go_wp2_with fail
      all_goals (refine hput.mono ?_; rintro e w2 ⟨v2, rfl, hb2, ho2⟩)
      all_goals (clear hput)
      all_goals go_wp2
      all_goals go_roundw
      all_goals first
        | (simp [intOf]; omega)
        | exact ⟨k + 1, putT x.text acc, by go_num, by omega, by omega, hpm.out, hb.trans (hb2.mono hbs), ho2, hr2⟩
    · have hr2 : Hid (funcNames l0 = (fnames (l0.drop (k + 1))).foldl (fun l s => putT s l) acc) := hid (by rw [hrel.out, fnames, if_neg hk7])
      have e1 : (x.kind == 7) = false := by simp at hk7 ⊢; exact hk7.1
      have e2 : (x.kind == 44) = false := by simp at hk7 ⊢; exact hk7.2
      clear hrel HX hput hk7
      replace hxa := hid hxa
      go_wp2
      go_roundw
      case rel => exact ⟨k + 1, acc, by go_num, by omega, by omega, hxa.out, hb, hown, hr2⟩
      case measure => simp [intOf]; omega
  · have hR : Hid (funcNames l0 = acc) := hid (by rw [hrel.out, List.drop_of_length_le (by omega)]; rfl)
    replace hxa := hid hxa
    clear hrel
    go_wp2
    go_ret
    rw [hR.out]
    exact ⟨_, rfl, hb, hown⟩

set_option maxRecDepth 100000 in
set_option maxHeartbeats 1600000 in
theorem implFuncNames_any (l0 : List Node) (v0 : Value) (w : World) (hx0 : ∀ x ∈ l0, x.Ok) (hn0 : bulk Node.sizes l0 ≤ 1048576) (hv0 : NodeSlc w v0 l0) :
    Calls Try.prog 10 #[v0] w fun e w' => ∃ v', e = .returned v' ∧ Below w.heap.size w w' ∧ w'.ownsRow w.heap.size 9 1 v' (funcNames l0).length ((funcNames l0).flatMap str1) := by
  obtain ⟨a, cap, rfl, hm, hc, hsl⟩ := hv0.shape
  have hn := length_bulk Node.sizes l0
  obtain ⟨i0, hi, hz0, hz1, hz2⟩ := info_parts Try.info9
  go_enter Try.func10, Try.ntmps10
  go_wp2
  go_loopw [3, 9] (fun v i wr => ∃ (k : Nat) (acc : List ByteArray), i = .int .i64 k ∧ k ≤ l0.length ∧ acc.length ≤ k ∧ v ≠ .slice none 0 0 ∧ Below w.heap.size w wr ∧ wr.ownsRow w.heap.size 9 1 v acc.length (acc.flatMap str1) ∧ Hid (fnames l0 = acc ++ fnames (l0.drop k))) (fun _ i _ => l0.length - (intOf i).toNat)
  case atStart => exact ⟨0, [], rfl, by omega, by simp, by simp, by repeat (first | exact Below.refl _ _ | refine Below.alloc ?_ (by first | omega | (simp; done) | (simp; omega)) _ | refine Below.drew ?_), own_new0 _ _ _, hid rfl⟩
  obtain ⟨k, acc, rfl, hk, hacc, hnil, hb, hown, hrel⟩ := hrel
  have hbs := hb.size
  by_cases hlt : k < l0.length
  · obtain ⟨x, ka, kc, b, off, hx, rfl, c0, c1, c2, c3, c4, hkd⟩ := hsl.at hb (Nat.le_refl _) hlt
    have hmem := List.mem_of_getElem? hx
    rw [drop_cons hx] at hrel
    have HX := hid hx
    clear hx
    have hnil2 := hid hnil
    clear hnil
    go_wp2_with (at_builtin; refine wpList_append_own _ rfl _ _ 26 rfl w.heap.size 9 i0 _ 1 16 Try.underlying26 hi hz0 hz1 hz2 rfl (by decide) _ acc.length (acc.flatMap str1) rfl ((hown.alloc _).alloc _) _ _ _ (str1 x.text) rfl rfl (new_cells_at _ _ _ _ _ rfl (by first | rfl | simp)) (by intro u hu; simp [str1] at hu; subst hu; rfl) (by unfold maxLen; omega) (by omega) (by simp; omega) ?_; intro v2 w2 hown2 hgr2 hiff; have hb2 := app_below ((hb.alloc hbs _).alloc (by simp; omega) _) ((hown.alloc _).alloc _) hgr2)
    all_goals go_roundw
    all_goals first
      | (simp [intOf]; omega)
      | exact ⟨k + 1, acc ++ [x.text], by go_num, by omega, by simp; omega, fun e => hnil2.out (hiff.1 e).1, hb2, by simpa using hown2, hid (by rw [hrel.out, fnames, if_pos (by simp_all)]; simp)⟩
      | exact ⟨k + 1, acc, by go_num, by omega, by omega, hnil2.out, by repeat (first | exact hb | refine Below.alloc ?_ (by first | omega | (simp; done) | (simp; omega)) _ | refine Below.drew ?_), by repeat (first | exact hown | refine World.ownsRow.alloc ?_ _), hid (by rw [hrel.out, fnames, if_neg (by simp_all)])⟩
  · have hR : Hid (fnames l0 = acc) := hid (by rw [hrel.out, List.drop_of_length_le (by omega)]; simp [fnames])
    have hcall := implonce_any acc _ wr w.heap.size (by omega) hnil hown
    replace hnil := hid hnil
    clear hrel
    go_wp2_with fail
    refine hcall.mono ?_; rintro e w2 ⟨v2, rfl, hg2, ho2⟩
    clear hcall
    go_wp2
    go_ret
    refine ⟨_, rfl, hb.grown hg2 hbs (fun r e => (hown.lt r e).1), ?_⟩
    unfold funcNames
    rw [hR.out]
    exact ho2
end Go.Proofs.Ytndbpfamklnfaaa
/- Walks and lemmas of this seat (FNamesOf): what each theorem says of the functions that it names. Conditions: those that each theorem states. -/
namespace Go.Proofs.Ytndbpfamklnfaaa
set_option linter.unusedVariables false
set_option linter.unusedSimpArgs false
open Go.RowKit

/-- What a call leaves that grows the list whose box lies in block cb. -/
structure Nw (w w' : World) (cb : Nat) (kv kv' : Value) : Prop where
  os : w'.os = w.os
  tape : w'.tape = w.tape
  output : w'.output = w.output
  size : w.heap.size ≤ w'.heap.size
  block : ∀ b, b < w.heap.size → b ≠ cb → some b ≠ kv.ownBlock → w'.heap[b]? = w.heap[b]?
  own : kv'.ownBlock = kv.ownBlock ∨ ∀ r, kv'.ownBlock = some r → w.heap.size ≤ r
theorem Nw.refl (w : World) (cb : Nat) (kv : Value) : Nw w w cb kv kv := ⟨rfl, rfl, rfl, Nat.le_refl _, fun _ _ _ _ => rfl, .inl rfl⟩
theorem Nw.trans {a b c : World} {cb : Nat} {k1 k2 k3 : Value} (h : Nw a b cb k1 k2) (k : Nw b c cb k2 k3) : Nw a c cb k1 k3 := by
  refine ⟨k.os.trans h.os, k.tape.trans h.tape, k.output.trans h.output, Nat.le_trans h.size k.size, fun i hi h1 h2 => ?_, ?_⟩
  · refine (k.block i (Nat.lt_of_lt_of_le hi h.size) h1 ?_).trans (h.block i hi h1 h2)
    rcases h.own with e | e
    · rw [e]; exact h2
    · intro e2; have := e i e2.symm; omega
  · rcases k.own with e | e
    · rcases h.own with e2 | e2
      · exact .inl (e.trans e2)
      · exact .inr fun r hr => e2 r (e ▸ hr)
    · exact .inr fun r hr => Nat.le_trans h.size (e r hr)
theorem Nw.below {W0 w w' : World} {cb : Nat} {kv kv' : Value} (h : Nw w w' cb kv kv') (hb : Below W0.heap.size W0 w) (h1 : W0.heap.size ≤ cb) (h2 : ∀ r, kv.ownBlock = some r → W0.heap.size ≤ r) : Below W0.heap.size W0 w' :=
  ⟨h.os.trans hb.os, h.tape.trans hb.tape, h.output.trans hb.output, Nat.le_trans hb.size h.size, fun i hi => (h.block i (Nat.lt_of_lt_of_le hi hb.size) (by omega) (fun e => by have := h2 i e.symm; omega)).trans (hb.block i hi)⟩
/-- Block cb holds a list of texts of the call's own, from block B on. -/
structure NIs (w : World) (cb B : Nat) (kv : Value) (acc : List ByteArray) : Prop where
  box : w.heap[cb]? = some (.cells #[kv] 26 (0, 0))
  own : w.ownsRow B 9 1 kv acc.length (acc.flatMap str1)
  ne : kv.ownBlock ≠ some cb
  le : B ≤ w.heap.size
  made : kv ≠ .slice none 0 0

theorem NIs.step {w w2 : World} {cb B gg cap2 : Nat} {kv : Value} {acc : List ByteArray} {s : ByteArray} {o : Obj} (h : NIs w cb B kv acc) (hown2 : w2.ownsRow B 9 1 (.slice (some ⟨gg, 0, none⟩) (acc.length + 1) cap2) (acc.length + 1) (acc.flatMap str1 ++ [.string s])) (hg : (w.alloc o).drew.grownBy w2 kv.ownBlock) (hat : kv.ownBlock = some gg ∨ gg = w.heap.size + 1) :
    NIs (w2.setCell ⟨cb, 0, none⟩ (.slice (some ⟨gg, 0, none⟩) (acc.length + 1) cap2)) cb B (.slice (some ⟨gg, 0, none⟩) (acc.length + 1) cap2) (acc ++ [s]) ∧ Nw w (w2.setCell ⟨cb, 0, none⟩ (.slice (some ⟨gg, 0, none⟩) (acc.length + 1) cap2)) cb kv (.slice (some ⟨gg, 0, none⟩) (acc.length + 1) cap2) := by
  have hcl : cb < w.heap.size := (Array.getElem?_eq_some_iff.1 h.box).1
  have hlo : ∀ r, kv.ownBlock = some r → B ≤ r ∧ r < w.heap.size := fun r e => h.own.lt r e
  have hle := h.le
  have hgg : gg ≠ cb := by
    rcases hat with e | e
    · intro e2; exact h.ne (by rw [e, e2])
    · omega
  have hsz : w.heap.size + 1 ≤ w2.heap.size := by have := hg.size; simpa using this
  have h12 : ∀ b, b < w.heap.size → some b ≠ kv.ownBlock → w2.heap[b]? = w.heap[b]? := fun b hb hne => (hg.block b (by simp; omega) hne).trans (Below.heap_alloc _ _ _ hb)
  have hset : ∀ b, b ≠ cb → (w2.setCell ⟨cb, 0, none⟩ (.slice (some ⟨gg, 0, none⟩) (acc.length + 1) cap2)).heap[b]? = w2.heap[b]? := fun b hb => heap_setCell_other w2 ⟨cb, 0, none⟩ b _ hb
  have hnc : some cb ≠ kv.ownBlock := fun e => h.ne e.symm
  refine ⟨⟨(heap_setCell_at ((h12 cb hcl hnc).trans h.box)).trans rfl, ?_, by simp [Value.ownBlock]; exact hgg, by simp; omega, by simp⟩, ⟨hg.os, hg.tape, hg.output, by simp; omega, fun b hb h1 h2 => (hset b h1).trans (h12 b hb h2), ?_⟩⟩
  · have e1 : (acc ++ [s]).length = acc.length + 1 := by simp
    rw [e1]
    have e2 : (acc ++ [s]).flatMap str1 = acc.flatMap str1 ++ [.string s] := by simp [str1]
    rw [e2]
    exact hown2.kept (grown_set w2 cb 0 _) (.inr (by simp [Value.ownBlock]; omega))
  · rcases hat with e | e
    · exact .inl e.symm
    · refine .inr fun r hr => ?_
      simp [Value.ownBlock] at hr
      omega

set_option maxRecDepth 100000 in
set_option maxHeartbeats 1600000 in
theorem namesClosure (s : ByteArray) (acc : List ByteArray) (pb po cb B : Nat) (kv : Value) (w : World) (hl : acc.length ≤ 4194304) (hp : w.cell? ⟨pb, po, none⟩ = some (.string s)) (h : NIs w cb B kv acc) :
    Calls Try.prog 26 #[.pointer (some ⟨pb, po, none⟩), .pointer (some ⟨cb, 0, none⟩)] w fun e w' => e = .returned (.tuple #[]) ∧ ∃ kv', NIs w' cb B kv' (acc ++ [s]) ∧ Nw w w' cb kv kv' := by
  obtain ⟨i0, hti0, hz0, hz1, hz2⟩ := info_parts Try.info9
  have cb0 : w.cell? ⟨cb, 0, none⟩ = some kv := box_cell h.box rfl
  have fb0 : w.frozen? ⟨cb, 0, none⟩ = false := box_froz h.box
  have hcl := World.block_lt_of_cell? w _ cb0
  have hcl : cb < w.heap.size := hcl
  have hne : Hid (kv.ownBlock ≠ some cb) := hid h.ne
  have hle := h.le
  replace h := hid h
  go_enter Try.func26, Try.ntmps26
  go_wp2_with fail
  go_region_law
    (first
      | (refine step_append_lies _ (by rfl) _ _ _ (by rfl) B 9 i0 _ 1 16 Try.underlying26 hti0 hz0 hz1 hz2 rfl (by omega) kv acc.length (acc.flatMap str1) (by rfl) (own_drew (h.out.own.alloc _))
          ⟨w.heap.size, 0, none⟩ 1 1 [.string s] (by rfl) (by rfl) (World.news_of_block (cs := #[.string s]) (t := 9) (fr := (0, 0)) (heap_alloc_new w _)) (by simp [Value.oneCell'])
          (by omega) (by unfold maxLen; omega) (by omega) (by simp only [World.size_drew, World.size_alloc]; omega) (w.heap.size + 1) (by simp) ?_; intro gg cap2 w2 hown2 hgrow hat hlt3; have q2 := (hgrow.cell_far _ (by simp; omega) (Ne.symm hne.out)).trans ((((Below.refl w.heap.size w).alloc (Nat.le_refl _) _).cell (p := ⟨cb, 0, none⟩) hcl).trans cb0); have q3 := (hgrow.frozen_far _ (by simp; omega) (Ne.symm hne.out)).trans ((((Below.refl w.heap.size w).alloc (Nat.le_refl _) _).frozen (p := ⟨cb, 0, none⟩) hcl).trans fb0)))
  all_goals go_end0
  all_goals exact ⟨rfl, _, (h.out.step hown2 hgrow hat).1, (h.out.step hown2 hgrow hat).2⟩

/-- The names of variables at a node. -/
def namesAt (x : Node) : List ByteArray := (if isTextK x.kind = true then [x.text] else []) ++ (if x.kind = 32 then [x.other] else [])
theorem namesAt_len (x : Node) : (namesAt x).length ≤ 2 := by unfold namesAt; split <;> split <;> simp
theorem Nw.cell {w w' : World} {cb : Nat} {kv kv' : Value} (h : Nw w w' cb kv kv') {b o : Nat} {v : Value} (hc : w.cell? ⟨b, o, none⟩ = some v) (h1 : b ≠ cb) (h2 : some b ≠ kv.ownBlock) : w'.cell? ⟨b, o, none⟩ = some v :=
  (World.cell?_of_block (a := ⟨b, o, none⟩) (h.block b (World.block_lt_of_cell? w _ hc) h1 h2)).trans hc
theorem Nw.far {w w' : World} {cb : Nat} {kv kv' : Value} (h : Nw w w' cb kv kv') {b : Nat} (hb : b < w.heap.size) (h2 : some b ≠ kv.ownBlock) : some b ≠ kv'.ownBlock := by
  rcases h.own with e | e
  · rw [e]; exact h2
  · intro e2; have := e b e2.symm; omega

set_option maxRecDepth 100000 in
set_option maxHeartbeats 1600000 in
theorem namesNamesIn (x : Node) (acc : List ByteArray) (pb cb B : Nat) (kv : Value) (w : World) (hl : acc.length ≤ 2097152) (h0 : w.cell? ⟨pb, 0, none⟩ = some (.int .i64 x.kind)) (h2 : w.cell? ⟨pb, 2, none⟩ = some (.string x.text)) (h3 : w.cell? ⟨pb, 3, none⟩ = some (.string x.other))
    (h : NIs w cb B kv acc) (hpc : pb ≠ cb) (hpk : some pb ≠ kv.ownBlock) :
    Calls Try.prog 25 #[.pointer (some ⟨pb, 0, none⟩), .func (.func 26) #[] #[.pointer (some ⟨cb, 0, none⟩)]] w fun e w' => e = .returned (.tuple #[]) ∧ ∃ kv', NIs w' cb B kv' (acc ++ namesAt x) ∧ Nw w w' cb kv kv' := by
  have hpl : pb < w.heap.size := World.block_lt_of_cell? w _ h0
  have hc1 := hid (namesClosure x.text acc pb 2 cb B kv w (by omega) h2 h)
  by_cases h32 : x.kind = 32
  · have hN : Hid (namesAt x = [x.text, x.other]) := hid (by unfold namesAt; rw [if_pos (by simp [isTextK, h32]), if_pos h32]; rfl)
    clear h
    go_enter Try.func25, Try.ntmps25
    go_wp2_with fail
    refine hc1.out.mono ?_; rintro e w1 ⟨rfl, kv1, hn1, hw1⟩
    have k0 : w1.cell? ⟨pb, 0, none⟩ = some (.int .i64 x.kind) := hw1.cell h0 hpc hpk
    have k3 : w1.cell? ⟨pb, 3, none⟩ = some (.string x.other) := hw1.cell h3 hpc hpk
    have hc2 := hid (namesClosure x.other (acc ++ [x.text]) pb 3 cb B kv1 w1 (by simp; omega) k3 hn1)
    clear hc1
    replace hn1 := hid hn1
    replace hw1 := hid hw1
    go_wp2_with fail
    refine hc2.out.mono ?_; rintro e w2 ⟨rfl, kv2, hn2, hw2⟩
    clear hc2
    go_wp2
    go_end0
    refine ⟨rfl, kv2, ?_, hw1.out.trans hw2⟩
    rw [hN.out]
    simpa using hn2
  · have hk32 : (x.kind == 32) = false := by simpa using h32
    by_cases ht : isTextK x.kind = true
    · have hN : Hid (namesAt x = [x.text]) := hid (by unfold namesAt; rw [if_pos ht, if_neg h32]; rfl)
      replace h := hid h
      go_enter Try.func25, Try.ntmps25
      go_wp2_with (go_at_call 26; refine hc1.out.mono ?_; rintro e w1 ⟨rfl, kv1, hn1, hw1⟩; have k0 : w1.cell? ⟨pb, 0, none⟩ = some (.int .i64 x.kind) := hw1.cell h0 hpc hpk; replace hn1 := hid hn1; replace hw1 := hid hw1)
      all_goals first
        | (go_end0; refine ⟨rfl, kv1, ?_, hw1.out⟩; rw [hN.out]; exact hn1.out)
        | (exfalso; simp_all [isTextK]; done)
    · have ht' : isTextK x.kind = false := by simpa using ht
      have hN : Hid (namesAt x = []) := hid (by unfold namesAt; rw [if_neg ht, if_neg h32]; rfl)
      have n1 : (x.kind == 1) = false := by cases h : (x.kind == 1) <;> simp_all [isTextK]
      have n2 : (x.kind == 5) = false := by cases h : (x.kind == 5) <;> simp_all [isTextK]
      have n3 : (x.kind == 13) = false := by cases h : (x.kind == 13) <;> simp_all [isTextK]
      have n4 : (x.kind == 27) = false := by cases h : (x.kind == 27) <;> simp_all [isTextK]
      replace h := hid h
      go_enter Try.func25, Try.ntmps25
      go_wp2
      go_end0
      refine ⟨rfl, kv, ?_, Nw.refl _ _ _⟩
      rw [hN.out, List.append_nil]
      exact h.out

def vnames : List Node → List ByteArray
  | [] => []
  | x :: l => namesAt x ++ vnames l
theorem vnames_len (l : List Node) : (vnames l).length ≤ 2 * l.length := by
  induction l with
  | nil => simp [vnames]
  | cons x l ih => have := namesAt_len x; unfold vnames; simp; omega
def namesOf (l : List Node) : List ByteArray := namesT (vnames l)

set_option maxRecDepth 100000 in
set_option maxHeartbeats 1600000 in
theorem implNamesOf_any (l0 : List Node) (v0 : Value) (w : World) (hx0 : ∀ x ∈ l0, x.Ok) (hn0 : bulk Node.sizes l0 ≤ 1048576) (hv0 : NodeSlc w v0 l0) :
    Calls Try.prog 7 #[v0] w fun e w' => ∃ v', e = .returned v' ∧ Below w.heap.size w w' ∧ w'.ownsRow w.heap.size 9 1 v' (namesOf l0).length ((namesOf l0).flatMap str1) := by
  obtain ⟨a, cap, rfl, hm, hc, hsl⟩ := hv0.shape
  have hn := length_bulk Node.sizes l0
  go_enter Try.func7, Try.ntmps7
  go_wp2
  go_loopw [9] (fun i wr => ∃ (k : Nat) (kv : Value) (acc : List ByteArray), i = .int .i64 k ∧ k ≤ l0.length ∧ acc.length ≤ 2 * k ∧ Below w.heap.size w wr ∧ NIs wr (w.heap.size + 1) w.heap.size kv acc ∧ Hid (vnames l0 = acc ++ vnames (l0.drop k))) (fun i _ => l0.length - (intOf i).toNat)
  case atStart =>
    refine ⟨0, .slice (some ⟨w.heap.size, 0, none⟩) 0 0, [], rfl, by omega, by simp, by repeat (first | exact Below.refl _ _ | refine Below.alloc ?_ (by first | omega | (simp; done) | (simp; omega)) _ | refine Below.drew ?_), ⟨?_, own_below (own_new0 _ _ _) ((Below.refl _ _).alloc (Nat.le_refl _) _) (Nat.le_refl _), by simp [Value.ownBlock], by simp; omega, by simp⟩, hid rfl⟩
    have := heap_alloc_new (w.alloc (.cells #[] 9)) (.cells #[.slice (some ⟨w.heap.size, 0, none⟩) 0 0] 26)
    simpa using this
  obtain ⟨k, kv, acc, rfl, hk, hacc, hb, hni, hrel⟩ := hrel
  have hbs := hb.size
  have hcl : w.heap.size + 1 < wr.heap.size := (Array.getElem?_eq_some_iff.1 hni.box).1
  by_cases hlt : k < l0.length
  · obtain ⟨x, ka, kc, b, off, hx, rfl, c0, c1, c2, c3, c4, hkd⟩ := hsl.at hb (Nat.le_refl _) hlt
    have hmem := List.mem_of_getElem? hx
    rw [drop_cons hx] at hrel
    have HX := hid hx
    clear hx
    have hle := namesAt_len x
    have hnw : NIs (wr.alloc (.cells #[.int .i64 x.kind, .int .i64 x.op, .string x.text, .string x.other, .slice ka x.kids.length kc] 31)) (w.heap.size + 1) w.heap.size kv acc := ⟨(Below.heap_alloc _ _ _ hcl).trans hni.box, hni.own.alloc _, hni.ne, by simp; omega, hni.made⟩
    have f0 : (wr.alloc (.cells #[.int .i64 x.kind, .int .i64 x.op, .string x.text, .string x.other, .slice ka x.kids.length kc] 31)).cell? ⟨wr.heap.size, 0, none⟩ = some (.int .i64 x.kind) := by rw [World.cell?_alloc_at _ _ _ _ rfl]; rfl
    have f2 : (wr.alloc (.cells #[.int .i64 x.kind, .int .i64 x.op, .string x.text, .string x.other, .slice ka x.kids.length kc] 31)).cell? ⟨wr.heap.size, 2, none⟩ = some (.string x.text) := by rw [World.cell?_alloc_at _ _ _ _ rfl]; rfl
    have f3 : (wr.alloc (.cells #[.int .i64 x.kind, .int .i64 x.op, .string x.text, .string x.other, .slice ka x.kids.length kc] 31)).cell? ⟨wr.heap.size, 3, none⟩ = some (.string x.other) := by rw [World.cell?_alloc_at _ _ _ _ rfl]; rfl
    have hcall := hid (namesNamesIn x acc wr.heap.size (w.heap.size + 1) w.heap.size kv _ (by omega) f0 f2 f3 hnw (by omega) (fun e => by have := (hni.own.lt _ e.symm).2; omega))
    have hob := hid (fun r e => (hni.own.lt r e).1)
    clear f0 f2 f3 hnw hni
    go_wp2_with fail
    refine hcall.out.mono ?_; rintro e w1 ⟨rfl, kv1, hn1, hw1⟩
    have hb1 := hid (hw1.below (show Below w.heap.size w (wr.alloc _) from by repeat (first | exact hb | refine Below.alloc ?_ (by first | omega | (simp; done) | (simp; omega)) _ | refine Below.drew ?_)) (by omega) hob.out)
    clear hw1 hcall hob
    replace hn1 := hid hn1
    go_wp2
    all_goals go_roundw
    all_goals first
      | (simp [intOf]; omega)
      | exact ⟨k + 1, kv1, acc ++ namesAt x, by go_num, by omega, by rw [List.length_append]; omega, hb1.out, hn1.out, hid (by rw [hrel.out, vnames]; simp)⟩
  · have hR : Hid (vnames l0 = acc) := hid (by rw [hrel.out, List.drop_of_length_le (by omega)]; simp [vnames])
    have hcall := implonce_any acc kv wr w.heap.size (by omega) hni.made hni.own
    have c0 : wr.cell? ⟨w.heap.size + 1, 0, none⟩ = some kv := box_cell hni.box rfl
    replace hni := hid hni
    clear hrel
    go_wp2_with fail
    refine hcall.mono ?_; rintro e w2 ⟨v2, rfl, hg2, ho2⟩
    clear hcall c0
    go_wp2
    go_ret
    refine ⟨_, rfl, hb.grown hg2 hbs (fun r e => (hni.out.own.lt r e).1), ?_⟩
    unfold namesOf
    rw [hR.out]
    exact ho2

end Go.Proofs.Ytndbpfamklnfaaa
