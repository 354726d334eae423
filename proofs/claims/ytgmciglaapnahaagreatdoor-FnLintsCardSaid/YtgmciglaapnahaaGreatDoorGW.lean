/- Walks and lemmas of this seat (FFuncNames): what each theorem says of the functions that it names. Conditions: those that each theorem states. -/
import Derived.Test.YtgmciglaapnahaaGreatDoorGR
import Derived.Test.YtgmciglaapnahaaGreatDoorGA
import Derived.Test.YtgmciglaapnahaaGreatDoorGV
import Derived.Deep.AppendLies
import Derived.Deep.RegionHeld3
import Derived.Deep.RegionLaw
namespace Go.Proofs.YtgmciglaapnahaaGreatDoor
set_option linter.unusedVariables false
set_option linter.unusedSimpArgs false
open Go.RowKit

theorem putT_mem {P : ByteArray → Prop} {s : ByteArray} {l : List ByteArray} (hs : P s) (hl : ∀ x ∈ l, P x) : ∀ x ∈ putT s l, P x := by
  intro x hx
  have h1 : dat x ∈ (putT s l).map dat := List.mem_map_of_mem hx
  rw [putT_dat, putN_mem] at h1
  rcases h1 with h | h
  · rw [dat_inj h]; exact hs
  · obtain ⟨y, hy, e⟩ := List.mem_map.1 h
    rw [← dat_inj e]; exact hl y hy

end Go.Proofs.YtgmciglaapnahaaGreatDoor
/- Walks and lemmas of this seat (FNamesOf): what each theorem says of the functions that it names. Conditions: those that each theorem states. -/
namespace Go.Proofs.YtgmciglaapnahaaGreatDoor
set_option linter.unusedVariables false
set_option linter.unusedSimpArgs false
open Go.RowKit

/-- What a call leaves that grows the list whose box lies in block cb. -/
structure Nw (w w' : World) (cb : Nat) (kv kv' : Value) : Prop where
  os : w'.os = w.os
  tape : w'.tape = w.tape
  output : w'.output = w.output
  size : w.heap.size ≤ w'.heap.size
  block : ∀ b, b < w.heap.size → b ≠ cb → some b ≠ kv.ownBlock → w'.heap[b]? = w.heap[b]?
  own : kv'.ownBlock = kv.ownBlock ∨ ∀ r, kv'.ownBlock = some r → w.heap.size ≤ r
theorem Nw.refl (w : World) (cb : Nat) (kv : Value) : Nw w w cb kv kv := ⟨rfl, rfl, rfl, Nat.le_refl _, fun _ _ _ _ => rfl, .inl rfl⟩
theorem Nw.trans {a b c : World} {cb : Nat} {k1 k2 k3 : Value} (h : Nw a b cb k1 k2) (k : Nw b c cb k2 k3) : Nw a c cb k1 k3 := by
  refine ⟨k.os.trans h.os, k.tape.trans h.tape, k.output.trans h.output, Nat.le_trans h.size k.size, fun i hi h1 h2 => ?_, ?_⟩
  · refine (k.block i (Nat.lt_of_lt_of_le hi h.size) h1 ?_).trans (h.block i hi h1 h2)
    rcases h.own with e | e
    · rw [e]; exact h2
    · intro e2; have := e i e2.symm; omega
  · rcases k.own with e | e
    · rcases h.own with e2 | e2
      · exact .inl (e.trans e2)
      · exact .inr fun r hr => e2 r (e ▸ hr)
    · exact .inr fun r hr => Nat.le_trans h.size (e r hr)
theorem Nw.below {W0 w w' : World} {cb : Nat} {kv kv' : Value} (h : Nw w w' cb kv kv') (hb : Below W0.heap.size W0 w) (h1 : W0.heap.size ≤ cb) (h2 : ∀ r, kv.ownBlock = some r → W0.heap.size ≤ r) : Below W0.heap.size W0 w' :=
  ⟨h.os.trans hb.os, h.tape.trans hb.tape, h.output.trans hb.output, Nat.le_trans hb.size h.size, fun i hi => (h.block i (Nat.lt_of_lt_of_le hi hb.size) (by omega) (fun e => by have := h2 i e.symm; omega)).trans (hb.block i hi)⟩
/-- Block cb holds a list of texts of the call's own, from block B on. -/
structure NIs (w : World) (cb B : Nat) (kv : Value) (acc : List ByteArray) : Prop where
  box : w.heap[cb]? = some (.cells #[kv] 26 (0, 0))
  own : w.ownsRow B 9 1 kv acc.length (acc.flatMap str1)
  ne : kv.ownBlock ≠ some cb
  le : B ≤ w.heap.size
  made : kv ≠ .slice none 0 0

theorem NIs.step {w w2 : World} {cb B gg cap2 : Nat} {kv : Value} {acc : List ByteArray} {s : ByteArray} {o : Obj} (h : NIs w cb B kv acc) (hown2 : w2.ownsRow B 9 1 (.slice (some ⟨gg, 0, none⟩) (acc.length + 1) cap2) (acc.length + 1) (acc.flatMap str1 ++ [.string s])) (hg : (w.alloc o).drew.grownBy w2 kv.ownBlock) (hat : kv.ownBlock = some gg ∨ gg = w.heap.size + 1) :
    NIs (w2.setCell ⟨cb, 0, none⟩ (.slice (some ⟨gg, 0, none⟩) (acc.length + 1) cap2)) cb B (.slice (some ⟨gg, 0, none⟩) (acc.length + 1) cap2) (acc ++ [s]) ∧ Nw w (w2.setCell ⟨cb, 0, none⟩ (.slice (some ⟨gg, 0, none⟩) (acc.length + 1) cap2)) cb kv (.slice (some ⟨gg, 0, none⟩) (acc.length + 1) cap2) := by
  have hcl : cb < w.heap.size := (Array.getElem?_eq_some_iff.1 h.box).1
  have hlo : ∀ r, kv.ownBlock = some r → B ≤ r ∧ r < w.heap.size := fun r e => h.own.lt r e
  have hle := h.le
  have hgg : gg ≠ cb := by
    rcases hat with e | e
    · intro e2; exact h.ne (by rw [e, e2])
    · omega
  have hsz : w.heap.size + 1 ≤ w2.heap.size := by have := hg.size; simpa using this
  have h12 : ∀ b, b < w.heap.size → some b ≠ kv.ownBlock → w2.heap[b]? = w.heap[b]? := fun b hb hne => (hg.block b (by simp; omega) hne).trans (Below.heap_alloc _ _ _ hb)
  have hset : ∀ b, b ≠ cb → (w2.setCell ⟨cb, 0, none⟩ (.slice (some ⟨gg, 0, none⟩) (acc.length + 1) cap2)).heap[b]? = w2.heap[b]? := fun b hb => heap_setCell_other w2 ⟨cb, 0, none⟩ b _ hb
  have hnc : some cb ≠ kv.ownBlock := fun e => h.ne e.symm
  refine ⟨⟨(heap_setCell_at ((h12 cb hcl hnc).trans h.box)).trans rfl, ?_, by simp [Value.ownBlock]; exact hgg, by simp; omega, by simp⟩, ⟨hg.os, hg.tape, hg.output, by simp; omega, fun b hb h1 h2 => (hset b h1).trans (h12 b hb h2), ?_⟩⟩
  · have e1 : (acc ++ [s]).length = acc.length + 1 := by simp
    rw [e1]
    have e2 : (acc ++ [s]).flatMap str1 = acc.flatMap str1 ++ [.string s] := by simp [str1]
    rw [e2]
    exact hown2.kept (grown_set w2 cb 0 _) (.inr (by simp [Value.ownBlock]; omega))
  · rcases hat with e | e
    · exact .inl e.symm
    · refine .inr fun r hr => ?_
      simp [Value.ownBlock] at hr
      omega

theorem Nw.cell {w w' : World} {cb : Nat} {kv kv' : Value} (h : Nw w w' cb kv kv') {b o : Nat} {v : Value} (hc : w.cell? ⟨b, o, none⟩ = some v) (h1 : b ≠ cb) (h2 : some b ≠ kv.ownBlock) : w'.cell? ⟨b, o, none⟩ = some v :=
  (World.cell?_of_block (a := ⟨b, o, none⟩) (h.block b (World.block_lt_of_cell? w _ hc) h1 h2)).trans hc
theorem Nw.far {w w' : World} {cb : Nat} {kv kv' : Value} (h : Nw w w' cb kv kv') {b : Nat} (hb : b < w.heap.size) (h2 : some b ≠ kv.ownBlock) : some b ≠ kv'.ownBlock := by
  rcases h.own with e | e
  · rw [e]; exact h2
  · intro e2; have := e b e2.symm; omega

end Go.Proofs.YtgmciglaapnahaaGreatDoor
/- Walks and lemmas of this seat (FUndef): what each theorem says of the functions that it names. Conditions: those that each theorem states. -/
namespace Go.Proofs.YtgmciglaapnahaaGreatDoor
set_option linter.unusedVariables false
set_option linter.unusedSimpArgs false
open Go.RowKit

/-- Is a node a function of that name? -/
def isDefn (name : ByteArray) (o : Node) : Bool := o.kind == 44 && o.text.toList == name.toList
def firstIx (p : Node → Bool) : List Node → Nat → Int
  | [], _ => -1
  | x :: l, k => if p x = true then (k : Int) else firstIx p l (k + 1)
theorem firstIx_any (p : Node → Bool) : ∀ (l : List Node) (k : Nat), decide (0 ≤ firstIx p l k) = l.any p := by
  intro l
  induction l with
  | nil => intro k; rfl
  | cons x l ih =>
    intro k
    rw [firstIx, List.any_cons]
    cases h : p x with
    | true => simp
    | false => rw [if_neg (by simp), Bool.false_or]; exact ih _

set_option maxRecDepth 100000 in
theorem undefClosure (o : Node) (name : ByteArray) (kv : Value) (pb : Nat) (w : World) (hp : w.cell? ⟨pb, 2, none⟩ = some (.string name)) (hkv : ∃ a n c, kv = .slice a n c) :
    Calls Tryz.prog 110 #[.agg #[.int .i64 o.kind, .int .i64 o.op, .string o.text, .string o.other, kv], .pointer (some ⟨pb, 0, none⟩)] w fun e w' => e = .returned (.bool (isDefn name o)) ∧ Below w.heap.size w w' := by
  obtain ⟨a, n, c, rfl⟩ := hkv
  have hp2 : ∀ ob, (w.alloc ob).cell? ⟨pb, 2, none⟩ = some (.string name) := fun ob => (((Below.refl _ _).alloc (Nat.le_refl _) ob).cell (p := ⟨pb, 2, none⟩) (World.block_lt_of_cell? w _ hp)).trans hp
  clear hp
  by_cases h44 : o.kind = 44
  · go_enter Tryz.func110, Tryz.ntmps110
    go_wp2
    all_goals go_ret
    all_goals exact ⟨ret_bool (by unfold isDefn; simp_all), by repeat (first | exact Below.refl _ _ | refine Below.alloc ?_ (by first | omega | (simp; done) | (simp; omega)) _ | refine Below.drew ?_)⟩
  · have h44 : (o.kind == 44) = false := by simpa using h44
    go_enter Tryz.func110, Tryz.ntmps110
    go_wp2
    all_goals go_ret
    all_goals exact ⟨ret_bool (by unfold isDefn; simp_all), by repeat (first | exact Below.refl _ _ | refine Below.alloc ?_ (by first | omega | (simp; done) | (simp; omega)) _ | refine Below.drew ?_)⟩

set_option maxRecDepth 100000 in
set_option maxHeartbeats 1600000 in
theorem indexFuncNode (l0 : List Node) (v0 : Value) (name : ByteArray) (pb : Nat) (w : World) (hn0 : bulk Node.sizes l0 ≤ 1048576) (hv0 : NodeSlc w v0 l0) (hp : w.cell? ⟨pb, 2, none⟩ = some (.string name)) :
    Calls Tryz.prog 192 #[v0, .func (.func 110) #[] #[.pointer (some ⟨pb, 0, none⟩)]] w fun e w' => e = .returned (.int .i64 (firstIx (isDefn name) l0 0)) ∧ Below w.heap.size w w' := by
  obtain ⟨a, cap, rfl, hm, hc, hsl⟩ := hv0.shape
  have hn := length_bulk Node.sizes l0
  have hpl := World.block_lt_of_cell? w _ hp
  go_enter Tryz.func192, Tryz.ntmps192
  go_wp2
  go_loopw [8] (fun i wr => ∃ (k : Nat), i = .int .i64 k ∧ k ≤ l0.length ∧ Below w.heap.size w wr ∧ Hid (firstIx (isDefn name) l0 0 = firstIx (isDefn name) (l0.drop k) k)) (fun i _ => l0.length - (intOf i).toNat)
  case atStart => exact ⟨0, rfl, by omega, by repeat (first | exact Below.refl _ _ | refine Below.alloc ?_ (by first | omega | (simp; done) | (simp; omega)) _ | refine Below.drew ?_), hid rfl⟩
  obtain ⟨k, rfl, hk, hb, hrel⟩ := hrel
  have hbs := hb.size
  by_cases hlt : k < l0.length
  · obtain ⟨x, ka, kc, b, off, hx, rfl, c0, c1, c2, c3, c4, hkd⟩ := hsl.at hb (Nat.le_refl _) hlt
    have hmem := List.mem_of_getElem? hx
    rw [drop_cons hx] at hrel
    have HX := hid hx
    clear hx
    have hpr := (hb.cell (p := ⟨pb, 2, none⟩) hpl).trans hp
    have hcall := hid (undefClosure x name (.slice ka x.kids.length kc) pb wr hpr ⟨_, _, _, rfl⟩)
    clear hpr
    by_cases hd : isDefn name x = true
    · have hR : Hid (firstIx (isDefn name) l0 0 = (k : Int)) := hid (by rw [hrel.out, firstIx, if_pos hd])
      rw [hd] at hcall
      clear hrel hd
      go_wp2_with (go_at_call 110; refine hcall.out.mono ?_; rintro e w2 ⟨rfl, hb2⟩)
      go_ret
      exact ⟨ret_int hR.out.symm, hb.trans (hb2.mono hbs)⟩
    · have hR : Hid (firstIx (isDefn name) l0 0 = firstIx (isDefn name) (l0.drop (k + 1)) (k + 1)) := hid (by rw [hrel.out, firstIx, if_neg hd])
      have hd : isDefn name x = false := by simpa using hd
      rw [hd] at hcall
      clear hrel hd
      go_wp2_with (go_at_call 110; refine hcall.out.mono ?_; rintro e w2 ⟨rfl, hb2⟩)
      go_roundw
      case rel => exact ⟨k + 1, by go_num, by omega, hb.trans (hb2.mono hbs), hR⟩
      case measure => simp [intOf]; omega
  · have hR : Hid (firstIx (isDefn name) l0 0 = -1) := hid (by rw [hrel.out, List.drop_of_length_le (by omega), firstIx])
    clear hrel
    go_wp2
    go_ret
    exact ⟨ret_int hR.out.symm, hb⟩

theorem containsFuncNode (l0 : List Node) (v0 : Value) (name : ByteArray) (pb : Nat) (w : World) (hn0 : bulk Node.sizes l0 ≤ 1048576) (hv0 : NodeSlc w v0 l0) (hp : w.cell? ⟨pb, 2, none⟩ = some (.string name)) :
    Calls Tryz.prog 109 #[v0, .func (.func 110) #[] #[.pointer (some ⟨pb, 0, none⟩)]] w fun e w' => e = .returned (.bool (l0.any (isDefn name))) ∧ Below w.heap.size w w' := by
  have hcall := indexFuncNode l0 v0 name pb w hn0 hv0 hp
  have hA := firstIx_any (isDefn name) l0 0
  generalize firstIx (isDefn name) l0 0 = ix at hcall hA
  generalize l0.any (isDefn name) = an at hA
  obtain ⟨a, cap, rfl, _⟩ := hv0.shape
  go_enter Tryz.func109, Tryz.ntmps109
  go_wp2_with fail
  refine hcall.mono ?_; rintro e w2 ⟨rfl, hb2⟩
  subst hA
  go_wp2
  go_ret
  exact ⟨ret_bool rfl, hb2⟩

/-- The functions that are called and not there, as they come. -/
def undefs (L : List Node) : List Node → List ByteArray
  | [] => []
  | x :: l => if x.kind = 7 ∧ L.any (isDefn x.text) = false then x.text :: undefs L l else undefs L l
theorem undefs_len (L l : List Node) : (undefs L l).length ≤ l.length := by
  induction l with
  | nil => simp [undefs]
  | cons x l ih => unfold undefs; split <;> simp <;> omega
def undefined (l : List Node) : List ByteArray := namesT (undefs l l)

set_option maxRecDepth 100000 in
set_option maxHeartbeats 1600000 in
theorem implUndefined_any (l0 : List Node) (v0 : Value) (w : World) (hx0 : ∀ x ∈ l0, x.Ok) (hn0 : bulk Node.sizes l0 ≤ 1048576) (hv0 : NodeSlc w v0 l0) :
    Calls Tryz.prog 30 #[v0] w fun e w' => ∃ v', e = .returned v' ∧ Below w.heap.size w w' ∧ w'.ownsRow w.heap.size 9 1 v' (undefined l0).length ((undefined l0).flatMap str1) := by
  obtain ⟨a, cap, rfl, hm, hc, hsl⟩ := hv0.shape
  have hn := length_bulk Node.sizes l0
  obtain ⟨i0, hi, hz0, hz1, hz2⟩ := info_parts Tryz.info9
  go_enter Tryz.func30, Tryz.ntmps30
  go_wp2
  go_loopw [3, 9] (fun v i wr => ∃ (k : Nat) (acc : List ByteArray), i = .int .i64 k ∧ k ≤ l0.length ∧ acc.length ≤ k ∧ v ≠ .slice none 0 0 ∧ Below w.heap.size w wr ∧ wr.ownsRow w.heap.size 9 1 v acc.length (acc.flatMap str1) ∧ Hid (undefs l0 l0 = acc ++ undefs l0 (l0.drop k))) (fun _ i _ => l0.length - (intOf i).toNat)
  case atStart => exact ⟨0, [], rfl, by omega, by simp, by simp, by repeat (first | exact Below.refl _ _ | refine Below.alloc ?_ (by first | omega | (simp; done) | (simp; omega)) _ | refine Below.drew ?_), own_new0 _ _ _, hid rfl⟩
  obtain ⟨k, acc, rfl, hk, hacc, hnil, hb, hown, hrel⟩ := hrel
  have hbs := hb.size
  by_cases hlt : k < l0.length
  · have hsl9 := hid hsl
    obtain ⟨x, ka, kc, b, off, hx, rfl, c0, c1, c2, c3, c4, hkd⟩ := hsl.at hb (Nat.le_refl _) hlt
    have hmem := List.mem_of_getElem? hx
    rw [drop_cons hx] at hrel
    have HX := hid hx
    clear hx
    have hnil2 := hid hnil
    clear hnil
    have hbx := hid (heap_alloc_new wr (.cells #[.int .i64 x.kind, .int .i64 x.op, .string x.text, .string x.other, .slice ka x.kids.length kc] 40))
    have hba : Below w.heap.size w (wr.alloc (.cells #[.int .i64 x.kind, .int .i64 x.op, .string x.text, .string x.other, .slice ka x.kids.length kc] 40)) := hb.alloc hbs _
    have hcall := hid (containsFuncNode l0 _ x.text wr.heap.size (wr.alloc (.cells #[.int .i64 x.kind, .int .i64 x.op, .string x.text, .string x.other, .slice ka x.kids.length kc] 40)) hn0 (hsl9.out.mono hba (Nat.le_refl _)) (box_cell hbx.out rfl))
    by_cases h7 : x.kind = 7
    · have e7 : (x.kind == 7) = true := by simpa using h7
      replace h7 := hid h7
      by_cases hd : l0.any (isDefn x.text) = true
      · have hR : Hid (undefs l0 l0 = acc ++ undefs l0 (l0.drop (k + 1))) := hid (by rw [hrel.out, undefs, if_neg (by rw [hd]; simp)])
        rw [hd] at hcall
        clear hrel hd HX
        go_wp2_with (go_at_call 109; refine hcall.out.mono ?_; rintro e w2 ⟨rfl, hb2⟩)
        go_roundw
        case rel => exact ⟨k + 1, acc, by go_num, by omega, by omega, hnil2.out, hba.trans (hb2.mono (by simp; omega)), own_below (hown.alloc _) hb2 (Nat.le_refl _), hR⟩
        case measure => simp [intOf]; omega
      · have hd : l0.any (isDefn x.text) = false := by simpa using hd
        have hR : Hid (undefs l0 l0 = (acc ++ [x.text]) ++ undefs l0 (l0.drop (k + 1))) := hid (by rw [hrel.out, undefs, if_pos ⟨h7.out, hd⟩]; simp)
        rw [hd] at hcall
        clear hrel hd HX
        go_wp2_with (first
          | (go_at_call 109; refine hcall.out.mono ?_; rintro e w2 ⟨rfl, hb2⟩; have hown2 := own_below (hown.alloc _) hb2 (Nat.le_refl _); have hB2 := hba.trans (hb2.mono (by simp; omega)); have hs2 := hB2.size; have e2 : w2.cell? ⟨wr.heap.size, 2, none⟩ = some (.string x.text) := (hb2.cell (p := ⟨wr.heap.size, 2, none⟩) (by simp)).trans (box_cell hbx.out rfl))
          | (at_builtin; refine wpList_append_own _ rfl _ _ 26 rfl w.heap.size 9 i0 _ 1 16 Tryz.underlying26 hi hz0 hz1 hz2 rfl (by decide) _ acc.length (acc.flatMap str1) rfl (hown2.alloc _) _ _ _ (str1 x.text) rfl rfl (new_cells_at _ _ _ _ _ rfl (by first | rfl | simp)) (by intro u hu; simp [str1] at hu; subst hu; rfl) (by unfold maxLen; omega) (by omega) (by simp; omega) ?_; intro v3 w3 hown3 hgr3 hiff; have hb3 := app_below (hB2.alloc hs2 _) (hown2.alloc _) hgr3))
        go_roundw
        case rel => exact ⟨k + 1, acc ++ [x.text], by go_num, by omega, by simp; omega, fun e => hnil2.out (hiff.1 e).1, hb3, by simpa using hown3, hR⟩
        case measure => simp [intOf]; omega
    · have hR : Hid (undefs l0 l0 = acc ++ undefs l0 (l0.drop (k + 1))) := hid (by rw [hrel.out, undefs, if_neg (fun e => h7 e.1)])
      have e7 : (x.kind == 7) = false := by simpa using h7
      clear hrel h7 HX hcall
      go_wp2
      go_roundw
      case rel => exact ⟨k + 1, acc, by go_num, by omega, by omega, hnil2.out, hba, hown.alloc _, hR⟩
      case measure => simp [intOf]; omega
  · have hR : Hid (undefs l0 l0 = acc) := hid (by rw [hrel.out, List.drop_of_length_le (by omega)]; simp [undefs])
    have hcall := implonce_any acc _ wr w.heap.size (by omega) hnil hown
    replace hnil := hid hnil
    clear hrel
    go_wp2_with fail
    refine hcall.mono ?_; rintro e w2 ⟨v2, rfl, hg2, ho2⟩
    clear hcall
    go_wp2
    go_ret
    refine ⟨_, rfl, hb.grown hg2 hbs (fun r e => (hown.lt r e).1), ?_⟩
    unfold undefined
    rw [hR.out]
    exact ho2

def defTexts : List Node → List ByteArray
  | [] => []
  | x :: l => if x.kind = 44 then x.text :: defTexts l else defTexts l
theorem defTexts_any (s : ByteArray) : ∀ (l : List Node), ((defTexts l).any fun x => x.toList == s.toList) = l.any (isDefn s) := by
  intro l
  induction l with
  | nil => rfl
  | cons x l ih =>
    rw [defTexts, List.any_cons]
    by_cases h : x.kind = 44
    · rw [if_pos h, List.any_cons, ih]
      unfold isDefn; simp [h]
    · rw [if_neg h, ih]
      unfold isDefn
      have : (x.kind == 44) = false := by simpa using h
      simp [this]
theorem defTexts_len (l : List Node) : (defTexts l).length ≤ l.length := by
  induction l with
  | nil => simp [defTexts]
  | cons x l ih => unfold defTexts; split <;> simp <;> omega
theorem find_def (s : ByteArray) (l : List Node) : findS s (defTexts l) 0 < 0 ↔ l.any (isDefn s) = false := by
  have h := findS_iff s (defTexts l) 0
  rw [defTexts_any] at h
  constructor
  · intro h2
    cases e : l.any (isDefn s) with
    | false => rfl
    | true => have := h.2 e; omega
  · intro h2
    rw [h2] at h
    by_cases h3 : 0 ≤ findS s (defTexts l) 0
    · exact absurd (h.1 h3) (by simp)
    · omega

set_option maxRecDepth 100000 in
set_option maxHeartbeats 3200000 in
theorem specUndefined_any (l0 : List Node) (v0 : Value) (w : World) (hx0 : ∀ x ∈ l0, x.Ok) (hn0 : bulk Node.sizes l0 ≤ 1048576) (hv0 : NodeSlc w v0 l0) :
    Calls Tryz.prog 38 #[v0] w fun e w' => ∃ v', e = .returned v' ∧ Below w.heap.size w w' ∧ w'.ownsRow w.heap.size 9 1 v' (undefined l0).length ((undefined l0).flatMap str1) := by
  obtain ⟨a, cap, rfl, hm, hc, hsl⟩ := hv0.shape
  have hn := length_bulk Node.sizes l0
  have hdl := defTexts_len l0
  obtain ⟨i0, hi, hz0, hz1, hz2⟩ := info_parts Tryz.info9
  go_enter Tryz.func38, Tryz.ntmps38
  go_wp2
  obtain ⟨W1, hW1⟩ : ∃ W1, W1 = w.alloc (.cells #[] 9) := ⟨_, rfl⟩
  have hs1 : w.heap.size + 1 = W1.heap.size := by rw [hW1]; simp
  have howno : W1.ownsRow w.heap.size 9 1 (.slice (some ⟨w.heap.size, 0, none⟩) 0 0) 0 [] := by rw [hW1]; exact own_new0 _ _ _
  have hb01 : Below w.heap.size w W1 := by rw [hW1]; exact (Below.refl _ _).alloc (Nat.le_refl _) _
  rw [← hW1, hs1]
  clear hW1
  replace hs1 := hid hs1
  go_loopw [4, 5] (fun v i wr => ∃ (k : Nat) (acc : List ByteArray), i = .int .i64 k ∧ k ≤ l0.length ∧ acc.length ≤ k ∧ Below W1.heap.size W1 wr ∧ wr.ownsRow W1.heap.size 9 1 v acc.length (acc.flatMap str1) ∧ Hid (defTexts l0 = acc ++ defTexts (l0.drop k))) (fun _ i _ => l0.length - (intOf i).toNat)
  case atStart => exact ⟨0, [], rfl, by omega, by simp, (Below.refl _ _).alloc (Nat.le_refl _) _, own_new0 _ _ _, hid rfl⟩
  obtain ⟨k, acc, rfl, hk, hacc, hb1, hown, hrel⟩ := hrel
  have hb := hb01.trans (hb1.mono hb01.size)
  have hbs := hb.size
  have hbs1 := hb1.size
  by_cases hlt : k < l0.length
  · obtain ⟨x, ka, kc, b, off, hx, rfl, c0, c1, c2, c3, c4, hkd⟩ := hsl.at hb (Nat.le_refl _) hlt
    have hmem := List.mem_of_getElem? hx
    rw [drop_cons hx] at hrel
    have HX := hid hx
    clear hx
    clear hb
    have hb := hb1
    go_wp2_with (at_builtin; refine wpList_append_own _ rfl _ _ 26 rfl W1.heap.size 9 i0 _ 1 16 Tryz.underlying26 hi hz0 hz1 hz2 rfl (by decide) _ acc.length (acc.flatMap str1) rfl (hown.alloc _) _ _ _ (str1 x.text) rfl rfl (new_cells_at _ _ _ _ _ rfl (by first | rfl | simp)) (by intro u hu; simp [str1] at hu; rcases hu with rfl | rfl | rfl | rfl | rfl <;> rfl) (by unfold maxLen; omega) (by omega) (by first | omega | (simp; done) | (simp; omega)) ?_; intro v2 w2 hown2 hgr2 hiff; clear hiff; have hb2 := app_below (hb.alloc (by first | omega | (simp; done) | (simp; omega)) _) (hown.alloc _) hgr2)
    all_goals go_roundw
    all_goals first
      | (simp [intOf]; omega)
      | exact ⟨k + 1, acc ++ [x.text], by go_num, by omega, by simp; omega, hb2, by simpa using hown2, hid (by rw [hrel.out, defTexts, if_pos (by simp_all)]; simp)⟩
      | exact ⟨k + 1, acc, by go_num, by omega, by omega, hb1, hown, hid (by rw [hrel.out, defTexts, if_neg (by simp_all)])⟩
  · have hF : Hid (defTexts l0 = acc) := hid (by rw [hrel.out, List.drop_of_length_le (by omega)]; simp [defTexts])
    have hsF := Slc.of_own hown
    have hpr := hid (fun s => find_def s l0)
    rw [hF.out] at hpr
    clear hrel
    have howno2 := own_below howno hb1 (Nat.le_refl _)
    obtain ⟨fa, fcap, hfv, _⟩ := hsF.2
    clear hown howno hacc
    subst hfv
    rename World => wr0
    go_wp2
    go_loopw [3, 6] (fun v i w2 => ∃ (k : Nat) (out : List ByteArray), i = .int .i64 k ∧ k ≤ l0.length ∧ out.length ≤ k ∧ (∀ x ∈ out, x.size ≤ maxLen) ∧ Below wr0.heap.size wr0 w2 ∧ w2.ownsRow w.heap.size 9 1 v out.length (out.flatMap str1) ∧ Hid (undefined l0 = (undefs l0 (l0.drop k)).foldl (fun l s => putT s l) out)) (fun _ i _ => l0.length - (intOf i).toNat)
    case atStart => exact ⟨0, [], rfl, by omega, by simp, by simp, Below.refl _ _, howno2, hid rfl⟩
    clear howno2 hk
    obtain ⟨k, out, rfl, hk, hol, hxa, hb2, hown2, hrel⟩ := hrel
    have hbw2 := hb.trans (hb2.mono hbs)
    have hbs2 := hbw2.size
    by_cases hlt : k < l0.length
    · obtain ⟨x, ka, kc, b, off, hx, rfl, c0, c1, c2, c3, c4, hkd⟩ := hsl.at hbw2 (Nat.le_refl _) hlt
      have hmem := List.mem_of_getElem? hx
      have hxo := (hx0 x hmem).1
      rw [drop_cons hx] at hrel
      clear hx
      have hfind := specl3Find_any acc _ x.text wr (by have := hF.out; have := congrArg List.length this; omega) (hsF.mono hb2 (Nat.le_refl _))
      have hput := specl23Put_any out _ x.text wr w.heap.size hbs2 (by omega) hxo hxa hown2
      have hpl := putT_len x.text out
      have hpm := putT_mem (P := fun x => x.size ≤ maxLen) hxo hxa
      have hfd := hpr.out x.text
      generalize findS x.text acc 0 = fi at hfind hfd
      by_cases h7 : x.kind = 7
      · have e7 : (x.kind == 7) = true := by simpa using h7
        by_cases hd : fi < 0
        · have hR : Hid (undefined l0 = (undefs l0 (l0.drop (k + 1))).foldl (fun l s => putT s l) (putT x.text out)) := hid (by rw [hrel.out, undefs, if_pos ⟨h7, hfd.1 hd⟩]; rfl)
          clear hrel h7 hfd hpr
          replace hxa := hid hxa
          replace hpm := hid hpm
          go_wp2_with (go_at_call 92; refine hfind.mono ?_; rintro e w3 ⟨rfl, rfl⟩)
          refine hput.mono ?_; rintro e w3 ⟨v3, rfl, hb3, ho3⟩
          clear hput hfind
          go_wp2
          all_goals go_roundw
          all_goals first
            | (simp [intOf]; omega)
            | exact ⟨k + 1, _, by go_num, by omega, by omega, hpm.out, hb2.trans (hb3.mono hb2.size), ho3, hR⟩
        · have hR : Hid (undefined l0 = (undefs l0 (l0.drop (k + 1))).foldl (fun l s => putT s l) out) := hid (by rw [hrel.out, undefs, if_neg (fun e => hd (hfd.2 e.2))])
          clear hrel h7 hfd hpr
          replace hxa := hid hxa
          clear hpm hput
          go_wp2_with (go_at_call 92; refine hfind.mono ?_; rintro e w3 ⟨rfl, rfl⟩)
          all_goals go_roundw
          all_goals first
            | (simp [intOf]; omega)
            | exact ⟨k + 1, out, by go_num, by omega, by omega, hxa.out, hb2, hown2, hR⟩
      · have hR : Hid (undefined l0 = (undefs l0 (l0.drop (k + 1))).foldl (fun l s => putT s l) out) := hid (by rw [hrel.out, undefs, if_neg (fun e => h7 e.1)])
        have e7 : (x.kind == 7) = false := by simpa using h7
        clear hrel h7 hfd hpr hpm hput hfind
        replace hxa := hid hxa
        go_wp2
        all_goals go_roundw
        all_goals first
          | (simp [intOf]; omega)
          | exact ⟨k + 1, out, by go_num, by omega, by omega, hxa.out, hb2, hown2, hR⟩
    · have hR : Hid (undefined l0 = out) := hid (by rw [hrel.out, List.drop_of_length_le (by omega)]; rfl)
      clear hrel
      replace hxa := hid hxa
      go_wp2
      go_ret
      rw [hR.out]
      exact ⟨_, rfl, hbw2, hown2⟩
end Go.Proofs.YtgmciglaapnahaaGreatDoor
