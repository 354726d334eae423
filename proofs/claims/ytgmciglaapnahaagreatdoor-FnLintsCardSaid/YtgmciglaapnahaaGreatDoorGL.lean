/- Walks and lemmas of this seat (PLints): what each theorem says of the functions that it names. Conditions: those that each theorem states. -/
import Derived.Test.YtgmciglaapnahaaGreatDoorGU
import Derived.Test.YtgmciglaapnahaaGreatDoorGY
import Derived.Test.YtgmciglaapnahaaGreatDoorGUU
import Derived.Test.YtgmciglaapnahaaGreatDoorGW
import Derived.Test.YtgmciglaapnahaaGreatDoorGV
import Derived.Test.YtgmciglaapnahaaGreatDoorGM
import Derived.Test.YtgmciglaapnahaaGreatDoorGJ
import Derived.Test.YtgmciglaapnahaaGreatDoorGZ
import Derived.Deep.AppendLies
namespace Go.Proofs.YtgmciglaapnahaaGreatDoor
set_option linter.unusedVariables false
set_option linter.unusedSimpArgs false
open Go.RowKit Go.Lib

/-! What is odd about a program. -/
def tAgain : ByteArray := ⟨#[97, 103, 97, 105, 110, 32]⟩
def tTwice : ByteArray := ⟨#[116, 119, 105, 99, 101, 32]⟩
def tIn : ByteArray := ⟨#[32, 105, 110, 32]⟩
def tUnused : ByteArray := ⟨#[117, 110, 117, 115, 101, 100, 32]⟩
def tUnknown : ByteArray := ⟨#[117, 110, 107, 110, 111, 119, 110, 32]⟩
def tAssigned : ByteArray := ⟨#[97, 115, 115, 105, 103, 110, 101, 100, 32, 97, 116, 32]⟩
def again1 (met : List ByteArray) (name : ByteArray) : List ByteArray := if hasT met name = true then [tAgain ++ name] else []
def twice1 (name p : ByteArray) : ByteArray := tTwice ++ p ++ tIn ++ name
def unused1 (name p : ByteArray) : ByteArray := tUnused ++ p ++ tIn ++ name
def lintFn (l : List Node) (met : List ByteArray) (i : Int) : List ByteArray :=
  again1 met (textAt l i) ++ ((repeated l i).map (twice1 (textAt l i)) ++ (unusedOf l i).map (unused1 (textAt l i)))
def lintFns (l : List Node) : List ByteArray → List Int → List ByteArray
  | _, [] => []
  | met, i :: r => lintFn l met i ++ lintFns l (met ++ [textAt l i]) r
def lintsOf (l : List Node) : List ByteArray :=
  if progOkB l = true then lintFns l [] (funcsOf 0 l) ++ (undefined l).map (tUnknown ++ ·) ++ (assignedAll l).map (fun i => tAssigned ++ ⟨(itoa i).toArray⟩) else []
theorem funcsOf_in (L : List Node) : ∀ i ∈ funcsOf 0 L, ∃ j : Nat, i = (j : Int) ∧ j < L.length := by
  have h : ∀ (l : List Node) (k : Nat), ∀ i ∈ funcsOf k l, ∃ j : Nat, i = (j : Int) ∧ j < k + l.length := by
    intro l
    induction l with
    | nil => intro k i hi; simp [funcsOf] at hi
    | cons x l ih =>
      intro k i hi
      rw [funcsOf] at hi
      split at hi
      · rcases List.mem_cons.1 hi with rfl | hi
        · exact ⟨k, rfl, by simp⟩
        · obtain ⟨j, e, hj⟩ := ih (k + 1) i hi
          exact ⟨j, e, by simp only [List.length_cons]; omega⟩
      · obtain ⟨j, e, hj⟩ := ih (k + 1) i hi
        exact ⟨j, e, by simp only [List.length_cons]; omega⟩
  intro i hi
  simpa using h L 0 i hi
theorem assignedAll_in (L : List Node) : ∀ i ∈ assignedAll L, ∃ j : Nat, i = (j : Int) ∧ j < L.length := by
  have h : ∀ (l : List Node) (k : Nat), ∀ i ∈ assignedIn L k l, ∃ j : Nat, i = (j : Int) ∧ j < k + l.length := by
    intro l
    induction l with
    | nil => intro k i hi; simp [assignedIn] at hi
    | cons x l ih =>
      intro k i hi
      rw [assignedIn] at hi
      split at hi
      · rcases List.mem_cons.1 hi with rfl | hi
        · exact ⟨k, rfl, by simp⟩
        · obtain ⟨j, e, hj⟩ := ih (k + 1) i hi
          exact ⟨j, e, by simp only [List.length_cons]; omega⟩
      · obtain ⟨j, e, hj⟩ := ih (k + 1) i hi
        exact ⟨j, e, by simp only [List.length_cons]; omega⟩
  intro i hi
  unfold assignedAll at hi
  split at hi
  · simpa using h L 0 i hi
  · simp at hi
theorem undefined_len (l : List Node) : (undefined l).length ≤ l.length := Nat.le_trans (namesT_len _) (undefs_len l l)
theorem params_400 {l : List Node} (hs : shapeOk (l.map Node.kids) = true) (i : Int) : (paramsOf l i).length ≤ 400 := by
  obtain ⟨h1, h2, _⟩ := shapeOk_yes hs
  unfold paramsOf
  split
  · rename_i h
    obtain ⟨_, n, x, rfl, hn, hx, _, _⟩ := isFunc_yes h
    have h3 := shapeOk_klen hs hx
    unfold paramsAt
    rw [List.length_map, Int.toNat_natCast, paramKids_len l n hx]
    omega
  · simp
theorem repeated_400 {l : List Node} (hs : shapeOk (l.map Node.kids) = true) (i : Int) : (repeated l i).length ≤ 400 := by
  unfold repeated repeatedOf
  have h1 := namesT_len (dupsAt (paramsOf l i) 0 (paramsOf l i))
  have h2 := dupsAt_len (paramsOf l i) (paramsOf l i) 0
  have h3 := params_400 hs i
  omega
theorem unused_400 {l : List Node} (hs : shapeOk (l.map Node.kids) = true) (i : Int) : (unusedOf l i).length ≤ 400 := by
  unfold unusedOf
  have h1 := namesT_len ((paramsOf l i).filter (idle l i.toNat))
  have h2 := List.length_filter_le (idle l i.toNat) (paramsOf l i)
  have h3 := params_400 hs i
  omega
theorem namesT_all {Q : ByteArray → Prop} {L : List ByteArray} (h : ∀ s ∈ L, Q s) : ∀ s ∈ namesT L, Q s := by
  have h2 : ∀ (L acc : List ByteArray), (∀ s ∈ L, Q s) → (∀ s ∈ acc, Q s) → ∀ s ∈ L.foldl (fun l s => putT s l) acc, Q s := by
    intro L
    induction L with
    | nil => intro acc _ h; exact h
    | cons x L ih =>
      intro acc hL ha
      rw [List.foldl_cons]
      exact ih _ (fun s hs => hL s (by simp [hs])) (putT_mem2 (Q := Q) (hL x (by simp)) ha)
  exact h2 L [] h (by simp)
theorem dups_mem (P : List ByteArray) : ∀ (r : List ByteArray) (k : Nat), ∀ s ∈ dupsAt P k r, s ∈ r := by
  intro r
  induction r with
  | nil => intro k s hs; simp [dupsAt] at hs
  | cons x r ih =>
    intro k s hs
    rw [dupsAt] at hs
    split at hs
    · rcases List.mem_cons.1 hs with rfl | hs
      · simp
      · exact List.mem_cons_of_mem _ (ih _ s hs)
    · exact List.mem_cons_of_mem _ (ih _ s hs)
theorem repeated_small {l : List Node} (hn : bulk Node.sizes l ≤ 1048576) (i : Int) : ∀ s ∈ repeated l i, s.size ≤ 1048576 :=
  namesT_all fun s hs => params_small hn i s (dups_mem _ _ _ s hs)
theorem unused_small {l : List Node} (hn : bulk Node.sizes l ≤ 1048576) (i : Int) : ∀ s ∈ unusedOf l i, s.size ≤ 1048576 :=
  namesT_all fun s hs => params_small hn i s (List.mem_filter.1 hs).1
theorem text_small {l : List Node} (hn : bulk Node.sizes l ≤ 1048576) {j : Nat} {y : Node} (hy : l[j]? = some y) : y.text.size ≤ 1048576 := by
  have h3 := Nat.le_trans (bulk_mem Node.sizes (List.mem_of_getElem? hy)) hn
  unfold Node.sizes at h3
  omega
theorem undefs_in (L : List Node) : ∀ (l : List Node), ∀ s ∈ undefs L l, ∃ y ∈ l, s = y.text := by
  intro l
  induction l with
  | nil => intro s hs; simp [undefs] at hs
  | cons x l ih =>
    intro s hs
    rw [undefs] at hs
    split at hs
    · rcases List.mem_cons.1 hs with rfl | hs
      · exact ⟨x, by simp, rfl⟩
      · obtain ⟨y, hy, e⟩ := ih s hs
        exact ⟨y, by simp [hy], e⟩
    · obtain ⟨y, hy, e⟩ := ih s hs
      exact ⟨y, by simp [hy], e⟩
theorem undefined_small {l : List Node} (hn : bulk Node.sizes l ≤ 1048576) : ∀ s ∈ undefined l, s.size ≤ 1048576 :=
  namesT_all fun s hs => by
    obtain ⟨y, hy, rfl⟩ := undefs_in l l s hs
    have h3 := Nat.le_trans (bulk_mem Node.sizes hy) hn
    unfold Node.sizes at h3
    omega
theorem lintFns_len {l : List Node} (hs : shapeOk (l.map Node.kids) = true) : ∀ (r : List Int) (met : List ByteArray), (lintFns l met r).length ≤ 801 * r.length := by
  intro r
  induction r with
  | nil => intro met; simp [lintFns]
  | cons i r ih =>
    intro met
    have h1 := ih (met ++ [textAt l i])
    have h2 := repeated_400 hs i
    have h3 := unused_400 hs i
    have h4 : (again1 met (textAt l i)).length ≤ 1 := by unfold again1; split <;> simp
    rw [lintFns, lintFn]
    simp only [List.length_append, List.length_map, List.length_cons]
    omega
theorem lintsOf_len (l : List Node) (hl : l.length ≤ 1048576) : (lintsOf l).length ≤ 1048576 := by
  unfold lintsOf
  split
  · rename_i h
    have hs := treeOk_shape (progOk_tree h)
    obtain ⟨h1, h2, _⟩ := shapeOk_yes hs
    have h3 := lintFns_len hs (funcsOf 0 l) []
    have h4 := funcsOf_len l 0
    have h5 := undefined_len l
    have h6 := assignedAll_len l
    simp only [List.length_append, List.length_map]
    omega
  · simp

/-! Two rows that grow side by side. -/
def Off (va vb : Value) : Nat → Prop := fun b => some b ≠ va.ownBlock ∧ some b ≠ vb.ownBlock
structure Two (w : World) (va vb : Value) (acc met : List ByteArray) (wr : World) : Prop where
  hb : Below w.heap.size w wr
  out : wr.ownsRow w.heap.size 9 1 va acc.length (acc.flatMap str1)
  met : wr.ownsRow w.heap.size 9 1 vb met.length (met.flatMap str1)
  ne : ∀ g, va.ownBlock = some g → vb.ownBlock ≠ some g
theorem Two.below {w wr w2 : World} {va vb : Value} {acc met : List ByteArray} (h : Two w va vb acc met wr) (hb : Below wr.heap.size wr w2) : Two w va vb acc met w2 :=
  ⟨h.hb.trans (hb.mono h.hb.size), own_below h.out hb (Nat.le_refl _), own_below h.met hb (Nat.le_refl _), h.ne⟩
theorem Two.fresh {w wr w2 : World} {va vb pv : Value} {acc met : List ByteArray} {T : TypeId} {s n : Nat} {cs : List Value} (h : Two w va vb acc met wr) (ho : w2.ownsRow wr.heap.size T s pv n cs) (hs : 0 < s := by decide) : SlcS (Off va vb) w2 pv s n cs :=
  (SlcS.of_own ho).keep hs fun b hS hl => ⟨rfl, fun e => by have h9 := (h.out.lt b e.symm).2; have hS' : wr.heap.size ≤ b := hS; omega, fun e => by have h9 := (h.met.lt b e.symm).2; have hS' : wr.heap.size ≤ b := hS; omega⟩
theorem SlcS.mono {S : Nat → Prop} {wr w2 : World} {pv : Value} {n : Nat} {cs : List Value} (h : SlcS S wr pv 1 n cs) (hb : Below wr.heap.size wr w2) : SlcS S w2 pv 1 n cs := h.keep (by decide) fun b hS hl => ⟨hb.block b hl, hS⟩
theorem slcS_cell {α : Type} {f : α → List Value} (hf : ∀ x, (f x).length = 1) {S : Nat → Prop} {W : World} {b off cap k : Nat} {l : List α} {x : α} {u : Value} (h : SlcS S W (.slice (some ⟨b, off, none⟩) l.length cap) 1 l.length (l.flatMap f)) (hx : l[k]? = some x) (hu : f x = [u]) : W.cell? ⟨b, off + k, none⟩ = some u := by
  obtain ⟨_, _, _, hve, _, _, hrw⟩ := h
  have hk := (List.getElem?_eq_some_iff.1 hx).1
  simp at hve
  obtain ⟨rfl, rfl⟩ := hve
  obtain ⟨b', off', e, _, hro⟩ := hrw.resolve_left (by omega)
  simp at e
  obtain ⟨rfl, rfl⟩ := e
  have h2 := flat_get f 1 hf l k 0 x u hx (by rw [hu]; rfl)
  rw [Nat.mul_one, Nat.add_zero] at h2
  exact hro k u h2
theorem Two.pushOut {w wr w2 : World} {va vb : Value} {acc met : List ByteArray} {gg cap : Nat} {s : ByteArray} {o : Obj} (h : Two w va vb acc met wr) (hown : w2.ownsRow w.heap.size 9 1 (.slice (some ⟨gg, 0, none⟩) (acc.length + 1) cap) (acc.length + 1) (acc.flatMap str1 ++ [.string s])) (hg : (wr.alloc o).grownBy w2 va.ownBlock) (hat : va.ownBlock = some gg ∨ gg = wr.heap.size + 1) :
    Two w (.slice (some ⟨gg, 0, none⟩) (acc.length + 1) cap) vb (acc ++ [s]) met w2 := by
  have hs := h.hb.size
  refine ⟨(h.hb.alloc hs o).grown hg (by simp; omega) (fun r e => (h.out.lt r e).1), by rw [List.length_append, List.length_singleton, List.flatMap_append]; exact hown, ?_, fun g e e2 => ?_⟩
  · refine (h.met.alloc o).kept hg ?_
    cases hb : vb.ownBlock with
    | none => exact .inl rfl
    | some g => exact .inr (fun e => h.ne g e.symm hb)
  · have e1 : gg = g := Option.some.inj e
    rcases hat with hat | hat
    · exact h.ne gg hat (by rw [e2, e1])
    · have := (h.met.lt g e2).2; omega
theorem Two.pushMet {w wr w2 : World} {va vb : Value} {acc met : List ByteArray} {gg cap : Nat} {s : ByteArray} {o : Obj} (h : Two w va vb acc met wr) (hown : w2.ownsRow w.heap.size 9 1 (.slice (some ⟨gg, 0, none⟩) (met.length + 1) cap) (met.length + 1) (met.flatMap str1 ++ [.string s])) (hg : (wr.alloc o).grownBy w2 vb.ownBlock) (hat : vb.ownBlock = some gg ∨ gg = wr.heap.size + 1) :
    Two w va (.slice (some ⟨gg, 0, none⟩) (met.length + 1) cap) acc (met ++ [s]) w2 := by
  have hs := h.hb.size
  refine ⟨(h.hb.alloc hs o).grown hg (by simp; omega) (fun r e => (h.met.lt r e).1), ?_, by rw [List.length_append, List.length_singleton, List.flatMap_append]; exact hown, fun g e e2 => ?_⟩
  · refine (h.out.alloc o).kept hg ?_
    cases hb : va.ownBlock with
    | none => exact .inl rfl
    | some g => exact .inr (fun e => h.ne g hb e.symm)
  · have e1 : gg = g := Option.some.inj e2
    rcases hat with hat | hat
    · exact h.ne g e (by rw [hat, e1])
    · have := (h.out.lt g e).2; omega
theorem off_out {wr w2 : World} {va vb pv : Value} {gg n cap m : Nat} {cs : List Value} {o : Obj} (h : SlcS (Off va vb) wr pv 1 m cs) (hg : (wr.alloc o).grownBy w2 va.ownBlock) (hat : va.ownBlock = some gg ∨ gg = wr.heap.size + 1) :
    SlcS (Off (.slice (some ⟨gg, 0, none⟩) n cap) vb) w2 pv 1 m cs := h.keep (by decide) fun b hS hl => ⟨(hg.block b (by simp; omega) hS.1).trans (Below.heap_alloc _ _ _ hl), fun e => by
    have e : b = gg := Option.some.inj e
    rcases hat with hat | hat
    · exact hS.1 (by rw [hat, e])
    · omega, hS.2⟩
theorem off_met {wr w2 : World} {va vb pv : Value} {gg n cap m : Nat} {cs : List Value} {o : Obj} (h : SlcS (Off va vb) wr pv 1 m cs) (hg : (wr.alloc o).grownBy w2 vb.ownBlock) (hat : vb.ownBlock = some gg ∨ gg = wr.heap.size + 1) :
    SlcS (Off va (.slice (some ⟨gg, 0, none⟩) n cap)) w2 pv 1 m cs := h.keep (by decide) fun b hS hl => ⟨(hg.block b (by simp; omega) hS.2).trans (Below.heap_alloc _ _ _ hl), hS.1, fun e => by
    have e : b = gg := Option.some.inj e
    rcases hat with hat | hat
    · exact hS.2 (by rw [hat, e])
    · omega⟩
end Go.Proofs.YtgmciglaapnahaaGreatDoor
/- Walks and lemmas of this seat (FLintsS): what each theorem says of the functions that it names. Conditions: those that each theorem states. -/
namespace Go.Proofs.YtgmciglaapnahaaGreatDoor
set_option linter.unusedVariables false
set_option linter.unusedSimpArgs false
open Go.RowKit Go.Lib


set_option maxRecDepth 100000 in
set_option maxHeartbeats 6400000 in
theorem specLints_any (l0 : List Node) (v0 : Value) (w : World) (hx0 : ∀ x ∈ l0, x.Ok) (hn0 : bulk Node.sizes l0 ≤ 1048576) (hv0 : NodeSlc w v0 l0) :
    Calls Tryz.prog 18 #[v0] w fun e w' => ∃ v', e = .returned v' ∧ Below w.heap.size w w' ∧ w'.ownsRow w.heap.size 9 1 v' (lintsOf l0).length ((lintsOf l0).flatMap str1) := by
  have hv := hv0
  have hprog := hid fun W (hb : Below w.heap.size w W) => specProgramOk_any l0 v0 W hx0 hn0 (hv.mono hb (Nat.le_refl _))
  obtain ⟨i0, hi, hz0, hz1, hz2⟩ := info_parts Tryz.info9
  have hfun := hid fun W (hb : Below w.heap.size w W) => specFuncsOf_any l0 v0 W hx0 hn0 (hv.mono hb (Nat.le_refl _))
  have hrep := hid fun a1 (ha : I64 a1) W (hb : Below w.heap.size w W) => specRepeated_any l0 v0 a1 W hx0 hn0 (hv.mono hb (Nat.le_refl _)) ha
  have hunu := hid fun a1 (ha : I64 a1) W (hb : Below w.heap.size w W) => specUnused_any l0 v0 a1 W hx0 hn0 (hv.mono hb (Nat.le_refl _)) ha
  have hund := hid fun W (hb : Below w.heap.size w W) => specUndefined_any l0 v0 W hx0 hn0 (hv.mono hb (Nat.le_refl _))
  have hass := hid fun W (hb : Below w.heap.size w W) => specAssignedIn_any l0 v0 W hx0 hn0 (hv.mono hb (Nat.le_refl _))
  have hdec := hid fun (n : Nat) (hn : n ≤ 1048576) W (hb : Below w.heap.size w W) => specDec_any (n : Int) W (by omega) (by omega)
  obtain ⟨a, cap, rfl, hm, hc, hsl⟩ := hv0.shape
  by_cases hp : progOkB l0 = true
  · have hok := progOk_tree hp
    have hs := treeOk_shape hok
    obtain ⟨h1, h2, _⟩ := shapeOk_yes hs
    have hrange := hid hsl
    have hR : Hid (lintsOf l0 = lintFns l0 [] (funcsOf 0 l0) ++ (undefined l0).map (tUnknown ++ ·) ++ (assignedAll l0).map (fun i => tAssigned ++ ⟨(itoa i).toArray⟩)) := hid (by unfold lintsOf; rw [if_pos hp])
    have hFl : (funcsOf 0 l0).length ≤ 400 := Nat.le_trans (funcsOf_len l0 0) h2
    have hFin := hid (funcsOf_in l0)
    have hUl : (undefined l0).length ≤ 400 := Nat.le_trans (undefined_len l0) h2
    have hAl : (assignedAll l0).length ≤ 400 := Nat.le_trans (assignedAll_len l0) h2
    have hAin := hid (assignedAll_in l0)
    have hRl := hid fun a1 => repeated_400 hs a1
    have hNl := hid fun a1 => unused_400 hs a1
    have hRs := hid fun a1 => repeated_small hn0 a1
    have hNs := hid fun a1 => unused_small hn0 a1
    have hUs := hid (undefined_small hn0)
    have hTs := hid fun (j : Nat) (y : Node) (hy : l0[j]? = some y) => text_small hn0 hy
    have hTy := hid fun (j : Nat) (y : Node) (hy : l0[j]? = some y) => textAt_of hy
    generalize lintsOf l0 = ans at hR ⊢
    generalize funcsOf 0 l0 = F at hR hFl hFin hfun
    generalize undefined l0 = U4 at hR hUl hUs hund
    generalize assignedAll l0 = A5 at hR hAl hAin hass
    obtain ⟨tot, htot⟩ : ∃ tot, tot = lintFns l0 [] F := ⟨_, rfl⟩
    rw [← htot] at hR
    replace htot := hid htot
    rw [hp] at hprog
    clear hp hs hok hv0 hsl hv
    go_enter Tryz.func18, Tryz.ntmps18
    go_wp2_with fail
    refine (hprog.out _ (by repeat (first | exact Below.refl _ _ | refine Below.alloc ?_ (by first | omega | (simp; done) | (simp; omega)) _ | refine Below.drew ?_))).mono ?_; rintro e w2 ⟨rfl, hb2⟩
    have hB2 : Below w.heap.size w w2 := (by repeat (first | exact Below.refl _ _ | refine Below.alloc ?_ (by first | omega | (simp; done) | (simp; omega)) _ | refine Below.drew ?_) : Below w.heap.size w _).trans (hb2.mono (by first | (simp; done) | (simp; omega)))
    have hown0 := own_below (own_new0 w 9 1) hb2 (Nat.le_refl _)
    clear hb2
    go_wp2_with fail
    refine (hfun.out _ hB2).mono ?_; rintro e w3 ⟨fv, rfl, hb3, ho3⟩
    obtain ⟨fa, fc, rfl, hfm⟩ := own_slice ho3
    have hB3 := hB2.trans (hb3.mono hB2.size)
    have hT1 : Two w (.slice (some ⟨w.heap.size, 0, none⟩) 0 0) (.slice (some ⟨w3.heap.size, 0, none⟩) 0 0) [] [] (w3.alloc (.cells #[] 9)) := by
      have h8 := hB2.size
      have h9 := hb3.size
      have h7 : w.heap.size < w2.heap.size := (hown0.lt w.heap.size rfl).2
      refine ⟨hB3.alloc hB3.size _, (own_below hown0 hb3 (Nat.le_refl _)).alloc _, own_base (own_new0 w3 9 1) hB3.size, fun g hg e => ?_⟩
      have e1 : w.heap.size = g := Option.some.inj hg
      have e2 : w3.heap.size = g := Option.some.inj e
      omega
    have hFS : SlcS (Off (.slice (some ⟨w.heap.size, 0, none⟩) 0 0) (.slice (some ⟨w3.heap.size, 0, none⟩) 0 0)) (w3.alloc (.cells #[] 9)) (.slice fa F.length fc) 1 F.length (F.flatMap int1) := (SlcS.of_own ho3).keep (by decide) fun b hS hl => ⟨Below.heap_alloc _ _ _ hl, fun e => by
      have e1 : b = w.heap.size := Option.some.inj e
      have hS' : w2.heap.size ≤ b := hS
      have h7 : w.heap.size < w2.heap.size := (hown0.lt w.heap.size rfl).2
      omega, fun e => by
      have e1 : b = w3.heap.size := Option.some.inj e
      omega⟩
    clear hown0 ho3 hB2 hb3 hB3
    go_wp2_with fail
    generalize (Value.slice (some ⟨w.heap.size, 0, none⟩) 0 0) = vA at hT1 hFS ⊢
    generalize (Value.slice (some ⟨w3.heap.size, 0, none⟩) 0 0) = vB at hT1 hFS ⊢
    generalize w3.alloc (.cells #[] 9) = wS at hT1 hFS ⊢
    unfold maxLen at hfm
    go_wp2
    go_loopw [3, 5, 6] (fun v vm i wr => ∃ (k : Nat) (acc met : List ByteArray) (va vb : Value), va = v ∧ vb = vm ∧ i = .int .i64 k ∧ k ≤ F.length ∧ acc.length ≤ 801 * k ∧ met.length ≤ k ∧ Two w va vb acc met wr ∧ SlcS (Off va vb) wr (.slice fa F.length fc) 1 F.length (F.flatMap int1) ∧ Hid (tot = acc ++ lintFns l0 met (F.drop k))) (fun _ _ i _ => F.length - (intOf i).toNat)
    case atStart => exact ⟨0, [], [], _, _, rfl, rfl, rfl, by omega, by simp, by simp, hT1, hFS, hid (by rw [htot.out]; rfl)⟩
    clear hT1 hFS
    obtain ⟨k, acc, met, v, vm, rfl, rfl, rfl, hk, hacc, hmet, hT, hFS, hrel⟩ := hrel
    have hb := hT.hb
    have hbs := hb.size
    by_cases hlt : k < F.length
    · obtain ⟨fi, hfi⟩ := get_of_lt hlt
      obtain ⟨j, rfl, hjl⟩ := hFin.out fi (List.mem_of_getElem? hfi)
      obtain ⟨y, ka2, kc2, b, off, hy, rfl, -, -, E2, -, -, -⟩ := hrange.out.at (Below.refl _ _) (Nat.le_refl _) hjl
      have hFS2 := hid hFS
      obtain ⟨_, _, _, hve, _, _, hrw9⟩ := hFS
      simp at hve
      obtain ⟨rfl, rfl⟩ := hve
      obtain ⟨zb, zoff, rfl, _, hro9⟩ := hrw9.resolve_left (by omega)
      have c0 := hro9.one int1_len hfi rfl
      have e2 := keepc hb E2
      have hyt := hTs.out j y hy
      rw [drop_cons hfi, lintFns, lintFn, hTy.out j y hy, List.append_assoc, List.append_assoc] at hrel
      have hjz : (j : Int) < (l0.length : Int) := by omega
      have hkz : (k : Int) < (F.length : Int) := by omega
      have hj64 : I64 (j : Int) := by unfold I64; omega
      obtain ⟨R, hRe⟩ : ∃ R, R = repeated l0 (j : Int) := ⟨_, rfl⟩
      obtain ⟨N, hNe⟩ : ∃ N, N = unusedOf l0 (j : Int) := ⟨_, rfl⟩
      have hrp := hid (hrep.out (j : Int) hj64)
      have hun := hid (hunu.out (j : Int) hj64)
      have hRl2 := hRl.out (j : Int)
      have hNl2 := hNl.out (j : Int)
      have hRs2 := hid (hRs.out (j : Int))
      have hNs2 := hid (hNs.out (j : Int))
      rw [← hRe] at hrel hrp hRl2 hRs2
      rw [← hNe] at hrel hun hNl2 hNs2
      have hzf := World.block_lt_of_cell? wr _ c0
      have hzo := fun o => (((Below.refl wr.heap.size wr).alloc (Nat.le_refl _) o).cell (p := ⟨zb, zoff + k, none⟩) hzf).trans c0
      have hfi9 := hid hfi
      clear hrw9 hro9 hfi hy hRe hNe
      have hcon := hid (specl3Find_any met vm y.text wr (by omega) (Slc.of_own hT.met))
      have hfh := find_has y.text met
      generalize findS y.text met 0 = fv at hcon hfh
      have hT2 := hid hT
      have hx63 : acc.length + 1 ≤ maxLen := by unfold maxLen; omega
      have hx47 : (acc.length + 1) * 16 ≤ 140737488355328 := by omega
      have hx63m : met.length + 1 ≤ maxLen := by unfold maxLen; omega
      have hx47m : (met.length + 1) * 16 ≤ 140737488355328 := by omega
      have hxb : ∀ o, w.heap.size ≤ (wr.alloc o).heap.size := fun o => by simp; omega
      replace hxb := hid hxb
      by_cases hd : hasT met y.text = true
      · rw [hd] at hfh
        have hfv : 0 ≤ fv := of_decide_eq_true hfh
        have hag : again1 met y.text = [tAgain ++ y.text] := by unfold again1; rw [if_pos hd]
        rw [hag] at hrel
        clear hd hag hT hfh
        go_wp2_with (first | (go_at_call 92; refine hcon.out.mono ?_; rintro e w' ⟨rfl, hw9⟩; subst w') | (at_builtin; refine wpList_append_lies _ (by rfl) _ _ _ (by rfl) w.heap.size 9 i0 _ 1 16 Tryz.underlying26 hi hz0 hz1 hz2 rfl (by omega) v acc.length (acc.flatMap str1) (by rfl) (hT2.out.out.alloc _) ⟨wr.heap.size, 0, none⟩ 1 1 [.string ((⟨#[97, 103, 97, 105, 110, 32]⟩ : ByteArray) ++ y.text)] (by rfl) (by rfl) (World.news_of_block (cs := #[.string ((⟨#[97, 103, 97, 105, 110, 32]⟩ : ByteArray) ++ y.text)]) (t := 9) (fr := (0, 0)) (heap_alloc_new wr _)) (by simp [Value.oneCell']) (by omega) hx63 hx47 (hxb.out _) (wr.heap.size + 1) (by simp) ?_; intro gg cap2 w8 hown8 hgr8 hat8 hlt8; have hT8 := hid (hT2.out.pushOut hown8 hgr8 hat8); have hFS8 := off_out (n := acc.length + 1) (cap := cap2) hFS2.out hgr8 hat8; have hxb8 : ∀ o, w.heap.size ≤ (w8.alloc o).heap.size := fun o => by have h9 := hT8.out.hb.size; simp; omega) | (at_builtin; refine wpList_append_lies _ (by rfl) _ _ _ (by rfl) w.heap.size 9 i0 _ 1 16 Tryz.underlying26 hi hz0 hz1 hz2 rfl (by omega) vm met.length (met.flatMap str1) (by rfl) (hT8.out.met.alloc _) ⟨w8.heap.size, 0, none⟩ 1 1 [.string y.text] (by rfl) (by rfl) (World.news_of_block (cs := #[.string y.text]) (t := 9) (fr := (0, 0)) (heap_alloc_new w8 _)) (by simp [Value.oneCell']) (by omega) hx63m hx47m (hxb8 _) (w8.heap.size + 1) (by simp) ?_; intro gm capm w10 hown10 hgr10 hat10 hlt10; have hT3 := hT8.out.pushMet hown10 hgr10 hat10; have hFS3 := off_met (n := met.length + 1) (cap := capm) hFS8 hgr10 hat10; have c9 := slcS_cell int1_len hFS3 hfi9.out rfl))
        obtain ⟨acc1, hacc1e⟩ : ∃ acc1, acc1 = acc ++ [(⟨#[97, 103, 97, 105, 110, 32]⟩ : ByteArray) ++ y.text] := ⟨_, rfl⟩
        have hrel1 : Hid (tot = acc1 ++ (R.map (twice1 y.text) ++ (N.map (unused1 y.text) ++ lintFns l0 (met ++ [y.text]) (F.drop (k + 1))))) := hid (by rw [hrel.out, hacc1e]; simp [tAgain])
        rw [← hacc1e] at hT3
        have hacc1 : acc1.length ≤ 801 * k + 1 := by rw [hacc1e, List.length_append, List.length_singleton]; omega
        generalize (Value.slice (some ⟨gg, 0, none⟩) (acc.length + 1) cap2) = v1 at hT3 hFS3 ⊢
        clear hacc1e hown10 hgr10 hat10 hlt10 hT8 hFS8 hFS2 hrel hown8 hgr8 hat8 hlt8 hxb8
        generalize (Value.slice (some ⟨gm, 0, none⟩) (met.length + 1) capm) = vm1 at hT3 hFS3 ⊢
        obtain ⟨met1, hmet1e⟩ : ∃ met1, met1 = met ++ [y.text] := ⟨_, rfl⟩
        rw [← hmet1e] at hT3 hrel1
        have hmet1 : met1.length ≤ k + 1 := by rw [hmet1e, List.length_append, List.length_singleton]; omega
        obtain ⟨fzb, hfzb⟩ : ∃ fzb, fzb = zb := ⟨_, rfl⟩
        obtain ⟨fzo, hfzo⟩ : ∃ fzo, fzo = zoff := ⟨_, rfl⟩
        subst hfzb
        subst hfzo
        have hFcell := hid (fun (vx : Value) (W : World) (h : SlcS (Off vx vm1) W (.slice (some ⟨fzb, fzo, none⟩) F.length fc) 1 F.length (F.flatMap int1)) => slcS_cell int1_len h hfi9.out rfl)
        have c0 := hFcell.out _ _ hFS3
        have e3 := keepc hT3.hb E2
        clear c9 hmet1e hcon hxb hx63 hx47 hx63m hx47m e2 hzo hzf
        go_wp2_with fail
        refine (hrp.out _ hT3.hb).mono ?_; rintro e w5 ⟨rv, rfl, hb5, ho5⟩
        obtain ⟨ra, rc, rfl, hrm⟩ := own_slice ho5
        unfold maxLen at hrm
        have hT5 := hT3.below hb5
        have hFS5 := hFS3.mono hb5
        have hRS5 : SlcS (Off v1 vm1) w5 (.slice ra R.length rc) 1 R.length (R.flatMap str1) := hT3.fresh ho5
        have hrel5 : Hid (tot = (acc1 ++ (R.drop 0).map (twice1 y.text)) ++ (N.map (unused1 y.text) ++ lintFns l0 met1 (F.drop (k + 1)))) := hid (by rw [hrel1.out, List.drop_zero, List.append_assoc])
        clear hb5 ho5 hT3 hFS3 hrel1
        go_wp2_with fail
        go_loopw [3, 9] (fun v i wr => ∃ (q : Nat) (ac : List ByteArray) (va : Value), va = v ∧ i = .int .i64 q ∧ q ≤ R.length ∧ ac.length ≤ 801 * k + 1 + q ∧ Two w va vm1 ac met1 wr ∧ SlcS (Off va vm1) wr (.slice (some ⟨fzb, fzo, none⟩) F.length fc) 1 F.length (F.flatMap int1) ∧ SlcS (Off va vm1) wr (.slice ra R.length rc) 1 R.length (R.flatMap str1) ∧ Hid (tot = (ac ++ (R.drop q).map (twice1 y.text)) ++ (N.map (unused1 y.text) ++ lintFns l0 met1 (F.drop (k + 1))))) (fun _ i _ => R.length - (intOf i).toNat)
        case atStart => exact ⟨0, _, _, rfl, rfl, by omega, by omega, hT5, hFS5, hRS5, hrel5⟩
        clear hT5 hFS5 hRS5 hrel5
        obtain ⟨q, ac, v1, rfl, rfl, hq, hac, hT, hFS, hRS, hrel⟩ := hrel
        have hbx := hT.hb
        have hbxs := hbx.size
        by_cases hlq : q < R.length
        · obtain ⟨s, hs⟩ := get_of_lt hlq
          have hRS2 := hid hRS
          obtain ⟨_, _, _, hve, _, _, hrw9⟩ := hRS
          simp at hve
          obtain ⟨rfl, rfl⟩ := hve
          obtain ⟨nb, noff, rfl, _, hro9⟩ := hrw9.resolve_left (by omega)
          have c0 := hro9.one str1_len hs rfl
          have hss := hRs2.out s (List.mem_of_getElem? hs)
          rw [drop_cons hs, List.map_cons] at hrel
          have hR2 : Hid (tot = ((ac ++ [twice1 y.text s]) ++ (R.drop (q + 1)).map (twice1 y.text)) ++ (N.map (unused1 y.text) ++ lintFns l0 met1 (F.drop (k + 1)))) := hid (by rw [hrel.out]; simp)
          have hqz : (q : Int) < (R.length : Int) := by omega
          have hT2 := hid hT
          have hFS2 := hid hFS
          have hx63 : ac.length + 1 ≤ maxLen := by unfold maxLen; omega
          have hx47 : (ac.length + 1) * 16 ≤ 140737488355328 := by omega
          have hxb : ∀ o, w.heap.size ≤ (wr.alloc o).heap.size := fun o => by simp; omega
          clear hs hrw9 hro9 hrel hT hFS
          go_wp2_with (first | (at_builtin; refine wpList_append_lies _ (by rfl) _ _ _ (by rfl) w.heap.size 9 i0 _ 1 16 Tryz.underlying26 hi hz0 hz1 hz2 rfl (by omega) v1 ac.length (ac.flatMap str1) (by rfl) (hT2.out.out.alloc _) ⟨wr.heap.size, 0, none⟩ 1 1 [.string ((⟨#[116, 119, 105, 99, 101, 32]⟩ : ByteArray) ++ s ++ (⟨#[32, 105, 110, 32]⟩ : ByteArray) ++ y.text)] (by rfl) (by rfl) (World.news_of_block (cs := #[.string ((⟨#[116, 119, 105, 99, 101, 32]⟩ : ByteArray) ++ s ++ (⟨#[32, 105, 110, 32]⟩ : ByteArray) ++ y.text)]) (t := 9) (fr := (0, 0)) (heap_alloc_new wr _)) (by simp [Value.oneCell']) (by omega) hx63 hx47 (hxb _) (wr.heap.size + 1) (by simp) ?_; intro gg cap2 w8 hown8 hgr8 hat8 hlt8))
          all_goals go_roundw
          all_goals first
            | (simp [intOf]; omega)
            | exact ⟨q + 1, ac ++ [twice1 y.text s], _, rfl, by go_num, by omega, by simp; omega, hT2.out.pushOut hown8 hgr8 hat8, off_out hFS2.out hgr8 hat8, off_out hRS2.out hgr8 hat8, hR2⟩
        · have hR2 : Hid (tot = ac ++ (N.map (unused1 y.text) ++ lintFns l0 met1 (F.drop (k + 1)))) := hid (by rw [hrel.out, List.drop_of_length_le (by omega)]; simp)
          clear hrel
          have c0 := hFcell.out _ _ hFS
          have e3 := keepc hbx E2
          clear hRS
          go_wp2_with fail
          refine (hun.out _ hbx).mono ?_; rintro e w6 ⟨nv, rfl, hb6, ho6⟩
          obtain ⟨na, nc, rfl, hnm⟩ := own_slice ho6
          unfold maxLen at hnm
          have hT6 := hT.below hb6
          have hFS6 := hFS.mono hb6
          have hRS6 : SlcS (Off v1 vm1) w6 (.slice na N.length nc) 1 N.length (N.flatMap str1) := hT.fresh ho6
          have hrel6 : Hid (tot = (ac ++ (N.drop 0).map (unused1 y.text)) ++ lintFns l0 met1 (F.drop (k + 1))) := hid (by rw [hR2.out, List.drop_zero, List.append_assoc])
          have hac1 : ac.length ≤ 801 * k + 1 + 400 := by omega
          clear hb6 ho6 hT hFS hR2 hbx hbxs hlq hq hac
          go_wp2_with fail
          go_loopw [3, 11] (fun v i wr => ∃ (q : Nat) (ac : List ByteArray) (va : Value), va = v ∧ i = .int .i64 q ∧ q ≤ N.length ∧ ac.length ≤ 801 * k + 1 + 400 + q ∧ Two w va vm1 ac met1 wr ∧ SlcS (Off va vm1) wr (.slice (some ⟨fzb, fzo, none⟩) F.length fc) 1 F.length (F.flatMap int1) ∧ SlcS (Off va vm1) wr (.slice na N.length nc) 1 N.length (N.flatMap str1) ∧ Hid (tot = (ac ++ (N.drop q).map (unused1 y.text)) ++ lintFns l0 met1 (F.drop (k + 1)))) (fun _ i _ => N.length - (intOf i).toNat)
          case atStart => exact ⟨0, _, _, rfl, rfl, by omega, by omega, hT6, hFS6, hRS6, hrel6⟩
          clear hT6 hFS6 hRS6 hrel6
          obtain ⟨q, ac, v1, rfl, rfl, hq, hac, hT, hFS, hRS, hrel⟩ := hrel
          have hbx := hT.hb
          have hbxs := hbx.size
          by_cases hlq : q < N.length
          · obtain ⟨s, hs⟩ := get_of_lt hlq
            have hRS2 := hid hRS
            obtain ⟨_, _, _, hve, _, _, hrw9⟩ := hRS
            simp at hve
            obtain ⟨rfl, rfl⟩ := hve
            obtain ⟨nb, noff, rfl, _, hro9⟩ := hrw9.resolve_left (by omega)
            have c0 := hro9.one str1_len hs rfl
            have hss := hNs2.out s (List.mem_of_getElem? hs)
            rw [drop_cons hs, List.map_cons] at hrel
            have hR2 : Hid (tot = ((ac ++ [unused1 y.text s]) ++ (N.drop (q + 1)).map (unused1 y.text)) ++ lintFns l0 met1 (F.drop (k + 1))) := hid (by rw [hrel.out]; simp)
            have hqz : (q : Int) < (N.length : Int) := by omega
            have hT2 := hid hT
            have hFS2 := hid hFS
            have hx63 : ac.length + 1 ≤ maxLen := by unfold maxLen; omega
            have hx47 : (ac.length + 1) * 16 ≤ 140737488355328 := by omega
            have hxb : ∀ o, w.heap.size ≤ (wr.alloc o).heap.size := fun o => by simp; omega
            clear hs hrw9 hro9 hrel hT hFS
            go_wp2_with (first | (at_builtin; refine wpList_append_lies _ (by rfl) _ _ _ (by rfl) w.heap.size 9 i0 _ 1 16 Tryz.underlying26 hi hz0 hz1 hz2 rfl (by omega) v1 ac.length (ac.flatMap str1) (by rfl) (hT2.out.out.alloc _) ⟨wr.heap.size, 0, none⟩ 1 1 [.string ((⟨#[117, 110, 117, 115, 101, 100, 32]⟩ : ByteArray) ++ s ++ (⟨#[32, 105, 110, 32]⟩ : ByteArray) ++ y.text)] (by rfl) (by rfl) (World.news_of_block (cs := #[.string ((⟨#[117, 110, 117, 115, 101, 100, 32]⟩ : ByteArray) ++ s ++ (⟨#[32, 105, 110, 32]⟩ : ByteArray) ++ y.text)]) (t := 9) (fr := (0, 0)) (heap_alloc_new wr _)) (by simp [Value.oneCell']) (by omega) hx63 hx47 (hxb _) (wr.heap.size + 1) (by simp) ?_; intro gg cap2 w8 hown8 hgr8 hat8 hlt8))
            all_goals go_roundw
            all_goals first
              | (simp [intOf]; omega)
              | exact ⟨q + 1, ac ++ [unused1 y.text s], _, rfl, by go_num, by omega, by simp; omega, hT2.out.pushOut hown8 hgr8 hat8, off_out hFS2.out hgr8 hat8, off_out hRS2.out hgr8 hat8, hR2⟩
          · have hR2 : Hid (tot = ac ++ lintFns l0 met1 (F.drop (k + 1))) := hid (by rw [hrel.out, List.drop_of_length_le (by omega)]; simp)
            clear hrel
            clear hRS
            replace hT := hid hT
            replace hFS := hid hFS
            go_wp2
            go_roundw
            case rel => exact ⟨k + 1, ac, met1, _, _, rfl, rfl, by go_num, by omega, by omega, by omega, hT.out, hFS.out, hR2⟩
            case measure => simp [intOf]; omega

      · have hd : hasT met y.text = false := by simpa using hd
        rw [hd] at hfh
        have hfv : ¬ 0 ≤ fv := of_decide_eq_false hfh
        have hag : again1 met y.text = [] := by unfold again1; rw [if_neg (by rw [hd]; simp)]
        rw [hag] at hrel
        clear hd hag hT hfh
        go_wp2_with (first | (go_at_call 92; refine hcon.out.mono ?_; rintro e w' ⟨rfl, hw9⟩; subst w') | (at_builtin; refine wpList_append_lies _ (by rfl) _ _ _ (by rfl) w.heap.size 9 i0 _ 1 16 Tryz.underlying26 hi hz0 hz1 hz2 rfl (by omega) vm met.length (met.flatMap str1) (by rfl) (hT2.out.met.alloc _) ⟨wr.heap.size, 0, none⟩ 1 1 [.string y.text] (by rfl) (by rfl) (World.news_of_block (cs := #[.string y.text]) (t := 9) (fr := (0, 0)) (heap_alloc_new wr _)) (by simp [Value.oneCell']) (by omega) hx63m hx47m (hxb.out _) (wr.heap.size + 1) (by simp) ?_; intro gm capm w10 hown10 hgr10 hat10 hlt10; have hT3 := hT2.out.pushMet hown10 hgr10 hat10; have hFS3 := off_met (n := met.length + 1) (cap := capm) hFS2.out hgr10 hat10; have c9 := slcS_cell int1_len hFS3 hfi9.out rfl))
        obtain ⟨acc1, hacc1e⟩ : ∃ acc1, acc1 = acc := ⟨_, rfl⟩
        have hrel1 : Hid (tot = acc1 ++ (R.map (twice1 y.text) ++ (N.map (unused1 y.text) ++ lintFns l0 (met ++ [y.text]) (F.drop (k + 1))))) := hid (by rw [hrel.out, hacc1e]; simp)
        rw [← hacc1e] at hT3
        have hacc1 : acc1.length ≤ 801 * k + 1 := by rw [hacc1e]; omega
        obtain ⟨v1, hv1⟩ : ∃ v1, v1 = v := ⟨_, rfl⟩
        rw [← hv1] at hT3 hFS3 ⊢
        clear hacc1e hown10 hgr10 hat10 hlt10 hT2 hFS2 hrel hv1
        generalize (Value.slice (some ⟨gm, 0, none⟩) (met.length + 1) capm) = vm1 at hT3 hFS3 ⊢
        obtain ⟨met1, hmet1e⟩ : ∃ met1, met1 = met ++ [y.text] := ⟨_, rfl⟩
        rw [← hmet1e] at hT3 hrel1
        have hmet1 : met1.length ≤ k + 1 := by rw [hmet1e, List.length_append, List.length_singleton]; omega
        obtain ⟨fzb, hfzb⟩ : ∃ fzb, fzb = zb := ⟨_, rfl⟩
        obtain ⟨fzo, hfzo⟩ : ∃ fzo, fzo = zoff := ⟨_, rfl⟩
        subst hfzb
        subst hfzo
        have hFcell := hid (fun (vx : Value) (W : World) (h : SlcS (Off vx vm1) W (.slice (some ⟨fzb, fzo, none⟩) F.length fc) 1 F.length (F.flatMap int1)) => slcS_cell int1_len h hfi9.out rfl)
        have c0 := hFcell.out _ _ hFS3
        have e3 := keepc hT3.hb E2
        clear c9 hmet1e hcon hxb hx63 hx47 hx63m hx47m e2 hzo hzf
        go_wp2_with fail
        refine (hrp.out _ hT3.hb).mono ?_; rintro e w5 ⟨rv, rfl, hb5, ho5⟩
        obtain ⟨ra, rc, rfl, hrm⟩ := own_slice ho5
        unfold maxLen at hrm
        have hT5 := hT3.below hb5
        have hFS5 := hFS3.mono hb5
        have hRS5 : SlcS (Off v1 vm1) w5 (.slice ra R.length rc) 1 R.length (R.flatMap str1) := hT3.fresh ho5
        have hrel5 : Hid (tot = (acc1 ++ (R.drop 0).map (twice1 y.text)) ++ (N.map (unused1 y.text) ++ lintFns l0 met1 (F.drop (k + 1)))) := hid (by rw [hrel1.out, List.drop_zero, List.append_assoc])
        clear hb5 ho5 hT3 hFS3 hrel1
        go_wp2_with fail
        go_loopw [3, 9] (fun v i wr => ∃ (q : Nat) (ac : List ByteArray) (va : Value), va = v ∧ i = .int .i64 q ∧ q ≤ R.length ∧ ac.length ≤ 801 * k + 1 + q ∧ Two w va vm1 ac met1 wr ∧ SlcS (Off va vm1) wr (.slice (some ⟨fzb, fzo, none⟩) F.length fc) 1 F.length (F.flatMap int1) ∧ SlcS (Off va vm1) wr (.slice ra R.length rc) 1 R.length (R.flatMap str1) ∧ Hid (tot = (ac ++ (R.drop q).map (twice1 y.text)) ++ (N.map (unused1 y.text) ++ lintFns l0 met1 (F.drop (k + 1))))) (fun _ i _ => R.length - (intOf i).toNat)
        case atStart => exact ⟨0, _, _, rfl, rfl, by omega, by omega, hT5, hFS5, hRS5, hrel5⟩
        clear hT5 hFS5 hRS5 hrel5
        obtain ⟨q, ac, v1, rfl, rfl, hq, hac, hT, hFS, hRS, hrel⟩ := hrel
        have hbx := hT.hb
        have hbxs := hbx.size
        by_cases hlq : q < R.length
        · obtain ⟨s, hs⟩ := get_of_lt hlq
          have hRS2 := hid hRS
          obtain ⟨_, _, _, hve, _, _, hrw9⟩ := hRS
          simp at hve
          obtain ⟨rfl, rfl⟩ := hve
          obtain ⟨nb, noff, rfl, _, hro9⟩ := hrw9.resolve_left (by omega)
          have c0 := hro9.one str1_len hs rfl
          have hss := hRs2.out s (List.mem_of_getElem? hs)
          rw [drop_cons hs, List.map_cons] at hrel
          have hR2 : Hid (tot = ((ac ++ [twice1 y.text s]) ++ (R.drop (q + 1)).map (twice1 y.text)) ++ (N.map (unused1 y.text) ++ lintFns l0 met1 (F.drop (k + 1)))) := hid (by rw [hrel.out]; simp)
          have hqz : (q : Int) < (R.length : Int) := by omega
          have hT2 := hid hT
          have hFS2 := hid hFS
          have hx63 : ac.length + 1 ≤ maxLen := by unfold maxLen; omega
          have hx47 : (ac.length + 1) * 16 ≤ 140737488355328 := by omega
          have hxb : ∀ o, w.heap.size ≤ (wr.alloc o).heap.size := fun o => by simp; omega
          clear hs hrw9 hro9 hrel hT hFS
          go_wp2_with (first | (at_builtin; refine wpList_append_lies _ (by rfl) _ _ _ (by rfl) w.heap.size 9 i0 _ 1 16 Tryz.underlying26 hi hz0 hz1 hz2 rfl (by omega) v1 ac.length (ac.flatMap str1) (by rfl) (hT2.out.out.alloc _) ⟨wr.heap.size, 0, none⟩ 1 1 [.string ((⟨#[116, 119, 105, 99, 101, 32]⟩ : ByteArray) ++ s ++ (⟨#[32, 105, 110, 32]⟩ : ByteArray) ++ y.text)] (by rfl) (by rfl) (World.news_of_block (cs := #[.string ((⟨#[116, 119, 105, 99, 101, 32]⟩ : ByteArray) ++ s ++ (⟨#[32, 105, 110, 32]⟩ : ByteArray) ++ y.text)]) (t := 9) (fr := (0, 0)) (heap_alloc_new wr _)) (by simp [Value.oneCell']) (by omega) hx63 hx47 (hxb _) (wr.heap.size + 1) (by simp) ?_; intro gg cap2 w8 hown8 hgr8 hat8 hlt8))
          all_goals go_roundw
          all_goals first
            | (simp [intOf]; omega)
            | exact ⟨q + 1, ac ++ [twice1 y.text s], _, rfl, by go_num, by omega, by simp; omega, hT2.out.pushOut hown8 hgr8 hat8, off_out hFS2.out hgr8 hat8, off_out hRS2.out hgr8 hat8, hR2⟩
        · have hR2 : Hid (tot = ac ++ (N.map (unused1 y.text) ++ lintFns l0 met1 (F.drop (k + 1)))) := hid (by rw [hrel.out, List.drop_of_length_le (by omega)]; simp)
          clear hrel
          have c0 := hFcell.out _ _ hFS
          have e3 := keepc hbx E2
          clear hRS
          go_wp2_with fail
          refine (hun.out _ hbx).mono ?_; rintro e w6 ⟨nv, rfl, hb6, ho6⟩
          obtain ⟨na, nc, rfl, hnm⟩ := own_slice ho6
          unfold maxLen at hnm
          have hT6 := hT.below hb6
          have hFS6 := hFS.mono hb6
          have hRS6 : SlcS (Off v1 vm1) w6 (.slice na N.length nc) 1 N.length (N.flatMap str1) := hT.fresh ho6
          have hrel6 : Hid (tot = (ac ++ (N.drop 0).map (unused1 y.text)) ++ lintFns l0 met1 (F.drop (k + 1))) := hid (by rw [hR2.out, List.drop_zero, List.append_assoc])
          have hac1 : ac.length ≤ 801 * k + 1 + 400 := by omega
          clear hb6 ho6 hT hFS hR2 hbx hbxs hlq hq hac
          go_wp2_with fail
          go_loopw [3, 11] (fun v i wr => ∃ (q : Nat) (ac : List ByteArray) (va : Value), va = v ∧ i = .int .i64 q ∧ q ≤ N.length ∧ ac.length ≤ 801 * k + 1 + 400 + q ∧ Two w va vm1 ac met1 wr ∧ SlcS (Off va vm1) wr (.slice (some ⟨fzb, fzo, none⟩) F.length fc) 1 F.length (F.flatMap int1) ∧ SlcS (Off va vm1) wr (.slice na N.length nc) 1 N.length (N.flatMap str1) ∧ Hid (tot = (ac ++ (N.drop q).map (unused1 y.text)) ++ lintFns l0 met1 (F.drop (k + 1)))) (fun _ i _ => N.length - (intOf i).toNat)
          case atStart => exact ⟨0, _, _, rfl, rfl, by omega, by omega, hT6, hFS6, hRS6, hrel6⟩
          clear hT6 hFS6 hRS6 hrel6
          obtain ⟨q, ac, v1, rfl, rfl, hq, hac, hT, hFS, hRS, hrel⟩ := hrel
          have hbx := hT.hb
          have hbxs := hbx.size
          by_cases hlq : q < N.length
          · obtain ⟨s, hs⟩ := get_of_lt hlq
            have hRS2 := hid hRS
            obtain ⟨_, _, _, hve, _, _, hrw9⟩ := hRS
            simp at hve
            obtain ⟨rfl, rfl⟩ := hve
            obtain ⟨nb, noff, rfl, _, hro9⟩ := hrw9.resolve_left (by omega)
            have c0 := hro9.one str1_len hs rfl
            have hss := hNs2.out s (List.mem_of_getElem? hs)
            rw [drop_cons hs, List.map_cons] at hrel
            have hR2 : Hid (tot = ((ac ++ [unused1 y.text s]) ++ (N.drop (q + 1)).map (unused1 y.text)) ++ lintFns l0 met1 (F.drop (k + 1))) := hid (by rw [hrel.out]; simp)
            have hqz : (q : Int) < (N.length : Int) := by omega
            have hT2 := hid hT
            have hFS2 := hid hFS
            have hx63 : ac.length + 1 ≤ maxLen := by unfold maxLen; omega
            have hx47 : (ac.length + 1) * 16 ≤ 140737488355328 := by omega
            have hxb : ∀ o, w.heap.size ≤ (wr.alloc o).heap.size := fun o => by simp; omega
            clear hs hrw9 hro9 hrel hT hFS
            go_wp2_with (first | (at_builtin; refine wpList_append_lies _ (by rfl) _ _ _ (by rfl) w.heap.size 9 i0 _ 1 16 Tryz.underlying26 hi hz0 hz1 hz2 rfl (by omega) v1 ac.length (ac.flatMap str1) (by rfl) (hT2.out.out.alloc _) ⟨wr.heap.size, 0, none⟩ 1 1 [.string ((⟨#[117, 110, 117, 115, 101, 100, 32]⟩ : ByteArray) ++ s ++ (⟨#[32, 105, 110, 32]⟩ : ByteArray) ++ y.text)] (by rfl) (by rfl) (World.news_of_block (cs := #[.string ((⟨#[117, 110, 117, 115, 101, 100, 32]⟩ : ByteArray) ++ s ++ (⟨#[32, 105, 110, 32]⟩ : ByteArray) ++ y.text)]) (t := 9) (fr := (0, 0)) (heap_alloc_new wr _)) (by simp [Value.oneCell']) (by omega) hx63 hx47 (hxb _) (wr.heap.size + 1) (by simp) ?_; intro gg cap2 w8 hown8 hgr8 hat8 hlt8))
            all_goals go_roundw
            all_goals first
              | (simp [intOf]; omega)
              | exact ⟨q + 1, ac ++ [unused1 y.text s], _, rfl, by go_num, by omega, by simp; omega, hT2.out.pushOut hown8 hgr8 hat8, off_out hFS2.out hgr8 hat8, off_out hRS2.out hgr8 hat8, hR2⟩
          · have hR2 : Hid (tot = ac ++ lintFns l0 met1 (F.drop (k + 1))) := hid (by rw [hrel.out, List.drop_of_length_le (by omega)]; simp)
            clear hrel
            clear hRS
            replace hT := hid hT
            replace hFS := hid hFS
            go_wp2
            go_roundw
            case rel => exact ⟨k + 1, ac, met1, _, _, rfl, rfl, by go_num, by omega, by omega, by omega, hT.out, hFS.out, hR2⟩
            case measure => simp [intOf]; omega
    · have hR2 : Hid (tot = acc) := hid (by rw [hrel.out, List.drop_of_length_le (by omega), lintFns, List.append_nil])
      clear hrel
      have hacc0 : acc.length ≤ 320400 := by omega
      clear hFS
      go_wp2_with fail
      refine (hund.out _ hb).mono ?_; rintro e w5 ⟨uv, rfl, hb5, ho5⟩
      obtain ⟨ua, uc, rfl, hum⟩ := own_slice ho5
      unfold maxLen at hum
      have hT5 := hT.below hb5
      have hRS5 : SlcS (Off v vm) w5 (.slice ua U4.length uc) 1 U4.length (U4.flatMap str1) := hT.fresh ho5
      have hrel5 : Hid (ans = (acc ++ (U4.drop 0).map (tUnknown ++ ·)) ++ A5.map (fun i => tAssigned ++ ⟨(itoa i).toArray⟩)) := hid (by rw [hR.out, hR2.out, List.drop_zero])
      clear hb5 ho5 hT hR hR2 hb hbs hlt hk hacc hmet
      go_wp2_with fail
      go_loopw [3, 13] (fun v i wr => ∃ (q : Nat) (ac : List ByteArray) (va : Value), va = v ∧ i = .int .i64 q ∧ q ≤ U4.length ∧ ac.length ≤ 320400 + q ∧ Two w va vm ac met wr ∧ SlcS (Off va vm) wr (.slice ua U4.length uc) 1 U4.length (U4.flatMap str1) ∧ Hid (ans = (ac ++ (U4.drop q).map (tUnknown ++ ·)) ++ A5.map (fun i => tAssigned ++ ⟨(itoa i).toArray⟩))) (fun _ i _ => U4.length - (intOf i).toNat)
      case atStart => exact ⟨0, _, _, rfl, rfl, by omega, by omega, hT5, hRS5, hrel5⟩
      clear hT5 hRS5 hrel5
      obtain ⟨q, ac, v, rfl, rfl, hq, hac, hT, hRS, hrel⟩ := hrel
      have hbx := hT.hb
      have hbxs := hbx.size
      by_cases hlq : q < U4.length
      · obtain ⟨s, hs⟩ := get_of_lt hlq
        have hRS2 := hid hRS
        obtain ⟨_, _, _, hve, _, _, hrw9⟩ := hRS
        simp at hve
        obtain ⟨rfl, rfl⟩ := hve
        obtain ⟨nb, noff, rfl, _, hro9⟩ := hrw9.resolve_left (by omega)
        have c0 := hro9.one str1_len hs rfl
        have hss := hUs.out s (List.mem_of_getElem? hs)
        rw [drop_cons hs, List.map_cons] at hrel
        have hR2 : Hid (ans = ((ac ++ [tUnknown ++ s]) ++ (U4.drop (q + 1)).map (tUnknown ++ ·)) ++ A5.map (fun i => tAssigned ++ ⟨(itoa i).toArray⟩)) := hid (by rw [hrel.out]; simp)
        have hqz : (q : Int) < (U4.length : Int) := by omega
        have hT2 := hid hT
        have hx63 : ac.length + 1 ≤ maxLen := by unfold maxLen; omega
        have hx47 : (ac.length + 1) * 16 ≤ 140737488355328 := by omega
        have hxb : ∀ o, w.heap.size ≤ (wr.alloc o).heap.size := fun o => by simp; omega
        clear hs hrw9 hro9 hrel hT
        go_wp2_with (first | (at_builtin; refine wpList_append_lies _ (by rfl) _ _ _ (by rfl) w.heap.size 9 i0 _ 1 16 Tryz.underlying26 hi hz0 hz1 hz2 rfl (by omega) v ac.length (ac.flatMap str1) (by rfl) (hT2.out.out.alloc _) ⟨wr.heap.size, 0, none⟩ 1 1 [.string ((⟨#[117, 110, 107, 110, 111, 119, 110, 32]⟩ : ByteArray) ++ s)] (by rfl) (by rfl) (World.news_of_block (cs := #[.string ((⟨#[117, 110, 107, 110, 111, 119, 110, 32]⟩ : ByteArray) ++ s)]) (t := 9) (fr := (0, 0)) (heap_alloc_new wr _)) (by simp [Value.oneCell']) (by omega) hx63 hx47 (hxb _) (wr.heap.size + 1) (by simp) ?_; intro gg cap2 w8 hown8 hgr8 hat8 hlt8))
        all_goals go_roundw
        all_goals first
          | (simp [intOf]; omega)
          | exact ⟨q + 1, ac ++ [tUnknown ++ s], _, rfl, by go_num, by omega, by simp; omega, hT2.out.pushOut hown8 hgr8 hat8, off_out hRS2.out hgr8 hat8, hR2⟩
      · have hR2 : Hid (ans = ac ++ A5.map (fun i => tAssigned ++ ⟨(itoa i).toArray⟩)) := hid (by rw [hrel.out, List.drop_of_length_le (by omega)]; simp)
        clear hrel hRS
        go_wp2_with fail
        refine (hass.out _ hbx).mono ?_; rintro e w6 ⟨av, rfl, hb6, ho6⟩
        obtain ⟨aa, ac2, rfl, ham⟩ := own_slice ho6
        unfold maxLen at ham
        have hT6 := hT.below hb6
        have hRS6 : SlcS (Off v vm) w6 (.slice aa A5.length ac2) 1 A5.length (A5.flatMap int1) := hT.fresh ho6
        have hrel6 : Hid (ans = ac ++ (A5.drop 0).map (fun i => tAssigned ++ ⟨(itoa i).toArray⟩)) := hid (by rw [hR2.out, List.drop_zero])
        have hac1 : ac.length ≤ 320800 := by omega
        clear hb6 ho6 hT hR2 hbx hbxs hlq hq hac
        go_wp2_with fail
        go_loopw [3, 15] (fun v i wr => ∃ (q : Nat) (ac : List ByteArray) (va : Value), va = v ∧ i = .int .i64 q ∧ q ≤ A5.length ∧ ac.length ≤ 320800 + q ∧ Two w va vm ac met wr ∧ SlcS (Off va vm) wr (.slice aa A5.length ac2) 1 A5.length (A5.flatMap int1) ∧ Hid (ans = ac ++ (A5.drop q).map (fun i => tAssigned ++ ⟨(itoa i).toArray⟩))) (fun _ i _ => A5.length - (intOf i).toNat)
        case atStart => exact ⟨0, _, _, rfl, rfl, by omega, by omega, hT6, hRS6, hrel6⟩
        clear hT6 hRS6 hrel6
        obtain ⟨q, ac, v, rfl, rfl, hq, hac, hT, hRS, hrel⟩ := hrel
        have hbx := hT.hb
        have hbxs := hbx.size
        by_cases hlq : q < A5.length
        · obtain ⟨s, hs⟩ := get_of_lt hlq
          obtain ⟨j, rfl, hjl⟩ := hAin.out s (List.mem_of_getElem? hs)
          have hRS2 := hid hRS
          obtain ⟨_, _, _, hve, _, _, hrw9⟩ := hRS
          simp at hve
          obtain ⟨rfl, rfl⟩ := hve
          obtain ⟨nb, noff, rfl, _, hro9⟩ := hrw9.resolve_left (by omega)
          have c0 := hro9.one int1_len hs rfl
          rw [drop_cons hs, List.map_cons] at hrel
          have hR2 : Hid (ans = (ac ++ [tAssigned ++ ⟨(itoa (j : Int)).toArray⟩]) ++ (A5.drop (q + 1)).map (fun i => tAssigned ++ ⟨(itoa i).toArray⟩)) := hid (by rw [hrel.out]; simp)
          have hqz : (q : Int) < (A5.length : Int) := by omega
          have hdz : (itoa (j : Int)).length ≤ 9 := dec_size j (by omega)
          have hdc := hid (hdec.out j (by omega) _ hbx)
          have hT2 := hid hT
          have hx63 : ac.length + 1 ≤ maxLen := by unfold maxLen; omega
          have hx47 : (ac.length + 1) * 16 ≤ 140737488355328 := by omega
          clear hs hrw9 hro9 hrel hT
          go_wp2_with (first | (go_at_call 95; refine hdc.out.mono ?_; rintro e w7 ⟨rfl, hb7⟩; have hT7 := hid (hT2.out.below hb7); have hRS7 := hid (SlcS.mono hRS2.out hb7); have hxb : ∀ o, w.heap.size ≤ (w7.alloc o).heap.size := fun o => by have h9 := hT7.out.hb.size; simp; omega) | (at_builtin; refine wpList_append_lies _ (by rfl) _ _ _ (by rfl) w.heap.size 9 i0 _ 1 16 Tryz.underlying26 hi hz0 hz1 hz2 rfl (by omega) v ac.length (ac.flatMap str1) (by rfl) (hT7.out.out.alloc _) ⟨w7.heap.size, 0, none⟩ 1 1 [.string ((⟨#[97, 115, 115, 105, 103, 110, 101, 100, 32, 97, 116, 32]⟩ : ByteArray) ++ ⟨(itoa (j : Int)).toArray⟩)] (by rfl) (by rfl) (World.news_of_block (cs := #[.string ((⟨#[97, 115, 115, 105, 103, 110, 101, 100, 32, 97, 116, 32]⟩ : ByteArray) ++ ⟨(itoa (j : Int)).toArray⟩)]) (t := 9) (fr := (0, 0)) (heap_alloc_new w7 _)) (by simp [Value.oneCell']) (by omega) hx63 hx47 (hxb _) (w7.heap.size + 1) (by simp) ?_; intro gg cap2 w8 hown8 hgr8 hat8 hlt8))
          all_goals go_roundw
          all_goals first
            | (simp [intOf]; omega)
            | exact ⟨q + 1, ac ++ [tAssigned ++ ⟨(itoa (j : Int)).toArray⟩], _, rfl, by go_num, by omega, by simp; omega, hT7.out.pushOut hown8 hgr8 hat8, off_out hRS7.out hgr8 hat8, hR2⟩
        · have hR2 : Hid (ans = ac) := hid (by rw [hrel.out, List.drop_of_length_le (by omega)]; simp)
          have hfin := hid hT.out
          clear hrel hRS hT
          go_wp2
          go_ret
          exact ⟨_, rfl, hbx, by rw [hR2.out]; exact hfin.out⟩
  · have hR : Hid (lintsOf l0 = []) := hid (by unfold lintsOf; rw [if_neg hp])
    have hp : progOkB l0 = false := by simpa using hp
    rw [hp] at hprog
    clear hp
    go_enter Tryz.func18, Tryz.ntmps18
    go_wp2_with fail
    refine (hprog.out _ (by repeat (first | exact Below.refl _ _ | refine Below.alloc ?_ (by first | omega | (simp; done) | (simp; omega)) _ | refine Below.drew ?_))).mono ?_; rintro e w2 ⟨rfl, hb2⟩
    have hB2 : Below w.heap.size w w2 := (by repeat (first | exact Below.refl _ _ | refine Below.alloc ?_ (by first | omega | (simp; done) | (simp; omega)) _ | refine Below.drew ?_) : Below w.heap.size w _).trans (hb2.mono (by first | (simp; done) | (simp; omega)))
    have hown0 := own_below (own_new0 w 9 1) hb2 (Nat.le_refl _)
    go_wp2
    go_ret
    exact ⟨_, rfl, hB2, by rw [hR.out]; exact hown0⟩
end Go.Proofs.YtgmciglaapnahaaGreatDoor
/- Walks and lemmas of this seat (FLintsI): what each theorem says of the functions that it names. Conditions: those that each theorem states. -/
namespace Go.Proofs.YtgmciglaapnahaaGreatDoor
set_option linter.unusedVariables false
set_option linter.unusedSimpArgs false
open Go.RowKit Go.Lib


set_option maxRecDepth 100000 in
set_option maxHeartbeats 6400000 in
theorem implLints_any (l0 : List Node) (v0 : Value) (w : World) (hx0 : ∀ x ∈ l0, x.Ok) (hn0 : bulk Node.sizes l0 ≤ 1048576) (hv0 : NodeSlc w v0 l0) (hE : MeasEnv w) :
    Calls Tryz.prog 16 #[v0] w fun e w' => ∃ v', e = .returned v' ∧ Below w.heap.size w w' ∧ w'.ownsRow w.heap.size 9 1 v' (lintsOf l0).length ((lintsOf l0).flatMap str1) := by
  have hv := hv0
  have hprog := hid fun W (hb : Below w.heap.size w W) => implProgramOk_any l0 v0 W hx0 hn0 (hv.mono hb (Nat.le_refl _)) (hE.1.below hb)
  obtain ⟨i0, hi, hz0, hz1, hz2⟩ := info_parts Tryz.info9
  have hfun := hid fun W (hb : Below w.heap.size w W) => implFuncsOf_any l0 v0 W hx0 hn0 (hv.mono hb (Nat.le_refl _))
  have hrep := hid fun a1 (ha : I64 a1) W (hb : Below w.heap.size w W) => implRepeated_any l0 v0 a1 W hx0 hn0 (hv.mono hb (Nat.le_refl _)) ha (hE.1.below hb)
  have hunu := hid fun a1 (ha : I64 a1) W (hb : Below w.heap.size w W) => implUnused_any l0 v0 a1 W hx0 hn0 (hv.mono hb (Nat.le_refl _)) ha (hE.1.below hb)
  have hund := hid fun W (hb : Below w.heap.size w W) => implUndefined_any l0 v0 W hx0 hn0 (hv.mono hb (Nat.le_refl _))
  have hass := hid fun W (hb : Below w.heap.size w W) => implAssignedIn_any l0 v0 W hx0 hn0 (hv.mono hb (Nat.le_refl _)) (hE.1.below hb)
  have hdec := hid fun (n : Nat) (hn : n ≤ 1048576) W (hb : Below w.heap.size w W) => implDec_any (n : Int) W (by omega) (by omega) (hE.2.below hb)
  obtain ⟨a, cap, rfl, hm, hc, hsl⟩ := hv0.shape
  by_cases hp : progOkB l0 = true
  · have hok := progOk_tree hp
    have hs := treeOk_shape hok
    obtain ⟨h1, h2, _⟩ := shapeOk_yes hs
    have hrange := hid hsl
    have hR : Hid (lintsOf l0 = lintFns l0 [] (funcsOf 0 l0) ++ (undefined l0).map (tUnknown ++ ·) ++ (assignedAll l0).map (fun i => tAssigned ++ ⟨(itoa i).toArray⟩)) := hid (by unfold lintsOf; rw [if_pos hp])
    have hFl : (funcsOf 0 l0).length ≤ 400 := Nat.le_trans (funcsOf_len l0 0) h2
    have hFin := hid (funcsOf_in l0)
    have hUl : (undefined l0).length ≤ 400 := Nat.le_trans (undefined_len l0) h2
    have hAl : (assignedAll l0).length ≤ 400 := Nat.le_trans (assignedAll_len l0) h2
    have hAin := hid (assignedAll_in l0)
    have hRl := hid fun a1 => repeated_400 hs a1
    have hNl := hid fun a1 => unused_400 hs a1
    have hRs := hid fun a1 => repeated_small hn0 a1
    have hNs := hid fun a1 => unused_small hn0 a1
    have hUs := hid (undefined_small hn0)
    have hTs := hid fun (j : Nat) (y : Node) (hy : l0[j]? = some y) => text_small hn0 hy
    have hTy := hid fun (j : Nat) (y : Node) (hy : l0[j]? = some y) => textAt_of hy
    generalize lintsOf l0 = ans at hR ⊢
    generalize funcsOf 0 l0 = F at hR hFl hFin hfun
    generalize undefined l0 = U4 at hR hUl hUs hund
    generalize assignedAll l0 = A5 at hR hAl hAin hass
    obtain ⟨tot, htot⟩ : ∃ tot, tot = lintFns l0 [] F := ⟨_, rfl⟩
    rw [← htot] at hR
    replace htot := hid htot
    rw [hp] at hprog
    clear hp hs hok hv0 hsl hv hE
    go_enter Tryz.func16, Tryz.ntmps16
    go_wp2_with fail
    refine (hprog.out _ (by repeat (first | exact Below.refl _ _ | refine Below.alloc ?_ (by first | omega | (simp; done) | (simp; omega)) _ | refine Below.drew ?_))).mono ?_; rintro e w2 ⟨rfl, hb2⟩
    have hB2 : Below w.heap.size w w2 := (by repeat (first | exact Below.refl _ _ | refine Below.alloc ?_ (by first | omega | (simp; done) | (simp; omega)) _ | refine Below.drew ?_) : Below w.heap.size w _).trans (hb2.mono (by first | (simp; done) | (simp; omega)))
    have hT0 : Two w (.slice (some ⟨w.heap.size, 0, none⟩) 0 0) (.slice (some ⟨w.heap.size + 1, 0, none⟩) 0 0) [] [] w2 := by
      refine ⟨hB2, own_below ((own_new0 w 9 1).alloc _) hb2 (Nat.le_refl _), ?_, by simp [Value.ownBlock]⟩
      have h9 := own_below (own_new0 (w.alloc (.cells #[] 9)) 9 1) hb2 (Nat.le_refl _)
      rw [World.size_alloc] at h9
      exact own_base h9 (by omega)
    clear hb2
    go_wp2_with fail
    refine (hfun.out _ hB2).mono ?_; rintro e w3 ⟨fv, rfl, hb3, ho3⟩
    obtain ⟨fa, fc, rfl, hfm⟩ := own_slice ho3
    have hT1 := hT0.below hb3
    have hFS : SlcS (Off (.slice (some ⟨w.heap.size, 0, none⟩) 0 0) (.slice (some ⟨w.heap.size + 1, 0, none⟩) 0 0)) w3 (.slice fa F.length fc) 1 F.length (F.flatMap int1) := hT0.fresh ho3
    generalize (Value.slice (some ⟨w.heap.size, 0, none⟩) 0 0) = vA at hT1 hFS ⊢
    generalize (Value.slice (some ⟨w.heap.size + 1, 0, none⟩) 0 0) = vB at hT1 hFS ⊢
    clear hT0 ho3
    unfold maxLen at hfm
    go_wp2
    go_loopw [3, 4, 25] (fun v vm i wr => ∃ (k : Nat) (acc met : List ByteArray) (va vb : Value), va = v ∧ vb = vm ∧ i = .int .i64 k ∧ k ≤ F.length ∧ acc.length ≤ 801 * k ∧ met.length ≤ k ∧ Two w va vb acc met wr ∧ SlcS (Off va vb) wr (.slice fa F.length fc) 1 F.length (F.flatMap int1) ∧ Hid (tot = acc ++ lintFns l0 met (F.drop k))) (fun _ _ i _ => F.length - (intOf i).toNat)
    case atStart => exact ⟨0, [], [], _, _, rfl, rfl, rfl, by omega, by simp, by simp, hT1, hFS, hid (by rw [htot.out]; rfl)⟩
    clear hT1 hFS
    obtain ⟨k, acc, met, v, vm, rfl, rfl, rfl, hk, hacc, hmet, hT, hFS, hrel⟩ := hrel
    have hb := hT.hb
    have hbs := hb.size
    by_cases hlt : k < F.length
    · obtain ⟨fi, hfi⟩ := get_of_lt hlt
      obtain ⟨j, rfl, hjl⟩ := hFin.out fi (List.mem_of_getElem? hfi)
      obtain ⟨y, ka2, kc2, b, off, hy, rfl, -, -, E2, -, -, -⟩ := hrange.out.at (Below.refl _ _) (Nat.le_refl _) hjl
      have hFS2 := hid hFS
      obtain ⟨_, _, _, hve, _, _, hrw9⟩ := hFS
      simp at hve
      obtain ⟨rfl, rfl⟩ := hve
      obtain ⟨zb, zoff, rfl, _, hro9⟩ := hrw9.resolve_left (by omega)
      have c0 := hro9.one int1_len hfi rfl
      have e2 := keepc hb E2
      have hyt := hTs.out j y hy
      rw [drop_cons hfi, lintFns, lintFn, hTy.out j y hy, List.append_assoc, List.append_assoc] at hrel
      have hjz : (j : Int) < (l0.length : Int) := by omega
      have hkz : (k : Int) < (F.length : Int) := by omega
      have hj64 : I64 (j : Int) := by unfold I64; omega
      obtain ⟨R, hRe⟩ : ∃ R, R = repeated l0 (j : Int) := ⟨_, rfl⟩
      obtain ⟨N, hNe⟩ : ∃ N, N = unusedOf l0 (j : Int) := ⟨_, rfl⟩
      have hrp := hid (hrep.out (j : Int) hj64)
      have hun := hid (hunu.out (j : Int) hj64)
      have hRl2 := hRl.out (j : Int)
      have hNl2 := hNl.out (j : Int)
      have hRs2 := hid (hRs.out (j : Int))
      have hNs2 := hid (hNs.out (j : Int))
      rw [← hRe] at hrel hrp hRl2 hRs2
      rw [← hNe] at hrel hun hNl2 hNs2
      have hzf := World.block_lt_of_cell? wr _ c0
      have hzo := fun o => (((Below.refl wr.heap.size wr).alloc (Nat.le_refl _) o).cell (p := ⟨zb, zoff + k, none⟩) hzf).trans c0
      have hfi9 := hid hfi
      clear hrw9 hro9 hfi hy hRe hNe
      have hcon := hid (containsS_slc met vm y.text wr (by omega) (Slc.of_own hT.met))
      have hT2 := hid hT
      have hx63 : acc.length + 1 ≤ maxLen := by unfold maxLen; omega
      have hx47 : (acc.length + 1) * 16 ≤ 140737488355328 := by omega
      have hx63m : met.length + 1 ≤ maxLen := by unfold maxLen; omega
      have hx47m : (met.length + 1) * 16 ≤ 140737488355328 := by omega
      have hxb : ∀ o, w.heap.size ≤ (wr.alloc o).heap.size := fun o => by simp; omega
      replace hxb := hid hxb
      by_cases hd : hasT met y.text = true
      · rw [hd] at hcon
        have hag : again1 met y.text = [tAgain ++ y.text] := by unfold again1; rw [if_pos hd]
        rw [hag] at hrel
        clear hd hag hT
        go_wp2_with (first | (go_at_call 91; refine hcon.out.mono ?_; rintro e w' ⟨rfl, hw9⟩; subst w') | (at_builtin; refine wpList_append_lies _ (by rfl) _ _ _ (by rfl) w.heap.size 9 i0 _ 1 16 Tryz.underlying26 hi hz0 hz1 hz2 rfl (by omega) v acc.length (acc.flatMap str1) (by rfl) (hT2.out.out.alloc _) ⟨wr.heap.size, 0, none⟩ 1 1 [.string ((⟨#[97, 103, 97, 105, 110, 32]⟩ : ByteArray) ++ y.text)] (by rfl) (by rfl) (World.news_of_block (cs := #[.string ((⟨#[97, 103, 97, 105, 110, 32]⟩ : ByteArray) ++ y.text)]) (t := 9) (fr := (0, 0)) (heap_alloc_new wr _)) (by simp [Value.oneCell']) (by omega) hx63 hx47 (hxb.out _) (wr.heap.size + 1) (by simp) ?_; intro gg cap2 w8 hown8 hgr8 hat8 hlt8; have hT8 := hid (hT2.out.pushOut hown8 hgr8 hat8); have hFS8 := off_out (n := acc.length + 1) (cap := cap2) hFS2.out hgr8 hat8; have hxb8 : ∀ o, w.heap.size ≤ (w8.alloc o).heap.size := fun o => by have h9 := hT8.out.hb.size; simp; omega) | (at_builtin; refine wpList_append_lies _ (by rfl) _ _ _ (by rfl) w.heap.size 9 i0 _ 1 16 Tryz.underlying26 hi hz0 hz1 hz2 rfl (by omega) vm met.length (met.flatMap str1) (by rfl) (hT8.out.met.alloc _) ⟨w8.heap.size, 0, none⟩ 1 1 [.string y.text] (by rfl) (by rfl) (World.news_of_block (cs := #[.string y.text]) (t := 9) (fr := (0, 0)) (heap_alloc_new w8 _)) (by simp [Value.oneCell']) (by omega) hx63m hx47m (hxb8 _) (w8.heap.size + 1) (by simp) ?_; intro gm capm w10 hown10 hgr10 hat10 hlt10; have hT3 := hT8.out.pushMet hown10 hgr10 hat10; have hFS3 := off_met (n := met.length + 1) (cap := capm) hFS8 hgr10 hat10; have c9 := slcS_cell int1_len hFS3 hfi9.out rfl))
        obtain ⟨acc1, hacc1e⟩ : ∃ acc1, acc1 = acc ++ [(⟨#[97, 103, 97, 105, 110, 32]⟩ : ByteArray) ++ y.text] := ⟨_, rfl⟩
        have hrel1 : Hid (tot = acc1 ++ (R.map (twice1 y.text) ++ (N.map (unused1 y.text) ++ lintFns l0 (met ++ [y.text]) (F.drop (k + 1))))) := hid (by rw [hrel.out, hacc1e]; simp [tAgain])
        rw [← hacc1e] at hT3
        have hacc1 : acc1.length ≤ 801 * k + 1 := by rw [hacc1e, List.length_append, List.length_singleton]; omega
        generalize (Value.slice (some ⟨gg, 0, none⟩) (acc.length + 1) cap2) = v1 at hT3 hFS3 ⊢
        clear hacc1e hown10 hgr10 hat10 hlt10 hT8 hFS8 hFS2 hrel hown8 hgr8 hat8 hlt8 hxb8
        generalize (Value.slice (some ⟨gm, 0, none⟩) (met.length + 1) capm) = vm1 at hT3 hFS3 ⊢
        obtain ⟨met1, hmet1e⟩ : ∃ met1, met1 = met ++ [y.text] := ⟨_, rfl⟩
        rw [← hmet1e] at hT3 hrel1
        have hmet1 : met1.length ≤ k + 1 := by rw [hmet1e, List.length_append, List.length_singleton]; omega
        obtain ⟨fzb, hfzb⟩ : ∃ fzb, fzb = zb := ⟨_, rfl⟩
        obtain ⟨fzo, hfzo⟩ : ∃ fzo, fzo = zoff := ⟨_, rfl⟩
        subst hfzb
        subst hfzo
        have hFcell := hid (fun (vx : Value) (W : World) (h : SlcS (Off vx vm1) W (.slice (some ⟨fzb, fzo, none⟩) F.length fc) 1 F.length (F.flatMap int1)) => slcS_cell int1_len h hfi9.out rfl)
        have c0 := hFcell.out _ _ hFS3
        have e3 := keepc hT3.hb E2
        clear c9 hmet1e hcon hxb hx63 hx47 hx63m hx47m e2 hzo hzf
        go_wp2_with fail
        refine (hrp.out _ hT3.hb).mono ?_; rintro e w5 ⟨rv, rfl, hb5, ho5⟩
        obtain ⟨ra, rc, rfl, hrm⟩ := own_slice ho5
        unfold maxLen at hrm
        have hT5 := hT3.below hb5
        have hFS5 := hFS3.mono hb5
        have hRS5 : SlcS (Off v1 vm1) w5 (.slice ra R.length rc) 1 R.length (R.flatMap str1) := hT3.fresh ho5
        have hrel5 : Hid (tot = (acc1 ++ (R.drop 0).map (twice1 y.text)) ++ (N.map (unused1 y.text) ++ lintFns l0 met1 (F.drop (k + 1)))) := hid (by rw [hrel1.out, List.drop_zero, List.append_assoc])
        clear hb5 ho5 hT3 hFS3 hrel1
        go_wp2_with fail
        go_loopw [3, 50] (fun v i wr => ∃ (q : Nat) (ac : List ByteArray) (va : Value), va = v ∧ i = .int .i64 q ∧ q ≤ R.length ∧ ac.length ≤ 801 * k + 1 + q ∧ Two w va vm1 ac met1 wr ∧ SlcS (Off va vm1) wr (.slice (some ⟨fzb, fzo, none⟩) F.length fc) 1 F.length (F.flatMap int1) ∧ SlcS (Off va vm1) wr (.slice ra R.length rc) 1 R.length (R.flatMap str1) ∧ Hid (tot = (ac ++ (R.drop q).map (twice1 y.text)) ++ (N.map (unused1 y.text) ++ lintFns l0 met1 (F.drop (k + 1))))) (fun _ i _ => R.length - (intOf i).toNat)
        case atStart => exact ⟨0, _, _, rfl, rfl, by omega, by omega, hT5, hFS5, hRS5, hrel5⟩
        clear hT5 hFS5 hRS5 hrel5
        obtain ⟨q, ac, v1, rfl, rfl, hq, hac, hT, hFS, hRS, hrel⟩ := hrel
        have hbx := hT.hb
        have hbxs := hbx.size
        by_cases hlq : q < R.length
        · obtain ⟨s, hs⟩ := get_of_lt hlq
          have hRS2 := hid hRS
          obtain ⟨_, _, _, hve, _, _, hrw9⟩ := hRS
          simp at hve
          obtain ⟨rfl, rfl⟩ := hve
          obtain ⟨nb, noff, rfl, _, hro9⟩ := hrw9.resolve_left (by omega)
          have c0 := hro9.one str1_len hs rfl
          have hss := hRs2.out s (List.mem_of_getElem? hs)
          rw [drop_cons hs, List.map_cons] at hrel
          have hR2 : Hid (tot = ((ac ++ [twice1 y.text s]) ++ (R.drop (q + 1)).map (twice1 y.text)) ++ (N.map (unused1 y.text) ++ lintFns l0 met1 (F.drop (k + 1)))) := hid (by rw [hrel.out]; simp)
          have hqz : (q : Int) < (R.length : Int) := by omega
          have hT2 := hid hT
          have hFS2 := hid hFS
          have hx63 : ac.length + 1 ≤ maxLen := by unfold maxLen; omega
          have hx47 : (ac.length + 1) * 16 ≤ 140737488355328 := by omega
          have hxb : ∀ o, w.heap.size ≤ (wr.alloc o).heap.size := fun o => by simp; omega
          clear hs hrw9 hro9 hrel hT hFS
          go_wp2_with (first | (at_builtin; refine wpList_append_lies _ (by rfl) _ _ _ (by rfl) w.heap.size 9 i0 _ 1 16 Tryz.underlying26 hi hz0 hz1 hz2 rfl (by omega) v1 ac.length (ac.flatMap str1) (by rfl) (hT2.out.out.alloc _) ⟨wr.heap.size, 0, none⟩ 1 1 [.string ((⟨#[116, 119, 105, 99, 101, 32]⟩ : ByteArray) ++ s ++ (⟨#[32, 105, 110, 32]⟩ : ByteArray) ++ y.text)] (by rfl) (by rfl) (World.news_of_block (cs := #[.string ((⟨#[116, 119, 105, 99, 101, 32]⟩ : ByteArray) ++ s ++ (⟨#[32, 105, 110, 32]⟩ : ByteArray) ++ y.text)]) (t := 9) (fr := (0, 0)) (heap_alloc_new wr _)) (by simp [Value.oneCell']) (by omega) hx63 hx47 (hxb _) (wr.heap.size + 1) (by simp) ?_; intro gg cap2 w8 hown8 hgr8 hat8 hlt8))
          all_goals go_roundw
          all_goals first
            | (simp [intOf]; omega)
            | exact ⟨q + 1, ac ++ [twice1 y.text s], _, rfl, by go_num, by omega, by simp; omega, hT2.out.pushOut hown8 hgr8 hat8, off_out hFS2.out hgr8 hat8, off_out hRS2.out hgr8 hat8, hR2⟩
        · have hR2 : Hid (tot = ac ++ (N.map (unused1 y.text) ++ lintFns l0 met1 (F.drop (k + 1)))) := hid (by rw [hrel.out, List.drop_of_length_le (by omega)]; simp)
          clear hrel
          have c0 := hFcell.out _ _ hFS
          have e3 := keepc hbx E2
          clear hRS
          go_wp2_with fail
          refine (hun.out _ hbx).mono ?_; rintro e w6 ⟨nv, rfl, hb6, ho6⟩
          obtain ⟨na, nc, rfl, hnm⟩ := own_slice ho6
          unfold maxLen at hnm
          have hT6 := hT.below hb6
          have hFS6 := hFS.mono hb6
          have hRS6 : SlcS (Off v1 vm1) w6 (.slice na N.length nc) 1 N.length (N.flatMap str1) := hT.fresh ho6
          have hrel6 : Hid (tot = (ac ++ (N.drop 0).map (unused1 y.text)) ++ lintFns l0 met1 (F.drop (k + 1))) := hid (by rw [hR2.out, List.drop_zero, List.append_assoc])
          have hac1 : ac.length ≤ 801 * k + 1 + 400 := by omega
          clear hb6 ho6 hT hFS hR2 hbx hbxs hlq hq hac
          go_wp2_with fail
          go_loopw [3, 67] (fun v i wr => ∃ (q : Nat) (ac : List ByteArray) (va : Value), va = v ∧ i = .int .i64 q ∧ q ≤ N.length ∧ ac.length ≤ 801 * k + 1 + 400 + q ∧ Two w va vm1 ac met1 wr ∧ SlcS (Off va vm1) wr (.slice (some ⟨fzb, fzo, none⟩) F.length fc) 1 F.length (F.flatMap int1) ∧ SlcS (Off va vm1) wr (.slice na N.length nc) 1 N.length (N.flatMap str1) ∧ Hid (tot = (ac ++ (N.drop q).map (unused1 y.text)) ++ lintFns l0 met1 (F.drop (k + 1)))) (fun _ i _ => N.length - (intOf i).toNat)
          case atStart => exact ⟨0, _, _, rfl, rfl, by omega, by omega, hT6, hFS6, hRS6, hrel6⟩
          clear hT6 hFS6 hRS6 hrel6
          obtain ⟨q, ac, v1, rfl, rfl, hq, hac, hT, hFS, hRS, hrel⟩ := hrel
          have hbx := hT.hb
          have hbxs := hbx.size
          by_cases hlq : q < N.length
          · obtain ⟨s, hs⟩ := get_of_lt hlq
            have hRS2 := hid hRS
            obtain ⟨_, _, _, hve, _, _, hrw9⟩ := hRS
            simp at hve
            obtain ⟨rfl, rfl⟩ := hve
            obtain ⟨nb, noff, rfl, _, hro9⟩ := hrw9.resolve_left (by omega)
            have c0 := hro9.one str1_len hs rfl
            have hss := hNs2.out s (List.mem_of_getElem? hs)
            rw [drop_cons hs, List.map_cons] at hrel
            have hR2 : Hid (tot = ((ac ++ [unused1 y.text s]) ++ (N.drop (q + 1)).map (unused1 y.text)) ++ lintFns l0 met1 (F.drop (k + 1))) := hid (by rw [hrel.out]; simp)
            have hqz : (q : Int) < (N.length : Int) := by omega
            have hT2 := hid hT
            have hFS2 := hid hFS
            have hx63 : ac.length + 1 ≤ maxLen := by unfold maxLen; omega
            have hx47 : (ac.length + 1) * 16 ≤ 140737488355328 := by omega
            have hxb : ∀ o, w.heap.size ≤ (wr.alloc o).heap.size := fun o => by simp; omega
            clear hs hrw9 hro9 hrel hT hFS
            go_wp2_with (first | (at_builtin; refine wpList_append_lies _ (by rfl) _ _ _ (by rfl) w.heap.size 9 i0 _ 1 16 Tryz.underlying26 hi hz0 hz1 hz2 rfl (by omega) v1 ac.length (ac.flatMap str1) (by rfl) (hT2.out.out.alloc _) ⟨wr.heap.size, 0, none⟩ 1 1 [.string ((⟨#[117, 110, 117, 115, 101, 100, 32]⟩ : ByteArray) ++ s ++ (⟨#[32, 105, 110, 32]⟩ : ByteArray) ++ y.text)] (by rfl) (by rfl) (World.news_of_block (cs := #[.string ((⟨#[117, 110, 117, 115, 101, 100, 32]⟩ : ByteArray) ++ s ++ (⟨#[32, 105, 110, 32]⟩ : ByteArray) ++ y.text)]) (t := 9) (fr := (0, 0)) (heap_alloc_new wr _)) (by simp [Value.oneCell']) (by omega) hx63 hx47 (hxb _) (wr.heap.size + 1) (by simp) ?_; intro gg cap2 w8 hown8 hgr8 hat8 hlt8))
            all_goals go_roundw
            all_goals first
              | (simp [intOf]; omega)
              | exact ⟨q + 1, ac ++ [unused1 y.text s], _, rfl, by go_num, by omega, by simp; omega, hT2.out.pushOut hown8 hgr8 hat8, off_out hFS2.out hgr8 hat8, off_out hRS2.out hgr8 hat8, hR2⟩
          · have hR2 : Hid (tot = ac ++ lintFns l0 met1 (F.drop (k + 1))) := hid (by rw [hrel.out, List.drop_of_length_le (by omega)]; simp)
            clear hrel
            clear hRS
            replace hT := hid hT
            replace hFS := hid hFS
            go_wp2
            go_roundw
            case rel => exact ⟨k + 1, ac, met1, _, _, rfl, rfl, by go_num, by omega, by omega, by omega, hT.out, hFS.out, hR2⟩
            case measure => simp [intOf]; omega

      · have hd : hasT met y.text = false := by simpa using hd
        rw [hd] at hcon
        have hag : again1 met y.text = [] := by unfold again1; rw [if_neg (by rw [hd]; simp)]
        rw [hag] at hrel
        clear hd hag hT
        go_wp2_with (first | (go_at_call 91; refine hcon.out.mono ?_; rintro e w' ⟨rfl, hw9⟩; subst w') | (at_builtin; refine wpList_append_lies _ (by rfl) _ _ _ (by rfl) w.heap.size 9 i0 _ 1 16 Tryz.underlying26 hi hz0 hz1 hz2 rfl (by omega) vm met.length (met.flatMap str1) (by rfl) (hT2.out.met.alloc _) ⟨wr.heap.size, 0, none⟩ 1 1 [.string y.text] (by rfl) (by rfl) (World.news_of_block (cs := #[.string y.text]) (t := 9) (fr := (0, 0)) (heap_alloc_new wr _)) (by simp [Value.oneCell']) (by omega) hx63m hx47m (hxb.out _) (wr.heap.size + 1) (by simp) ?_; intro gm capm w10 hown10 hgr10 hat10 hlt10; have hT3 := hT2.out.pushMet hown10 hgr10 hat10; have hFS3 := off_met (n := met.length + 1) (cap := capm) hFS2.out hgr10 hat10; have c9 := slcS_cell int1_len hFS3 hfi9.out rfl))
        obtain ⟨acc1, hacc1e⟩ : ∃ acc1, acc1 = acc := ⟨_, rfl⟩
        have hrel1 : Hid (tot = acc1 ++ (R.map (twice1 y.text) ++ (N.map (unused1 y.text) ++ lintFns l0 (met ++ [y.text]) (F.drop (k + 1))))) := hid (by rw [hrel.out, hacc1e]; simp)
        rw [← hacc1e] at hT3
        have hacc1 : acc1.length ≤ 801 * k + 1 := by rw [hacc1e]; omega
        obtain ⟨v1, hv1⟩ : ∃ v1, v1 = v := ⟨_, rfl⟩
        rw [← hv1] at hT3 hFS3 ⊢
        clear hacc1e hown10 hgr10 hat10 hlt10 hT2 hFS2 hrel hv1
        generalize (Value.slice (some ⟨gm, 0, none⟩) (met.length + 1) capm) = vm1 at hT3 hFS3 ⊢
        obtain ⟨met1, hmet1e⟩ : ∃ met1, met1 = met ++ [y.text] := ⟨_, rfl⟩
        rw [← hmet1e] at hT3 hrel1
        have hmet1 : met1.length ≤ k + 1 := by rw [hmet1e, List.length_append, List.length_singleton]; omega
        obtain ⟨fzb, hfzb⟩ : ∃ fzb, fzb = zb := ⟨_, rfl⟩
        obtain ⟨fzo, hfzo⟩ : ∃ fzo, fzo = zoff := ⟨_, rfl⟩
        subst hfzb
        subst hfzo
        have hFcell := hid (fun (vx : Value) (W : World) (h : SlcS (Off vx vm1) W (.slice (some ⟨fzb, fzo, none⟩) F.length fc) 1 F.length (F.flatMap int1)) => slcS_cell int1_len h hfi9.out rfl)
        have c0 := hFcell.out _ _ hFS3
        have e3 := keepc hT3.hb E2
        clear c9 hmet1e hcon hxb hx63 hx47 hx63m hx47m e2 hzo hzf
        go_wp2_with fail
        refine (hrp.out _ hT3.hb).mono ?_; rintro e w5 ⟨rv, rfl, hb5, ho5⟩
        obtain ⟨ra, rc, rfl, hrm⟩ := own_slice ho5
        unfold maxLen at hrm
        have hT5 := hT3.below hb5
        have hFS5 := hFS3.mono hb5
        have hRS5 : SlcS (Off v1 vm1) w5 (.slice ra R.length rc) 1 R.length (R.flatMap str1) := hT3.fresh ho5
        have hrel5 : Hid (tot = (acc1 ++ (R.drop 0).map (twice1 y.text)) ++ (N.map (unused1 y.text) ++ lintFns l0 met1 (F.drop (k + 1)))) := hid (by rw [hrel1.out, List.drop_zero, List.append_assoc])
        clear hb5 ho5 hT3 hFS3 hrel1
        go_wp2_with fail
        go_loopw [3, 50] (fun v i wr => ∃ (q : Nat) (ac : List ByteArray) (va : Value), va = v ∧ i = .int .i64 q ∧ q ≤ R.length ∧ ac.length ≤ 801 * k + 1 + q ∧ Two w va vm1 ac met1 wr ∧ SlcS (Off va vm1) wr (.slice (some ⟨fzb, fzo, none⟩) F.length fc) 1 F.length (F.flatMap int1) ∧ SlcS (Off va vm1) wr (.slice ra R.length rc) 1 R.length (R.flatMap str1) ∧ Hid (tot = (ac ++ (R.drop q).map (twice1 y.text)) ++ (N.map (unused1 y.text) ++ lintFns l0 met1 (F.drop (k + 1))))) (fun _ i _ => R.length - (intOf i).toNat)
        case atStart => exact ⟨0, _, _, rfl, rfl, by omega, by omega, hT5, hFS5, hRS5, hrel5⟩
        clear hT5 hFS5 hRS5 hrel5
        obtain ⟨q, ac, v1, rfl, rfl, hq, hac, hT, hFS, hRS, hrel⟩ := hrel
        have hbx := hT.hb
        have hbxs := hbx.size
        by_cases hlq : q < R.length
        · obtain ⟨s, hs⟩ := get_of_lt hlq
          have hRS2 := hid hRS
          obtain ⟨_, _, _, hve, _, _, hrw9⟩ := hRS
          simp at hve
          obtain ⟨rfl, rfl⟩ := hve
          obtain ⟨nb, noff, rfl, _, hro9⟩ := hrw9.resolve_left (by omega)
          have c0 := hro9.one str1_len hs rfl
          have hss := hRs2.out s (List.mem_of_getElem? hs)
          rw [drop_cons hs, List.map_cons] at hrel
          have hR2 : Hid (tot = ((ac ++ [twice1 y.text s]) ++ (R.drop (q + 1)).map (twice1 y.text)) ++ (N.map (unused1 y.text) ++ lintFns l0 met1 (F.drop (k + 1)))) := hid (by rw [hrel.out]; simp)
          have hqz : (q : Int) < (R.length : Int) := by omega
          have hT2 := hid hT
          have hFS2 := hid hFS
          have hx63 : ac.length + 1 ≤ maxLen := by unfold maxLen; omega
          have hx47 : (ac.length + 1) * 16 ≤ 140737488355328 := by omega
          have hxb : ∀ o, w.heap.size ≤ (wr.alloc o).heap.size := fun o => by simp; omega
          clear hs hrw9 hro9 hrel hT hFS
          go_wp2_with (first | (at_builtin; refine wpList_append_lies _ (by rfl) _ _ _ (by rfl) w.heap.size 9 i0 _ 1 16 Tryz.underlying26 hi hz0 hz1 hz2 rfl (by omega) v1 ac.length (ac.flatMap str1) (by rfl) (hT2.out.out.alloc _) ⟨wr.heap.size, 0, none⟩ 1 1 [.string ((⟨#[116, 119, 105, 99, 101, 32]⟩ : ByteArray) ++ s ++ (⟨#[32, 105, 110, 32]⟩ : ByteArray) ++ y.text)] (by rfl) (by rfl) (World.news_of_block (cs := #[.string ((⟨#[116, 119, 105, 99, 101, 32]⟩ : ByteArray) ++ s ++ (⟨#[32, 105, 110, 32]⟩ : ByteArray) ++ y.text)]) (t := 9) (fr := (0, 0)) (heap_alloc_new wr _)) (by simp [Value.oneCell']) (by omega) hx63 hx47 (hxb _) (wr.heap.size + 1) (by simp) ?_; intro gg cap2 w8 hown8 hgr8 hat8 hlt8))
          all_goals go_roundw
          all_goals first
            | (simp [intOf]; omega)
            | exact ⟨q + 1, ac ++ [twice1 y.text s], _, rfl, by go_num, by omega, by simp; omega, hT2.out.pushOut hown8 hgr8 hat8, off_out hFS2.out hgr8 hat8, off_out hRS2.out hgr8 hat8, hR2⟩
        · have hR2 : Hid (tot = ac ++ (N.map (unused1 y.text) ++ lintFns l0 met1 (F.drop (k + 1)))) := hid (by rw [hrel.out, List.drop_of_length_le (by omega)]; simp)
          clear hrel
          have c0 := hFcell.out _ _ hFS
          have e3 := keepc hbx E2
          clear hRS
          go_wp2_with fail
          refine (hun.out _ hbx).mono ?_; rintro e w6 ⟨nv, rfl, hb6, ho6⟩
          obtain ⟨na, nc, rfl, hnm⟩ := own_slice ho6
          unfold maxLen at hnm
          have hT6 := hT.below hb6
          have hFS6 := hFS.mono hb6
          have hRS6 : SlcS (Off v1 vm1) w6 (.slice na N.length nc) 1 N.length (N.flatMap str1) := hT.fresh ho6
          have hrel6 : Hid (tot = (ac ++ (N.drop 0).map (unused1 y.text)) ++ lintFns l0 met1 (F.drop (k + 1))) := hid (by rw [hR2.out, List.drop_zero, List.append_assoc])
          have hac1 : ac.length ≤ 801 * k + 1 + 400 := by omega
          clear hb6 ho6 hT hFS hR2 hbx hbxs hlq hq hac
          go_wp2_with fail
          go_loopw [3, 67] (fun v i wr => ∃ (q : Nat) (ac : List ByteArray) (va : Value), va = v ∧ i = .int .i64 q ∧ q ≤ N.length ∧ ac.length ≤ 801 * k + 1 + 400 + q ∧ Two w va vm1 ac met1 wr ∧ SlcS (Off va vm1) wr (.slice (some ⟨fzb, fzo, none⟩) F.length fc) 1 F.length (F.flatMap int1) ∧ SlcS (Off va vm1) wr (.slice na N.length nc) 1 N.length (N.flatMap str1) ∧ Hid (tot = (ac ++ (N.drop q).map (unused1 y.text)) ++ lintFns l0 met1 (F.drop (k + 1)))) (fun _ i _ => N.length - (intOf i).toNat)
          case atStart => exact ⟨0, _, _, rfl, rfl, by omega, by omega, hT6, hFS6, hRS6, hrel6⟩
          clear hT6 hFS6 hRS6 hrel6
          obtain ⟨q, ac, v1, rfl, rfl, hq, hac, hT, hFS, hRS, hrel⟩ := hrel
          have hbx := hT.hb
          have hbxs := hbx.size
          by_cases hlq : q < N.length
          · obtain ⟨s, hs⟩ := get_of_lt hlq
            have hRS2 := hid hRS
            obtain ⟨_, _, _, hve, _, _, hrw9⟩ := hRS
            simp at hve
            obtain ⟨rfl, rfl⟩ := hve
            obtain ⟨nb, noff, rfl, _, hro9⟩ := hrw9.resolve_left (by omega)
            have c0 := hro9.one str1_len hs rfl
            have hss := hNs2.out s (List.mem_of_getElem? hs)
            rw [drop_cons hs, List.map_cons] at hrel
            have hR2 : Hid (tot = ((ac ++ [unused1 y.text s]) ++ (N.drop (q + 1)).map (unused1 y.text)) ++ lintFns l0 met1 (F.drop (k + 1))) := hid (by rw [hrel.out]; simp)
            have hqz : (q : Int) < (N.length : Int) := by omega
            have hT2 := hid hT
            have hFS2 := hid hFS
            have hx63 : ac.length + 1 ≤ maxLen := by unfold maxLen; omega
            have hx47 : (ac.length + 1) * 16 ≤ 140737488355328 := by omega
            have hxb : ∀ o, w.heap.size ≤ (wr.alloc o).heap.size := fun o => by simp; omega
            clear hs hrw9 hro9 hrel hT hFS
            go_wp2_with (first | (at_builtin; refine wpList_append_lies _ (by rfl) _ _ _ (by rfl) w.heap.size 9 i0 _ 1 16 Tryz.underlying26 hi hz0 hz1 hz2 rfl (by omega) v1 ac.length (ac.flatMap str1) (by rfl) (hT2.out.out.alloc _) ⟨wr.heap.size, 0, none⟩ 1 1 [.string ((⟨#[117, 110, 117, 115, 101, 100, 32]⟩ : ByteArray) ++ s ++ (⟨#[32, 105, 110, 32]⟩ : ByteArray) ++ y.text)] (by rfl) (by rfl) (World.news_of_block (cs := #[.string ((⟨#[117, 110, 117, 115, 101, 100, 32]⟩ : ByteArray) ++ s ++ (⟨#[32, 105, 110, 32]⟩ : ByteArray) ++ y.text)]) (t := 9) (fr := (0, 0)) (heap_alloc_new wr _)) (by simp [Value.oneCell']) (by omega) hx63 hx47 (hxb _) (wr.heap.size + 1) (by simp) ?_; intro gg cap2 w8 hown8 hgr8 hat8 hlt8))
            all_goals go_roundw
            all_goals first
              | (simp [intOf]; omega)
              | exact ⟨q + 1, ac ++ [unused1 y.text s], _, rfl, by go_num, by omega, by simp; omega, hT2.out.pushOut hown8 hgr8 hat8, off_out hFS2.out hgr8 hat8, off_out hRS2.out hgr8 hat8, hR2⟩
          · have hR2 : Hid (tot = ac ++ lintFns l0 met1 (F.drop (k + 1))) := hid (by rw [hrel.out, List.drop_of_length_le (by omega)]; simp)
            clear hrel
            clear hRS
            replace hT := hid hT
            replace hFS := hid hFS
            go_wp2
            go_roundw
            case rel => exact ⟨k + 1, ac, met1, _, _, rfl, rfl, by go_num, by omega, by omega, by omega, hT.out, hFS.out, hR2⟩
            case measure => simp [intOf]; omega
    · have hR2 : Hid (tot = acc) := hid (by rw [hrel.out, List.drop_of_length_le (by omega), lintFns, List.append_nil])
      clear hrel
      have hacc0 : acc.length ≤ 320400 := by omega
      clear hFS
      go_wp2_with fail
      refine (hund.out _ hb).mono ?_; rintro e w5 ⟨uv, rfl, hb5, ho5⟩
      obtain ⟨ua, uc, rfl, hum⟩ := own_slice ho5
      unfold maxLen at hum
      have hT5 := hT.below hb5
      have hRS5 : SlcS (Off v vm) w5 (.slice ua U4.length uc) 1 U4.length (U4.flatMap str1) := hT.fresh ho5
      have hrel5 : Hid (ans = (acc ++ (U4.drop 0).map (tUnknown ++ ·)) ++ A5.map (fun i => tAssigned ++ ⟨(itoa i).toArray⟩)) := hid (by rw [hR.out, hR2.out, List.drop_zero])
      clear hb5 ho5 hT hR hR2 hb hbs hlt hk hacc hmet
      go_wp2_with fail
      go_loopw [3, 84] (fun v i wr => ∃ (q : Nat) (ac : List ByteArray) (va : Value), va = v ∧ i = .int .i64 q ∧ q ≤ U4.length ∧ ac.length ≤ 320400 + q ∧ Two w va vm ac met wr ∧ SlcS (Off va vm) wr (.slice ua U4.length uc) 1 U4.length (U4.flatMap str1) ∧ Hid (ans = (ac ++ (U4.drop q).map (tUnknown ++ ·)) ++ A5.map (fun i => tAssigned ++ ⟨(itoa i).toArray⟩))) (fun _ i _ => U4.length - (intOf i).toNat)
      case atStart => exact ⟨0, _, _, rfl, rfl, by omega, by omega, hT5, hRS5, hrel5⟩
      clear hT5 hRS5 hrel5
      obtain ⟨q, ac, v, rfl, rfl, hq, hac, hT, hRS, hrel⟩ := hrel
      have hbx := hT.hb
      have hbxs := hbx.size
      by_cases hlq : q < U4.length
      · obtain ⟨s, hs⟩ := get_of_lt hlq
        have hRS2 := hid hRS
        obtain ⟨_, _, _, hve, _, _, hrw9⟩ := hRS
        simp at hve
        obtain ⟨rfl, rfl⟩ := hve
        obtain ⟨nb, noff, rfl, _, hro9⟩ := hrw9.resolve_left (by omega)
        have c0 := hro9.one str1_len hs rfl
        have hss := hUs.out s (List.mem_of_getElem? hs)
        rw [drop_cons hs, List.map_cons] at hrel
        have hR2 : Hid (ans = ((ac ++ [tUnknown ++ s]) ++ (U4.drop (q + 1)).map (tUnknown ++ ·)) ++ A5.map (fun i => tAssigned ++ ⟨(itoa i).toArray⟩)) := hid (by rw [hrel.out]; simp)
        have hqz : (q : Int) < (U4.length : Int) := by omega
        have hT2 := hid hT
        have hx63 : ac.length + 1 ≤ maxLen := by unfold maxLen; omega
        have hx47 : (ac.length + 1) * 16 ≤ 140737488355328 := by omega
        have hxb : ∀ o, w.heap.size ≤ (wr.alloc o).heap.size := fun o => by simp; omega
        clear hs hrw9 hro9 hrel hT
        go_wp2_with (first | (at_builtin; refine wpList_append_lies _ (by rfl) _ _ _ (by rfl) w.heap.size 9 i0 _ 1 16 Tryz.underlying26 hi hz0 hz1 hz2 rfl (by omega) v ac.length (ac.flatMap str1) (by rfl) (hT2.out.out.alloc _) ⟨wr.heap.size, 0, none⟩ 1 1 [.string ((⟨#[117, 110, 107, 110, 111, 119, 110, 32]⟩ : ByteArray) ++ s)] (by rfl) (by rfl) (World.news_of_block (cs := #[.string ((⟨#[117, 110, 107, 110, 111, 119, 110, 32]⟩ : ByteArray) ++ s)]) (t := 9) (fr := (0, 0)) (heap_alloc_new wr _)) (by simp [Value.oneCell']) (by omega) hx63 hx47 (hxb _) (wr.heap.size + 1) (by simp) ?_; intro gg cap2 w8 hown8 hgr8 hat8 hlt8))
        all_goals go_roundw
        all_goals first
          | (simp [intOf]; omega)
          | exact ⟨q + 1, ac ++ [tUnknown ++ s], _, rfl, by go_num, by omega, by simp; omega, hT2.out.pushOut hown8 hgr8 hat8, off_out hRS2.out hgr8 hat8, hR2⟩
      · have hR2 : Hid (ans = ac ++ A5.map (fun i => tAssigned ++ ⟨(itoa i).toArray⟩)) := hid (by rw [hrel.out, List.drop_of_length_le (by omega)]; simp)
        clear hrel hRS
        go_wp2_with fail
        refine (hass.out _ hbx).mono ?_; rintro e w6 ⟨av, rfl, hb6, ho6⟩
        obtain ⟨aa, ac2, rfl, ham⟩ := own_slice ho6
        unfold maxLen at ham
        have hT6 := hT.below hb6
        have hRS6 : SlcS (Off v vm) w6 (.slice aa A5.length ac2) 1 A5.length (A5.flatMap int1) := hT.fresh ho6
        have hrel6 : Hid (ans = ac ++ (A5.drop 0).map (fun i => tAssigned ++ ⟨(itoa i).toArray⟩)) := hid (by rw [hR2.out, List.drop_zero])
        have hac1 : ac.length ≤ 320800 := by omega
        clear hb6 ho6 hT hR2 hbx hbxs hlq hq hac
        go_wp2_with fail
        go_loopw [3, 97] (fun v i wr => ∃ (q : Nat) (ac : List ByteArray) (va : Value), va = v ∧ i = .int .i64 q ∧ q ≤ A5.length ∧ ac.length ≤ 320800 + q ∧ Two w va vm ac met wr ∧ SlcS (Off va vm) wr (.slice aa A5.length ac2) 1 A5.length (A5.flatMap int1) ∧ Hid (ans = ac ++ (A5.drop q).map (fun i => tAssigned ++ ⟨(itoa i).toArray⟩))) (fun _ i _ => A5.length - (intOf i).toNat)
        case atStart => exact ⟨0, _, _, rfl, rfl, by omega, by omega, hT6, hRS6, hrel6⟩
        clear hT6 hRS6 hrel6
        obtain ⟨q, ac, v, rfl, rfl, hq, hac, hT, hRS, hrel⟩ := hrel
        have hbx := hT.hb
        have hbxs := hbx.size
        by_cases hlq : q < A5.length
        · obtain ⟨s, hs⟩ := get_of_lt hlq
          obtain ⟨j, rfl, hjl⟩ := hAin.out s (List.mem_of_getElem? hs)
          have hRS2 := hid hRS
          obtain ⟨_, _, _, hve, _, _, hrw9⟩ := hRS
          simp at hve
          obtain ⟨rfl, rfl⟩ := hve
          obtain ⟨nb, noff, rfl, _, hro9⟩ := hrw9.resolve_left (by omega)
          have c0 := hro9.one int1_len hs rfl
          rw [drop_cons hs, List.map_cons] at hrel
          have hR2 : Hid (ans = (ac ++ [tAssigned ++ ⟨(itoa (j : Int)).toArray⟩]) ++ (A5.drop (q + 1)).map (fun i => tAssigned ++ ⟨(itoa i).toArray⟩)) := hid (by rw [hrel.out]; simp)
          have hqz : (q : Int) < (A5.length : Int) := by omega
          have hdz : (itoa (j : Int)).length ≤ 9 := dec_size j (by omega)
          have hdc := hid (hdec.out j (by omega) _ hbx)
          have hT2 := hid hT
          have hx63 : ac.length + 1 ≤ maxLen := by unfold maxLen; omega
          have hx47 : (ac.length + 1) * 16 ≤ 140737488355328 := by omega
          clear hs hrw9 hro9 hrel hT
          go_wp2_with (first | (go_at_call 62; refine hdc.out.mono ?_; rintro e w7 ⟨rfl, hb7⟩; have hT7 := hid (hT2.out.below hb7); have hRS7 := hid (SlcS.mono hRS2.out hb7); have hxb : ∀ o, w.heap.size ≤ (w7.alloc o).heap.size := fun o => by have h9 := hT7.out.hb.size; simp; omega) | (at_builtin; refine wpList_append_lies _ (by rfl) _ _ _ (by rfl) w.heap.size 9 i0 _ 1 16 Tryz.underlying26 hi hz0 hz1 hz2 rfl (by omega) v ac.length (ac.flatMap str1) (by rfl) (hT7.out.out.alloc _) ⟨w7.heap.size, 0, none⟩ 1 1 [.string ((⟨#[97, 115, 115, 105, 103, 110, 101, 100, 32, 97, 116, 32]⟩ : ByteArray) ++ ⟨(itoa (j : Int)).toArray⟩)] (by rfl) (by rfl) (World.news_of_block (cs := #[.string ((⟨#[97, 115, 115, 105, 103, 110, 101, 100, 32, 97, 116, 32]⟩ : ByteArray) ++ ⟨(itoa (j : Int)).toArray⟩)]) (t := 9) (fr := (0, 0)) (heap_alloc_new w7 _)) (by simp [Value.oneCell']) (by omega) hx63 hx47 (hxb _) (w7.heap.size + 1) (by simp) ?_; intro gg cap2 w8 hown8 hgr8 hat8 hlt8))
          all_goals go_roundw
          all_goals first
            | (simp [intOf]; omega)
            | exact ⟨q + 1, ac ++ [tAssigned ++ ⟨(itoa (j : Int)).toArray⟩], _, rfl, by go_num, by omega, by simp; omega, hT7.out.pushOut hown8 hgr8 hat8, off_out hRS7.out hgr8 hat8, hR2⟩
        · have hR2 : Hid (ans = ac) := hid (by rw [hrel.out, List.drop_of_length_le (by omega)]; simp)
          have hfin := hid hT.out
          clear hrel hRS hT
          go_wp2
          go_ret
          exact ⟨_, rfl, hbx, by rw [hR2.out]; exact hfin.out⟩
  · have hR : Hid (lintsOf l0 = []) := hid (by unfold lintsOf; rw [if_neg hp])
    have hp : progOkB l0 = false := by simpa using hp
    rw [hp] at hprog
    clear hp
    go_enter Tryz.func16, Tryz.ntmps16
    go_wp2_with fail
    refine (hprog.out _ (by repeat (first | exact Below.refl _ _ | refine Below.alloc ?_ (by first | omega | (simp; done) | (simp; omega)) _ | refine Below.drew ?_))).mono ?_; rintro e w2 ⟨rfl, hb2⟩
    have hB2 : Below w.heap.size w w2 := (by repeat (first | exact Below.refl _ _ | refine Below.alloc ?_ (by first | omega | (simp; done) | (simp; omega)) _ | refine Below.drew ?_) : Below w.heap.size w _).trans (hb2.mono (by first | (simp; done) | (simp; omega)))
    have hown0 := own_below ((own_new0 w 9 1).alloc _) hb2 (Nat.le_refl _)
    go_wp2
    go_ret
    exact ⟨_, rfl, hB2, by rw [hR.out]; exact hown0⟩
end Go.Proofs.YtgmciglaapnahaaGreatDoor
/- Walks and lemmas of this seat (FLints): what each theorem says of the functions that it names. Conditions: those that each theorem states. -/
namespace Go.Proofs.YtgmciglaapnahaaGreatDoor
set_option linter.unusedVariables false
set_option linter.unusedSimpArgs false
open Go.RowKit Go.Lib

def cleanB (l : List Node) : Bool := progOkB l && ((lintsOf l).length == 0)

set_option maxRecDepth 100000 in
set_option maxHeartbeats 1600000 in
theorem implClean_any (l0 : List Node) (v0 : Value) (w : World) (hx0 : ∀ x ∈ l0, x.Ok) (hn0 : bulk Node.sizes l0 ≤ 1048576) (hv0 : NodeSlc w v0 l0) (hE : MeasEnv w) :
    Calls Tryz.prog 19 #[v0] w fun e w' => e = .returned (.bool (cleanB l0)) ∧ Below w.heap.size w w' := by
  have hv := hv0
  have hlen := lintsOf_len l0 (Nat.le_trans (length_bulk Node.sizes l0) hn0)
  have hprog := implProgramOk_any l0 v0 w hx0 hn0 hv hE.1
  have hlin := hid fun W (hb : Below w.heap.size w W) => implLints_any l0 v0 W hx0 hn0 (hv.mono hb (Nat.le_refl _)) (hE.below hb)
  obtain ⟨a, cap, rfl, hm, hc, hsl⟩ := hv0.shape
  by_cases hp : progOkB l0 = true
  · have hR : Hid (cleanB l0 = ((lintsOf l0).length == 0)) := hid (by unfold cleanB; rw [hp, Bool.true_and])
    generalize cleanB l0 = ans at hR ⊢
    generalize lintsOf l0 = L at hR hlin hlen
    rw [hp] at hprog
    clear hp
    by_cases h0 : L.length = 0
    · rw [h0] at hR
      go_enter Tryz.func19, Tryz.ntmps19
      go_wp2_with (first | (go_at_call 90; refine hprog.mono ?_; rintro e w1 ⟨rfl, hb1⟩) | (go_at_call 16; refine (hlin.out _ hb1).mono ?_; rintro e w2 ⟨lv, rfl, hb2, ho2⟩; obtain ⟨la, lc, rfl, hlm⟩ := own_slice ho2))
      go_ret
      exact ⟨ret_bool (by rw [hR.out]; first | rfl | simp), hb1.trans (hb2.mono hb1.size)⟩
    · have h1 : ¬ (L.length : Int) = 0 := by omega
      have h2 : (L.length == 0) = false := by simpa using h0
      rw [h2] at hR
      go_enter Tryz.func19, Tryz.ntmps19
      go_wp2_with (first | (go_at_call 90; refine hprog.mono ?_; rintro e w1 ⟨rfl, hb1⟩) | (go_at_call 16; refine (hlin.out _ hb1).mono ?_; rintro e w2 ⟨lv, rfl, hb2, ho2⟩; obtain ⟨la, lc, rfl, hlm⟩ := own_slice ho2))
      go_ret
      exact ⟨ret_bool (by rw [hR.out]; simp [h0]), hb1.trans (hb2.mono hb1.size)⟩
  · have hp : progOkB l0 = false := by simpa using hp
    have hR : Hid (cleanB l0 = false) := hid (by unfold cleanB; rw [hp, Bool.false_and])
    rw [hp] at hprog
    clear hp
    go_enter Tryz.func19, Tryz.ntmps19
    go_wp2_with (go_at_call 90; refine hprog.mono ?_; rintro e w1 ⟨rfl, hb1⟩)
    go_ret
    exact ⟨ret_bool hR.out.symm, hb1⟩
end Go.Proofs.YtgmciglaapnahaaGreatDoor
