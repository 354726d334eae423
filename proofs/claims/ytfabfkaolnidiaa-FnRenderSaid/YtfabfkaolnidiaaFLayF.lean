/- Walks and lemmas of this seat (FLayF): what each theorem says of the functions that it names. Conditions: those that each theorem states. -/
import Derived.Test.YtfabfkaolnidiaaFLayS
namespace Go.Proofs.Ytfabfkaolnidiaa
set_option linter.unusedVariables false
set_option linter.unusedSimpArgs false
open Go.RowKit

def bool1 (b : Bool) : List Value := [.bool b]
theorem bool1_len (b : Bool) : (bool1 b).length = 1 := rfl
theorem Try.info4 : (Try.prog.info? 4).map (fun i => (i.zero, i.size, i.bytes)) = some (some (.bool false), 1, 1) := by kernel_rfl
/-- Is there a hard end of a line in it? -/
def hardAt (l : List DNode) (i : Nat) : Bool := (docIx l i).flat.isNone
def hardL (l : List DNode) (k : Nat) : List Bool := (List.range k).map (hardAt l)
theorem hardL_len (l : List DNode) (k : Nat) : (hardL l k).length = k := by simp [hardL]
theorem hardL_succ (l : List DNode) (k : Nat) : hardL l (k + 1) = hardL l k ++ [hardAt l k] := by simp [hardL, List.range_succ]
theorem hardL_get (l : List DNode) {k i : Nat} (h : i < k) : (hardL l k)[i]? = some (hardAt l i) := by simp [hardL, h]
theorem flats_none (l : List Doc) : (Doc.flats l).isNone = l.any fun d => d.flat.isNone := by
  induction l with
  | nil => rfl
  | cons d l ih =>
    rw [Doc.flats, List.any_cons, ← ih]
    cases d.flat with
    | none => rfl
    | some a => cases Doc.flats l <;> rfl
theorem hardAt_eq {l : List DNode} (hah : AheadD l) (hd : ∀ x ∈ l, docNode x = true) {i : Nat} {x : DNode} (hx : l[i]? = some x) : hardAt l i = ((x.kind == 3) || x.kids.any fun k => hardAt l k.toNat) := by
  have hh := docNode_has (hd x (List.mem_of_getElem? hx))
  unfold hardAt
  rw [docIx_eq hah hx, Doc.flat]
  by_cases hk : x.kind = 1 ∨ x.kind = 2 ∨ x.kind = 3
  · rw [if_pos hk, hh.2.2.2.1 hk]
    unfold leafOf
    rcases hk with h | h | h <;> simp [h]
  · rw [if_neg hk, flats_none, List.any_map]
    have h3 : (x.kind == 3) = false := by simp; omega
    rw [h3, Bool.false_or]
    rfl

set_option maxRecDepth 100000 in
set_option maxHeartbeats 3200000 in
theorem specl16Hards_any (l0 : List DNode) (v0 : Value) (w : World) (hx0 : ∀ x ∈ l0, x.Ok) (hn0 : bulk DNode.sizes l0 ≤ 1048576) (hv0 : DNodeSlc w v0 l0) (hah : AheadD l0) (hd : ∀ x ∈ l0, docNode x = true) :
    Calls Try.prog 34 #[v0] w fun e w' => ∃ v', e = .returned v' ∧ Below w.heap.size w w' ∧ w'.ownsRow w.heap.size 4 1 v' l0.length ((hardL l0 l0.length).flatMap bool1) := by
  obtain ⟨a, cap, rfl, hm, hc, hsl⟩ := hv0.shape
  obtain ⟨i0, hi, hz0, hz1, hz2⟩ := info_parts Try.info4
  have hlen := length_bulk DNode.sizes l0
  go_enter Try.func34, Try.ntmps34
  go_wp2
  go_loopw [3, 4] (fun v i wr => ∃ (k : Nat), i = .int .i64 k ∧ k ≤ l0.length ∧ Below w.heap.size w wr ∧ wr.ownsRow w.heap.size 4 1 v k ((hardL l0 k).flatMap bool1)) (fun _ i _ => l0.length - (intOf i).toNat)
  case atStart => exact ⟨0, rfl, by omega, by repeat (first | exact Below.refl _ _ | refine Below.alloc ?_ (by first | omega | (simp; done) | (simp; omega)) _ | refine Below.drew ?_), own_new0 _ _ _⟩
  obtain ⟨k, rfl, hk, hb, ho⟩ := hrel
  have hbs := hb.size
  by_cases hlt : k < l0.length
  · obtain ⟨x, ka, kc, b, off, hx, rfl, c0, c1, c2, c3, hkd⟩ := hsl.at hb (Nat.le_refl _) hlt
    have hha := hid (hardAt_eq hah hd hx)
    have hak := hid (hah k x hx)
    have hxs := sizes_mem (List.mem_of_getElem? hx) hn0
    unfold DNode.sizes at hxs
    clear hx
    obtain ⟨_, ka', kc', hve, hkc, hkm, hkrow⟩ := hkd
    simp at hve
    obtain ⟨rfl, rfl⟩ := hve
    obtain ⟨k3, hk3⟩ : ∃ k3 : Bool, k3 = (x.kind == 3) := ⟨_, rfl⟩
    rw [← hk3] at hha
    have hk3' := hid hk3
    clear hk3
    have hkl : (k : Int) < (l0.length : Int) := by omega
    by_cases hx3 : x.kind = 3
    · obtain rfl : k3 = true := by rw [hk3'.out]; simpa using hx3
      go_wp2
      go_loopw [5, 6] (fun is j wr2 => ∃ (m : Nat) (is' : Bool), is = .bool is' ∧ j = .int .i64 m ∧ m ≤ x.kids.length ∧ Hid (hardAt l0 k = (is' || (x.kids.drop m).any fun k => hardAt l0 k.toNat)) ∧ wr2 = wr) (fun _ j _ => x.kids.length - (intOf j).toNat)
      case atStart => exact ⟨0, _, rfl, rfl, by omega, by rw [List.drop_zero]; exact hha, rfl⟩
      obtain ⟨m, is', rfl, rfl, hm2, hrel, rfl⟩ := hrel
      by_cases hlt2 : m < x.kids.length
      · obtain ⟨kid, hkid⟩ := get_of_lt hlt2
        obtain ⟨kb, koff, rfl, hkro⟩ := slc_some hkrow (by omega)
        have e0 := hkro.one int1_len hkid rfl
        obtain ⟨hk0, hkj⟩ := hak.out kid (List.mem_of_getElem? hkid)
        obtain ⟨q, rfl⟩ : ∃ q : Nat, kid = (q : Int) := ⟨kid.toNat, by omega⟩
        have hq : q < k := by omega
        obtain ⟨og, oc, rfl, hoc, hom, _, _⟩ := own_slice_some ho (by omega)
        have h0 := own_at bool1_len ho (hardL_get l0 hq) (j := 0) (by omega) rfl (by rw [hardL_len])
        rw [Nat.mul_one, Nat.add_zero] at h0
        have hR : Hid (hardAt l0 k = ((is' || hardAt l0 q) || (x.kids.drop (m + 1)).any fun k => hardAt l0 k.toNat)) := hid (by rw [hrel.out, drop_cons hkid, List.any_cons, Bool.or_assoc, Int.toNat_natCast])
        have hmk : (m : Int) < (x.kids.length : Int) := by omega
        have hqk : (q : Int) < (k : Int) := by omega
        have hq0 : (0 : Int) ≤ (q : Int) := by omega
        clear hkid hrel
        generalize hardAt l0 q = hq1 at h0 hR
        cases is' with
        | true =>
          go_wp2
          all_goals go_roundw
          all_goals first
            | (simp [intOf]; omega)
            | exact ⟨m + 1, true, rfl, by go_num, by omega, by simpa using hR, trivial⟩
        | false =>
          go_wp2
          all_goals go_roundw
          all_goals first
            | (simp [intOf]; omega)
            | exact ⟨m + 1, hq1, rfl, by go_num, by omega, by simpa using hR, trivial⟩
      · obtain rfl : m = x.kids.length := by omega
        have hR : Hid (hardAt l0 k = is') := hid (by rw [hrel.out, List.drop_length]; simp)
        clear hrel
        go_wp2_with (at_builtin; refine wpList_append_own _ rfl _ _ 54 rfl w.heap.size 4 i0 _ 1 1 Try.underlying54 hi hz0 hz1 hz2 rfl (by decide) _ k ((hardL l0 k).flatMap bool1) rfl (ho.alloc _) _ _ _ (bool1 is') rfl rfl (new_cells_at _ _ _ _ _ rfl (by first | rfl | simp)) (by intro u hu; simp [bool1] at hu; subst hu; rfl) (by unfold maxLen; omega) (by omega) (by simp; omega) ?_; intro v3 w3 hown3 hgr3 hiff)
        all_goals go_roundw
        all_goals first
          | (simp [intOf]; omega)
          | exact ⟨k + 1, by go_num, by omega, (hb.alloc hbs _).grown hgr3 (by simp; omega) (fun r e => (ho.lt r e).1), by rw [hardL_succ, hR.out]; simpa using hown3⟩
    · have hx3 : (x.kind == 3) = false := by simpa using hx3
      obtain rfl : k3 = false := by rw [hk3'.out]; exact hx3
      go_wp2
      go_loopw [5, 6] (fun is j wr2 => ∃ (m : Nat) (is' : Bool), is = .bool is' ∧ j = .int .i64 m ∧ m ≤ x.kids.length ∧ Hid (hardAt l0 k = (is' || (x.kids.drop m).any fun k => hardAt l0 k.toNat)) ∧ wr2 = wr) (fun _ j _ => x.kids.length - (intOf j).toNat)
      case atStart => exact ⟨0, _, rfl, rfl, by omega, by rw [List.drop_zero]; exact hha, rfl⟩
      obtain ⟨m, is', rfl, rfl, hm2, hrel, rfl⟩ := hrel
      by_cases hlt2 : m < x.kids.length
      · obtain ⟨kid, hkid⟩ := get_of_lt hlt2
        obtain ⟨kb, koff, rfl, hkro⟩ := slc_some hkrow (by omega)
        have e0 := hkro.one int1_len hkid rfl
        obtain ⟨hk0, hkj⟩ := hak.out kid (List.mem_of_getElem? hkid)
        obtain ⟨q, rfl⟩ : ∃ q : Nat, kid = (q : Int) := ⟨kid.toNat, by omega⟩
        have hq : q < k := by omega
        obtain ⟨og, oc, rfl, hoc, hom, _, _⟩ := own_slice_some ho (by omega)
        have h0 := own_at bool1_len ho (hardL_get l0 hq) (j := 0) (by omega) rfl (by rw [hardL_len])
        rw [Nat.mul_one, Nat.add_zero] at h0
        have hR : Hid (hardAt l0 k = ((is' || hardAt l0 q) || (x.kids.drop (m + 1)).any fun k => hardAt l0 k.toNat)) := hid (by rw [hrel.out, drop_cons hkid, List.any_cons, Bool.or_assoc, Int.toNat_natCast])
        have hmk : (m : Int) < (x.kids.length : Int) := by omega
        have hqk : (q : Int) < (k : Int) := by omega
        have hq0 : (0 : Int) ≤ (q : Int) := by omega
        clear hkid hrel
        generalize hardAt l0 q = hq1 at h0 hR
        cases is' with
        | true =>
          go_wp2
          all_goals go_roundw
          all_goals first
            | (simp [intOf]; omega)
            | exact ⟨m + 1, true, rfl, by go_num, by omega, by simpa using hR, trivial⟩
        | false =>
          go_wp2
          all_goals go_roundw
          all_goals first
            | (simp [intOf]; omega)
            | exact ⟨m + 1, hq1, rfl, by go_num, by omega, by simpa using hR, trivial⟩
      · obtain rfl : m = x.kids.length := by omega
        have hR : Hid (hardAt l0 k = is') := hid (by rw [hrel.out, List.drop_length]; simp)
        clear hrel
        go_wp2_with (at_builtin; refine wpList_append_own _ rfl _ _ 54 rfl w.heap.size 4 i0 _ 1 1 Try.underlying54 hi hz0 hz1 hz2 rfl (by decide) _ k ((hardL l0 k).flatMap bool1) rfl (ho.alloc _) _ _ _ (bool1 is') rfl rfl (new_cells_at _ _ _ _ _ rfl (by first | rfl | simp)) (by intro u hu; simp [bool1] at hu; subst hu; rfl) (by unfold maxLen; omega) (by omega) (by simp; omega) ?_; intro v3 w3 hown3 hgr3 hiff)
        all_goals go_roundw
        all_goals first
          | (simp [intOf]; omega)
          | exact ⟨k + 1, by go_num, by omega, (hb.alloc hbs _).grown hgr3 (by simp; omega) (fun r e => (ho.lt r e).1), by rw [hardL_succ, hR.out]; simpa using hown3⟩
  · obtain rfl : k = l0.length := by omega
    go_wp2
    go_ret
    exact ⟨_, rfl, hb, ho⟩

theorem fits_step {l : List DNode} (hah : AheadD l) {x : SIt} {y : DNode} (hy : l[x.i]? = some y) {gk : Nat} {rm : Int} (h : 0 ≤ rm) (C : List LIt) : fitsRun (gk + 1) rm (x.it l :: C) = if y.kind = 1 then fitsRun gk (rm - y.text.size) C else if y.kind = 2 then (if x.flat = true then fitsRun gk (rm - 1) C else true) else if y.kind = 3 then true else fitsRun gk rm (kidIts (docIx l x.i) x.ind x.flat ++ C) := by
  obtain ⟨e1, _, e3, _⟩ := docIx_parts hah hy
  rw [fitsRun, if_neg (by omega)]
  show (if (docIx l x.i).kind = 1 then fitsRun gk (rm - (docIx l x.i).text.size) C else if (docIx l x.i).kind = 2 then (if x.flat = true then fitsRun gk (rm - 1) C else true) else if (docIx l x.i).kind = 3 then true else fitsRun gk rm (kidIts (docIx l x.i) x.ind x.flat ++ C)) = _
  rw [e1, e3]
theorem it_wt (l : List DNode) (x : SIt) (C : List LIt) : itWts C + 1 ≤ itWts (x.it l :: C) := by
  rw [itWts_cons, (x.it l).d.wt_eq]; omega
theorem it_kids (l : List DNode) (x : SIt) (C : List LIt) (ind : Nat) (f : Bool) : itWts (kidIts (docIx l x.i) ind f ++ C) + 1 ≤ itWts (x.it l :: C) := by
  rw [itWts_cons, itWts_kids]; exact Nat.le_refl _

set_option maxRecDepth 100000 in
set_option maxHeartbeats 6400000 in
theorem specl16Fits_any (l0 : List DNode) (v0 : Value) (B : Nat) (rv : Value) (R : List SIt) (x0 : SIt) (room : Int) (w : World) (hx0 : ∀ x ∈ l0, x.Ok) (hn0 : bulk DNode.sizes l0 ≤ 1048576) (hv0 : DNodeSlc w v0 l0) (hah : AheadD l0) (hd : ∀ x ∈ l0, docNode x = true)
    (hR : w.ownsRow B 57 3 rv R.length (R.flatMap SIt.cells)) (hRo : SOk l0 (R ++ [x0])) (hw : itWts (sIts l0 (R ++ [x0])) ≤ 100000) (hr : -100000000000 ≤ room ∧ room ≤ 100000000000) :
    Calls Try.prog 36 #[v0, rv, .agg #[.int .i64 x0.i, .int .i64 x0.ind, .bool x0.flat], .int .i64 room] w fun e w' => e = .returned (.bool (fitsW room (sIts l0 (R ++ [x0])))) ∧ Below w.heap.size w w' := by
  obtain ⟨a, cap, rfl, hm, hc, hsl⟩ := hv0.shape
  obtain ⟨i0, hi, hz0, hz1, hz2⟩ := info_parts Try.info57
  have hlen := length_bulk DNode.sizes l0
  obtain ⟨ans, hans⟩ : ∃ ans, ans = fitsW room (sIts l0 (R ++ [x0])) := ⟨_, rfl⟩
  have hans0 := hid hans
  rw [← hans]
  unfold fitsW at hans
  obtain ⟨G, hG⟩ : ∃ G, G = itWts (sIts l0 (R ++ [x0])) := ⟨_, rfl⟩
  rw [← hG] at hans hw
  have hRlen : R.length ≤ 100000 := by
    have := sIts_len l0 (R ++ [x0])
    rw [List.length_append, List.length_singleton] at this
    omega
  obtain ⟨ra, rc, rfl, hrcm⟩ := own_slice hR
  have hRs := Slc.of_own hR
  replace hans := hid hans
  replace hRs := hid hRs
  go_enter Try.func36, Try.ntmps36
  go_wp2
  go_loopg [3, 9, 10] (G + 1) (fun gk r sv at_ wr => ∃ (rm : Int) (L : List SIt) (m : Nat), r = .int .i64 rm ∧ at_ = .int .i64 m ∧ m ≤ R.length ∧ Below w.heap.size w wr ∧ wr.ownsRow w.heap.size 57 3 sv L.length (L.flatMap SIt.cells) ∧ SOk l0 (R.take m ++ L) ∧ gk ≤ 100001 ∧ itWts (sIts l0 (R.take m ++ L)) < gk ∧ Hid (fitsRun gk rm (sIts l0 (R.take m ++ L)) = ans) ∧ -100000000000 ≤ rm ∧ rm ≤ 100000000000)
  case atStart => exact ⟨room, [x0], R.length, rfl, rfl, Nat.le_refl _, by repeat (first | exact Below.refl _ _ | refine Below.alloc ?_ (by first | omega | (simp; done) | (simp; omega)) _ | refine Below.drew ?_), by have h9 := own_box (w.alloc (.cells #[.int .i64 x0.i, .int .i64 x0.ind, .bool x0.flat] 57)) #[.int .i64 x0.i, .int .i64 x0.ind, .bool x0.flat] 57 3 rfl; rw [World.size_alloc] at h9; simpa [SIt.cells] using own_base h9 (Nat.le_succ _), by rw [List.take_length]; exact hRo, by omega, by rw [List.take_length]; omega, hid (by rw [List.take_length]; exact hans.out.symm), hr.1, hr.2⟩
  clear hans hG hw hRo hr hv0
  obtain ⟨rm, L, m, rfl, rfl, hml, hb, ho, hok, hgk, hwt, hrel, hr1, hr2⟩ := hrel
  have hbs := hb.size
  have hRk := hid (hRs.out.mono hb (Nat.le_refl _))
  by_cases hneg : rm < 0
  · have hA : Hid (ans = false) := hid (by rw [← hrel.out, fitsRun_neg hneg])
    clear hrel hRk hRs
    go_wp2
    go_ret
    exact ⟨by rw [hA.out]; rfl, hb⟩
  have hrm0 : 0 ≤ rm := by omega
  clear hneg
  obtain ⟨gk, rfl⟩ : ∃ g, gk = g + 1 := ⟨gk - 1, by omega⟩
  rcases List.eq_nil_or_concat L with rfl | ⟨L, x, rfl⟩
  · obtain ⟨sa, sc0, rfl, hscm0⟩ := own_slice ho
    by_cases hm0 : m = 0
    · subst hm0
      have hA : Hid (ans = true) := hid (by rw [← hrel.out]; show fitsRun (gk + 1) rm [] = true; rw [fitsRun, if_neg (by omega)])
      clear hrel hRk hRs
      go_wp2
      go_ret
      exact ⟨by rw [hA.out]; rfl, hb⟩
    · obtain ⟨m, rfl⟩ : ∃ q, m = q + 1 := ⟨m - 1, by omega⟩
      obtain ⟨x, hx⟩ := get_of_lt (show m < R.length by omega)
      rw [List.append_nil, take_next hx] at hok hwt hrel
      rw [sIts_snoc] at hrel hwt
      obtain ⟨_, ra', rc', hve, _, _, hrrow⟩ := hRk.out
      simp at hve
      obtain ⟨rfl, rfl⟩ := hve
      obtain ⟨rb, roff, rfl, hrro⟩ := slc_some hrrow (by omega)
      have s0 := hrro.flat0 3 SIt.len hx rfl
      have s1 := hrro.flat 3 SIt.len hx 1 rfl
      have s2 := hrro.flat 3 SIt.len hx 2 rfl
      have e1 : ((m + 1 : Nat) : Int) - 1 = (m : Int) := by omega
      have hmr : (m : Int) < (R.length : Int) := by omega
      have hm1 : ¬ ((m + 1 : Nat) : Int) = 0 := by omega
      clear hx hrrow hrro hm0
      obtain ⟨hxi, hxind⟩ := hok x (by simp)
      go_wp2_with (at_builtin; refine Hid.out ?_)
      refine hid ?_
      refine wpList_append_own _ rfl _ _ 58 rfl w.heap.size 57 i0 _ 3 24 Try.underlying58 hi hz0 hz1 hz2 rfl (by decide) _ 0 [] rfl (ho.alloc _) _ _ _ (SIt.cells x) rfl rfl (new_cells_at _ _ _ _ _ rfl (by first | rfl | simp)) (by intro u hu; simp [SIt.cells] at hu; rcases hu with rfl | rfl | rfl <;> rfl) (by unfold maxLen; omega) (by omega) (by simp; omega) ?_
      intro v3 w3 hown3 hgr3 hiff3
      obtain ⟨sg, sc, rfl, hsc, hscm, hsB, hsH⟩ := own_slice_some hown3 (by omega)
      have hown3' : w3.ownsRow w.heap.size 57 3 (.slice (some ⟨sg, 0, none⟩) 1 sc) 1 ((([] : List SIt) ++ [x]).flatMap SIt.cells) := by simpa using hown3
      have hpop : w3.ownsRow w.heap.size 57 3 (.slice (some ⟨sg, 0, none⟩) 0 sc) 0 (([] : List SIt).flatMap SIt.cells) := own_pop SIt.len (L := []) hown3' rfl
      have t0 : w3.cell? ⟨sg, 0, none⟩ = some (.int .i64 x.i) := own_at SIt.len (l := [x]) (k := 0) hown3' rfl (j := 0) (by omega) rfl rfl
      have t1 : w3.cell? ⟨sg, 1, none⟩ = some (.int .i64 x.ind) := own_at SIt.len (l := [x]) (k := 0) hown3' rfl (j := 1) (by omega) rfl rfl
      have t2 : w3.cell? ⟨sg, 2, none⟩ = some (.bool x.flat) := own_at SIt.len (l := [x]) (k := 0) hown3' rfl (j := 2) (by omega) rfl rfl
      have hb3 : Below w.heap.size w w3 := (hb.alloc hbs _).grown hgr3 (by simp; omega) (fun r e => (ho.lt r e).1)
      have s2 := t2
      clear t2
      rw [show sIts l0 (R.take m) = sIts l0 (R.take m ++ ([] : List SIt)) from by rw [List.append_nil]] at hrel hwt
      have hLl : ([] : List SIt).length ≤ 100001 := Nat.zero_le _
      obtain ⟨y, ka, kc, yb, yoff, hy, rfl, c0, c1, c2, c3, hkd⟩ := hsl.at (Below.refl w.heap.size w) (Nat.le_refl _) hxi
      replace c0 := carry hb3 c0
      replace c1 := carry hb3 c1
      replace c2 := carry hb3 c2
      replace c3 := carry hb3 c3
      have d0 := fun o => carryA o c0
      have d1 := fun o => carryA o c1
      have d2 := fun o => carryA o c2
      have d3 := fun o => carryA o c3
      have hys := sizes_mem (List.mem_of_getElem? hy) hn0
      unfold DNode.sizes at hys
      have hkblt := hid fun (h : 0 < y.kids.length) => hkd.block_lt int1_len h
      have hok2 : SOk l0 (R.take m ++ ([] : List SIt)) := fun z hz => hok z (by rcases List.mem_append.1 hz with h | h <;> first | (simp [h]; done) | (simp at h; done))
      have hst := fits_step hah hy hrm0 (sIts l0 (R.take m ++ ([] : List SIt))) (gk := gk)
      have hw1 := it_wt l0 x (sIts l0 (R.take m ++ ([] : List SIt)))
      have hxi2 : (x.i : Int) < (l0.length : Int) := by omega
      have hxi0 : (0 : Int) ≤ (x.i : Int) := by omega
      by_cases k1 : y.kind = 1
      · have hA : Hid (fitsRun gk (rm - y.text.size) (sIts l0 (R.take m ++ ([] : List SIt))) = ans) := hid (by rw [← hrel.out, hst, if_pos k1])
        clear hrel hy hst hRk hRs hkd
        replace hwt : itWts (sIts l0 (R.take m ++ ([] : List SIt))) < gk := by omega
        clear hw1
        replace hok2 := hid hok2
        replace hok := hid hok
        go_wp2
        go_roundg gk
        case measure => omega
        case rel => exact ⟨_, ([] : List SIt), m, rfl, rfl, by omega, (hb3.alloc hb3.size _).alloc (by simp; omega) _, (hpop.alloc _).alloc _, hok2.out, by omega, hwt, hA, by omega, by omega⟩
      by_cases k2 : y.kind = 2
      · obtain ⟨fl, hfl⟩ : ∃ fl, fl = x.flat := ⟨_, rfl⟩
        rw [← hfl] at s2
        cases fl with
        | true =>
          have hA : Hid (fitsRun gk (rm - 1) (sIts l0 (R.take m ++ ([] : List SIt))) = ans) := hid (by rw [← hrel.out, hst, if_neg k1, if_pos k2, if_pos hfl.symm])
          clear hrel hy hst hRk hRs hkd hfl k1
          replace hwt : itWts (sIts l0 (R.take m ++ ([] : List SIt))) < gk := by omega
          clear hw1
          replace hok2 := hid hok2
          replace hok := hid hok
          go_wp2
          go_roundg gk
          case measure => omega
          case rel => exact ⟨_, ([] : List SIt), m, rfl, rfl, by omega, (hb3.alloc hb3.size _).alloc (by simp; omega) _, (hpop.alloc _).alloc _, hok2.out, by omega, hwt, hA, by omega, by omega⟩
        | false =>
          have hA : Hid (ans = true) := hid (by rw [← hrel.out, hst, if_neg k1, if_pos k2, if_neg (by rw [← hfl]; simp)])
          clear hrel hy hst hRk hRs hkd hfl k1
          replace hok2 := hid hok2
          replace hok := hid hok
          go_wp2
          go_ret
          exact ⟨by rw [hA.out]; rfl, (hb3.alloc hb3.size _).alloc (by simp; omega) _⟩
      by_cases k3 : y.kind = 3
      · have hA : Hid (ans = true) := hid (by rw [← hrel.out, hst, if_neg k1, if_neg k2, if_pos k3])
        clear hrel hy hst hRk hRs hkd k1 k2
        replace hok2 := hid hok2
        replace hok := hid hok
        go_wp2
        go_ret
        exact ⟨by rw [hA.out]; rfl, (hb3.alloc hb3.size _).alloc (by simp; omega) _⟩
      have hA : Hid (fitsRun gk rm (sIts l0 (R.take m ++ (([] : List SIt) ++ sKids y.kids x.ind x.flat))) = ans) := hid (by rw [← hrel.out, hst, if_neg k1, if_neg k2, if_neg k3, ← List.append_assoc, sIts_kids hah hy])
      have hw2 := it_kids l0 x (sIts l0 (R.take m ++ ([] : List SIt))) x.ind x.flat
      have hw3 : itWts (sIts l0 (R.take m ++ (([] : List SIt) ++ sKids y.kids x.ind x.flat))) < gk := by rw [← List.append_assoc, sIts_kids hah hy]; omega
      have hok3 : SOk l0 (R.take m ++ (([] : List SIt) ++ sKids y.kids x.ind x.flat)) := by rw [← List.append_assoc]; exact hok2.kids hah hy x.ind hxind x.flat
      have hk0 : ∀ k ∈ y.kids, 0 ≤ k := fun k hk => (hah x.i y hy k hk).1
      have e1 : (y.kind == 1) = false := by simpa using k1
      have e2 : (y.kind == 2) = false := by simpa using k2
      have e3 : (y.kind == 3) = false := by simpa using k3
      have hcall := hid fun W2 (h : Below w.heap.size w W2) (ho : W2.ownsRow w.heap.size 57 3 _ ([] : List SIt).length (([] : List SIt).flatMap SIt.cells)) => specl16Kids_any w.heap.size (.slice (some ⟨sg, 0, none⟩) 0 sc) ([] : List SIt) y.kind y.n y.text (.slice ka y.kids.length kc) y.kids x.ind x.flat W2 ho h.size (hkd.mono h (Nat.le_refl _)) hkblt.out hk0 (by omega)
      clear hrel hy hst hRk hRs hkd k1 k2 k3 hw1 hw2 hwt hk0
      replace hok2 := hid hok2
      replace hok3 := hid hok3
      replace hok := hid hok
      replace hw3 := hid hw3
      go_wp2_with (go_at_call 37; refine (hcall.out _ ((hb3.alloc hb3.size _).alloc (by simp; omega) _) ((hpop.alloc _).alloc _)).mono ?_; rintro e w5 ⟨v5, rfl, ho5, hK5⟩)
      go_roundg gk
      case measure => omega
      case rel => exact ⟨_, _, m, rfl, rfl, by omega, ((hb3.alloc hb3.size _).alloc (by simp; omega) _).trans (hK5.below (by simp; omega)), ho5, hok3.out, by omega, hw3.out, hA, by omega, by omega⟩

  · rw [List.concat_eq_append] at ho hok hwt hrel
    rw [← List.append_assoc] at hok hwt hrel
    rw [sIts_snoc] at hrel hwt
    obtain ⟨sg, sc, rfl, hsc, hscm, hsB, hsH⟩ := own_slice_some ho (by simp)
    have hxL : (L ++ [x])[L.length]? = some x := by simp
    have s0 := own_at SIt.len ho hxL (j := 0) (by omega) rfl rfl
    have s1 := own_at SIt.len ho hxL (j := 1) (by omega) rfl rfl
    have s2 := own_at SIt.len ho hxL (j := 2) (by omega) rfl rfl
    have hpop := own_pop SIt.len ho (by simp)
    rw [Nat.add_zero] at s0
    obtain ⟨hxi, hxind⟩ := hok x (by simp)
    have hLl : L.length ≤ 100001 := by
      have h9 := sIts_len l0 (R.take m ++ L)
      rw [itWts_cons] at hwt
      rw [List.length_append] at h9
      omega
    have hll : (L ++ [x]).length = L.length + 1 := by simp
    rw [hll] at ho ⊢
    have e9 : ((L.length + 1 : Nat) : Int) - 1 = (L.length : Int) := by omega
    have hsc2 : (L.length : Int) ≤ (sc : Int) := by rw [List.length_append, List.length_singleton] at hsc; omega
    have hsc3 : (0 : Int) ≤ (L.length : Int) := by omega
    replace hll := hid hll
    obtain ⟨y, ka, kc, yb, yoff, hy, rfl, c0, c1, c2, c3, hkd⟩ := hsl.at (Below.refl w.heap.size w) (Nat.le_refl _) hxi
    replace c0 := carry hb c0
    replace c1 := carry hb c1
    replace c2 := carry hb c2
    replace c3 := carry hb c3
    have d0 := fun o => carryA o c0
    have d1 := fun o => carryA o c1
    have d2 := fun o => carryA o c2
    have d3 := fun o => carryA o c3
    have hys := sizes_mem (List.mem_of_getElem? hy) hn0
    unfold DNode.sizes at hys
    have hkblt := hid fun (h : 0 < y.kids.length) => hkd.block_lt int1_len h
    have hok2 : SOk l0 (R.take m ++ L) := fun z hz => hok z (by rcases List.mem_append.1 hz with h | h <;> first | (simp [h]; done) | (simp at h; done))
    have hst := fits_step hah hy hrm0 (sIts l0 (R.take m ++ L)) (gk := gk)
    have hw1 := it_wt l0 x (sIts l0 (R.take m ++ L))
    have hxi2 : (x.i : Int) < (l0.length : Int) := by omega
    have hxi0 : (0 : Int) ≤ (x.i : Int) := by omega
    by_cases k1 : y.kind = 1
    · have hA : Hid (fitsRun gk (rm - y.text.size) (sIts l0 (R.take m ++ L)) = ans) := hid (by rw [← hrel.out, hst, if_pos k1])
      clear hrel hy hst hRk hRs hkd
      replace hwt : itWts (sIts l0 (R.take m ++ L)) < gk := by omega
      clear hw1
      replace hok2 := hid hok2
      replace hok := hid hok
      go_wp2
      go_roundg gk
      case measure => omega
      case rel => exact ⟨_, L, m, rfl, rfl, by omega, (hb.alloc hb.size _).alloc (by simp; omega) _, (hpop.alloc _).alloc _, hok2.out, by omega, hwt, hA, by omega, by omega⟩
    by_cases k2 : y.kind = 2
    · obtain ⟨fl, hfl⟩ : ∃ fl, fl = x.flat := ⟨_, rfl⟩
      rw [← hfl] at s2
      cases fl with
      | true =>
        have hA : Hid (fitsRun gk (rm - 1) (sIts l0 (R.take m ++ L)) = ans) := hid (by rw [← hrel.out, hst, if_neg k1, if_pos k2, if_pos hfl.symm])
        clear hrel hy hst hRk hRs hkd hfl k1
        replace hwt : itWts (sIts l0 (R.take m ++ L)) < gk := by omega
        clear hw1
        replace hok2 := hid hok2
        replace hok := hid hok
        go_wp2
        go_roundg gk
        case measure => omega
        case rel => exact ⟨_, L, m, rfl, rfl, by omega, (hb.alloc hb.size _).alloc (by simp; omega) _, (hpop.alloc _).alloc _, hok2.out, by omega, hwt, hA, by omega, by omega⟩
      | false =>
        have hA : Hid (ans = true) := hid (by rw [← hrel.out, hst, if_neg k1, if_pos k2, if_neg (by rw [← hfl]; simp)])
        clear hrel hy hst hRk hRs hkd hfl k1
        replace hok2 := hid hok2
        replace hok := hid hok
        go_wp2
        go_ret
        exact ⟨by rw [hA.out]; rfl, (hb.alloc hb.size _).alloc (by simp; omega) _⟩
    by_cases k3 : y.kind = 3
    · have hA : Hid (ans = true) := hid (by rw [← hrel.out, hst, if_neg k1, if_neg k2, if_pos k3])
      clear hrel hy hst hRk hRs hkd k1 k2
      replace hok2 := hid hok2
      replace hok := hid hok
      go_wp2
      go_ret
      exact ⟨by rw [hA.out]; rfl, (hb.alloc hb.size _).alloc (by simp; omega) _⟩
    have hA : Hid (fitsRun gk rm (sIts l0 (R.take m ++ (L ++ sKids y.kids x.ind x.flat))) = ans) := hid (by rw [← hrel.out, hst, if_neg k1, if_neg k2, if_neg k3, ← List.append_assoc, sIts_kids hah hy])
    have hw2 := it_kids l0 x (sIts l0 (R.take m ++ L)) x.ind x.flat
    have hw3 : itWts (sIts l0 (R.take m ++ (L ++ sKids y.kids x.ind x.flat))) < gk := by rw [← List.append_assoc, sIts_kids hah hy]; omega
    have hok3 : SOk l0 (R.take m ++ (L ++ sKids y.kids x.ind x.flat)) := by rw [← List.append_assoc]; exact hok2.kids hah hy x.ind hxind x.flat
    have hk0 : ∀ k ∈ y.kids, 0 ≤ k := fun k hk => (hah x.i y hy k hk).1
    have e1 : (y.kind == 1) = false := by simpa using k1
    have e2 : (y.kind == 2) = false := by simpa using k2
    have e3 : (y.kind == 3) = false := by simpa using k3
    have hcall := hid fun W2 (h : Below w.heap.size w W2) (ho : W2.ownsRow w.heap.size 57 3 _ L.length (L.flatMap SIt.cells)) => specl16Kids_any w.heap.size (.slice (some ⟨sg, 0, none⟩) L.length sc) L y.kind y.n y.text (.slice ka y.kids.length kc) y.kids x.ind x.flat W2 ho h.size (hkd.mono h (Nat.le_refl _)) hkblt.out hk0 (by omega)
    clear hrel hy hst hRk hRs hkd k1 k2 k3 hw1 hw2 hwt hk0
    replace hok2 := hid hok2
    replace hok3 := hid hok3
    replace hok := hid hok
    replace hw3 := hid hw3
    go_wp2_with (go_at_call 37; refine (hcall.out _ ((hb.alloc hb.size _).alloc (by simp; omega) _) ((hpop.alloc _).alloc _)).mono ?_; rintro e w5 ⟨v5, rfl, ho5, hK5⟩)
    go_roundg gk
    case measure => omega
    case rel => exact ⟨_, _, m, rfl, rfl, by omega, ((hb.alloc hb.size _).alloc (by simp; omega) _).trans (hK5.below (by simp; omega)), ho5, hok3.out, by omega, hw3.out, hA, by omega, by omega⟩

end Go.Proofs.Ytfabfkaolnidiaa
