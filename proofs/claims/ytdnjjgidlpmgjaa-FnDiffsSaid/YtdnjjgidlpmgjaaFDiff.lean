/- Walks and lemmas of this seat (FDiff): what each theorem says of the functions that it names. Conditions: those that each theorem states. -/
import Derived.Test.YtdnjjgidlpmgjaaFDiffOk
namespace Go.Proofs.Ytdnjjgidlpmgjaa
set_option linter.unusedVariables false
set_option linter.unusedSimpArgs false
open Go.RowKit

/-- The table when it is done: block B holds the rows, row i lies in block R i and holds M i. -/
structure Tabd (wr : World) (B n m : Nat) (R : Nat → Nat) (M : Nat → Nat → Nat) : Prop where
  top : wr.rowIs B 47 (n + 1) (fun i => .slice (some ⟨R i, 0, none⟩) (m + 1) (m + 1))
  rows : ∀ i, i ≤ n → wr.rowIs (R i) 3 (m + 1) (fun j => .int .i64 (M i j))
theorem row_grown {w w2 : World} {b n B s k : Nat} {t e : TypeId} {f : Nat → Value} {v : Value} {xs : List Value} (h : w.rowIs b t n f) (ho : w.ownsRow B e s v k xs) (hte : t ≠ e) (hg : w.grownBy w2 v.ownBlock) : w2.rowIs b t n f := by
  refine h.of_block (hg.block b h.lt fun hv => ?_)
  rcases ho.2 with ⟨rfl, _⟩ | ⟨g, cap, cur, rfl, _, hgg, _⟩
  · simp [Value.ownBlock] at hv
  · obtain ⟨c, hc, _⟩ := h
    simp [Value.ownBlock] at hv
    subst hv
    rw [hc] at hgg
    simp at hgg
    exact hte hgg.2
theorem Tabd.grown {w w2 : World} {b n m B s k : Nat} {R : Nat → Nat} {M : Nat → Nat → Nat} {v : Value} {xs : List Value} (h : Tabd w b n m R M) (ho : w.ownsRow B 9 s v k xs) (hg : w.grownBy w2 v.ownBlock) : Tabd w2 b n m R M :=
  ⟨row_grown h.top ho (by decide) hg, fun i hi => row_grown (h.rows i hi) ho (by decide) hg⟩
theorem Tabd.drewN {w : World} {b n m : Nat} {R : Nat → Nat} {M : Nat → Nat → Nat} (h : Tabd w b n m R M) (k : Nat) : Tabd (w.drewN k) b n m R M := ⟨h.top, h.rows⟩
theorem Tabd.alloc {w : World} {b n m : Nat} {R : Nat → Nat} {M : Nat → Nat → Nat} (h : Tabd w b n m R M) (o : Obj) : Tabd (w.alloc o) b n m R M := ⟨h.top.alloc o, fun i hi => (h.rows i hi).alloc o⟩
theorem Tabd.of_tab {w w' : World} {n m : Nat} {R : Nat → Nat} {M : Nat → Nat → Nat} (h : Tab w w' n m R (fun _ => true) M) : Tabd w' w.heap.size n m R M := ⟨h.top.congr (fun i _ => by simp), fun i hi => h.rows i rfl hi⟩

theorem impltable_any (l0 l1 : List ByteArray) (v0 v1 : Value) (w : World) (hn0 : bulk ByteArray.size l0 ≤ 1048576) (hn1 : bulk ByteArray.size l1 ≤ 1048576) (hv0 : Slc w v0 1 l0.length (l0.flatMap str1)) (hv1 : Slc w v1 1 l1.length (l1.flatMap str1)) :
    Calls Try.prog 76 #[v0, v1] w fun e w' => ∃ tb R, e = .returned (.slice (some ⟨tb, 0, none⟩) (l0.length + 1) (l0.length + 1)) ∧ Below w.heap.size w w' ∧ Tabd w' tb l0.length l1.length R (lcsAt l0 l1) :=
  (implcommons_any l0 l1 v0 v1 w hn0 hn1 hv0 hv1).mono fun _ _ ⟨he, ht⟩ => ⟨_, _, he, ht.below, .of_tab ht⟩
theorem spectable_any (l0 l1 : List ByteArray) (v0 v1 : Value) (w : World) (hn0 : bulk ByteArray.size l0 ≤ 1048576) (hn1 : bulk ByteArray.size l1 ≤ 1048576) (hv0 : Slc w v0 1 l0.length (l0.flatMap str1)) (hv1 : Slc w v1 1 l1.length (l1.flatMap str1)) :
    Calls Try.prog 78 #[v0, v1] w fun e w' => ∃ tb R, e = .returned (.slice (some ⟨tb, 0, none⟩) (l0.length + 1) (l0.length + 1)) ∧ Below w.heap.size w w' ∧ Tabd w' tb l0.length l1.length R (lcsAt l0 l1) :=
  (specl29Table_any l0 l1 v0 v1 w hn0 hn1 hv0 hv1).mono fun _ _ ⟨he, ht⟩ => ⟨_, _, he, ht.below, .of_tab ht⟩

def pre (c : UInt8) (x : ByteArray) : ByteArray := ⟨#[c]⟩ ++ x
/-- The difference of two lists. -/
def diffL : List ByteArray → List ByteArray → List ByteArray
  | [], [] => []
  | [], y :: b => pre 43 y :: diffL [] b
  | x :: a, [] => pre 45 x :: diffL a []
  | x :: a, y :: b => if (x.toList == y.toList) = true then pre 32 x :: diffL a b else if lcs (x :: a) b ≤ lcs a (y :: b) then pre 45 x :: diffL a (y :: b) else pre 43 y :: diffL (x :: a) b
def diff (a b : List ByteArray) : List ByteArray := if diffOk a b = true then diffL a b else []
theorem diffL_len : ∀ (a b : List ByteArray), (diffL a b).length ≤ a.length + b.length
  | [], [] => by simp [diffL]
  | [], y :: b => by have := diffL_len [] b; simp [diffL] at *; omega
  | x :: a, [] => by have := diffL_len a []; simp [diffL] at *; omega
  | x :: a, y :: b => by
    have h1 := diffL_len a b; have h2 := diffL_len a (y :: b); have h3 := diffL_len (x :: a) b
    rw [diffL]; split
    · simp at *; omega
    · split <;> simp at * <;> omega
theorem diff_len (a b : List ByteArray) : (diff a b).length ≤ 400 := by
  unfold diff; split
  · rename_i h; have := diffL_len a b; unfold diffOk at h; simp at h; omega
  · simp
section
variable {a b : List ByteArray} {i j : Nat} {x y : ByteArray}
theorem diffL_end (hx : a.length ≤ i) (hy : b.length ≤ j) : diffL (a.drop i) (b.drop j) = [] := by
  rw [List.drop_of_length_le hx, List.drop_of_length_le hy, diffL]
theorem diffL_d (hx : a.length ≤ i) (hy : b[j]? = some y) : diffL (a.drop i) (b.drop j) = pre 43 y :: diffL (a.drop i) (b.drop (j + 1)) := by
  rw [List.drop_of_length_le hx, drop_cons hy, diffL]
theorem diffL_e (hx : a[i]? = some x) (hy : b.length ≤ j) : diffL (a.drop i) (b.drop j) = pre 45 x :: diffL (a.drop (i + 1)) (b.drop j) := by
  rw [List.drop_of_length_le hy, drop_cons hx, diffL]
theorem diffL_a (hx : a[i]? = some x) (hy : b[j]? = some y) (h : (x.toList == y.toList) = true) : diffL (a.drop i) (b.drop j) = pre 32 x :: diffL (a.drop (i + 1)) (b.drop (j + 1)) := by
  rw [drop_cons hx, drop_cons hy, diffL, if_pos h]
theorem diffL_b (hx : a[i]? = some x) (hy : b[j]? = some y) (h : (x.toList == y.toList) = false) (hl : lcsAt a b i (j + 1) ≤ lcsAt a b (i + 1) j) : diffL (a.drop i) (b.drop j) = pre 45 x :: diffL (a.drop (i + 1)) (b.drop j) := by
  unfold lcsAt at hl
  rw [drop_cons hx] at hl ⊢
  rw [drop_cons hy] at hl ⊢
  rw [diffL, if_neg (by rw [h]; simp), if_pos hl]
theorem diffL_c (hx : a[i]? = some x) (hy : b[j]? = some y) (h : (x.toList == y.toList) = false) (hl : ¬ lcsAt a b i (j + 1) ≤ lcsAt a b (i + 1) j) : diffL (a.drop i) (b.drop j) = pre 43 y :: diffL (a.drop i) (b.drop (j + 1)) := by
  unfold lcsAt at hl
  rw [drop_cons hx] at hl ⊢
  rw [drop_cons hy] at hl ⊢
  rw [diffL, if_neg (by rw [h]; simp), if_neg hl]
end

theorem own_drewN {w : World} {B : Nat} {e : TypeId} {s n : Nat} {v : Value} {xs : List Value} (h : w.ownsRow B e s v n xs) (k : Nat) : (w.drewN k).ownsRow B e s v n xs := h
theorem cell_drewN {w : World} {a : Addr} {u : Value} (h : w.cell? a = some u) (k : Nat) : (w.drewN k).cell? a = some u := h

set_option maxRecDepth 100000 in
set_option maxHeartbeats 3200000 in
theorem implDiff_any (l0 : List ByteArray) (v0 : Value) (l1 : List ByteArray) (v1 : Value) (w : World) (hx0 : ∀ x ∈ l0, x.size ≤ maxLen) (hn0 : bulk ByteArray.size l0 ≤ 1048576) (hv0 : Slc w v0 1 l0.length (l0.flatMap str1)) (hx1 : ∀ x ∈ l1, x.size ≤ maxLen) (hn1 : bulk ByteArray.size l1 ≤ 1048576) (hv1 : Slc w v1 1 l1.length (l1.flatMap str1)) :
    Calls Try.prog 36 #[v0, v1] w fun e w' => ∃ v', e = .returned v' ∧ Below w.heap.size w w' ∧ w'.ownsRow w.heap.size 9 1 v' (diff l0 l1).length ((diff l0 l1).flatMap str1) := by
  have hv0' := hv0
  have hv1' := hv1
  obtain ⟨_, a, cap, rfl, hc, hm, hrow⟩ := hv0
  obtain ⟨_, a', cap', rfl, hc', hm', hrow'⟩ := hv1
  unfold maxLen at hm hm'
  have hn := length_bulk ByteArray.size l0
  have hn' := length_bulk ByteArray.size l1
  obtain ⟨i0, hi, hz0, hz1, hz2⟩ := info_parts Try.info9
  by_cases h : l0.length ≤ 200 ∧ l1.length ≤ 200
  · have hd := diffOk_yes h
    have hcm := hid (show diff l0 l1 = diffL l0 l1 by unfold diff; rw [if_pos hd])
    replace hd := hid hd
    obtain ⟨h1, h2⟩ := h
    go_enter Try.func36, Try.ntmps36
    go_wp2_with fail
    refine (impltable_any l0 l1 _ _ _ hn0 hn1 (hv0'.mono ((Below.refl _ _).alloc (Nat.le_refl _) _) (Nat.le_refl _)) (hv1'.mono ((Below.refl _ _).alloc (Nat.le_refl _) _) (Nat.le_refl _))).mono ?_; rintro e w1 ⟨tb, R, rfl, hbt, htab⟩
    have hown1 := own_below (own_new0 w 9 1) hbt (by simp)
    have hb1 := ((Below.refl w.heap.size w).alloc (Nat.le_refl _) _).trans (hbt.mono (by simp))
    clear hbt
    go_wp2
    go_loopw [5, 7, 8] (fun v i j wr => ∃ (p q : Nat) (acc : List ByteArray), i = .int .i64 p ∧ j = .int .i64 q ∧ p ≤ l0.length ∧ q ≤ l1.length ∧ acc.length ≤ p + q ∧ Below w.heap.size w wr ∧ wr.ownsRow w.heap.size 9 1 v acc.length (acc.flatMap str1) ∧ Tabd wr tb l0.length l1.length R (lcsAt l0 l1) ∧ Hid (diffL l0 l1 = acc ++ diffL (l0.drop p) (l1.drop q))) (fun _ i j _ => l0.length + l1.length - (intOf i).toNat - (intOf j).toNat)
    case atStart => exact ⟨0, 0, [], rfl, rfl, by omega, by omega, by simp, hb1, hown1, htab, hid rfl⟩
    clear hb1 hown1 htab
    obtain ⟨p, q, acc, rfl, rfl, hp, hq, hacc, hb, hown, htab, hrel⟩ := hrel
    have hbs := hb.size
    by_cases hlp : p < l0.length
    · obtain ⟨x, hx⟩ := get_of_lt hlp
      obtain ⟨b, off, rfl, hro⟩ := slc_some hrow (by omega)
      have c0 := (hro.mono hb (Nat.le_refl _)).one str1_len hx rfl
      have hxs := hx0 x (List.mem_of_getElem? hx)
      have hxb := Nat.le_trans (bulk_mem ByteArray.size (List.mem_of_getElem? hx)) hn0
      unfold maxLen at hxs
      have dp : decide ((p : Int) < (l0.length : Int)) = true := by simp; omega
      clear hv0' hro
      by_cases hlq : q < l1.length
      · obtain ⟨y, hy⟩ := get_of_lt hlq
        obtain ⟨b', off', rfl, hro'⟩ := slc_some hrow' (by omega)
        have d0 := (hro'.mono hb (Nat.le_refl _)).one str1_len hy rfl
        have hys := hx1 y (List.mem_of_getElem? hy)
        have hyb := Nat.le_trans (bulk_mem ByteArray.size (List.mem_of_getElem? hy)) hn1
        unfold maxLen at hys
        have dq : decide ((q : Int) < (l1.length : Int)) = true := by simp; omega
        have eq1 : ((q : Int) == (l1.length : Int)) = false := by simp; omega
        clear hv1' hro'
        by_cases heq : (x.toList == y.toList) = true
        · have hrel2 := hid (hrel.out.trans (congrArg (acc ++ ·) (diffL_a hx hy heq)))
          clear hx hy hrel
          go_wp2_with fail
          go_quiet (fail)
          replace htab := htab.drewN nq
          replace hb := below_drewN hb nq
          replace hown := own_drewN hown nq
          replace c0 := cell_drewN c0 nq
          replace d0 := cell_drewN d0 nq
          generalize hwq : World.drewN _ nq = wq at htab hb hown c0 d0 ⊢
          replace hbs := hb.size
          clear hwq
          replace htab := hid htab
          go_wp2_with (at_builtin; refine wpList_append_own _ rfl _ _ 34 rfl w.heap.size 9 i0 _ 1 16 Try.underlying34 hi hz0 hz1 hz2 rfl (by decide) _ acc.length (acc.flatMap str1) rfl (hown.alloc _) _ _ _ (str1 (pre 32 x)) rfl rfl (new_cells_at _ _ _ _ _ rfl (by first | rfl | simp)) (by intro u hu; simp [str1] at hu; rcases hu with rfl | rfl | rfl | rfl | rfl <;> rfl) (by unfold maxLen; omega) (by omega) (by first | omega | (simp; done) | (simp; omega)) ?_; intro v2 w2 hown2 hgr2 hiff; clear hiff; have hb2 := app_below (hb.alloc (by first | omega | (simp; done) | (simp; omega)) _) (hown.alloc _) hgr2)
          all_goals go_roundw
          all_goals first
            | (simp [intOf]; omega)
            | exact ⟨p + 1, q + 1, acc ++ [pre 32 x], by first | rfl | go_num, by first | rfl | go_num, by omega, by omega, by simp; omega, hb2, by simpa using hown2, (htab.out.alloc _).grown (hown.alloc _) hgr2, hid (by rw [hrel2.out]; simp)⟩
        · have heq : (x.toList == y.toList) = false := by simpa using heq
          by_cases hl : lcsAt l0 l1 p (q + 1) ≤ lcsAt l0 l1 (p + 1) q
          · have hrel2 := hid (hrel.out.trans (congrArg (acc ++ ·) (diffL_b hx hy heq hl)))
            clear hx hy hrel
            go_wp2_with fail
            go_quiet (fail)
            replace htab := htab.drewN nq
            replace hb := below_drewN hb nq
            replace hown := own_drewN hown nq
            replace c0 := cell_drewN c0 nq
            replace d0 := cell_drewN d0 nq
            generalize hwq : World.drewN _ nq = wq at htab hb hown c0 d0 ⊢
            replace hbs := hb.size
            clear hwq
            have t0 := htab.top.cell (i := p) (by omega)
            have t1 := htab.top.cell (i := p + 1) (by omega)
            have r10 := (htab.rows (p + 1) (by omega)).cell (i := q) (by omega)
            have r01 := (htab.rows p (by omega)).cell (i := q + 1) (by omega)
            have b10 := lcsAt_le l0 l1 (p + 1) q
            have b01 := lcsAt_le l0 l1 p (q + 1)
            obtain ⟨pp, hpp⟩ : ∃ pp, pp = p + 1 := ⟨_, rfl⟩
            obtain ⟨qq, hqq⟩ : ∃ qq, qq = q + 1 := ⟨_, rfl⟩
            have kI : (p : Int) + 1 = (pp : Int) := by omega
            have qI : (q : Int) + 1 = (qq : Int) := by omega
            have hwk : IntKind.wrap .i64 (pp : Int) = (pp : Int) := wrap_nat pp (by omega)
            have hwq' : IntKind.wrap .i64 (qq : Int) = (qq : Int) := wrap_nat qq (by omega)
            have hwk1 : IntKind.wrap .i64 ((p : Int) + 1) = (pp : Int) := by rw [kI, hwk]
            have hwq1 : IntKind.wrap .i64 ((q : Int) + 1) = (qq : Int) := by rw [qI, hwq']
            have i5 : p < l0.length + 1 := by omega
            have i6 : pp < l0.length + 1 := by omega
            have i7 : q < l1.length + 1 := by omega
            have i8 : qq < l1.length + 1 := by omega
            have i1 : (p : Int) < (l0.length : Int) + 1 := by omega
            have i2 : (pp : Int) < (l0.length : Int) + 1 := by omega
            have i3 : (q : Int) < (l1.length : Int) + 1 := by omega
            have i4 : (qq : Int) < (l1.length : Int) + 1 := by omega
            rw [← hpp] at t1 r10 b10 hl
            rw [← hqq] at r01 b01 hl
            generalize lcsAt l0 l1 pp q = v10 at r10 b10 hl
            generalize lcsAt l0 l1 p qq = v01 at r01 b01 hl
            replace hpp := hid hpp
            replace hqq := hid hqq
            go_wp2_with fail
            go_quiet (fail)
            replace htab := htab.drewN nq
            replace hb := below_drewN hb nq
            replace hown := own_drewN hown nq
            replace c0 := cell_drewN c0 nq
            replace d0 := cell_drewN d0 nq
            replace t0 := cell_drewN t0 nq
            replace t1 := cell_drewN t1 nq
            replace r10 := cell_drewN r10 nq
            replace r01 := cell_drewN r01 nq
            generalize hwq : World.drewN _ nq = wq at htab hb hown c0 d0 t0 t1 r10 r01 ⊢
            replace hbs := hb.size
            clear hwq
            clear t0 t1 r10 r01 kI qI hwk hwq' hwk1 hwq1 i1 i2 i3 i4
            replace htab := hid htab
            go_wp2_with (at_builtin; refine wpList_append_own _ rfl _ _ 34 rfl w.heap.size 9 i0 _ 1 16 Try.underlying34 hi hz0 hz1 hz2 rfl (by decide) _ acc.length (acc.flatMap str1) rfl (hown.alloc _) _ _ _ (str1 (pre 45 x)) rfl rfl (new_cells_at _ _ _ _ _ rfl (by first | rfl | simp)) (by intro u hu; simp [str1] at hu; rcases hu with rfl | rfl | rfl | rfl | rfl <;> rfl) (by unfold maxLen; omega) (by omega) (by first | omega | (simp; done) | (simp; omega)) ?_; intro v2 w2 hown2 hgr2 hiff; clear hiff; have hb2 := app_below (hb.alloc (by first | omega | (simp; done) | (simp; omega)) _) (hown.alloc _) hgr2)
            all_goals go_roundw
            all_goals first
              | (simp [intOf]; omega)
              | exact ⟨p + 1, q, acc ++ [pre 45 x], by first | rfl | go_num, by first | rfl | go_num, by omega, by omega, by simp; omega, hb2, by simpa using hown2, (htab.out.alloc _).grown (hown.alloc _) hgr2, hid (by rw [hrel2.out]; simp)⟩
          · have hrel2 := hid (hrel.out.trans (congrArg (acc ++ ·) (diffL_c hx hy heq hl)))
            clear hx hy hrel
            go_wp2_with fail
            go_quiet (fail)
            replace htab := htab.drewN nq
            replace hb := below_drewN hb nq
            replace hown := own_drewN hown nq
            replace c0 := cell_drewN c0 nq
            replace d0 := cell_drewN d0 nq
            generalize hwq : World.drewN _ nq = wq at htab hb hown c0 d0 ⊢
            replace hbs := hb.size
            clear hwq
            have t0 := htab.top.cell (i := p) (by omega)
            have t1 := htab.top.cell (i := p + 1) (by omega)
            have r10 := (htab.rows (p + 1) (by omega)).cell (i := q) (by omega)
            have r01 := (htab.rows p (by omega)).cell (i := q + 1) (by omega)
            have b10 := lcsAt_le l0 l1 (p + 1) q
            have b01 := lcsAt_le l0 l1 p (q + 1)
            obtain ⟨pp, hpp⟩ : ∃ pp, pp = p + 1 := ⟨_, rfl⟩
            obtain ⟨qq, hqq⟩ : ∃ qq, qq = q + 1 := ⟨_, rfl⟩
            have kI : (p : Int) + 1 = (pp : Int) := by omega
            have qI : (q : Int) + 1 = (qq : Int) := by omega
            have hwk : IntKind.wrap .i64 (pp : Int) = (pp : Int) := wrap_nat pp (by omega)
            have hwq' : IntKind.wrap .i64 (qq : Int) = (qq : Int) := wrap_nat qq (by omega)
            have hwk1 : IntKind.wrap .i64 ((p : Int) + 1) = (pp : Int) := by rw [kI, hwk]
            have hwq1 : IntKind.wrap .i64 ((q : Int) + 1) = (qq : Int) := by rw [qI, hwq']
            have i5 : p < l0.length + 1 := by omega
            have i6 : pp < l0.length + 1 := by omega
            have i7 : q < l1.length + 1 := by omega
            have i8 : qq < l1.length + 1 := by omega
            have i1 : (p : Int) < (l0.length : Int) + 1 := by omega
            have i2 : (pp : Int) < (l0.length : Int) + 1 := by omega
            have i3 : (q : Int) < (l1.length : Int) + 1 := by omega
            have i4 : (qq : Int) < (l1.length : Int) + 1 := by omega
            rw [← hpp] at t1 r10 b10 hl
            rw [← hqq] at r01 b01 hl
            generalize lcsAt l0 l1 pp q = v10 at r10 b10 hl
            generalize lcsAt l0 l1 p qq = v01 at r01 b01 hl
            replace hpp := hid hpp
            replace hqq := hid hqq
            go_wp2_with fail
            go_quiet (fail)
            replace htab := htab.drewN nq
            replace hb := below_drewN hb nq
            replace hown := own_drewN hown nq
            replace c0 := cell_drewN c0 nq
            replace d0 := cell_drewN d0 nq
            replace t0 := cell_drewN t0 nq
            replace t1 := cell_drewN t1 nq
            replace r10 := cell_drewN r10 nq
            replace r01 := cell_drewN r01 nq
            generalize hwq : World.drewN _ nq = wq at htab hb hown c0 d0 t0 t1 r10 r01 ⊢
            replace hbs := hb.size
            clear hwq
            clear t0 t1 r10 r01 kI qI hwk hwq' hwk1 hwq1 i1 i2 i3 i4
            replace htab := hid htab
            go_wp2_with (at_builtin; refine wpList_append_own _ rfl _ _ 34 rfl w.heap.size 9 i0 _ 1 16 Try.underlying34 hi hz0 hz1 hz2 rfl (by decide) _ acc.length (acc.flatMap str1) rfl (hown.alloc _) _ _ _ (str1 (pre 43 y)) rfl rfl (new_cells_at _ _ _ _ _ rfl (by first | rfl | simp)) (by intro u hu; simp [str1] at hu; rcases hu with rfl | rfl | rfl | rfl | rfl <;> rfl) (by unfold maxLen; omega) (by omega) (by first | omega | (simp; done) | (simp; omega)) ?_; intro v2 w2 hown2 hgr2 hiff; clear hiff; have hb2 := app_below (hb.alloc (by first | omega | (simp; done) | (simp; omega)) _) (hown.alloc _) hgr2)
            all_goals go_roundw
            all_goals first
              | (simp [intOf]; omega)
              | exact ⟨p, q + 1, acc ++ [pre 43 y], by first | rfl | go_num, by first | rfl | go_num, by omega, by omega, by simp; omega, hb2, by simpa using hown2, (htab.out.alloc _).grown (hown.alloc _) hgr2, hid (by rw [hrel2.out]; simp)⟩
      · have hrel2 := hid (hrel.out.trans (congrArg (acc ++ ·) (diffL_e hx (by omega : l1.length ≤ q))))
        obtain rfl : q = l1.length := by omega
        have dq : decide ((l1.length : Int) < (l1.length : Int)) = false := by simp
        have eq1 : ((l1.length : Int) == (l1.length : Int)) = true := by simp
        clear hx hrel hlq
        go_wp2_with fail
        go_quiet (fail)
        replace htab := htab.drewN nq
        replace hb := below_drewN hb nq
        replace hown := own_drewN hown nq
        replace c0 := cell_drewN c0 nq
        generalize hwq : World.drewN _ nq = wq at htab hb hown c0 ⊢
        replace hbs := hb.size
        clear hwq
        go_wp2_with fail
        go_quiet (fail)
        replace htab := htab.drewN nq
        replace hb := below_drewN hb nq
        replace hown := own_drewN hown nq
        replace c0 := cell_drewN c0 nq
        generalize hwq : World.drewN _ nq = wq at htab hb hown c0 ⊢
        replace hbs := hb.size
        clear hwq
        replace htab := hid htab
        go_wp2_with (at_builtin; refine wpList_append_own _ rfl _ _ 34 rfl w.heap.size 9 i0 _ 1 16 Try.underlying34 hi hz0 hz1 hz2 rfl (by decide) _ acc.length (acc.flatMap str1) rfl (hown.alloc _) _ _ _ (str1 (pre 45 x)) rfl rfl (new_cells_at _ _ _ _ _ rfl (by first | rfl | simp)) (by intro u hu; simp [str1] at hu; rcases hu with rfl | rfl | rfl | rfl | rfl <;> rfl) (by unfold maxLen; omega) (by omega) (by first | omega | (simp; done) | (simp; omega)) ?_; intro v2 w2 hown2 hgr2 hiff; clear hiff; have hb2 := app_below (hb.alloc (by first | omega | (simp; done) | (simp; omega)) _) (hown.alloc _) hgr2)
        all_goals go_roundw
        all_goals first
          | (simp [intOf]; omega)
          | exact ⟨p + 1, l1.length, acc ++ [pre 45 x], by first | rfl | go_num, by first | rfl | go_num, by omega, by omega, by simp; omega, hb2, by simpa using hown2, (htab.out.alloc _).grown (hown.alloc _) hgr2, hid (by rw [hrel2.out]; simp)⟩
    · have hp0 : l0.length ≤ p := by omega
      have dp : decide ((p : Int) < (l0.length : Int)) = false := by simp; omega
      by_cases hlq : q < l1.length
      · obtain ⟨y, hy⟩ := get_of_lt hlq
        obtain ⟨b', off', rfl, hro'⟩ := slc_some hrow' (by omega)
        have d0 := (hro'.mono hb (Nat.le_refl _)).one str1_len hy rfl
        have hys := hx1 y (List.mem_of_getElem? hy)
        have hyb := Nat.le_trans (bulk_mem ByteArray.size (List.mem_of_getElem? hy)) hn1
        unfold maxLen at hys
        have dq : decide ((q : Int) < (l1.length : Int)) = true := by simp; omega
        have eq1 : ((q : Int) == (l1.length : Int)) = false := by simp; omega
        have hrel2 := hid (hrel.out.trans (congrArg (acc ++ ·) (diffL_d hp0 hy)))
        clear hy hrel hro' hv1'
        go_wp2_with fail
        go_quiet (fail)
        replace htab := htab.drewN nq
        replace hb := below_drewN hb nq
        replace hown := own_drewN hown nq
        replace d0 := cell_drewN d0 nq
        generalize hwq : World.drewN _ nq = wq at htab hb hown d0 ⊢
        replace hbs := hb.size
        clear hwq
        go_wp2_with fail
        go_quiet (fail)
        replace htab := htab.drewN nq
        replace hb := below_drewN hb nq
        replace hown := own_drewN hown nq
        replace d0 := cell_drewN d0 nq
        generalize hwq : World.drewN _ nq = wq at htab hb hown d0 ⊢
        replace hbs := hb.size
        clear hwq
        replace htab := hid htab
        go_wp2_with (at_builtin; refine wpList_append_own _ rfl _ _ 34 rfl w.heap.size 9 i0 _ 1 16 Try.underlying34 hi hz0 hz1 hz2 rfl (by decide) _ acc.length (acc.flatMap str1) rfl (hown.alloc _) _ _ _ (str1 (pre 43 y)) rfl rfl (new_cells_at _ _ _ _ _ rfl (by first | rfl | simp)) (by intro u hu; simp [str1] at hu; rcases hu with rfl | rfl | rfl | rfl | rfl <;> rfl) (by unfold maxLen; omega) (by omega) (by first | omega | (simp; done) | (simp; omega)) ?_; intro v2 w2 hown2 hgr2 hiff; clear hiff; have hb2 := app_below (hb.alloc (by first | omega | (simp; done) | (simp; omega)) _) (hown.alloc _) hgr2)
        all_goals go_roundw
        all_goals first
          | (simp [intOf]; omega)
          | exact ⟨p, q + 1, acc ++ [pre 43 y], by first | rfl | go_num, by first | rfl | go_num, by omega, by omega, by simp; omega, hb2, by simpa using hown2, (htab.out.alloc _).grown (hown.alloc _) hgr2, hid (by rw [hrel2.out]; simp)⟩
      · have hq0 : l1.length ≤ q := by omega
        have hrel2 := hid (hrel.out.trans (congrArg (acc ++ ·) (diffL_end hp0 hq0)))
        have dq : decide ((q : Int) < (l1.length : Int)) = false := by simp; omega
        have htab := hid htab
        clear hrel
        go_wp2
        go_ret
        rw [hcm.out, hrel2.out, List.append_nil]
        exact ⟨_, rfl, hb, hown⟩
  · have hcm := hid (show diff l0 l1 = [] by unfold diff; rw [if_neg (diffOk_no h)])
    by_cases h1 : l0.length ≤ 200
    · have h2 : 200 < l1.length := by omega
      clear h
      go_enter Try.func36, Try.ntmps36
      go_wp2
      go_ret
      rw [hcm.out]
      exact ⟨_, rfl, (Below.refl _ _).alloc (Nat.le_refl _) _, own_new0 _ _ _⟩
    · have h2 : 200 < l0.length := by omega
      clear h h1
      go_enter Try.func36, Try.ntmps36
      go_wp2
      go_ret
      rw [hcm.out]
      exact ⟨_, rfl, (Below.refl _ _).alloc (Nat.le_refl _) _, own_new0 _ _ _⟩

end Go.Proofs.Ytdnjjgidlpmgjaa
