/- Walks and lemmas of this seat (FCommons): what each theorem says of the functions that it names. Conditions: those that each theorem states. -/
import Derived.Test.YtdnjjgidlpmgjaaFTab
import Derived.StillTailTactics
namespace Go.Proofs.Ytdnjjgidlpmgjaa
set_option linter.unusedVariables false
set_option linter.unusedSimpArgs false
open Go.RowKit

theorem Try.info47 : (Try.prog.info? 47).map (fun i => (i.zero, i.size, i.bytes)) = some (some (.slice none 0 0), 1, 24) := by kernel_rfl

set_option maxRecDepth 100000 in
set_option maxHeartbeats 3200000 in
theorem implcommons_any (l0 l1 : List ByteArray) (v0 v1 : Value) (w : World) (hn0 : bulk ByteArray.size l0 ≤ 1048576) (hn1 : bulk ByteArray.size l1 ≤ 1048576) (hv0 : Slc w v0 1 l0.length (l0.flatMap str1)) (hv1 : Slc w v1 1 l1.length (l1.flatMap str1)) :
    Calls Try.prog 76 #[v0, v1] w fun e w' => e = .returned (.slice (some ⟨w.heap.size, 0, none⟩) (l0.length + 1) (l0.length + 1)) ∧ Tab w w' l0.length l1.length (fun i => w.heap.size + 1 + i) (fun _ => true) (lcsAt l0 l1) := by
  obtain ⟨_, a, cap, rfl, hc, hm, hrow⟩ := hv0
  obtain ⟨_, a', cap', rfl, hc', hm', hrow'⟩ := hv1
  unfold maxLen at hm hm'
  have hn := length_bulk ByteArray.size l0
  have hn' := length_bulk ByteArray.size l1
  have hmk := run_make_row' (P := Try.prog) 103 47 (.slice none 0 0) 24 Try.underlying103 Try.info47 rfl .i64 .i64 (l0.length + 1) (by omega) (by omega)
  have hmk2 := run_make_row' (P := Try.prog) 47 3 (.int .i64 0) 8 Try.underlying47 Try.info3 rfl .i64 .i64 (l1.length + 1) (by omega) (by omega)
  push_cast at hmk hmk2
  go_enter Try.func76, Try.ntmps76
  go_wp2
  clear hmk
  go_loopw [15] (fun i wr => ∃ k : Nat, i = .int .i64 k ∧ k ≤ l0.length + 1 ∧ wr.heap.size = w.heap.size + 1 + k ∧ Tab w wr l0.length l1.length (fun i => w.heap.size + 1 + i) (fun i => decide (i < k)) (fun _ _ => 0)) (fun i _ => l0.length + 1 - (intOf i).toNat)
  case atStart => exact ⟨0, rfl, by omega, by simp, (Tab.start w l0.length l1.length _ (fun _ _ => 0) (by intro i i' _ _ h; simpa using h)).congr (by simp) (by simp)⟩
  obtain ⟨k, rfl, hk, hsz, htab⟩ := hrel
  by_cases hlt : k < l0.length + 1
  · have ht0 : ∀ o, (wr.alloc o).cell? ⟨w.heap.size, k, none⟩ = some (.slice none 0 0) := fun o => by rw [(htab.top.alloc o).cell hlt]; simp
    have ht1 : ∀ o, (wr.alloc o).frozen? ⟨w.heap.size, k, none⟩ = false := fun o => (htab.top.alloc o).frozen k
    have hnew := htab.make k (by omega) (by show w.heap.size + 1 + k = _; omega) (fun _ _ => rfl)
    have hN := hid hnew
    clear hnew htab
    go_wp2
    all_goals go_roundw
    all_goals first
      | (simp [intOf]; omega)
      | exact ⟨k + 1, by go_num, by omega, by simp; omega, hN.out.congr (P' := fun i => decide (i < k + 1)) (M' := fun _ _ => 0) (by intro i hi; show (decide (i < k) || i == k) = decide (i < k + 1); rw [Bool.eq_iff_iff]; simp; omega) (by intros; rfl)⟩
  · have hk1 : l0.length + 1 ≤ k := by omega
    have htab := hid (Tab.congr (P' := fun _ => true) (M' := mmAt l0 l1 l0.length 0) htab (fun i hi => by simp; omega) (fun i j hi _ _ => mmAt_zero l0 l1 i j hi))
    clear hmk2
    go_wp2
    go_loopw [7] (fun i wr => ∃ (k : Nat) (z : Int), i = .int .i64 z ∧ z = (k : Int) - 1 ∧ k ≤ l0.length ∧ Tab w wr l0.length l1.length (fun i => w.heap.size + 1 + i) (fun _ => true) (mmAt l0 l1 k 0)) (fun i _ => (intOf i + 1).toNat)
    case atStart => exact ⟨l0.length, _, rfl, by omega, by omega, htab.out⟩
    clear htab hsz
    obtain ⟨k, z, rfl, hz, hk, htab⟩ := hrel
    by_cases hk0 : k = 0
    · subst hk0
      have hzn : z < 0 := by omega
      have hzd : decide (z ≥ 0) = false := by simp; omega
      go_wp2
      go_ret
      exact ⟨rfl, htab.congr (fun _ _ => rfl) (fun i j _ _ _ => mmAt_full l0 l1 i j)⟩
    · obtain ⟨k', rfl⟩ : ∃ k', k = k' + 1 := ⟨k - 1, by omega⟩
      obtain rfl : z = (k' : Int) := by omega
      clear hz hk0
      have htab := hid (htab.congr (fun _ _ => rfl) (fun i j _ _ _ => mmAt_row l0 l1 k' i j))
      go_wp2
      go_loopw [8] (fun j wi => ∃ (q : Nat) (z : Int), j = .int .i64 z ∧ z = (q : Int) - 1 ∧ q ≤ l1.length ∧ Tab w wi l0.length l1.length (fun i => w.heap.size + 1 + i) (fun _ => true) (mmAt l0 l1 k' q)) (fun j _ => (intOf j + 1).toNat)
      case atStart => exact ⟨l1.length, _, rfl, by omega, by omega, htab.out⟩
      clear htab
      obtain ⟨q, z, rfl, hz, hq, htab⟩ := hrel
      by_cases hq0 : q = 0
      · subst hq0
        have hzn : z < 0 := by omega
        have hzd : decide (z ≥ 0) = false := by simp; omega
        have htab := hid htab
        go_wp2
        all_goals go_roundw
        all_goals first
          | (simp [intOf]; done)
          | (simp [intOf]; omega)
          | exact ⟨k', _, rfl, by omega, by omega, htab.out⟩
      · obtain ⟨q', rfl⟩ : ∃ q', q = q' + 1 := ⟨q - 1, by omega⟩
        obtain rfl : z = (q' : Int) := by omega
        clear hz hq0
        obtain ⟨x, hx⟩ := get_of_lt (show k' < l0.length by omega)
        obtain ⟨y, hy⟩ := get_of_lt (show q' < l1.length by omega)
        obtain ⟨b, off, rfl, hro⟩ := slc_some hrow (by omega)
        obtain ⟨b', off', rfl, hro'⟩ := slc_some hrow' (by omega)
        have hb := htab.below
        have c0 := (hro.mono hb (Nat.le_refl _)).one str1_len hx rfl
        have d0 := (hro'.mono hb (Nat.le_refl _)).one str1_len hy rfl
        have e1 := fun h => (lcsAt_eq hx hy h)
        have e2 := fun h => (lcsAt_ne hx hy h)
        clear hx hy hb
        have htab := hid htab
        obtain ⟨kk, hkk⟩ : ∃ kk, kk = k' + 1 := ⟨_, rfl⟩
        obtain ⟨qq, hqq⟩ : ∃ qq, qq = q' + 1 := ⟨_, rfl⟩
        rw [← hkk, ← hqq] at e1
        rw [← hkk, ← hqq] at e2
        have kI : (k' : Int) + 1 = (kk : Int) := by omega
        have qI : (q' : Int) + 1 = (qq : Int) := by omega
        have hwk : IntKind.wrap .i64 (kk : Int) = (kk : Int) := wrap_nat kk (by omega)
        have hwq : IntKind.wrap .i64 (qq : Int) = (qq : Int) := wrap_nat qq (by omega)
        have hwk1 : IntKind.wrap .i64 ((k' : Int) + 1) = (kk : Int) := by rw [kI, hwk]
        have hwq1 : IntKind.wrap .i64 ((q' : Int) + 1) = (qq : Int) := by rw [qI, hwq]
        have i5 : k' < l0.length + 1 := by omega
        have i6 : kk < l0.length + 1 := by omega
        have i7 : q' < l1.length + 1 := by omega
        have i8 : qq < l1.length + 1 := by omega
        have i1 : (k' : Int) < (l0.length : Int) + 1 := by omega
        have i2 : (kk : Int) < (l0.length : Int) + 1 := by omega
        have i3 : (q' : Int) < (l1.length : Int) + 1 := by omega
        have i4 : (qq : Int) < (l1.length : Int) + 1 := by omega
        by_cases heq : (x.toList == y.toList) = true
        · replace e1 := hid (e1 heq)
          clear e2
          replace hkk := hid hkk
          replace hqq := hid hqq
          go_wp2_with fail
          go_quiet (fail)
          replace htab := htab.out.drewN nq
          obtain ⟨wq, hwq⟩ : ∃ wq, wq = wr.drewN nq := ⟨_, rfl⟩
          rw [← hwq] at htab ⊢
          clear hwq c0 d0
          have t0 := htab.top.cell (i := k') (by have := hkk.out; have := hqq.out; omega)
          have t1 := htab.top.cell (i := kk) (by have := hkk.out; have := hqq.out; omega)
          rw [if_pos rfl] at t0 t1
          have hfz := (htab.rows k' rfl (by have := hkk.out; have := hqq.out; omega)).frozen q'
          have htg := (htab.rows k' rfl (by have := hkk.out; have := hqq.out; omega)).cell (i := q') (by have := hkk.out; have := hqq.out; omega)
          have r01 := (htab.rows k' rfl (by have := hkk.out; have := hqq.out; omega)).cell (i := qq) (by have := hkk.out; have := hqq.out; omega)
          have r10 := (htab.rows kk rfl (by have := hkk.out; have := hqq.out; omega)).cell (i := q') (by have := hkk.out; have := hqq.out; omega)
          have r11 := (htab.rows kk rfl (by have := hkk.out; have := hqq.out; omega)).cell (i := qq) (by have := hkk.out; have := hqq.out; omega)
          rw [mmAt_here _ _ _ _ _ (by have := hkk.out; have := hqq.out; omega)] at r01
          rw [mmAt_next _ _ _ _ _ _ (by have := hkk.out; have := hqq.out; omega)] at r10 r11
          have b01 := lcsAt_le l0 l1 k' qq
          have b10 := lcsAt_le l0 l1 kk q'
          have b11 := lcsAt_le l0 l1 kk qq
          generalize hv01 : lcsAt l0 l1 k' qq = v01 at r01 b01
          generalize hv10 : lcsAt l0 l1 kk q' = v10 at r10 b10
          generalize hv11 : lcsAt l0 l1 kk qq = v11 at r11 b11 e1
          generalize mmAt l0 l1 k' (q' + 1) k' q' = vold at htg
          have htH := hid htab
          clear htab hv01 hv10 hv11
          have hwv : IntKind.wrap .i64 ((v11 : Int) + 1) = (v11 : Int) + 1 := by rw [show (v11 : Int) + 1 = ((v11 + 1 : Nat) : Int) from rfl]; exact wrap_nat _ (by omega)
          go_wp2_with fail
          go_still_tail 16, (by kernel_rfl)
          go_wp2
          all_goals go_roundw
          all_goals first
            | (simp [intOf]; done)
            | (simp [intOf]; omega)
            | (refine ⟨q', rfl, by omega, ?_⟩; exact (Tab.fill (v := v11 + 1) (R := fun i => w.heap.size + 1 + i) (P := fun _ => true) htH.out rfl (show k' ≤ l0.length by omega) e1.out.symm).drew)
            | (refine ⟨q', _, rfl, by omega, by omega, ?_⟩; exact (Tab.fill (v := v11 + 1) (R := fun i => w.heap.size + 1 + i) (P := fun _ => true) htH.out rfl (show k' ≤ l0.length by omega) e1.out.symm).drew)
        · have heq : (x.toList == y.toList) = false := by simpa using heq
          replace e2 := hid (e2 heq)
          clear e1
          replace hkk := hid hkk
          replace hqq := hid hqq
          go_wp2_with fail
          go_quiet (fail)
          replace htab := htab.out.drewN nq
          obtain ⟨wq, hwq⟩ : ∃ wq, wq = wr.drewN nq := ⟨_, rfl⟩
          rw [← hwq] at htab ⊢
          clear hwq c0 d0
          have t0 := htab.top.cell (i := k') (by have := hkk.out; have := hqq.out; omega)
          have t1 := htab.top.cell (i := kk) (by have := hkk.out; have := hqq.out; omega)
          rw [if_pos rfl] at t0 t1
          have hfz := (htab.rows k' rfl (by have := hkk.out; have := hqq.out; omega)).frozen q'
          have htg := (htab.rows k' rfl (by have := hkk.out; have := hqq.out; omega)).cell (i := q') (by have := hkk.out; have := hqq.out; omega)
          have r01 := (htab.rows k' rfl (by have := hkk.out; have := hqq.out; omega)).cell (i := qq) (by have := hkk.out; have := hqq.out; omega)
          have r10 := (htab.rows kk rfl (by have := hkk.out; have := hqq.out; omega)).cell (i := q') (by have := hkk.out; have := hqq.out; omega)
          have r11 := (htab.rows kk rfl (by have := hkk.out; have := hqq.out; omega)).cell (i := qq) (by have := hkk.out; have := hqq.out; omega)
          rw [mmAt_here _ _ _ _ _ (by have := hkk.out; have := hqq.out; omega)] at r01
          rw [mmAt_next _ _ _ _ _ _ (by have := hkk.out; have := hqq.out; omega)] at r10 r11
          have b01 := lcsAt_le l0 l1 k' qq
          have b10 := lcsAt_le l0 l1 kk q'
          have b11 := lcsAt_le l0 l1 kk qq
          generalize hv01 : lcsAt l0 l1 k' qq = v01 at r01 b01 e2
          generalize hv10 : lcsAt l0 l1 kk q' = v10 at r10 b10 e2
          generalize hv11 : lcsAt l0 l1 kk qq = v11 at r11 b11
          generalize mmAt l0 l1 k' (q' + 1) k' q' = vold at htg
          have htH := hid htab
          clear htab hv01 hv10 hv11
          go_wp2_with fail
          go_still_tail 23, (by kernel_rfl)
          go_wp2
          all_goals go_roundw
          all_goals first
            | (simp [intOf]; done)
            | (simp [intOf]; omega)
            | (refine ⟨q', _, rfl, by omega, by omega, ?_⟩
               have hT := (Tab.fill (v := max v10 v01) (R := fun i => w.heap.size + 1 + i) (P := fun _ => true) htH.out rfl (show k' ≤ l0.length by omega) e2.out.symm).drew
               by_cases hc : v10 < v01
               · rw [if_pos hc]
                 rw [Nat.max_eq_right (by omega)] at hT
                 exact hT
               · rw [if_neg hc]
                 rw [Nat.max_eq_left (by omega)] at hT
                 exact hT)

end Go.Proofs.Ytdnjjgidlpmgjaa
