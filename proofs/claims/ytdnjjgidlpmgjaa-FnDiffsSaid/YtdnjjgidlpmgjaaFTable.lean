/- Walks and lemmas of this seat (FTable): what each theorem says of the functions that it names. Conditions: those that each theorem states. -/
import Derived.Test.YtdnjjgidlpmgjaaFCommons
import Derived.StillTailTactics
namespace Go.Proofs.Ytdnjjgidlpmgjaa
set_option linter.unusedVariables false
set_option linter.unusedSimpArgs false
open Go.RowKit

theorem mmAt_new (a b : List ByteArray) (k j : Nat) : mmAt a b k b.length k j = 0 := by
  unfold mmAt
  by_cases h : k < k ∨ (k = k ∧ b.length ≤ j)
  · rw [if_pos h]; exact lcsAt_m _ _ _ _ (by omega)
  · rw [if_neg h]

theorem mmAt_fin (a b : List ByteArray) (k q i j : Nat) (h : q = 0 ∨ k = a.length) (hi : i ≤ a.length) (hp : k ≤ i) : mmAt a b k q i j = lcsAt a b i j := by
  unfold mmAt
  by_cases c : k < i ∨ (i = k ∧ q ≤ j)
  · rw [if_pos c]
  · rw [if_neg c, lcsAt_n _ _ _ _ (by omega)]

theorem mmAt_fill {a b : List ByteArray} {k q v : Nat} (hv : v = lcsAt a b k q) (i j : Nat) : (if i = k ∧ j = q then v else mmAt a b k (q + 1) i j) = mmAt a b k q i j := by
  by_cases e : i = k ∧ j = q
  · obtain ⟨rfl, rfl⟩ := e
    rw [if_pos ⟨rfl, rfl⟩, hv, mmAt_here _ _ _ _ _ (Nat.le_refl _)]
  · rw [if_neg e]; unfold mmAt
    by_cases c : k < i ∨ (i = k ∧ q + 1 ≤ j)
    · rw [if_pos c, if_pos (by omega)]
    · rw [if_neg c, if_neg (by omega)]
theorem Tab.over {a b : List ByteArray} {w wr : World} {n m : Nat} {R : Nat → Nat} {P : Nat → Bool} {k q v0 v : Nat} (h : Tab w wr n m R P (fun i j => if i = k ∧ j = q then v0 else mmAt a b k (q + 1) i j)) (hp : P k = true) (hk : k ≤ n) (hv : v = lcsAt a b k q) :
    Tab w (wr.setCell ⟨R k, q, none⟩ (.int .i64 v)) n m R P (mmAt a b k q) :=
  (h.set k q v hp hk).congr (fun _ _ => rfl) fun i j hi _ hj => by
    show (if i = k ∧ j = q then v else if i = k ∧ j = q then v0 else mmAt a b k (q + 1) i j) = mmAt a b k q i j
    by_cases e : i = k ∧ j = q
    · rw [if_pos e, ← mmAt_fill hv i j, if_pos e]
    · rw [if_neg e, if_neg e, ← mmAt_fill hv i j, if_neg e]

set_option maxRecDepth 100000 in
set_option maxHeartbeats 3200000 in
theorem specl29Table_any (l0 l1 : List ByteArray) (v0 v1 : Value) (w : World) (hn0 : bulk ByteArray.size l0 ≤ 1048576) (hn1 : bulk ByteArray.size l1 ≤ 1048576) (hv0 : Slc w v0 1 l0.length (l0.flatMap str1)) (hv1 : Slc w v1 1 l1.length (l1.flatMap str1)) :
    Calls Try.prog 78 #[v0, v1] w fun e w' => e = .returned (.slice (some ⟨w.heap.size, 0, none⟩) (l0.length + 1) (l0.length + 1)) ∧ Tab w w' l0.length l1.length (fun i => w.heap.size + 1 + (l0.length - i)) (fun _ => true) (lcsAt l0 l1) := by
  obtain ⟨_, a, cap, rfl, hc, hm, hrow⟩ := hv0
  obtain ⟨_, a', cap', rfl, hc', hm', hrow'⟩ := hv1
  unfold maxLen at hm hm'
  have hn := length_bulk ByteArray.size l0
  have hn' := length_bulk ByteArray.size l1
  have hmk := run_make_row' (P := Try.prog) 103 47 (.slice none 0 0) 24 Try.underlying103 Try.info47 rfl .i64 .i64 (l0.length + 1) (by omega) (by omega)
  have hmk2 := run_make_row' (P := Try.prog) 47 3 (.int .i64 0) 8 Try.underlying47 Try.info3 rfl .i64 .i64 (l1.length + 1) (by omega) (by omega)
  push_cast at hmk hmk2
  go_enter Try.func78, Try.ntmps78
  go_wp2
  clear hmk
  go_loopw [6] (fun i wr => ∃ (k : Nat) (z : Int), i = .int .i64 z ∧ z = (k : Int) - 1 ∧ k ≤ l0.length + 1 ∧ wr.heap.size + k = w.heap.size + 1 + (l0.length + 1) ∧ Tab w wr l0.length l1.length (fun i => w.heap.size + 1 + (l0.length - i)) (fun i => decide (k ≤ i)) (lcsAt l0 l1)) (fun i _ => (intOf i + 1).toNat)
  case atStart => exact ⟨l0.length + 1, _, rfl, by omega, by omega, by first | (simp; done) | (simp; omega), (Tab.start w l0.length l1.length _ (lcsAt l0 l1) (by intro i i' h1 h2 h; simp at h; omega)).congr (by intro i hi; simp; omega) (by simp)⟩
  obtain ⟨k, z, rfl, hz, hk, hsz, htab⟩ := hrel
  by_cases hk0 : k = 0
  · subst hk0
    have hzn : z < 0 := by omega
    have hzd : decide (z ≥ 0) = false := by simp; omega
    have htH := hid htab
    go_wp2
    go_ret
    exact ⟨rfl, htH.out.congr (by simp) (by simp)⟩
  · obtain ⟨k', rfl⟩ : ∃ k', k = k' + 1 := ⟨k - 1, by omega⟩
    obtain rfl : z = (k' : Int) := by omega
    clear hz hk0
    have hR : w.heap.size + 1 + (l0.length - k') = wr.heap.size := by omega
    have ht0 : ∀ o, (wr.alloc o).cell? ⟨w.heap.size, k', none⟩ = some (.slice none 0 0) := fun o => by rw [(htab.top.alloc o).cell (by omega)]; simp
    have ht1 : ∀ o, (wr.alloc o).frozen? ⟨w.heap.size, k', none⟩ = false := fun o => (htab.top.alloc o).frozen k'
    have hnew := (htab.congr (P' := fun i => decide (k' + 1 ≤ i)) (M' := mmAt l0 l1 k' l1.length) (fun _ _ => rfl) (fun i j _ hp _ => (mmAt_next _ _ _ _ _ _ (by simp at hp; omega)).symm)).make k' (by omega) hR (fun j _ => mmAt_new l0 l1 k' j)
    rw [hR] at hnew
    have hN := hid (hnew.congr (P' := fun i => decide (k' ≤ i)) (M' := mmAt l0 l1 k' l1.length) (by intro i hi; rw [Bool.eq_iff_iff]; simp; omega) (by intros; rfl))
    have hlen : k' < l0.length + 1 := by omega
    have hlen' : (k' : Int) < (l0.length : Int) + 1 := by omega
    clear hnew htab hR
    go_wp2
    go_loopw [7] (fun j wi => ∃ (q : Nat) (z : Int), j = .int .i64 z ∧ z = (q : Int) - 1 ∧ q ≤ l1.length ∧ wi.heap.size + k' = w.heap.size + 1 + (l0.length + 1) ∧ Tab w wi l0.length l1.length (fun i => w.heap.size + 1 + (l0.length - i)) (fun i => decide (k' ≤ i)) (mmAt l0 l1 k' q)) (fun j _ => (intOf j + 1).toNat)
    case atStart => exact ⟨l1.length, _, rfl, by omega, by omega, by first | omega | (simp; omega), hN.out⟩
    clear hN ht0 ht1 hsz
    obtain ⟨q, z, rfl, hz, hq, hsz, htab⟩ := hrel
    have fin := fun (h : q = 0 ∨ k' = l0.length) => hid (htab.congr (P' := fun i => decide (k' ≤ i)) (M' := lcsAt l0 l1) (fun _ _ => rfl) (fun i j hi hp hj => mmAt_fin l0 l1 k' q i j h hi (by simpa using hp)))
    by_cases hq0 : q = 0
    · have hzn : z < 0 := by omega
      have hzd : decide (z ≥ 0) = false := by simp; omega
      replace fin := fin (.inl hq0)
      clear htab
      go_wp2
      all_goals go_roundw
      all_goals first
        | (simp [intOf]; done)
        | (simp [intOf]; omega)
        | exact ⟨k', _, rfl, by omega, by omega, by omega, fin.out⟩
    · obtain ⟨q', rfl⟩ : ∃ q', q = q' + 1 := ⟨q - 1, by omega⟩
      obtain rfl : z = (q' : Int) := by omega
      clear hz hq0
      by_cases hkn : k' = l0.length
      · replace fin := fin (.inr hkn)
        have hge : ¬ (k' : Int) < (l0.length : Int) := by omega
        have hged : decide ((k' : Int) < (l0.length : Int)) = false := by simp; omega
        replace hkn := hid hkn
        clear htab
        go_wp2
        all_goals go_roundw
        all_goals first
          | (simp [intOf]; done)
          | (simp [intOf]; omega)
          | exact ⟨k', _, rfl, by omega, by omega, by omega, fin.out⟩
      · clear fin
        have hkl : k' < l0.length := by omega
        obtain ⟨x, hx⟩ := get_of_lt (show k' < l0.length by omega)
        obtain ⟨y, hy⟩ := get_of_lt (show q' < l1.length by omega)
        obtain ⟨b, off, rfl, hro⟩ := slc_some hrow (by omega)
        obtain ⟨b', off', rfl, hro'⟩ := slc_some hrow' (by omega)
        have hb := htab.below
        have c0 := (hro.mono hb (Nat.le_refl _)).one str1_len hx rfl
        have d0 := (hro'.mono hb (Nat.le_refl _)).one str1_len hy rfl
        have C0 := hid (hro.one str1_len hx rfl)
        have D0 := hid (hro'.one str1_len hy rfl)
        have e1 := fun h => (lcsAt_eq hx hy h)
        have e2 := fun h => (lcsAt_ne hx hy h)
        clear hx hy hb
        have htab := hid htab
        obtain ⟨kk, hkk⟩ : ∃ kk, kk = k' + 1 := ⟨_, rfl⟩
        obtain ⟨qq, hqq⟩ : ∃ qq, qq = q' + 1 := ⟨_, rfl⟩
        rw [← hkk, ← hqq] at e1
        rw [← hkk, ← hqq] at e2
        have kI : (k' : Int) + 1 = (kk : Int) := by omega
        have qI : (q' : Int) + 1 = (qq : Int) := by omega
        have hwk : IntKind.wrap .i64 (kk : Int) = (kk : Int) := wrap_nat kk (by omega)
        have hwq : IntKind.wrap .i64 (qq : Int) = (qq : Int) := wrap_nat qq (by omega)
        have hwk1 : IntKind.wrap .i64 ((k' : Int) + 1) = (kk : Int) := by rw [kI, hwk]
        have hwq1 : IntKind.wrap .i64 ((q' : Int) + 1) = (qq : Int) := by rw [qI, hwq]
        have i5 : k' < l0.length + 1 := by omega
        have i6 : kk < l0.length + 1 := by omega
        have i7 : q' < l1.length + 1 := by omega
        have i8 : qq < l1.length + 1 := by omega
        have i1 : (k' : Int) < (l0.length : Int) + 1 := by omega
        have i2 : (kk : Int) < (l0.length : Int) + 1 := by omega
        have i3 : (q' : Int) < (l1.length : Int) + 1 := by omega
        have i4 : (qq : Int) < (l1.length : Int) + 1 := by omega
        replace hkk := hid hkk
        replace hqq := hid hqq
        replace htab := htab.out
        have t0 := htab.top.cell (i := k') (by have := hkk.out; have := hqq.out; omega)
        have t1 := htab.top.cell (i := kk) (by have := hkk.out; have := hqq.out; omega)
        rw [if_pos (by simp)] at t0
        rw [if_pos (by simp; have := hkk.out; omega)] at t1
        have hfz := (htab.rows k' (by simp) (by have := hkk.out; have := hqq.out; omega)).frozen q'
        have htg := (htab.rows k' (by simp) (by have := hkk.out; have := hqq.out; omega)).cell (i := q') (by have := hkk.out; have := hqq.out; omega)
        have r01 := (htab.rows k' (by simp) (by have := hkk.out; have := hqq.out; omega)).cell (i := qq) (by have := hkk.out; have := hqq.out; omega)
        have r10 := (htab.rows kk (by simp; have := hkk.out; omega) (by have := hkk.out; have := hqq.out; omega)).cell (i := q') (by have := hkk.out; have := hqq.out; omega)
        have r11 := (htab.rows kk (by simp; have := hkk.out; omega) (by have := hkk.out; have := hqq.out; omega)).cell (i := qq) (by have := hkk.out; have := hqq.out; omega)
        rw [mmAt_here _ _ _ _ _ (by have := hkk.out; have := hqq.out; omega)] at r01
        rw [mmAt_next _ _ _ _ _ _ (by have := hkk.out; have := hqq.out; omega)] at r10 r11
        have b01 := lcsAt_le l0 l1 k' qq
        have b10 := lcsAt_le l0 l1 kk q'
        have b11 := lcsAt_le l0 l1 kk qq
        generalize hv01 : lcsAt l0 l1 k' qq = v01 at r01 b01 e2
        generalize hv10 : lcsAt l0 l1 kk q' = v10 at r10 b10 e2
        obtain ⟨v11, hv11⟩ : ∃ v, v = lcsAt l0 l1 kk qq := ⟨_, rfl⟩
        rw [← hv11] at r11 b11 e1
        generalize mmAt l0 l1 k' (q' + 1) k' q' = vold at htg
        have htH := hid htab
        replace hv11 := hid hv11
        clear htab hv01 hv10
        rcases Nat.lt_or_ge v10 v01 with hc | hc
        · have hmx : max v10 v01 = v01 := by omega
          rw [hmx] at e2
          have hT := (Tab.set htH.out k' q' v01 (by simp) (by omega)).drew
          have hTH := hid hT
          replace hmx := hid hmx
          clear hT
          by_cases heq : (x.toList == y.toList) = true
          all_goals
            go_wp2_with fail
            go_still_tail 23, (by kernel_rfl)
            go_wp2_with fail
            obtain ⟨wq, hwq⟩ : ∃ wq, wq = (wr.setCell ⟨w.heap.size + 1 + (l0.length - k'), q', none⟩ (.int .i64 v01)).drew := ⟨_, rfl⟩
            have hTq : Hid (Tab w wq _ _ _ _ _) := hid (hwq ▸ hTH.out)
            have hsq : Hid (wq.heap.size = wr.heap.size) := hid (by rw [hwq]; simp)
            rw [← hwq]
            clear hwq hTH htH c0 d0 t0 t1 r01 r10 r11 htg hfz
            have hT := hTq.out
            have c0 : wq.cell? ⟨b, off + k', none⟩ = some (.string x) := by rw [hT.below.cell (p := ⟨b, off + k', none⟩) (World.block_lt_of_cell? w _ C0.out)]; exact C0.out
            have d0 : wq.cell? ⟨b', off' + q', none⟩ = some (.string y) := by rw [hT.below.cell (p := ⟨b', off' + q', none⟩) (World.block_lt_of_cell? w _ D0.out)]; exact D0.out
            clear hT
          · replace e1 := hid (e1 heq)
            clear e2
            go_quiet (fail)
            have hTn := hTq.out.drewN nq
            obtain ⟨wz, hwz⟩ : ∃ wz, wz = wq.drewN nq := ⟨_, rfl⟩
            have hsz' : Hid (wz.heap.size = wr.heap.size) := hid (by rw [hwz]; exact hsq.out)
            rw [← hwz] at hTn ⊢
            clear hwz c0 d0 hTq hsq
            have t0 := hTn.top.cell (i := k') (by have := hkk.out; have := hqq.out; omega)
            have t1 := hTn.top.cell (i := kk) (by have := hkk.out; have := hqq.out; omega)
            rw [if_pos (by simp)] at t0
            rw [if_pos (by simp; have := hkk.out; omega)] at t1
            have hfz := (hTn.rows k' (by simp) (by have := hkk.out; have := hqq.out; omega)).frozen q'
            have htg := (hTn.rows k' (by simp) (by have := hkk.out; have := hqq.out; omega)).cell (i := q') (by have := hkk.out; have := hqq.out; omega)
            rw [if_pos ⟨rfl, rfl⟩] at htg
            have r11 := (hTn.rows kk (by simp; have := hkk.out; omega) (by have := hkk.out; have := hqq.out; omega)).cell (i := qq) (by have := hkk.out; have := hqq.out; omega)
            rw [if_neg (by have := hkk.out; omega), mmAt_next _ _ _ _ _ _ (by have := hkk.out; have := hqq.out; omega), ← hv11.out] at r11
            have hTz := hid hTn
            clear hTn
            have hwv : IntKind.wrap .i64 ((v11 : Int) + 1) = (v11 : Int) + 1 := by rw [show (v11 : Int) + 1 = ((v11 + 1 : Nat) : Int) from rfl]; exact wrap_nat _ (by omega)
            go_wp2_with fail
            go_still_tail 16, (by kernel_rfl)
            go_wp2
            all_goals go_roundw
            all_goals first
              | (simp [intOf]; done)
              | (simp [intOf]; omega)
              | (refine ⟨q', _, rfl, by omega, by omega, by have := hsz'.out; simp; omega, ?_⟩; exact (Tab.over (v := v11 + 1) (R := fun i => w.heap.size + 1 + (l0.length - i)) (P := fun i => decide (k' ≤ i)) hTz.out (by simp) (show k' ≤ l0.length by omega) e1.out.symm).drew)
          · have heq : (x.toList == y.toList) = false := by simpa using heq
            replace e2 := hid (e2 heq)
            clear e1
            go_quiet (fail)
            have hTn := hid ((hTq.out.congr (P' := fun i => decide (k' ≤ i)) (M' := mmAt l0 l1 k' q') (fun _ _ => rfl) (fun i j _ _ _ => mmAt_fill e2.out.symm i j)).drewN nq)
            clear c0 d0 hTq
            go_wp2
            all_goals go_roundw
            all_goals first
              | (simp [intOf]; done)
              | (simp [intOf]; omega)
              | exact ⟨q', _, rfl, by omega, by omega, by have := hsq.out; show wq.heap.size + k' = _; omega, hTn.out⟩
        · have hmx : max v10 v01 = v10 := by omega
          rw [hmx] at e2
          have hT := (Tab.set htH.out k' q' v10 (by simp) (by omega)).drew
          have hTH := hid hT
          replace hmx := hid hmx
          clear hT
          by_cases heq : (x.toList == y.toList) = true
          all_goals
            go_wp2_with fail
            go_still_tail 23, (by kernel_rfl)
            go_wp2_with fail
            obtain ⟨wq, hwq⟩ : ∃ wq, wq = (wr.setCell ⟨w.heap.size + 1 + (l0.length - k'), q', none⟩ (.int .i64 v10)).drew := ⟨_, rfl⟩
            have hTq : Hid (Tab w wq _ _ _ _ _) := hid (hwq ▸ hTH.out)
            have hsq : Hid (wq.heap.size = wr.heap.size) := hid (by rw [hwq]; simp)
            rw [← hwq]
            clear hwq hTH htH c0 d0 t0 t1 r01 r10 r11 htg hfz
            have hT := hTq.out
            have c0 : wq.cell? ⟨b, off + k', none⟩ = some (.string x) := by rw [hT.below.cell (p := ⟨b, off + k', none⟩) (World.block_lt_of_cell? w _ C0.out)]; exact C0.out
            have d0 : wq.cell? ⟨b', off' + q', none⟩ = some (.string y) := by rw [hT.below.cell (p := ⟨b', off' + q', none⟩) (World.block_lt_of_cell? w _ D0.out)]; exact D0.out
            clear hT
          · replace e1 := hid (e1 heq)
            clear e2
            go_quiet (fail)
            have hTn := hTq.out.drewN nq
            obtain ⟨wz, hwz⟩ : ∃ wz, wz = wq.drewN nq := ⟨_, rfl⟩
            have hsz' : Hid (wz.heap.size = wr.heap.size) := hid (by rw [hwz]; exact hsq.out)
            rw [← hwz] at hTn ⊢
            clear hwz c0 d0 hTq hsq
            have t0 := hTn.top.cell (i := k') (by have := hkk.out; have := hqq.out; omega)
            have t1 := hTn.top.cell (i := kk) (by have := hkk.out; have := hqq.out; omega)
            rw [if_pos (by simp)] at t0
            rw [if_pos (by simp; have := hkk.out; omega)] at t1
            have hfz := (hTn.rows k' (by simp) (by have := hkk.out; have := hqq.out; omega)).frozen q'
            have htg := (hTn.rows k' (by simp) (by have := hkk.out; have := hqq.out; omega)).cell (i := q') (by have := hkk.out; have := hqq.out; omega)
            rw [if_pos ⟨rfl, rfl⟩] at htg
            have r11 := (hTn.rows kk (by simp; have := hkk.out; omega) (by have := hkk.out; have := hqq.out; omega)).cell (i := qq) (by have := hkk.out; have := hqq.out; omega)
            rw [if_neg (by have := hkk.out; omega), mmAt_next _ _ _ _ _ _ (by have := hkk.out; have := hqq.out; omega), ← hv11.out] at r11
            have hTz := hid hTn
            clear hTn
            have hwv : IntKind.wrap .i64 ((v11 : Int) + 1) = (v11 : Int) + 1 := by rw [show (v11 : Int) + 1 = ((v11 + 1 : Nat) : Int) from rfl]; exact wrap_nat _ (by omega)
            go_wp2_with fail
            go_still_tail 16, (by kernel_rfl)
            go_wp2
            all_goals go_roundw
            all_goals first
              | (simp [intOf]; done)
              | (simp [intOf]; omega)
              | (refine ⟨q', _, rfl, by omega, by omega, by have := hsz'.out; simp; omega, ?_⟩; exact (Tab.over (v := v11 + 1) (R := fun i => w.heap.size + 1 + (l0.length - i)) (P := fun i => decide (k' ≤ i)) hTz.out (by simp) (show k' ≤ l0.length by omega) e1.out.symm).drew)
          · have heq : (x.toList == y.toList) = false := by simpa using heq
            replace e2 := hid (e2 heq)
            clear e1
            go_quiet (fail)
            have hTn := hid ((hTq.out.congr (P' := fun i => decide (k' ≤ i)) (M' := mmAt l0 l1 k' q') (fun _ _ => rfl) (fun i j _ _ _ => mmAt_fill e2.out.symm i j)).drewN nq)
            clear c0 d0 hTq
            go_wp2
            all_goals go_roundw
            all_goals first
              | (simp [intOf]; done)
              | (simp [intOf]; omega)
              | exact ⟨q', _, rfl, by omega, by omega, by have := hsq.out; show wq.heap.size + k' = _; omega, hTn.out⟩

end Go.Proofs.Ytdnjjgidlpmgjaa
