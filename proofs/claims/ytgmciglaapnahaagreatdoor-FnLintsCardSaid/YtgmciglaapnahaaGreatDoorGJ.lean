/- Walks and lemmas of this seat (FAssigned3): what each theorem says of the functions that it names. Conditions: those that each theorem states. -/
import Derived.Test.YtgmciglaapnahaaGreatDoorGI
import Derived.Test.YtgmciglaapnahaaGreatDoorGA
namespace Go.Proofs.YtgmciglaapnahaaGreatDoor
set_option linter.unusedVariables false
set_option linter.unusedSimpArgs false
open Go.RowKit Go.Lib

set_option maxRecDepth 100000 in
set_option maxHeartbeats 3200000 in
theorem implAssignedIn_any (l0 : List Node) (v0 : Value) (w : World) (hx0 : ∀ x ∈ l0, x.Ok) (hn0 : bulk Node.sizes l0 ≤ 1048576) (hv0 : NodeSlc w v0 l0) (hE : WordEnv w) :
    Calls Tryz.prog 22 #[v0] w fun e w' => ∃ v', e = .returned v' ∧ Below w.heap.size w w' ∧ w'.ownsRow w.heap.size 3 1 v' (assignedAll l0).length ((assignedAll l0).flatMap int1) := by
  have hv := hv0
  obtain ⟨a, cap, rfl, hm, hc, hsl⟩ := hv0.shape
  have hn := length_bulk Node.sizes l0
  obtain ⟨i0, hi, hz0, hz1, hz2⟩ := info_parts Tryz.info3
  have hcall := hid fun W (hb : Below w.heap.size w W) => implTreeOk_any l0 _ W hx0 hn0 (hv.mono hb (Nat.le_refl _)) (hE.below hb)
  by_cases hok : treeOk l0 = true
  · have hR : Hid (assignedAll l0 = assignedIn l0 0 l0) := hid (by unfold assignedAll; rw [if_pos hok])
    have hck := hid (fun k x c (hx : l0[k]? = some x) (hc : condIx x.kind = ((c : Nat) : Int)) => cond_kid hok hx hc)
    rw [hok] at hcall
    clear hok
    go_enter Tryz.func22, Tryz.ntmps22
    go_wp2_with fail
    have hown0 := own_new0 w 3 1
    refine (hcall.out _ (by repeat (first | exact Below.refl _ _ | refine Below.alloc ?_ (by first | omega | (simp; done) | (simp; omega)) _ | refine Below.drew ?_))).mono ?_; rintro e w1 ⟨rfl, hb1⟩
    have hB1 : Below w.heap.size w w1 := (by repeat (first | exact Below.refl _ _ | refine Below.alloc ?_ (by first | omega | (simp; done) | (simp; omega)) _ | refine Below.drew ?_) : Below w.heap.size w _).trans (hb1.mono (by simp))
    have hown1 := own_below hown0 hb1 (Nat.le_refl _)
    clear hb1 hown0 hcall
    go_wp2
    go_loopw [3, 14] (fun v i wr => ∃ (k : Nat) (acc : List Int), i = .int .i64 k ∧ k ≤ l0.length ∧ acc.length ≤ k ∧ Below w.heap.size w wr ∧ wr.ownsRow w.heap.size 3 1 v acc.length (acc.flatMap int1) ∧ Hid (assignedAll l0 = acc ++ assignedIn l0 k (l0.drop k))) (fun _ i _ => l0.length - (intOf i).toNat)
    case atStart => exact ⟨0, [], rfl, by omega, by simp, hB1, hown1, hid (by rw [hR.out]; rfl)⟩
    clear hB1 hown1 hR
    obtain ⟨k, acc, rfl, hk, hacc, hb, hown, hrel⟩ := hrel
    have hbs := hb.size
    by_cases hlt : k < l0.length
    · obtain ⟨x, ka, kc, b, off, hx, rfl, C0, C1, C2, C3, C4, hkd⟩ := hsl.at (Below.refl _ _) (Nat.le_refl _) hlt
      have c0 := keepc hb C0
      have c1 := keepc hb C1
      have c2 := keepc hb C2
      have c3 := keepc hb C3
      have c4 := keepc hb C4
      obtain ⟨_, _, _, hkv, hkc, hkm, hkrow⟩ := hkd
      simp at hkv
      obtain ⟨rfl, rfl⟩ := hkv
      unfold maxLen at hkm
      rw [drop_cons hx] at hrel
      have hcases := cond_cases x.kind
      rcases hcases with ⟨hkx, hcx⟩ | ⟨hkx, hcx⟩ | ⟨hkx, hcx⟩
      · rcases hkx with hkx | hkx
        all_goals
          obtain ⟨m, y, hkid, hmk, hy, hql⟩ := hck.out k x 0 hx hcx
          have hml : m < l0.length := by omega
          obtain ⟨kb, koff, rfl, hkro⟩ := slc_some hkrow (by omega)
          have D0 := hkro.one int1_len hkid rfl
          rw [Nat.add_zero] at D0
          obtain ⟨y', ka2, kc2, b2, off2, hy', hab, E0, -, -, -, -, -⟩ := hsl.at (Below.refl _ _) (Nat.le_refl _) hml
          obtain rfl : y = y' := by rw [hy] at hy'; exact Option.some.inj hy'
          obtain ⟨rfl, rfl⟩ : b = b2 ∧ off = off2 := by simpa using hab
          have hay := ass_yes hcx hkid hy
          have hqi : (0 : Int) < (x.kids.length : Int) := by omega
          have hmi : (m : Int) < (l0.length : Int) := by omega
          have d0 := fun o => keepc (hb.alloc hbs o) D0
          have e0 := fun o => keepc (hb.alloc hbs o) E0
          have hRy : Hid (y.kind = 15 → assignedAll l0 = (acc ++ [(k : Int)]) ++ assignedIn l0 (k + 1) (l0.drop (k + 1))) := hid (fun h => by rw [hrel.out, assignedIn, if_pos (by rw [hay, h]; rfl)]; simp)
          have hRn : Hid (¬ y.kind = 15 → assignedAll l0 = acc ++ assignedIn l0 (k + 1) (l0.drop (k + 1))) := hid (fun h => by rw [hrel.out, assignedIn, if_neg (by rw [hay]; simpa using h)])
          rw [hkx] at c0
          clear hrel hx hck hcx hkid hy hab hy' hay
          by_cases h15 : y.kind = 15
          · have hR2 := hid (hRy.out h15)
            simp only [h15] at e0
            clear hRy hRn
            go_wp2_with (at_builtin; refine wpList_append_own _ rfl _ _ 31 rfl w.heap.size 3 i0 _ 1 8 Tryz.underlying31 hi hz0 hz1 hz2 rfl (by decide) _ acc.length (acc.flatMap int1) rfl ((hown.alloc _).alloc _) _ _ _ (int1 (k : Int)) rfl rfl (new_cells_at _ _ _ _ _ rfl (by first | rfl | simp)) (by intro u hu; simp [int1] at hu; rcases hu with rfl | rfl | rfl | rfl | rfl <;> rfl) (by unfold maxLen; omega) (by omega) (by first | omega | (simp; done) | (simp; omega)) ?_; intro v2 w2 hown2 hgr2 hiff; clear hiff; have hb2 := app_below ((hb.alloc (by first | omega | (simp; done) | (simp; omega)) _).alloc (by first | omega | (simp; done) | (simp; omega)) _) ((hown.alloc _).alloc _) hgr2)
            all_goals go_roundw
            all_goals first
              | (simp [intOf]; omega)
              | exact ⟨k + 1, acc ++ [(k : Int)], by go_num, by omega, by simp; omega, hb2, by simpa using hown2, hR2⟩
          · have hR2 := hid (hRn.out h15)
            clear hRy hRn
            go_wp2
            go_roundw
            case rel => exact ⟨k + 1, acc, by go_num, by omega, by omega, by repeat (first | exact hb | refine Below.alloc ?_ (by first | omega | (simp; done) | (simp; omega)) _ | refine Below.drew ?_), by repeat (first | exact hown | refine World.ownsRow.alloc ?_ _), hR2⟩
            case measure => simp [intOf]; omega
      · rcases hkx with hkx | hkx
        all_goals
          obtain ⟨m, y, hkid, hmk, hy, hql⟩ := hck.out k x 1 hx hcx
          have hml : m < l0.length := by omega
          obtain ⟨kb, koff, rfl, hkro⟩ := slc_some hkrow (by omega)
          have D0 := hkro.one int1_len hkid rfl
          obtain ⟨y', ka2, kc2, b2, off2, hy', hab, E0, -, -, -, -, -⟩ := hsl.at (Below.refl _ _) (Nat.le_refl _) hml
          obtain rfl : y = y' := by rw [hy] at hy'; exact Option.some.inj hy'
          obtain ⟨rfl, rfl⟩ : b = b2 ∧ off = off2 := by simpa using hab
          have hay := ass_yes hcx hkid hy
          have hqi : (1 : Int) < (x.kids.length : Int) := by omega
          have hmi : (m : Int) < (l0.length : Int) := by omega
          have d0 := fun o => keepc (hb.alloc hbs o) D0
          have e0 := fun o => keepc (hb.alloc hbs o) E0
          have hRy : Hid (y.kind = 15 → assignedAll l0 = (acc ++ [(k : Int)]) ++ assignedIn l0 (k + 1) (l0.drop (k + 1))) := hid (fun h => by rw [hrel.out, assignedIn, if_pos (by rw [hay, h]; rfl)]; simp)
          have hRn : Hid (¬ y.kind = 15 → assignedAll l0 = acc ++ assignedIn l0 (k + 1) (l0.drop (k + 1))) := hid (fun h => by rw [hrel.out, assignedIn, if_neg (by rw [hay]; simpa using h)])
          rw [hkx] at c0
          clear hrel hx hck hcx hkid hy hab hy' hay
          by_cases h15 : y.kind = 15
          · have hR2 := hid (hRy.out h15)
            simp only [h15] at e0
            clear hRy hRn
            go_wp2_with (at_builtin; refine wpList_append_own _ rfl _ _ 31 rfl w.heap.size 3 i0 _ 1 8 Tryz.underlying31 hi hz0 hz1 hz2 rfl (by decide) _ acc.length (acc.flatMap int1) rfl ((hown.alloc _).alloc _) _ _ _ (int1 (k : Int)) rfl rfl (new_cells_at _ _ _ _ _ rfl (by first | rfl | simp)) (by intro u hu; simp [int1] at hu; rcases hu with rfl | rfl | rfl | rfl | rfl <;> rfl) (by unfold maxLen; omega) (by omega) (by first | omega | (simp; done) | (simp; omega)) ?_; intro v2 w2 hown2 hgr2 hiff; clear hiff; have hb2 := app_below ((hb.alloc (by first | omega | (simp; done) | (simp; omega)) _).alloc (by first | omega | (simp; done) | (simp; omega)) _) ((hown.alloc _).alloc _) hgr2)
            all_goals go_roundw
            all_goals first
              | (simp [intOf]; omega)
              | exact ⟨k + 1, acc ++ [(k : Int)], by go_num, by omega, by simp; omega, hb2, by simpa using hown2, hR2⟩
          · have hR2 := hid (hRn.out h15)
            clear hRy hRn
            go_wp2
            go_roundw
            case rel => exact ⟨k + 1, acc, by go_num, by omega, by omega, by repeat (first | exact hb | refine Below.alloc ?_ (by first | omega | (simp; done) | (simp; omega)) _ | refine Below.drew ?_), by repeat (first | exact hown | refine World.ownsRow.alloc ?_ _), hR2⟩
            case measure => simp [intOf]; omega
      · have hR2 : Hid (assignedAll l0 = acc ++ assignedIn l0 (k + 1) (l0.drop (k + 1))) := hid (by rw [hrel.out, assignedIn, if_neg (by rw [ass_no hcx]; decide)])
        obtain ⟨n0, n1, n2, n3⟩ := hkx
        clear hrel hx hck hcx
        go_wp2
        go_roundw
        case rel => exact ⟨k + 1, acc, by go_num, by omega, by omega, by repeat (first | exact hb | refine Below.alloc ?_ (by first | omega | (simp; done) | (simp; omega)) _ | refine Below.drew ?_), by repeat (first | exact hown | refine World.ownsRow.alloc ?_ _), hR2⟩
        case measure => simp [intOf]; omega
    · have hR2 : Hid (assignedAll l0 = acc) := hid (by rw [hrel.out, List.drop_of_length_le (by omega), assignedIn, List.append_nil])
      clear hrel
      go_wp2
      go_ret
      exact ⟨_, rfl, hb, by rw [hR2.out]; exact hown⟩
  · have hok : treeOk l0 = false := by simpa using hok
    have hR : Hid (assignedAll l0 = []) := hid (by unfold assignedAll; rw [hok]; rfl)
    rw [hok] at hcall
    clear hok
    go_enter Tryz.func22, Tryz.ntmps22
    go_wp2_with fail
    have hown0 := own_new0 w 3 1
    refine (hcall.out _ (by repeat (first | exact Below.refl _ _ | refine Below.alloc ?_ (by first | omega | (simp; done) | (simp; omega)) _ | refine Below.drew ?_))).mono ?_; rintro e w1 ⟨rfl, hb1⟩
    have hB1 : Below w.heap.size w w1 := (by repeat (first | exact Below.refl _ _ | refine Below.alloc ?_ (by first | omega | (simp; done) | (simp; omega)) _ | refine Below.drew ?_) : Below w.heap.size w _).trans (hb1.mono (by simp))
    have hown1 := own_below hown0 hb1 (Nat.le_refl _)
    clear hb1 hown0 hcall
    go_wp2
    go_ret
    exact ⟨_, rfl, hB1, by rw [hR.out]; exact hown1⟩
end Go.Proofs.YtgmciglaapnahaaGreatDoor
/- Walks and lemmas of this seat (FAssigned2): what each theorem says of the functions that it names. Conditions: those that each theorem states. -/
namespace Go.Proofs.YtgmciglaapnahaaGreatDoor
set_option linter.unusedVariables false
set_option linter.unusedSimpArgs false
open Go.RowKit Go.Lib

set_option maxRecDepth 100000 in
set_option maxHeartbeats 3200000 in
theorem specAssignedIn_any (l0 : List Node) (v0 : Value) (w : World) (hx0 : ∀ x ∈ l0, x.Ok) (hn0 : bulk Node.sizes l0 ≤ 1048576) (hv0 : NodeSlc w v0 l0) :
    Calls Tryz.prog 94 #[v0] w fun e w' => ∃ v', e = .returned v' ∧ Below w.heap.size w w' ∧ w'.ownsRow w.heap.size 3 1 v' (assignedAll l0).length ((assignedAll l0).flatMap int1) := by
  have hv := hv0
  obtain ⟨a, cap, rfl, hm, hc, hsl⟩ := hv0.shape
  have hn := length_bulk Node.sizes l0
  obtain ⟨i0, hi, hz0, hz1, hz2⟩ := info_parts Tryz.info3
  have hcall := hid fun W (hb : Below w.heap.size w W) => specTreeOk_any l0 _ W hx0 hn0 (hv.mono hb (Nat.le_refl _))
  by_cases hok : treeOk l0 = true
  · have hR : Hid (assignedAll l0 = assignedIn l0 0 l0) := hid (by unfold assignedAll; rw [if_pos hok])
    have hck := hid (fun k x c (hx : l0[k]? = some x) (hc : condIx x.kind = ((c : Nat) : Int)) => cond_kid hok hx hc)
    rw [hok] at hcall
    clear hok
    go_enter Tryz.func94, Tryz.ntmps94
    go_wp2_with fail
    have hown0 := own_new0 w 3 1
    refine (hcall.out _ (by repeat (first | exact Below.refl _ _ | refine Below.alloc ?_ (by first | omega | (simp; done) | (simp; omega)) _ | refine Below.drew ?_))).mono ?_; rintro e w1 ⟨rfl, hb1⟩
    have hB1 : Below w.heap.size w w1 := (by repeat (first | exact Below.refl _ _ | refine Below.alloc ?_ (by first | omega | (simp; done) | (simp; omega)) _ | refine Below.drew ?_) : Below w.heap.size w _).trans (hb1.mono (by simp))
    have hown1 := own_below hown0 hb1 (Nat.le_refl _)
    clear hb1 hown0 hcall
    go_wp2
    go_loopw [3, 5] (fun v i wr => ∃ (k : Nat) (acc : List Int), i = .int .i64 k ∧ k ≤ l0.length ∧ acc.length ≤ k ∧ Below w.heap.size w wr ∧ wr.ownsRow w.heap.size 3 1 v acc.length (acc.flatMap int1) ∧ Hid (assignedAll l0 = acc ++ assignedIn l0 k (l0.drop k))) (fun _ i _ => l0.length - (intOf i).toNat)
    case atStart => exact ⟨0, [], rfl, by omega, by simp, hB1, hown1, hid (by rw [hR.out]; rfl)⟩
    clear hB1 hown1 hR
    obtain ⟨k, acc, rfl, hk, hacc, hb, hown, hrel⟩ := hrel
    have hbs := hb.size
    by_cases hlt : k < l0.length
    · obtain ⟨x, ka, kc, b, off, hx, rfl, C0, C1, C2, C3, C4, hkd⟩ := hsl.at (Below.refl _ _) (Nat.le_refl _) hlt
      have c0 := keepc hb C0
      have c1 := keepc hb C1
      have c2 := keepc hb C2
      have c3 := keepc hb C3
      have c4 := keepc hb C4
      obtain ⟨_, _, _, hkv, hkc, hkm, hkrow⟩ := hkd
      simp at hkv
      obtain ⟨rfl, rfl⟩ := hkv
      unfold maxLen at hkm
      rw [drop_cons hx] at hrel
      have hcases := cond_cases x.kind
      rcases hcases with ⟨hkx, hcx⟩ | ⟨hkx, hcx⟩ | ⟨hkx, hcx⟩
      · obtain ⟨m, y, hkid, hmk, hy, hql⟩ := hck.out k x 0 hx hcx
        have hml : m < l0.length := by omega
        obtain ⟨kb, koff, rfl, hkro⟩ := slc_some hkrow (by omega)
        have D0 := hkro.one int1_len hkid rfl
        rw [Nat.add_zero] at D0
        obtain ⟨y', ka2, kc2, b2, off2, hy', hab, E0, -, -, -, -, -⟩ := hsl.at (Below.refl _ _) (Nat.le_refl _) hml
        obtain rfl : y = y' := by rw [hy] at hy'; exact Option.some.inj hy'
        obtain ⟨rfl, rfl⟩ : b = b2 ∧ off = off2 := by simpa using hab
        have hay := ass_yes hcx hkid hy
        have hqi : (0 : Int) < (x.kids.length : Int) := by omega
        have hmi : (m : Int) < (l0.length : Int) := by omega
        have hcall := specl25Cond_any x.kind x.op x.text x.other (.slice (some ⟨kb, koff, none⟩) x.kids.length kc) wr
        rw [hcx] at hcall
        have hRy : Hid (y.kind = 15 → assignedAll l0 = (acc ++ [(k : Int)]) ++ assignedIn l0 (k + 1) (l0.drop (k + 1))) := hid (fun h => by rw [hrel.out, assignedIn, if_pos (by rw [hay, h]; rfl)]; simp)
        have hRn : Hid (¬ y.kind = 15 → assignedAll l0 = acc ++ assignedIn l0 (k + 1) (l0.drop (k + 1))) := hid (fun h => by rw [hrel.out, assignedIn, if_neg (by rw [hay]; simpa using h)])
        clear hrel hx hck hcx hkid hy hab hy' hay
        go_wp2_with fail
        refine hcall.mono ?_; rintro e w2 ⟨rfl, hb2⟩
        have hb3 := hb.trans (hb2.mono hb.size)
        have hown3 := own_below hown hb2 (Nat.le_refl _)
        clear hb2 hcall c0 c1 c2 c3 c4 hb hown
        have hb := hb3
        have hown := hown3
        clear hb3 hown3
        have hbs := hb.size
        have c4 := keepc hb C4
        have d0 := keepc hb D0
        have e0 := keepc hb E0
        by_cases h15 : y.kind = 15
        · have hR2 := hid (hRy.out h15)
          simp only [h15] at e0
          clear hRy hRn
          go_wp2_with (at_builtin; refine wpList_append_own _ rfl _ _ 31 rfl w.heap.size 3 i0 _ 1 8 Tryz.underlying31 hi hz0 hz1 hz2 rfl (by decide) _ acc.length (acc.flatMap int1) rfl (hown.alloc _) _ _ _ (int1 (k : Int)) rfl rfl (new_cells_at _ _ _ _ _ rfl (by first | rfl | simp)) (by intro u hu; simp [int1] at hu; rcases hu with rfl | rfl | rfl | rfl | rfl <;> rfl) (by unfold maxLen; omega) (by omega) (by first | omega | (simp; done) | (simp; omega)) ?_; intro v2 w2 hown2 hgr2 hiff; clear hiff; have hb2 := app_below (hb.alloc (by first | omega | (simp; done) | (simp; omega)) _) (hown.alloc _) hgr2)
          all_goals go_roundw
          all_goals first
            | (simp [intOf]; omega)
            | exact ⟨k + 1, acc ++ [(k : Int)], by go_num, by omega, by simp; omega, hb2, by simpa using hown2, hR2⟩
        · have hR2 := hid (hRn.out h15)
          clear hRy hRn
          go_wp2
          go_roundw
          case rel => exact ⟨k + 1, acc, by go_num, by omega, by omega, by repeat (first | exact hb | refine Below.alloc ?_ (by first | omega | (simp; done) | (simp; omega)) _ | refine Below.drew ?_), by repeat (first | exact hown | refine World.ownsRow.alloc ?_ _), hR2⟩
          case measure => simp [intOf]; omega
      · obtain ⟨m, y, hkid, hmk, hy, hql⟩ := hck.out k x 1 hx hcx
        have hml : m < l0.length := by omega
        obtain ⟨kb, koff, rfl, hkro⟩ := slc_some hkrow (by omega)
        have D0 := hkro.one int1_len hkid rfl
        obtain ⟨y', ka2, kc2, b2, off2, hy', hab, E0, -, -, -, -, -⟩ := hsl.at (Below.refl _ _) (Nat.le_refl _) hml
        obtain rfl : y = y' := by rw [hy] at hy'; exact Option.some.inj hy'
        obtain ⟨rfl, rfl⟩ : b = b2 ∧ off = off2 := by simpa using hab
        have hay := ass_yes hcx hkid hy
        have hqi : (1 : Int) < (x.kids.length : Int) := by omega
        have hmi : (m : Int) < (l0.length : Int) := by omega
        have hcall := specl25Cond_any x.kind x.op x.text x.other (.slice (some ⟨kb, koff, none⟩) x.kids.length kc) wr
        rw [hcx] at hcall
        have hRy : Hid (y.kind = 15 → assignedAll l0 = (acc ++ [(k : Int)]) ++ assignedIn l0 (k + 1) (l0.drop (k + 1))) := hid (fun h => by rw [hrel.out, assignedIn, if_pos (by rw [hay, h]; rfl)]; simp)
        have hRn : Hid (¬ y.kind = 15 → assignedAll l0 = acc ++ assignedIn l0 (k + 1) (l0.drop (k + 1))) := hid (fun h => by rw [hrel.out, assignedIn, if_neg (by rw [hay]; simpa using h)])
        clear hrel hx hck hcx hkid hy hab hy' hay
        go_wp2_with fail
        refine hcall.mono ?_; rintro e w2 ⟨rfl, hb2⟩
        have hb3 := hb.trans (hb2.mono hb.size)
        have hown3 := own_below hown hb2 (Nat.le_refl _)
        clear hb2 hcall c0 c1 c2 c3 c4 hb hown
        have hb := hb3
        have hown := hown3
        clear hb3 hown3
        have hbs := hb.size
        have c4 := keepc hb C4
        have d0 := keepc hb D0
        have e0 := keepc hb E0
        by_cases h15 : y.kind = 15
        · have hR2 := hid (hRy.out h15)
          simp only [h15] at e0
          clear hRy hRn
          go_wp2_with (at_builtin; refine wpList_append_own _ rfl _ _ 31 rfl w.heap.size 3 i0 _ 1 8 Tryz.underlying31 hi hz0 hz1 hz2 rfl (by decide) _ acc.length (acc.flatMap int1) rfl (hown.alloc _) _ _ _ (int1 (k : Int)) rfl rfl (new_cells_at _ _ _ _ _ rfl (by first | rfl | simp)) (by intro u hu; simp [int1] at hu; rcases hu with rfl | rfl | rfl | rfl | rfl <;> rfl) (by unfold maxLen; omega) (by omega) (by first | omega | (simp; done) | (simp; omega)) ?_; intro v2 w2 hown2 hgr2 hiff; clear hiff; have hb2 := app_below (hb.alloc (by first | omega | (simp; done) | (simp; omega)) _) (hown.alloc _) hgr2)
          all_goals go_roundw
          all_goals first
            | (simp [intOf]; omega)
            | exact ⟨k + 1, acc ++ [(k : Int)], by go_num, by omega, by simp; omega, hb2, by simpa using hown2, hR2⟩
        · have hR2 := hid (hRn.out h15)
          clear hRy hRn
          go_wp2
          go_roundw
          case rel => exact ⟨k + 1, acc, by go_num, by omega, by omega, by repeat (first | exact hb | refine Below.alloc ?_ (by first | omega | (simp; done) | (simp; omega)) _ | refine Below.drew ?_), by repeat (first | exact hown | refine World.ownsRow.alloc ?_ _), hR2⟩
          case measure => simp [intOf]; omega
      · have hR2 : Hid (assignedAll l0 = acc ++ assignedIn l0 (k + 1) (l0.drop (k + 1))) := hid (by rw [hrel.out, assignedIn, if_neg (by rw [ass_no hcx]; decide)])
        have hcall := specl25Cond_any x.kind x.op x.text x.other (.slice ka x.kids.length kc) wr
        rw [hcx] at hcall
        clear hrel hx hck
        go_wp2_with fail
        refine hcall.mono ?_; rintro e w2 ⟨rfl, hb2⟩
        have hb3 := hb.trans (hb2.mono hb.size)
        have hown3 := own_below hown hb2 (Nat.le_refl _)
        clear hb2 hcall c0 c1 c2 c3 c4
        go_wp2
        go_roundw
        case rel => exact ⟨k + 1, acc, by go_num, by omega, by omega, hb3, hown3, hR2⟩
        case measure => simp [intOf]; omega
    · have hR2 : Hid (assignedAll l0 = acc) := hid (by rw [hrel.out, List.drop_of_length_le (by omega), assignedIn, List.append_nil])
      clear hrel
      go_wp2
      go_ret
      exact ⟨_, rfl, hb, by rw [hR2.out]; exact hown⟩
  · have hok : treeOk l0 = false := by simpa using hok
    have hR : Hid (assignedAll l0 = []) := hid (by unfold assignedAll; rw [hok]; rfl)
    rw [hok] at hcall
    clear hok
    go_enter Tryz.func94, Tryz.ntmps94
    go_wp2_with fail
    have hown0 := own_new0 w 3 1
    refine (hcall.out _ (by repeat (first | exact Below.refl _ _ | refine Below.alloc ?_ (by first | omega | (simp; done) | (simp; omega)) _ | refine Below.drew ?_))).mono ?_; rintro e w1 ⟨rfl, hb1⟩
    have hB1 : Below w.heap.size w w1 := (by repeat (first | exact Below.refl _ _ | refine Below.alloc ?_ (by first | omega | (simp; done) | (simp; omega)) _ | refine Below.drew ?_) : Below w.heap.size w _).trans (hb1.mono (by simp))
    have hown1 := own_below hown0 hb1 (Nat.le_refl _)
    clear hb1 hown0 hcall
    go_wp2
    go_loopw [3, 5] (fun v i wr => i = .int .i64 0 ∧ v = .slice (some ⟨w.heap.size, 0, none⟩) 0 0 ∧ wr = w1) (fun _ _ _ => 0)
    case atStart => exact ⟨rfl, rfl, rfl⟩
    obtain ⟨rfl, rfl, rfl⟩ := hrel
    go_wp2
    all_goals go_ret
    all_goals exact ⟨_, rfl, hB1, by rw [hR.out]; exact hown1⟩
end Go.Proofs.YtgmciglaapnahaaGreatDoor
