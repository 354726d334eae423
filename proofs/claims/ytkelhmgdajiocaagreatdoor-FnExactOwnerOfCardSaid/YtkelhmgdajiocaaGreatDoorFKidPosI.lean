/- Walks and lemmas of this seat (FKidPosI): what each theorem says of the functions that it names. Conditions: those that each theorem states. -/
import Derived.Test.YtkelhmgdajiocaaGreatDoorGSF
import Derived.Test.YtkelhmgdajiocaaGreatDoorGA
import Derived.Deep.RegionHeld3
import Derived.Deep.CutRange
namespace Go.Proofs.YtkelhmgdajiocaaGreatDoor
set_option linter.unusedVariables false
set_option linter.unusedSimpArgs false
open Go.RowKit

theorem alloc6 (w : World) (o1 o2 o3 o4 o5 o6 : Obj) : ((((((w.alloc o1).alloc o2).alloc o3).alloc o4).alloc o5).alloc o6).heap[w.heap.size]? = some o1 ∧ ((((((w.alloc o1).alloc o2).alloc o3).alloc o4).alloc o5).alloc o6).heap[w.heap.size + 1]? = some o2 ∧ ((((((w.alloc o1).alloc o2).alloc o3).alloc o4).alloc o5).alloc o6).heap[w.heap.size + 1 + 1]? = some o3 := by
  have h1 := heap_alloc_new w o1
  have h2 := heap_alloc_new (w.alloc o1) o2
  have h3 := heap_alloc_new ((w.alloc o1).alloc o2) o3
  simp only [World.size_alloc] at h2 h3
  have hb : ∀ W : World, ∀ b, b < W.heap.size → ∀ o, (W.alloc o).heap[b]? = W.heap[b]? := fun W b hb o => Below.heap_alloc W o b hb
  refine ⟨?_, ?_, ?_⟩
  · rw [hb _ _ (by simp <;> omega), hb _ _ (by simp <;> omega), hb _ _ (by simp <;> omega), hb _ _ (by simp <;> omega), hb _ _ (by simp), h1]
  · rw [hb _ _ (by simp <;> omega), hb _ _ (by simp <;> omega), hb _ _ (by simp <;> omega), hb _ _ (by simp), h2]
  · rw [hb _ _ (by simp <;> omega), hb _ _ (by simp <;> omega), hb _ _ (by simp), h3]
theorem boxb {w w' : World} {b : Nat} {o : Obj} (h : w.heap[b]? = some o) (hb : Below w.heap.size w w') : w'.heap[b]? = some o := (hb.block b (heap_lt h)).trans h
theorem belowA1 (w : World) (o : Obj) : Below w.heap.size w (w.alloc o).drew := ((Below.refl _ _).alloc (Nat.le_refl _) o).drew
theorem belowA2 (w : World) (o q : Obj) : Below w.heap.size w ((w.alloc o).alloc q).drew := (((Below.refl _ _).alloc (Nat.le_refl _) o).alloc (by simp) q).drew
theorem belowB1 (w : World) (o : Obj) : Below w.heap.size w (w.alloc o).drew.drew := ((Below.refl _ _).alloc (Nat.le_refl _) o).drew.drew
theorem belowB2 (w : World) (o q : Obj) : Below w.heap.size w ((w.alloc o).alloc q).drew.drew := (((Below.refl _ _).alloc (Nat.le_refl _) o).alloc (by simp) q).drew.drew
theorem at_last (w : World) (o : Obj) : (w.alloc o).heap[w.heap.size]? = some o := heap_alloc_new w o
theorem at_first (w : World) (o q : Obj) : ((w.alloc o).alloc q).heap[w.heap.size]? = some o := (Below.heap_alloc (w.alloc o) q _ (by simp)).trans (heap_alloc_new w o)
theorem at_second (w : World) (o q : Obj) : ((w.alloc o).alloc q).heap[w.heap.size + 1]? = some q := by
  have := heap_alloc_new (w.alloc o) q
  simpa using this
theorem belowX {w w' : World} {o : Obj} (h : w' = w.alloc o) : Below w.heap.size w w' := by rw [h]; exact (Below.refl _ _).alloc (Nat.le_refl _) _

set_option maxRecDepth 100000 in
set_option maxHeartbeats 1600000 in
theorem implbinLevel_any (o : Int) (j : Nat) (w : World) : Calls Tryz.prog 189 #[.int .i64 o, .int .i64 (j : Nat)] w fun e w' => e = .returned (.int .i64 (if (j : Int) = 0 then sideA o else sideB o)) ∧ w' = w := by
  have h := hid (fun W => implOpLevel_any o W)
  have e1 : sideA o = if opLevelB o = 3 then 3 else if opLevelB o = 4 then 4 else if opLevelB o = 6 then 7 else if opLevelB o = 7 then 8 else if opLevelB o = 8 then 8 else if opLevelB o = 9 then 9 else if opLevelB o = 10 then 10 else 13 := rfl
  have e2 : sideB o = if opLevelB o = 3 then 4 else if opLevelB o = 4 then 5 else if opLevelB o = 6 then 7 else if opLevelB o = 7 then 8 else if opLevelB o = 8 then 9 else if opLevelB o = 9 then 10 else if opLevelB o = 10 then 11 else 11 := rfl
  generalize opLevelB o = lo at *
  generalize sideA o = sa at *
  generalize sideB o = sb at *
  replace e1 := hid e1
  replace e2 := hid e2
  go_enter Tryz.func189, Tryz.ntmps189
  go_wp2_with (go_at_call 121; refine (h.out _).mono ?_; rintro e w' ⟨rfl, hw'⟩; subst w')
  all_goals go_ret
  all_goals exact ⟨ret_int (by simp only [e1.out, e2.out]; simp_all), rfl⟩
set_option maxRecDepth 100000 in
set_option maxHeartbeats 1600000 in
theorem implkidLevel_any (k o : Int) (a b : ByteArray) (ka : Option Addr) (kn kc : Nat) (j : Nat) (w : World) : Calls Tryz.prog 181 #[.agg #[.int .i64 k, .int .i64 o, .string a, .string b, .slice ka kn kc], .int .i64 (j : Nat)] w fun e w' => e = .returned (.int .i64 (kidLevB k o (j : Nat))) ∧ w' = w.alloc (.cells #[.int .i64 k, .int .i64 o, .string a, .string b, .slice ka kn kc] 58) := by
  have h := hid (fun W => implbinLevel_any o j W)
  have e : kidLevB k o (j : Nat) = if k = 15 then (if 0 < (j : Int) then 1 else 14) else if k = 14 then (if 0 < (j : Int) then 2 else 3) else if k = 13 then 5 else if k = 11 then 11 else if k = 12 then (if (j : Int) = 0 then sideA o else sideB o) else 14 := rfl
  generalize (if (j : Int) = 0 then sideA o else sideB o) = sd at *
  generalize kidLevB k o (j : Nat) = ans at *
  replace e := hid e
  go_enter Tryz.func181, Tryz.ntmps181
  go_wp2_with (go_at_call 189; refine (h.out _).mono ?_; rintro e1 w1 ⟨rfl, hw1⟩; subst hw1)
  all_goals go_ret
  all_goals exact ⟨ret_int (by rw [e.out]; simp_all), rfl⟩
set_option maxRecDepth 100000 in
set_option maxHeartbeats 6400000 in
theorem implKidPos_1 (o : Int) (a b : ByteArray) (ka : Option Addr) (kn kc : Nat) (j : Nat) (p : Pos) (w : World) (hp : posOkB p = true) (hj : j < kn) (hn : kn ≤ 1000000) : Calls Tryz.prog 166 #[.agg #[.int .i64 1, .int .i64 o, .string a, .string b, .slice ka kn kc], .int .i64 (j : Nat), .agg #[.int .i64 p.level, .bool p.dollar, .bool p.noIn, .bool p.noGt, .bool p.noSign]] w fun e w' => e = .returned (kidPosB 1 o kn j p).val ∧ Below w.heap.size w w' := by
  have hl0 : levelB 1 o ≠ 0 := by simp [levelB]
  have e := kidPos_eq (k := 1) (o := o) (n := (kn : Int)) (j := (j : Int)) hp (by omega) hl0
  have hL := hid (fun W => implLevelOf_any 1 o a b ka kn kc W)
  have hP := hid (fun W => implPosOk_any p W)
  have hW := hid (fun W => implwithin_any (j : Int) 0 ((kn : Int) - 1) W)
  have hT := hid (fun W => implTop_x W)
  rw [hp] at hP
  rw [show inB (j : Int) 0 ((kn : Int) - 1) = true from by unfold inB; simp; omega] at hW
  rw [show levelB 1 o = 15 from rfl] at hL e
  obtain ⟨zv, hzv⟩ : ∃ zv, zv = (kidPosB 1 o kn j p).val := ⟨_, rfl⟩
  rw [← hzv]
  rw [e] at hzv
  clear e hl0
  rw [if_pos (.inl rfl)] at hzv
  obtain ⟨lv0, d, x, y, z⟩ := p
  simp only at hP hzv ⊢
  replace hzv := hid hzv
  go_enter Tryz.func166, Tryz.ntmps166
  go_wp2_with (first
    | (go_at_call 69; refine (hP.out _).mono ?_; rintro e2 w2 ⟨rfl, hw2⟩; subst hw2)
    | (go_at_call 45; refine (hW.out _).mono ?_; rintro e2 w2 ⟨rfl, hw2⟩; subst hw2)
    | (go_at_call 90; refine (hL.out _).mono ?_; rintro e2 w2 ⟨rfl, hw2⟩; subst hw2)
    | (go_at_call 36; refine (hT.out _).mono ?_; rintro e2 w2 ⟨rfl, hw2⟩; subst hw2))
  exact bodyPost_ret (v := zv) (by rw [hzv.out]; simp [results, Tryz.results166, go_sem, posTop, Pos.val]) rfl ⟨rfl, by repeat (first | exact Below.refl _ _ | refine Below.alloc ?_ (by first | omega | (simp; done) | (simp; omega)) _ | refine Below.drew ?_)⟩
set_option maxRecDepth 100000 in
set_option maxHeartbeats 6400000 in
theorem implKidPos_2 (o : Int) (a b : ByteArray) (ka : Option Addr) (kn kc : Nat) (j : Nat) (p : Pos) (w : World) (hp : posOkB p = true) (hj : j < kn) (hn : kn ≤ 1000000) : Calls Tryz.prog 166 #[.agg #[.int .i64 2, .int .i64 o, .string a, .string b, .slice ka kn kc], .int .i64 (j : Nat), .agg #[.int .i64 p.level, .bool p.dollar, .bool p.noIn, .bool p.noGt, .bool p.noSign]] w fun e w' => e = .returned (kidPosB 2 o kn j p).val ∧ Below w.heap.size w w' := by
  have hl0 : levelB 2 o ≠ 0 := by simp [levelB]
  have e := kidPos_eq (k := 2) (o := o) (n := (kn : Int)) (j := (j : Int)) hp (by omega) hl0
  have hL := hid (fun W => implLevelOf_any 2 o a b ka kn kc W)
  have hP := hid (fun W => implPosOk_any p W)
  have hW := hid (fun W => implwithin_any (j : Int) 0 ((kn : Int) - 1) W)
  have hT := hid (fun W => implTop_x W)
  rw [hp] at hP
  rw [show inB (j : Int) 0 ((kn : Int) - 1) = true from by unfold inB; simp; omega] at hW
  rw [show levelB 2 o = 15 from rfl] at hL e
  obtain ⟨zv, hzv⟩ : ∃ zv, zv = (kidPosB 2 o kn j p).val := ⟨_, rfl⟩
  rw [← hzv]
  rw [e] at hzv
  clear e hl0
  rw [if_pos (.inl rfl)] at hzv
  obtain ⟨lv0, d, x, y, z⟩ := p
  simp only at hP hzv ⊢
  replace hzv := hid hzv
  go_enter Tryz.func166, Tryz.ntmps166
  go_wp2_with (first
    | (go_at_call 69; refine (hP.out _).mono ?_; rintro e2 w2 ⟨rfl, hw2⟩; subst hw2)
    | (go_at_call 45; refine (hW.out _).mono ?_; rintro e2 w2 ⟨rfl, hw2⟩; subst hw2)
    | (go_at_call 90; refine (hL.out _).mono ?_; rintro e2 w2 ⟨rfl, hw2⟩; subst hw2)
    | (go_at_call 36; refine (hT.out _).mono ?_; rintro e2 w2 ⟨rfl, hw2⟩; subst hw2))
  exact bodyPost_ret (v := zv) (by rw [hzv.out]; simp [results, Tryz.results166, go_sem, posTop, Pos.val]) rfl ⟨rfl, by repeat (first | exact Below.refl _ _ | refine Below.alloc ?_ (by first | omega | (simp; done) | (simp; omega)) _ | refine Below.drew ?_)⟩
set_option maxRecDepth 100000 in
set_option maxHeartbeats 6400000 in
theorem implKidPos_3 (o : Int) (a b : ByteArray) (ka : Option Addr) (kn kc : Nat) (j : Nat) (p : Pos) (w : World) (hp : posOkB p = true) (hj : j < kn) (hn : kn ≤ 1000000) : Calls Tryz.prog 166 #[.agg #[.int .i64 3, .int .i64 o, .string a, .string b, .slice ka kn kc], .int .i64 (j : Nat), .agg #[.int .i64 p.level, .bool p.dollar, .bool p.noIn, .bool p.noGt, .bool p.noSign]] w fun e w' => e = .returned (kidPosB 3 o kn j p).val ∧ Below w.heap.size w w' := by
  have hl0 : levelB 3 o ≠ 0 := by simp [levelB]
  have e := kidPos_eq (k := 3) (o := o) (n := (kn : Int)) (j := (j : Int)) hp (by omega) hl0
  have hL := hid (fun W => implLevelOf_any 3 o a b ka kn kc W)
  have hP := hid (fun W => implPosOk_any p W)
  have hW := hid (fun W => implwithin_any (j : Int) 0 ((kn : Int) - 1) W)
  have hT := hid (fun W => implTop_x W)
  rw [hp] at hP
  rw [show inB (j : Int) 0 ((kn : Int) - 1) = true from by unfold inB; simp; omega] at hW
  rw [show levelB 3 o = 15 from rfl] at hL e
  obtain ⟨zv, hzv⟩ : ∃ zv, zv = (kidPosB 3 o kn j p).val := ⟨_, rfl⟩
  rw [← hzv]
  rw [e] at hzv
  clear e hl0
  rw [if_pos (.inl rfl)] at hzv
  obtain ⟨lv0, d, x, y, z⟩ := p
  simp only at hP hzv ⊢
  replace hzv := hid hzv
  go_enter Tryz.func166, Tryz.ntmps166
  go_wp2_with (first
    | (go_at_call 69; refine (hP.out _).mono ?_; rintro e2 w2 ⟨rfl, hw2⟩; subst hw2)
    | (go_at_call 45; refine (hW.out _).mono ?_; rintro e2 w2 ⟨rfl, hw2⟩; subst hw2)
    | (go_at_call 90; refine (hL.out _).mono ?_; rintro e2 w2 ⟨rfl, hw2⟩; subst hw2)
    | (go_at_call 36; refine (hT.out _).mono ?_; rintro e2 w2 ⟨rfl, hw2⟩; subst hw2))
  exact bodyPost_ret (v := zv) (by rw [hzv.out]; simp [results, Tryz.results166, go_sem, posTop, Pos.val]) rfl ⟨rfl, by repeat (first | exact Below.refl _ _ | refine Below.alloc ?_ (by first | omega | (simp; done) | (simp; omega)) _ | refine Below.drew ?_)⟩
set_option maxRecDepth 100000 in
set_option maxHeartbeats 6400000 in
theorem implKidPos_4 (o : Int) (a b : ByteArray) (ka : Option Addr) (kn kc : Nat) (j : Nat) (p : Pos) (w : World) (hp : posOkB p = true) (hj : j < kn) (hn : kn ≤ 1000000) : Calls Tryz.prog 166 #[.agg #[.int .i64 4, .int .i64 o, .string a, .string b, .slice ka kn kc], .int .i64 (j : Nat), .agg #[.int .i64 p.level, .bool p.dollar, .bool p.noIn, .bool p.noGt, .bool p.noSign]] w fun e w' => e = .returned (kidPosB 4 o kn j p).val ∧ Below w.heap.size w w' := by
  have hl0 : levelB 4 o ≠ 0 := by simp [levelB]
  have e := kidPos_eq (k := 4) (o := o) (n := (kn : Int)) (j := (j : Int)) hp (by omega) hl0
  have hL := hid (fun W => implLevelOf_any 4 o a b ka kn kc W)
  have hP := hid (fun W => implPosOk_any p W)
  have hW := hid (fun W => implwithin_any (j : Int) 0 ((kn : Int) - 1) W)
  have hT := hid (fun W => implTop_x W)
  rw [hp] at hP
  rw [show inB (j : Int) 0 ((kn : Int) - 1) = true from by unfold inB; simp; omega] at hW
  rw [show levelB 4 o = 15 from rfl] at hL e
  obtain ⟨zv, hzv⟩ : ∃ zv, zv = (kidPosB 4 o kn j p).val := ⟨_, rfl⟩
  rw [← hzv]
  rw [e] at hzv
  clear e hl0
  rw [if_pos (.inl rfl)] at hzv
  obtain ⟨lv0, d, x, y, z⟩ := p
  simp only at hP hzv ⊢
  replace hzv := hid hzv
  go_enter Tryz.func166, Tryz.ntmps166
  go_wp2_with (first
    | (go_at_call 69; refine (hP.out _).mono ?_; rintro e2 w2 ⟨rfl, hw2⟩; subst hw2)
    | (go_at_call 45; refine (hW.out _).mono ?_; rintro e2 w2 ⟨rfl, hw2⟩; subst hw2)
    | (go_at_call 90; refine (hL.out _).mono ?_; rintro e2 w2 ⟨rfl, hw2⟩; subst hw2)
    | (go_at_call 36; refine (hT.out _).mono ?_; rintro e2 w2 ⟨rfl, hw2⟩; subst hw2))
  exact bodyPost_ret (v := zv) (by rw [hzv.out]; simp [results, Tryz.results166, go_sem, posTop, Pos.val]) rfl ⟨rfl, by repeat (first | exact Below.refl _ _ | refine Below.alloc ?_ (by first | omega | (simp; done) | (simp; omega)) _ | refine Below.drew ?_)⟩
set_option maxRecDepth 100000 in
set_option maxHeartbeats 6400000 in
theorem implKidPos_5 (o : Int) (a b : ByteArray) (ka : Option Addr) (kn kc : Nat) (j : Nat) (p : Pos) (w : World) (hp : posOkB p = true) (hj : j < kn) (hn : kn ≤ 1000000) : Calls Tryz.prog 166 #[.agg #[.int .i64 5, .int .i64 o, .string a, .string b, .slice ka kn kc], .int .i64 (j : Nat), .agg #[.int .i64 p.level, .bool p.dollar, .bool p.noIn, .bool p.noGt, .bool p.noSign]] w fun e w' => e = .returned (kidPosB 5 o kn j p).val ∧ Below w.heap.size w w' := by
  have hl0 : levelB 5 o ≠ 0 := by simp [levelB]
  have e := kidPos_eq (k := 5) (o := o) (n := (kn : Int)) (j := (j : Int)) hp (by omega) hl0
  have hL := hid (fun W => implLevelOf_any 5 o a b ka kn kc W)
  have hP := hid (fun W => implPosOk_any p W)
  have hW := hid (fun W => implwithin_any (j : Int) 0 ((kn : Int) - 1) W)
  have hT := hid (fun W => implTop_x W)
  rw [hp] at hP
  rw [show inB (j : Int) 0 ((kn : Int) - 1) = true from by unfold inB; simp; omega] at hW
  rw [show levelB 5 o = 15 from rfl] at hL e
  obtain ⟨zv, hzv⟩ : ∃ zv, zv = (kidPosB 5 o kn j p).val := ⟨_, rfl⟩
  rw [← hzv]
  rw [e] at hzv
  clear e hl0
  rw [if_pos (.inl rfl)] at hzv
  obtain ⟨lv0, d, x, y, z⟩ := p
  simp only at hP hzv ⊢
  replace hzv := hid hzv
  go_enter Tryz.func166, Tryz.ntmps166
  go_wp2_with (first
    | (go_at_call 69; refine (hP.out _).mono ?_; rintro e2 w2 ⟨rfl, hw2⟩; subst hw2)
    | (go_at_call 45; refine (hW.out _).mono ?_; rintro e2 w2 ⟨rfl, hw2⟩; subst hw2)
    | (go_at_call 90; refine (hL.out _).mono ?_; rintro e2 w2 ⟨rfl, hw2⟩; subst hw2)
    | (go_at_call 36; refine (hT.out _).mono ?_; rintro e2 w2 ⟨rfl, hw2⟩; subst hw2))
  exact bodyPost_ret (v := zv) (by rw [hzv.out]; simp [results, Tryz.results166, go_sem, posTop, Pos.val]) rfl ⟨rfl, by repeat (first | exact Below.refl _ _ | refine Below.alloc ?_ (by first | omega | (simp; done) | (simp; omega)) _ | refine Below.drew ?_)⟩
set_option maxRecDepth 100000 in
set_option maxHeartbeats 6400000 in
theorem implKidPos_7 (o : Int) (a b : ByteArray) (ka : Option Addr) (kn kc : Nat) (j : Nat) (p : Pos) (w : World) (hp : posOkB p = true) (hj : j < kn) (hn : kn ≤ 1000000) : Calls Tryz.prog 166 #[.agg #[.int .i64 7, .int .i64 o, .string a, .string b, .slice ka kn kc], .int .i64 (j : Nat), .agg #[.int .i64 p.level, .bool p.dollar, .bool p.noIn, .bool p.noGt, .bool p.noSign]] w fun e w' => e = .returned (kidPosB 7 o kn j p).val ∧ Below w.heap.size w w' := by
  have hl0 : levelB 7 o ≠ 0 := by simp [levelB]
  have e := kidPos_eq (k := 7) (o := o) (n := (kn : Int)) (j := (j : Int)) hp (by omega) hl0
  have hL := hid (fun W => implLevelOf_any 7 o a b ka kn kc W)
  have hP := hid (fun W => implPosOk_any p W)
  have hW := hid (fun W => implwithin_any (j : Int) 0 ((kn : Int) - 1) W)
  have hT := hid (fun W => implTop_x W)
  rw [hp] at hP
  rw [show inB (j : Int) 0 ((kn : Int) - 1) = true from by unfold inB; simp; omega] at hW
  rw [show levelB 7 o = 15 from rfl] at hL e
  obtain ⟨zv, hzv⟩ : ∃ zv, zv = (kidPosB 7 o kn j p).val := ⟨_, rfl⟩
  rw [← hzv]
  rw [e] at hzv
  clear e hl0
  rw [if_pos (.inl rfl)] at hzv
  obtain ⟨lv0, d, x, y, z⟩ := p
  simp only at hP hzv ⊢
  replace hzv := hid hzv
  go_enter Tryz.func166, Tryz.ntmps166
  go_wp2_with (first
    | (go_at_call 69; refine (hP.out _).mono ?_; rintro e2 w2 ⟨rfl, hw2⟩; subst hw2)
    | (go_at_call 45; refine (hW.out _).mono ?_; rintro e2 w2 ⟨rfl, hw2⟩; subst hw2)
    | (go_at_call 90; refine (hL.out _).mono ?_; rintro e2 w2 ⟨rfl, hw2⟩; subst hw2)
    | (go_at_call 36; refine (hT.out _).mono ?_; rintro e2 w2 ⟨rfl, hw2⟩; subst hw2))
  exact bodyPost_ret (v := zv) (by rw [hzv.out]; simp [results, Tryz.results166, go_sem, posTop, Pos.val]) rfl ⟨rfl, by repeat (first | exact Below.refl _ _ | refine Below.alloc ?_ (by first | omega | (simp; done) | (simp; omega)) _ | refine Below.drew ?_)⟩
set_option maxRecDepth 100000 in
set_option maxHeartbeats 6400000 in
theorem implKidPos_8 (o : Int) (a b : ByteArray) (ka : Option Addr) (kn kc : Nat) (j : Nat) (p : Pos) (w : World) (hp : posOkB p = true) (hj : j < kn) (hn : kn ≤ 1000000) : Calls Tryz.prog 166 #[.agg #[.int .i64 8, .int .i64 o, .string a, .string b, .slice ka kn kc], .int .i64 (j : Nat), .agg #[.int .i64 p.level, .bool p.dollar, .bool p.noIn, .bool p.noGt, .bool p.noSign]] w fun e w' => e = .returned (kidPosB 8 o kn j p).val ∧ Below w.heap.size w w' := by
  have hl0 : levelB 8 o ≠ 0 := by simp [levelB]
  have e := kidPos_eq (k := 8) (o := o) (n := (kn : Int)) (j := (j : Int)) hp (by omega) hl0
  have hL := hid (fun W => implLevelOf_any 8 o a b ka kn kc W)
  have hP := hid (fun W => implPosOk_any p W)
  have hW := hid (fun W => implwithin_any (j : Int) 0 ((kn : Int) - 1) W)
  have hT := hid (fun W => implTop_x W)
  rw [hp] at hP
  rw [show inB (j : Int) 0 ((kn : Int) - 1) = true from by unfold inB; simp; omega] at hW
  rw [show levelB 8 o = 15 from rfl] at hL e
  obtain ⟨zv, hzv⟩ : ∃ zv, zv = (kidPosB 8 o kn j p).val := ⟨_, rfl⟩
  rw [← hzv]
  rw [e] at hzv
  clear e hl0
  rw [if_pos (.inl rfl)] at hzv
  obtain ⟨lv0, d, x, y, z⟩ := p
  simp only at hP hzv ⊢
  replace hzv := hid hzv
  go_enter Tryz.func166, Tryz.ntmps166
  go_wp2_with (first
    | (go_at_call 69; refine (hP.out _).mono ?_; rintro e2 w2 ⟨rfl, hw2⟩; subst hw2)
    | (go_at_call 45; refine (hW.out _).mono ?_; rintro e2 w2 ⟨rfl, hw2⟩; subst hw2)
    | (go_at_call 90; refine (hL.out _).mono ?_; rintro e2 w2 ⟨rfl, hw2⟩; subst hw2)
    | (go_at_call 36; refine (hT.out _).mono ?_; rintro e2 w2 ⟨rfl, hw2⟩; subst hw2))
  exact bodyPost_ret (v := zv) (by rw [hzv.out]; simp [results, Tryz.results166, go_sem, posTop, Pos.val]) rfl ⟨rfl, by repeat (first | exact Below.refl _ _ | refine Below.alloc ?_ (by first | omega | (simp; done) | (simp; omega)) _ | refine Below.drew ?_)⟩
set_option maxRecDepth 100000 in
set_option maxHeartbeats 6400000 in
theorem implKidPos_13m (o : Int) (a b : ByteArray) (ka : Option Addr) (kn kc : Nat) (j : Nat) (p : Pos) (w : World) (hp : posOkB p = true) (hj : j < kn) (hn : kn ≤ 1000000) (hk1 : 1 < kn) : Calls Tryz.prog 166 #[.agg #[.int .i64 13, .int .i64 o, .string a, .string b, .slice ka kn kc], .int .i64 (j : Nat), .agg #[.int .i64 p.level, .bool p.dollar, .bool p.noIn, .bool p.noGt, .bool p.noSign]] w fun e w' => e = .returned (kidPosB 13 o kn j p).val ∧ Below w.heap.size w w' := by
  have hl0 : levelB 13 o ≠ 0 := by simp [levelB]
  have e := kidPos_eq (k := 13) (o := o) (n := (kn : Int)) (j := (j : Int)) hp (by omega) hl0
  have hL := hid (fun W => implLevelOf_any 13 o a b ka kn kc W)
  have hP := hid (fun W => implPosOk_any p W)
  have hW := hid (fun W => implwithin_any (j : Int) 0 ((kn : Int) - 1) W)
  have hT := hid (fun W => implTop_x W)
  rw [hp] at hP
  rw [show inB (j : Int) 0 ((kn : Int) - 1) = true from by unfold inB; simp; omega] at hW
  rw [show levelB 13 o = 5 from rfl] at hL e
  have hK := hid (fun W => implkidLevel_any 13 o a b ka kn kc j W)
  obtain ⟨zv, hzv⟩ : ∃ zv, zv = (kidPosB 13 o kn j p).val := ⟨_, rfl⟩
  rw [← hzv]
  rw [e] at hzv
  clear e hl0
  rw [if_pos (.inr ⟨rfl, by omega⟩)] at hzv
  obtain ⟨lv0, d, x, y, z⟩ := p
  simp only at hP hzv ⊢
  have hk2 : (1 : Int) < (kn : Int) := by omega
  replace hzv := hid hzv
  go_enter Tryz.func166, Tryz.ntmps166
  go_wp2_with (first
    | (go_at_call 69; refine (hP.out _).mono ?_; rintro e2 w2 ⟨rfl, hw2⟩; subst hw2)
    | (go_at_call 45; refine (hW.out _).mono ?_; rintro e2 w2 ⟨rfl, hw2⟩; subst hw2)
    | (go_at_call 90; refine (hL.out _).mono ?_; rintro e2 w2 ⟨rfl, hw2⟩; subst hw2)
    | (go_at_call 36; refine (hT.out _).mono ?_; rintro e2 w2 ⟨rfl, hw2⟩; subst hw2))
  exact bodyPost_ret (v := zv) (by rw [hzv.out]; simp [results, Tryz.results166, go_sem, posTop, Pos.val]) rfl ⟨rfl, by repeat (first | exact Below.refl _ _ | refine Below.alloc ?_ (by first | omega | (simp; done) | (simp; omega)) _ | refine Below.drew ?_)⟩
set_option maxRecDepth 100000 in
set_option maxHeartbeats 6400000 in
theorem implKidPos_13s (o : Int) (a b : ByteArray) (ka : Option Addr) (kn kc : Nat) (j : Nat) (p : Pos) (w : World) (hp : posOkB p = true) (hj : j < kn) (hn : kn ≤ 1000000) (hk1 : kn = 1) : Calls Tryz.prog 166 #[.agg #[.int .i64 13, .int .i64 o, .string a, .string b, .slice ka kn kc], .int .i64 (j : Nat), .agg #[.int .i64 p.level, .bool p.dollar, .bool p.noIn, .bool p.noGt, .bool p.noSign]] w fun e w' => e = .returned (kidPosB 13 o kn j p).val ∧ Below w.heap.size w w' := by
  have hl0 : levelB 13 o ≠ 0 := by simp [levelB]
  have e := kidPos_eq (k := 13) (o := o) (n := (kn : Int)) (j := (j : Int)) hp (by omega) hl0
  have hL := hid (fun W => implLevelOf_any 13 o a b ka kn kc W)
  have hP := hid (fun W => implPosOk_any p W)
  have hW := hid (fun W => implwithin_any (j : Int) 0 ((kn : Int) - 1) W)
  have hT := hid (fun W => implTop_x W)
  rw [hp] at hP
  rw [show inB (j : Int) 0 ((kn : Int) - 1) = true from by unfold inB; simp; omega] at hW
  rw [show levelB 13 o = 5 from rfl] at hL e
  have hK := hid (fun W => implkidLevel_any 13 o a b ka kn kc j W)
  obtain ⟨zv, hzv⟩ : ∃ zv, zv = (kidPosB 13 o kn j p).val := ⟨_, rfl⟩
  rw [← hzv]
  rw [e] at hzv
  clear e hl0
  rw [if_neg (by omega)] at hzv
  obtain ⟨lv0, d, x, y, z⟩ := p
  simp only at hP hzv ⊢
  have hk2 : ¬ (1 : Int) < (kn : Int) := by omega
  have j0e := hid (show (j : Int) = 0 by omega)
  have j0t : ((j : Int) == 0) = true := by rw [j0e.out]; rfl
  have j1f : ((j : Int) == 1) = false := by rw [j0e.out]; rfl
  clear hk1
  replace hzv := hid hzv
  go_enter Tryz.func166, Tryz.ntmps166
  have hb5 : Below w.heap.size w ((((((w.alloc (.cells #[.int .i64 13, .int .i64 o, .string a, .string b, .slice ka kn kc] 58)).alloc (.cells #[.int .i64 lv0, .bool d, .bool x, .bool y, .bool z] 36)).alloc (.cells #[.int .i64 0, .bool false, .bool false, .bool false, .bool false] 36)).alloc (.cells #[.int .i64 lv0, .bool d, .bool x, .bool y, .bool z] 36)).alloc (.cells #[.int .i64 13, .int .i64 o, .string a, .string b, .slice ka kn kc] 58)).alloc (.cells #[.int .i64 13, .int .i64 o, .string a, .string b, .slice ka kn kc] 58)) := (((((Below.refl w.heap.size w).alloc (Nat.le_refl _) _).alloc (by simp) _).alloc (by simp; omega) _).alloc (by simp; omega) _).alloc (by simp; omega) _ |>.alloc (by simp; omega) _
  obtain ⟨hn5, hp5, hr5⟩ := alloc6 w (.cells #[.int .i64 13, .int .i64 o, .string a, .string b, .slice ka kn kc] 58) (.cells #[.int .i64 lv0, .bool d, .bool x, .bool y, .bool z] 36) (.cells #[.int .i64 0, .bool false, .bool false, .bool false, .bool false] 36) (.cells #[.int .i64 lv0, .bool d, .bool x, .bool y, .bool z] 36) (.cells #[.int .i64 13, .int .i64 o, .string a, .string b, .slice ka kn kc] 58) (.cells #[.int .i64 13, .int .i64 o, .string a, .string b, .slice ka kn kc] 58)
  replace hb5 := hid hb5
  replace hn5 := hid hn5
  replace hp5 := hid hp5
  replace hr5 := hid hr5
  go_upto_region 5 with (first
    | (go_at_call 69; refine (hP.out _).mono ?_; rintro e2 w2 ⟨rfl, hw2⟩; subst hw2)
    | (go_at_call 45; refine (hW.out _).mono ?_; rintro e2 w2 ⟨rfl, hw2⟩; subst hw2)
    | (go_at_call 90; refine (hL.out _).mono ?_; rintro e2 w2 ⟨rfl, hw2⟩; subst hw2)
    | (go_at_call 36; refine (hT.out _).mono ?_; rintro e2 w2 ⟨rfl, hw2⟩; subst hw2))
  generalize ((((((w.alloc (.cells #[.int .i64 13, .int .i64 o, .string a, .string b, .slice ka kn kc] 58)).alloc (.cells #[.int .i64 lv0, .bool d, .bool x, .bool y, .bool z] 36)).alloc (.cells #[.int .i64 0, .bool false, .bool false, .bool false, .bool false] 36)).alloc (.cells #[.int .i64 lv0, .bool d, .bool x, .bool y, .bool z] 36)).alloc (.cells #[.int .i64 13, .int .i64 o, .string a, .string b, .slice ka kn kc] 58)).alloc (.cells #[.int .i64 13, .int .i64 o, .string a, .string b, .slice ka kn kc] 58)) = w5 at hb5 hn5 hp5 hr5 ⊢
  have hS := hid (show ∀ W, Below w5.heap.size w5 W → Below w5.heap.size w5 W ∧ W.cell? ⟨w.heap.size, 0, none⟩ = some (.int .i64 13) ∧ W.cell? ⟨w.heap.size, 1, none⟩ = some (.int .i64 o) ∧ W.cell? ⟨w.heap.size, 2, none⟩ = some (.string a) ∧ W.cell? ⟨w.heap.size, 3, none⟩ = some (.string b) ∧ W.cell? ⟨w.heap.size, 4, none⟩ = some (.slice ka kn kc) ∧ W.cell? ⟨w.heap.size + 1, 2, none⟩ = some (.bool x) ∧ W.cell? ⟨w.heap.size + 1, 3, none⟩ = some (.bool y) from fun W hW => by
    obtain ⟨x0, x1, x2, x3, x4⟩ := box_cells (boxb hn5.out hW)
    obtain ⟨y0, y1, y2, y3, y4⟩ := box_cells (boxb hp5.out hW)
    exact ⟨hW, x0, x1, x2, x3, x4, y2, y3⟩)
  go_cut [7] from 41 to 51 (fun ov wx => ∃ ob, ov = .pointer (some ⟨ob, 0, none⟩) ∧ Hid (Below w5.heap.size w5 wx) ∧ Hid (w5.heap.size ≤ ob) ∧ Hid (wx.heap[ob]? = some (.cells #[.int .i64 (kidLevB 13 o (j : Nat)), .bool ((13 : Int) == 6), .bool x, .bool y, .bool false] 36 (0, 0))))
  case first =>
    go_region_held3 (fun W => Below w5.heap.size w5 W ∧ W.cell? ⟨w.heap.size, 0, none⟩ = some (.int .i64 13) ∧ W.cell? ⟨w.heap.size, 1, none⟩ = some (.int .i64 o) ∧ W.cell? ⟨w.heap.size, 2, none⟩ = some (.string a) ∧ W.cell? ⟨w.heap.size, 3, none⟩ = some (.string b) ∧ W.cell? ⟨w.heap.size, 4, none⟩ = some (.slice ka kn kc) ∧ W.cell? ⟨w.heap.size + 1, 2, none⟩ = some (.bool x) ∧ W.cell? ⟨w.heap.size + 1, 3, none⟩ = some (.bool y))
      (first
        | (refine hS.out _ ?_
           with_reducible (first
             | exact (Below.refl _ _).drew
             | exact keep_a (by assumption) _
             | exact belowA1 _ _
             | exact belowA2 _ _ _
             | exact belowB1 _ _
             | exact belowB2 _ _ _
             | exact (Below.refl _ _).drew.drew)))
      (first
        | (go_at_call 181; refine (hK.out _).mono ?_; rintro e w2 ⟨rfl, hw2⟩; subst hw2))
    all_goals go_wp2_with fail
    all_goals go_meet
    all_goals first
      | exact ⟨_, rfl, hid (belowA2 _ _ _), hid (by simp), hid (at_second w5 _ _)⟩
      | exact ⟨_, rfl, hid (belowA2 _ _ _), hid (by simp), hid (at_first w5 _ _)⟩
      | exact ⟨_, rfl, hid (belowB2 _ _ _), hid (by simp), hid (at_second w5 _ _)⟩
      | exact ⟨_, rfl, hid (belowB2 _ _ _), hid (by simp), hid (at_first w5 _ _)⟩
  case rest =>
    obtain ⟨ob, rfl, hbx, hob, hox⟩ := hcut
    have hnx := boxb hn5.out hbx.out
    have hpx := boxb hp5.out hbx.out
    have hrx := hid (boxb hr5.out hbx.out)
    obtain ⟨n0, n1, n2, n3, n4⟩ := box_cells hnx
    obtain ⟨q0, q1, q2, q3, q4⟩ := box_cells hpx
    have hB := hid (hb5.out.trans (hbx.out.mono hb5.out.size))
    have hlo := heap_lt hr5.out
    have hob2 := hob.out
    have f1 : ∀ j, wc.frozen? ⟨ob, j, none⟩ = false := fun j => box_froz hox.out
    obtain ⟨x0, x1, x2, x3, x4⟩ := box_cells hox.out
    have yy : ∀ v, (wc.setCell ⟨ob, 4, none⟩ v).heap[ob]? = some (.cells #[.int .i64 (kidLevB 13 o (j : Nat)), .bool ((13 : Int) == 6), .bool x, .bool y, v] 36 (0, 0)) := fun v => (heap_setCell_at hox.out).trans rfl
    have rr : ∀ v, (wc.setCell ⟨ob, 4, none⟩ v).heap[w.heap.size + 1 + 1]? = some (.cells #[.int .i64 0, .bool false, .bool false, .bool false, .bool false] 36 (0, 0)) := fun v => (heap_setCell_other wc ⟨ob, 4, none⟩ (w.heap.size + 1 + 1) v (by show w.heap.size + 1 + 1 ≠ ob; omega)).trans hrx.out
    have y0 := fun v => (box_cells (yy v)).1
    have y1 := fun v => (box_cells (yy v)).2.1
    have y2 := fun v => (box_cells (yy v)).2.2.1
    have y3 := fun v => (box_cells (yy v)).2.2.2.1
    have y4 := fun v => (box_cells (yy v)).2.2.2.2
    have r0 := fun v => (box_cells (rr v)).1
    have r1 := fun v => (box_cells (rr v)).2.1
    have r2 := fun v => (box_cells (rr v)).2.2.1
    have r3 := fun v => (box_cells (rr v)).2.2.2.1
    have r4 := fun v => (box_cells (rr v)).2.2.2.2
    have f0 : ∀ v j, (wc.setCell ⟨ob, 4, none⟩ v).frozen? ⟨w.heap.size + 1 + 1, j, none⟩ = false := fun v j => box_froz (rr v)
    clear hnx hpx
    cases z
    all_goals
      go_wp2
      all_goals refine form_done zv (rr _) (fun W hW => ?_) rfl ⟨rfl, five_below (hB.out.setCell (p := ⟨ob, 4, none⟩) (show w.heap.size ≤ ob by omega) _) (by omega)⟩
      all_goals
        obtain ⟨z0, z1, z2, z3, z4⟩ := box_cells hW
        rw [hzv.out]
        simp [results, Tryz.results166, go_sem, Pos.val, kidSignB, z0, z1, z2, z3, z4, j0e.out]
set_option maxRecDepth 100000 in
set_option maxHeartbeats 6400000 in
theorem implKidPos_6 (o : Int) (a b : ByteArray) (ka : Option Addr) (kn kc : Nat) (j : Nat) (p : Pos) (w : World) (hp : posOkB p = true) (hj : j < kn) (hn : kn ≤ 1000000) : Calls Tryz.prog 166 #[.agg #[.int .i64 6, .int .i64 o, .string a, .string b, .slice ka kn kc], .int .i64 (j : Nat), .agg #[.int .i64 p.level, .bool p.dollar, .bool p.noIn, .bool p.noGt, .bool p.noSign]] w fun e w' => e = .returned (kidPosB 6 o kn j p).val ∧ Below w.heap.size w w' := by
  have hl0 : levelB 6 o ≠ 0 := by simp [levelB]
  have e := kidPos_eq (k := 6) (o := o) (n := (kn : Int)) (j := (j : Int)) hp (by omega) hl0
  have hL := hid (fun W => implLevelOf_any 6 o a b ka kn kc W)
  have hP := hid (fun W => implPosOk_any p W)
  have hW := hid (fun W => implwithin_any (j : Int) 0 ((kn : Int) - 1) W)
  have hT := hid (fun W => implTop_x W)
  rw [hp] at hP
  rw [show inB (j : Int) 0 ((kn : Int) - 1) = true from by unfold inB; simp; omega] at hW
  rw [show levelB 6 o = 14 from rfl] at hL e
  have hK := hid (fun W => implkidLevel_any 6 o a b ka kn kc j W)
  obtain ⟨zv, hzv⟩ : ∃ zv, zv = (kidPosB 6 o kn j p).val := ⟨_, rfl⟩
  rw [← hzv]
  rw [e] at hzv
  clear e hl0
  rw [if_neg (by omega)] at hzv
  obtain ⟨lv0, d, x, y, z⟩ := p
  simp only at hP hzv ⊢
  replace hzv := hid hzv
  go_enter Tryz.func166, Tryz.ntmps166
  have hb5 : Below w.heap.size w ((((((w.alloc (.cells #[.int .i64 6, .int .i64 o, .string a, .string b, .slice ka kn kc] 58)).alloc (.cells #[.int .i64 lv0, .bool d, .bool x, .bool y, .bool z] 36)).alloc (.cells #[.int .i64 0, .bool false, .bool false, .bool false, .bool false] 36)).alloc (.cells #[.int .i64 lv0, .bool d, .bool x, .bool y, .bool z] 36)).alloc (.cells #[.int .i64 6, .int .i64 o, .string a, .string b, .slice ka kn kc] 58)).alloc (.cells #[.int .i64 6, .int .i64 o, .string a, .string b, .slice ka kn kc] 58)) := (((((Below.refl w.heap.size w).alloc (Nat.le_refl _) _).alloc (by simp) _).alloc (by simp; omega) _).alloc (by simp; omega) _).alloc (by simp; omega) _ |>.alloc (by simp; omega) _
  obtain ⟨hn5, hp5, hr5⟩ := alloc6 w (.cells #[.int .i64 6, .int .i64 o, .string a, .string b, .slice ka kn kc] 58) (.cells #[.int .i64 lv0, .bool d, .bool x, .bool y, .bool z] 36) (.cells #[.int .i64 0, .bool false, .bool false, .bool false, .bool false] 36) (.cells #[.int .i64 lv0, .bool d, .bool x, .bool y, .bool z] 36) (.cells #[.int .i64 6, .int .i64 o, .string a, .string b, .slice ka kn kc] 58) (.cells #[.int .i64 6, .int .i64 o, .string a, .string b, .slice ka kn kc] 58)
  replace hb5 := hid hb5
  replace hn5 := hid hn5
  replace hp5 := hid hp5
  replace hr5 := hid hr5
  go_upto_region 5 with (first
    | (go_at_call 69; refine (hP.out _).mono ?_; rintro e2 w2 ⟨rfl, hw2⟩; subst hw2)
    | (go_at_call 45; refine (hW.out _).mono ?_; rintro e2 w2 ⟨rfl, hw2⟩; subst hw2)
    | (go_at_call 90; refine (hL.out _).mono ?_; rintro e2 w2 ⟨rfl, hw2⟩; subst hw2)
    | (go_at_call 36; refine (hT.out _).mono ?_; rintro e2 w2 ⟨rfl, hw2⟩; subst hw2))
  generalize ((((((w.alloc (.cells #[.int .i64 6, .int .i64 o, .string a, .string b, .slice ka kn kc] 58)).alloc (.cells #[.int .i64 lv0, .bool d, .bool x, .bool y, .bool z] 36)).alloc (.cells #[.int .i64 0, .bool false, .bool false, .bool false, .bool false] 36)).alloc (.cells #[.int .i64 lv0, .bool d, .bool x, .bool y, .bool z] 36)).alloc (.cells #[.int .i64 6, .int .i64 o, .string a, .string b, .slice ka kn kc] 58)).alloc (.cells #[.int .i64 6, .int .i64 o, .string a, .string b, .slice ka kn kc] 58)) = w5 at hb5 hn5 hp5 hr5 ⊢
  have hS := hid (show ∀ W, Below w5.heap.size w5 W → Below w5.heap.size w5 W ∧ W.cell? ⟨w.heap.size, 0, none⟩ = some (.int .i64 6) ∧ W.cell? ⟨w.heap.size, 1, none⟩ = some (.int .i64 o) ∧ W.cell? ⟨w.heap.size, 2, none⟩ = some (.string a) ∧ W.cell? ⟨w.heap.size, 3, none⟩ = some (.string b) ∧ W.cell? ⟨w.heap.size, 4, none⟩ = some (.slice ka kn kc) ∧ W.cell? ⟨w.heap.size + 1, 2, none⟩ = some (.bool x) ∧ W.cell? ⟨w.heap.size + 1, 3, none⟩ = some (.bool y) from fun W hW => by
    obtain ⟨x0, x1, x2, x3, x4⟩ := box_cells (boxb hn5.out hW)
    obtain ⟨y0, y1, y2, y3, y4⟩ := box_cells (boxb hp5.out hW)
    exact ⟨hW, x0, x1, x2, x3, x4, y2, y3⟩)
  go_cut [7] from 41 to 51 (fun ov wx => ∃ ob, ov = .pointer (some ⟨ob, 0, none⟩) ∧ Hid (Below w5.heap.size w5 wx) ∧ Hid (w5.heap.size ≤ ob) ∧ Hid (wx.heap[ob]? = some (.cells #[.int .i64 (kidLevB 6 o (j : Nat)), .bool ((6 : Int) == 6), .bool x, .bool y, .bool false] 36 (0, 0))))
  case first =>
    go_region_held3 (fun W => Below w5.heap.size w5 W ∧ W.cell? ⟨w.heap.size, 0, none⟩ = some (.int .i64 6) ∧ W.cell? ⟨w.heap.size, 1, none⟩ = some (.int .i64 o) ∧ W.cell? ⟨w.heap.size, 2, none⟩ = some (.string a) ∧ W.cell? ⟨w.heap.size, 3, none⟩ = some (.string b) ∧ W.cell? ⟨w.heap.size, 4, none⟩ = some (.slice ka kn kc) ∧ W.cell? ⟨w.heap.size + 1, 2, none⟩ = some (.bool x) ∧ W.cell? ⟨w.heap.size + 1, 3, none⟩ = some (.bool y))
      (first
        | (refine hS.out _ ?_
           with_reducible (first
             | exact (Below.refl _ _).drew
             | exact keep_a (by assumption) _
             | exact belowA1 _ _
             | exact belowA2 _ _ _
             | exact belowB1 _ _
             | exact belowB2 _ _ _
             | exact (Below.refl _ _).drew.drew)))
      (first
        | (go_at_call 181; refine (hK.out _).mono ?_; rintro e w2 ⟨rfl, hw2⟩; subst hw2))
    all_goals go_wp2_with fail
    all_goals go_meet
    all_goals first
      | exact ⟨_, rfl, hid (belowA2 _ _ _), hid (by simp), hid (at_second w5 _ _)⟩
      | exact ⟨_, rfl, hid (belowA2 _ _ _), hid (by simp), hid (at_first w5 _ _)⟩
      | exact ⟨_, rfl, hid (belowB2 _ _ _), hid (by simp), hid (at_second w5 _ _)⟩
      | exact ⟨_, rfl, hid (belowB2 _ _ _), hid (by simp), hid (at_first w5 _ _)⟩
  case rest =>
    obtain ⟨ob, rfl, hbx, hob, hox⟩ := hcut
    have hnx := boxb hn5.out hbx.out
    have hpx := boxb hp5.out hbx.out
    have hrx := hid (boxb hr5.out hbx.out)
    obtain ⟨n0, n1, n2, n3, n4⟩ := box_cells hnx
    obtain ⟨q0, q1, q2, q3, q4⟩ := box_cells hpx
    have hB := hid (hb5.out.trans (hbx.out.mono hb5.out.size))
    have hlo := heap_lt hr5.out
    have hob2 := hob.out
    obtain ⟨r0, r1, r2, r3, r4⟩ := box_cells hrx.out
    obtain ⟨x0, x1, x2, x3, x4⟩ := box_cells hox.out
    have f0 : ∀ j, wc.frozen? ⟨w.heap.size + 1 + 1, j, none⟩ = false := fun j => box_froz hrx.out
    clear hnx hpx
    go_wp2
    refine form_done zv hrx.out (fun W hW => ?_) rfl ⟨rfl, five_below hB.out (by omega)⟩
    obtain ⟨z0, z1, z2, z3, z4⟩ := box_cells hW
    rw [hzv.out]
    simp [results, Tryz.results166, go_sem, Pos.val, kidSignB, z0, z1, z2, z3, z4]
set_option maxRecDepth 100000 in
set_option maxHeartbeats 6400000 in
theorem implKidPos_9 (o : Int) (a b : ByteArray) (ka : Option Addr) (kn kc : Nat) (j : Nat) (p : Pos) (w : World) (hp : posOkB p = true) (hj : j < kn) (hn : kn ≤ 1000000) : Calls Tryz.prog 166 #[.agg #[.int .i64 9, .int .i64 o, .string a, .string b, .slice ka kn kc], .int .i64 (j : Nat), .agg #[.int .i64 p.level, .bool p.dollar, .bool p.noIn, .bool p.noGt, .bool p.noSign]] w fun e w' => e = .returned (kidPosB 9 o kn j p).val ∧ Below w.heap.size w w' := by
  have hl0 : levelB 9 o ≠ 0 := by simp [levelB]
  have e := kidPos_eq (k := 9) (o := o) (n := (kn : Int)) (j := (j : Int)) hp (by omega) hl0
  have hL := hid (fun W => implLevelOf_any 9 o a b ka kn kc W)
  have hP := hid (fun W => implPosOk_any p W)
  have hW := hid (fun W => implwithin_any (j : Int) 0 ((kn : Int) - 1) W)
  have hT := hid (fun W => implTop_x W)
  rw [hp] at hP
  rw [show inB (j : Int) 0 ((kn : Int) - 1) = true from by unfold inB; simp; omega] at hW
  rw [show levelB 9 o = 13 from rfl] at hL e
  have hK := hid (fun W => implkidLevel_any 9 o a b ka kn kc j W)
  obtain ⟨zv, hzv⟩ : ∃ zv, zv = (kidPosB 9 o kn j p).val := ⟨_, rfl⟩
  rw [← hzv]
  rw [e] at hzv
  clear e hl0
  rw [if_neg (by omega)] at hzv
  obtain ⟨lv0, d, x, y, z⟩ := p
  simp only at hP hzv ⊢
  replace hzv := hid hzv
  go_enter Tryz.func166, Tryz.ntmps166
  have hb5 : Below w.heap.size w ((((((w.alloc (.cells #[.int .i64 9, .int .i64 o, .string a, .string b, .slice ka kn kc] 58)).alloc (.cells #[.int .i64 lv0, .bool d, .bool x, .bool y, .bool z] 36)).alloc (.cells #[.int .i64 0, .bool false, .bool false, .bool false, .bool false] 36)).alloc (.cells #[.int .i64 lv0, .bool d, .bool x, .bool y, .bool z] 36)).alloc (.cells #[.int .i64 9, .int .i64 o, .string a, .string b, .slice ka kn kc] 58)).alloc (.cells #[.int .i64 9, .int .i64 o, .string a, .string b, .slice ka kn kc] 58)) := (((((Below.refl w.heap.size w).alloc (Nat.le_refl _) _).alloc (by simp) _).alloc (by simp; omega) _).alloc (by simp; omega) _).alloc (by simp; omega) _ |>.alloc (by simp; omega) _
  obtain ⟨hn5, hp5, hr5⟩ := alloc6 w (.cells #[.int .i64 9, .int .i64 o, .string a, .string b, .slice ka kn kc] 58) (.cells #[.int .i64 lv0, .bool d, .bool x, .bool y, .bool z] 36) (.cells #[.int .i64 0, .bool false, .bool false, .bool false, .bool false] 36) (.cells #[.int .i64 lv0, .bool d, .bool x, .bool y, .bool z] 36) (.cells #[.int .i64 9, .int .i64 o, .string a, .string b, .slice ka kn kc] 58) (.cells #[.int .i64 9, .int .i64 o, .string a, .string b, .slice ka kn kc] 58)
  replace hb5 := hid hb5
  replace hn5 := hid hn5
  replace hp5 := hid hp5
  replace hr5 := hid hr5
  go_upto_region 5 with (first
    | (go_at_call 69; refine (hP.out _).mono ?_; rintro e2 w2 ⟨rfl, hw2⟩; subst hw2)
    | (go_at_call 45; refine (hW.out _).mono ?_; rintro e2 w2 ⟨rfl, hw2⟩; subst hw2)
    | (go_at_call 90; refine (hL.out _).mono ?_; rintro e2 w2 ⟨rfl, hw2⟩; subst hw2)
    | (go_at_call 36; refine (hT.out _).mono ?_; rintro e2 w2 ⟨rfl, hw2⟩; subst hw2))
  generalize ((((((w.alloc (.cells #[.int .i64 9, .int .i64 o, .string a, .string b, .slice ka kn kc] 58)).alloc (.cells #[.int .i64 lv0, .bool d, .bool x, .bool y, .bool z] 36)).alloc (.cells #[.int .i64 0, .bool false, .bool false, .bool false, .bool false] 36)).alloc (.cells #[.int .i64 lv0, .bool d, .bool x, .bool y, .bool z] 36)).alloc (.cells #[.int .i64 9, .int .i64 o, .string a, .string b, .slice ka kn kc] 58)).alloc (.cells #[.int .i64 9, .int .i64 o, .string a, .string b, .slice ka kn kc] 58)) = w5 at hb5 hn5 hp5 hr5 ⊢
  have hS := hid (show ∀ W, Below w5.heap.size w5 W → Below w5.heap.size w5 W ∧ W.cell? ⟨w.heap.size, 0, none⟩ = some (.int .i64 9) ∧ W.cell? ⟨w.heap.size, 1, none⟩ = some (.int .i64 o) ∧ W.cell? ⟨w.heap.size, 2, none⟩ = some (.string a) ∧ W.cell? ⟨w.heap.size, 3, none⟩ = some (.string b) ∧ W.cell? ⟨w.heap.size, 4, none⟩ = some (.slice ka kn kc) ∧ W.cell? ⟨w.heap.size + 1, 2, none⟩ = some (.bool x) ∧ W.cell? ⟨w.heap.size + 1, 3, none⟩ = some (.bool y) from fun W hW => by
    obtain ⟨x0, x1, x2, x3, x4⟩ := box_cells (boxb hn5.out hW)
    obtain ⟨y0, y1, y2, y3, y4⟩ := box_cells (boxb hp5.out hW)
    exact ⟨hW, x0, x1, x2, x3, x4, y2, y3⟩)
  go_cut [7] from 41 to 51 (fun ov wx => ∃ ob, ov = .pointer (some ⟨ob, 0, none⟩) ∧ Hid (Below w5.heap.size w5 wx) ∧ Hid (w5.heap.size ≤ ob) ∧ Hid (wx.heap[ob]? = some (.cells #[.int .i64 (kidLevB 9 o (j : Nat)), .bool ((9 : Int) == 6), .bool x, .bool y, .bool false] 36 (0, 0))))
  case first =>
    go_region_held3 (fun W => Below w5.heap.size w5 W ∧ W.cell? ⟨w.heap.size, 0, none⟩ = some (.int .i64 9) ∧ W.cell? ⟨w.heap.size, 1, none⟩ = some (.int .i64 o) ∧ W.cell? ⟨w.heap.size, 2, none⟩ = some (.string a) ∧ W.cell? ⟨w.heap.size, 3, none⟩ = some (.string b) ∧ W.cell? ⟨w.heap.size, 4, none⟩ = some (.slice ka kn kc) ∧ W.cell? ⟨w.heap.size + 1, 2, none⟩ = some (.bool x) ∧ W.cell? ⟨w.heap.size + 1, 3, none⟩ = some (.bool y))
      (first
        | (refine hS.out _ ?_
           with_reducible (first
             | exact (Below.refl _ _).drew
             | exact keep_a (by assumption) _
             | exact belowA1 _ _
             | exact belowA2 _ _ _
             | exact belowB1 _ _
             | exact belowB2 _ _ _
             | exact (Below.refl _ _).drew.drew)))
      (first
        | (go_at_call 181; refine (hK.out _).mono ?_; rintro e w2 ⟨rfl, hw2⟩; subst hw2))
    all_goals go_wp2_with fail
    all_goals go_meet
    all_goals first
      | exact ⟨_, rfl, hid (belowA2 _ _ _), hid (by simp), hid (at_second w5 _ _)⟩
      | exact ⟨_, rfl, hid (belowA2 _ _ _), hid (by simp), hid (at_first w5 _ _)⟩
      | exact ⟨_, rfl, hid (belowB2 _ _ _), hid (by simp), hid (at_second w5 _ _)⟩
      | exact ⟨_, rfl, hid (belowB2 _ _ _), hid (by simp), hid (at_first w5 _ _)⟩
  case rest =>
    obtain ⟨ob, rfl, hbx, hob, hox⟩ := hcut
    have hnx := boxb hn5.out hbx.out
    have hpx := boxb hp5.out hbx.out
    have hrx := hid (boxb hr5.out hbx.out)
    obtain ⟨n0, n1, n2, n3, n4⟩ := box_cells hnx
    obtain ⟨q0, q1, q2, q3, q4⟩ := box_cells hpx
    have hB := hid (hb5.out.trans (hbx.out.mono hb5.out.size))
    have hlo := heap_lt hr5.out
    have hob2 := hob.out
    obtain ⟨r0, r1, r2, r3, r4⟩ := box_cells hrx.out
    obtain ⟨x0, x1, x2, x3, x4⟩ := box_cells hox.out
    have f0 : ∀ j, wc.frozen? ⟨w.heap.size + 1 + 1, j, none⟩ = false := fun j => box_froz hrx.out
    clear hnx hpx
    go_wp2
    refine form_done zv hrx.out (fun W hW => ?_) rfl ⟨rfl, five_below hB.out (by omega)⟩
    obtain ⟨z0, z1, z2, z3, z4⟩ := box_cells hW
    rw [hzv.out]
    simp [results, Tryz.results166, go_sem, Pos.val, kidSignB, z0, z1, z2, z3, z4]
set_option maxRecDepth 100000 in
set_option maxHeartbeats 6400000 in
theorem implKidPos_10 (o : Int) (a b : ByteArray) (ka : Option Addr) (kn kc : Nat) (j : Nat) (p : Pos) (w : World) (hp : posOkB p = true) (hj : j < kn) (hn : kn ≤ 1000000) : Calls Tryz.prog 166 #[.agg #[.int .i64 10, .int .i64 o, .string a, .string b, .slice ka kn kc], .int .i64 (j : Nat), .agg #[.int .i64 p.level, .bool p.dollar, .bool p.noIn, .bool p.noGt, .bool p.noSign]] w fun e w' => e = .returned (kidPosB 10 o kn j p).val ∧ Below w.heap.size w w' := by
  have hl0 : levelB 10 o ≠ 0 := by simp [levelB]
  have e := kidPos_eq (k := 10) (o := o) (n := (kn : Int)) (j := (j : Int)) hp (by omega) hl0
  have hL := hid (fun W => implLevelOf_any 10 o a b ka kn kc W)
  have hP := hid (fun W => implPosOk_any p W)
  have hW := hid (fun W => implwithin_any (j : Int) 0 ((kn : Int) - 1) W)
  have hT := hid (fun W => implTop_x W)
  rw [hp] at hP
  rw [show inB (j : Int) 0 ((kn : Int) - 1) = true from by unfold inB; simp; omega] at hW
  rw [show levelB 10 o = 13 from rfl] at hL e
  have hK := hid (fun W => implkidLevel_any 10 o a b ka kn kc j W)
  obtain ⟨zv, hzv⟩ : ∃ zv, zv = (kidPosB 10 o kn j p).val := ⟨_, rfl⟩
  rw [← hzv]
  rw [e] at hzv
  clear e hl0
  rw [if_neg (by omega)] at hzv
  obtain ⟨lv0, d, x, y, z⟩ := p
  simp only at hP hzv ⊢
  replace hzv := hid hzv
  go_enter Tryz.func166, Tryz.ntmps166
  have hb5 : Below w.heap.size w ((((((w.alloc (.cells #[.int .i64 10, .int .i64 o, .string a, .string b, .slice ka kn kc] 58)).alloc (.cells #[.int .i64 lv0, .bool d, .bool x, .bool y, .bool z] 36)).alloc (.cells #[.int .i64 0, .bool false, .bool false, .bool false, .bool false] 36)).alloc (.cells #[.int .i64 lv0, .bool d, .bool x, .bool y, .bool z] 36)).alloc (.cells #[.int .i64 10, .int .i64 o, .string a, .string b, .slice ka kn kc] 58)).alloc (.cells #[.int .i64 10, .int .i64 o, .string a, .string b, .slice ka kn kc] 58)) := (((((Below.refl w.heap.size w).alloc (Nat.le_refl _) _).alloc (by simp) _).alloc (by simp; omega) _).alloc (by simp; omega) _).alloc (by simp; omega) _ |>.alloc (by simp; omega) _
  obtain ⟨hn5, hp5, hr5⟩ := alloc6 w (.cells #[.int .i64 10, .int .i64 o, .string a, .string b, .slice ka kn kc] 58) (.cells #[.int .i64 lv0, .bool d, .bool x, .bool y, .bool z] 36) (.cells #[.int .i64 0, .bool false, .bool false, .bool false, .bool false] 36) (.cells #[.int .i64 lv0, .bool d, .bool x, .bool y, .bool z] 36) (.cells #[.int .i64 10, .int .i64 o, .string a, .string b, .slice ka kn kc] 58) (.cells #[.int .i64 10, .int .i64 o, .string a, .string b, .slice ka kn kc] 58)
  replace hb5 := hid hb5
  replace hn5 := hid hn5
  replace hp5 := hid hp5
  replace hr5 := hid hr5
  go_upto_region 5 with (first
    | (go_at_call 69; refine (hP.out _).mono ?_; rintro e2 w2 ⟨rfl, hw2⟩; subst hw2)
    | (go_at_call 45; refine (hW.out _).mono ?_; rintro e2 w2 ⟨rfl, hw2⟩; subst hw2)
    | (go_at_call 90; refine (hL.out _).mono ?_; rintro e2 w2 ⟨rfl, hw2⟩; subst hw2)
    | (go_at_call 36; refine (hT.out _).mono ?_; rintro e2 w2 ⟨rfl, hw2⟩; subst hw2))
  generalize ((((((w.alloc (.cells #[.int .i64 10, .int .i64 o, .string a, .string b, .slice ka kn kc] 58)).alloc (.cells #[.int .i64 lv0, .bool d, .bool x, .bool y, .bool z] 36)).alloc (.cells #[.int .i64 0, .bool false, .bool false, .bool false, .bool false] 36)).alloc (.cells #[.int .i64 lv0, .bool d, .bool x, .bool y, .bool z] 36)).alloc (.cells #[.int .i64 10, .int .i64 o, .string a, .string b, .slice ka kn kc] 58)).alloc (.cells #[.int .i64 10, .int .i64 o, .string a, .string b, .slice ka kn kc] 58)) = w5 at hb5 hn5 hp5 hr5 ⊢
  have hS := hid (show ∀ W, Below w5.heap.size w5 W → Below w5.heap.size w5 W ∧ W.cell? ⟨w.heap.size, 0, none⟩ = some (.int .i64 10) ∧ W.cell? ⟨w.heap.size, 1, none⟩ = some (.int .i64 o) ∧ W.cell? ⟨w.heap.size, 2, none⟩ = some (.string a) ∧ W.cell? ⟨w.heap.size, 3, none⟩ = some (.string b) ∧ W.cell? ⟨w.heap.size, 4, none⟩ = some (.slice ka kn kc) ∧ W.cell? ⟨w.heap.size + 1, 2, none⟩ = some (.bool x) ∧ W.cell? ⟨w.heap.size + 1, 3, none⟩ = some (.bool y) from fun W hW => by
    obtain ⟨x0, x1, x2, x3, x4⟩ := box_cells (boxb hn5.out hW)
    obtain ⟨y0, y1, y2, y3, y4⟩ := box_cells (boxb hp5.out hW)
    exact ⟨hW, x0, x1, x2, x3, x4, y2, y3⟩)
  go_cut [7] from 41 to 51 (fun ov wx => ∃ ob, ov = .pointer (some ⟨ob, 0, none⟩) ∧ Hid (Below w5.heap.size w5 wx) ∧ Hid (w5.heap.size ≤ ob) ∧ Hid (wx.heap[ob]? = some (.cells #[.int .i64 (kidLevB 10 o (j : Nat)), .bool ((10 : Int) == 6), .bool x, .bool y, .bool false] 36 (0, 0))))
  case first =>
    go_region_held3 (fun W => Below w5.heap.size w5 W ∧ W.cell? ⟨w.heap.size, 0, none⟩ = some (.int .i64 10) ∧ W.cell? ⟨w.heap.size, 1, none⟩ = some (.int .i64 o) ∧ W.cell? ⟨w.heap.size, 2, none⟩ = some (.string a) ∧ W.cell? ⟨w.heap.size, 3, none⟩ = some (.string b) ∧ W.cell? ⟨w.heap.size, 4, none⟩ = some (.slice ka kn kc) ∧ W.cell? ⟨w.heap.size + 1, 2, none⟩ = some (.bool x) ∧ W.cell? ⟨w.heap.size + 1, 3, none⟩ = some (.bool y))
      (first
        | (refine hS.out _ ?_
           with_reducible (first
             | exact (Below.refl _ _).drew
             | exact keep_a (by assumption) _
             | exact belowA1 _ _
             | exact belowA2 _ _ _
             | exact belowB1 _ _
             | exact belowB2 _ _ _
             | exact (Below.refl _ _).drew.drew)))
      (first
        | (go_at_call 181; refine (hK.out _).mono ?_; rintro e w2 ⟨rfl, hw2⟩; subst hw2))
    all_goals go_wp2_with fail
    all_goals go_meet
    all_goals first
      | exact ⟨_, rfl, hid (belowA2 _ _ _), hid (by simp), hid (at_second w5 _ _)⟩
      | exact ⟨_, rfl, hid (belowA2 _ _ _), hid (by simp), hid (at_first w5 _ _)⟩
      | exact ⟨_, rfl, hid (belowB2 _ _ _), hid (by simp), hid (at_second w5 _ _)⟩
      | exact ⟨_, rfl, hid (belowB2 _ _ _), hid (by simp), hid (at_first w5 _ _)⟩
  case rest =>
    obtain ⟨ob, rfl, hbx, hob, hox⟩ := hcut
    have hnx := boxb hn5.out hbx.out
    have hpx := boxb hp5.out hbx.out
    have hrx := hid (boxb hr5.out hbx.out)
    obtain ⟨n0, n1, n2, n3, n4⟩ := box_cells hnx
    obtain ⟨q0, q1, q2, q3, q4⟩ := box_cells hpx
    have hB := hid (hb5.out.trans (hbx.out.mono hb5.out.size))
    have hlo := heap_lt hr5.out
    have hob2 := hob.out
    obtain ⟨r0, r1, r2, r3, r4⟩ := box_cells hrx.out
    obtain ⟨x0, x1, x2, x3, x4⟩ := box_cells hox.out
    have f0 : ∀ j, wc.frozen? ⟨w.heap.size + 1 + 1, j, none⟩ = false := fun j => box_froz hrx.out
    clear hnx hpx
    go_wp2
    refine form_done zv hrx.out (fun W hW => ?_) rfl ⟨rfl, five_below hB.out (by omega)⟩
    obtain ⟨z0, z1, z2, z3, z4⟩ := box_cells hW
    rw [hzv.out]
    simp [results, Tryz.results166, go_sem, Pos.val, kidSignB, z0, z1, z2, z3, z4]
set_option maxRecDepth 100000 in
set_option maxHeartbeats 6400000 in
theorem implKidPos_11 (o : Int) (a b : ByteArray) (ka : Option Addr) (kn kc : Nat) (j : Nat) (p : Pos) (w : World) (hp : posOkB p = true) (hj : j < kn) (hn : kn ≤ 1000000) : Calls Tryz.prog 166 #[.agg #[.int .i64 11, .int .i64 o, .string a, .string b, .slice ka kn kc], .int .i64 (j : Nat), .agg #[.int .i64 p.level, .bool p.dollar, .bool p.noIn, .bool p.noGt, .bool p.noSign]] w fun e w' => e = .returned (kidPosB 11 o kn j p).val ∧ Below w.heap.size w w' := by
  have hl0 : levelB 11 o ≠ 0 := by simp [levelB]
  have e := kidPos_eq (k := 11) (o := o) (n := (kn : Int)) (j := (j : Int)) hp (by omega) hl0
  have hL := hid (fun W => implLevelOf_any 11 o a b ka kn kc W)
  have hP := hid (fun W => implPosOk_any p W)
  have hW := hid (fun W => implwithin_any (j : Int) 0 ((kn : Int) - 1) W)
  have hT := hid (fun W => implTop_x W)
  rw [hp] at hP
  rw [show inB (j : Int) 0 ((kn : Int) - 1) = true from by unfold inB; simp; omega] at hW
  rw [show levelB 11 o = 11 from rfl] at hL e
  have hK := hid (fun W => implkidLevel_any 11 o a b ka kn kc j W)
  obtain ⟨zv, hzv⟩ : ∃ zv, zv = (kidPosB 11 o kn j p).val := ⟨_, rfl⟩
  rw [← hzv]
  rw [e] at hzv
  clear e hl0
  rw [if_neg (by omega)] at hzv
  obtain ⟨lv0, d, x, y, z⟩ := p
  simp only at hP hzv ⊢
  replace hzv := hid hzv
  go_enter Tryz.func166, Tryz.ntmps166
  have hb5 : Below w.heap.size w ((((((w.alloc (.cells #[.int .i64 11, .int .i64 o, .string a, .string b, .slice ka kn kc] 58)).alloc (.cells #[.int .i64 lv0, .bool d, .bool x, .bool y, .bool z] 36)).alloc (.cells #[.int .i64 0, .bool false, .bool false, .bool false, .bool false] 36)).alloc (.cells #[.int .i64 lv0, .bool d, .bool x, .bool y, .bool z] 36)).alloc (.cells #[.int .i64 11, .int .i64 o, .string a, .string b, .slice ka kn kc] 58)).alloc (.cells #[.int .i64 11, .int .i64 o, .string a, .string b, .slice ka kn kc] 58)) := (((((Below.refl w.heap.size w).alloc (Nat.le_refl _) _).alloc (by simp) _).alloc (by simp; omega) _).alloc (by simp; omega) _).alloc (by simp; omega) _ |>.alloc (by simp; omega) _
  obtain ⟨hn5, hp5, hr5⟩ := alloc6 w (.cells #[.int .i64 11, .int .i64 o, .string a, .string b, .slice ka kn kc] 58) (.cells #[.int .i64 lv0, .bool d, .bool x, .bool y, .bool z] 36) (.cells #[.int .i64 0, .bool false, .bool false, .bool false, .bool false] 36) (.cells #[.int .i64 lv0, .bool d, .bool x, .bool y, .bool z] 36) (.cells #[.int .i64 11, .int .i64 o, .string a, .string b, .slice ka kn kc] 58) (.cells #[.int .i64 11, .int .i64 o, .string a, .string b, .slice ka kn kc] 58)
  replace hb5 := hid hb5
  replace hn5 := hid hn5
  replace hp5 := hid hp5
  replace hr5 := hid hr5
  go_upto_region 5 with (first
    | (go_at_call 69; refine (hP.out _).mono ?_; rintro e2 w2 ⟨rfl, hw2⟩; subst hw2)
    | (go_at_call 45; refine (hW.out _).mono ?_; rintro e2 w2 ⟨rfl, hw2⟩; subst hw2)
    | (go_at_call 90; refine (hL.out _).mono ?_; rintro e2 w2 ⟨rfl, hw2⟩; subst hw2)
    | (go_at_call 36; refine (hT.out _).mono ?_; rintro e2 w2 ⟨rfl, hw2⟩; subst hw2))
  generalize ((((((w.alloc (.cells #[.int .i64 11, .int .i64 o, .string a, .string b, .slice ka kn kc] 58)).alloc (.cells #[.int .i64 lv0, .bool d, .bool x, .bool y, .bool z] 36)).alloc (.cells #[.int .i64 0, .bool false, .bool false, .bool false, .bool false] 36)).alloc (.cells #[.int .i64 lv0, .bool d, .bool x, .bool y, .bool z] 36)).alloc (.cells #[.int .i64 11, .int .i64 o, .string a, .string b, .slice ka kn kc] 58)).alloc (.cells #[.int .i64 11, .int .i64 o, .string a, .string b, .slice ka kn kc] 58)) = w5 at hb5 hn5 hp5 hr5 ⊢
  have hS := hid (show ∀ W, Below w5.heap.size w5 W → Below w5.heap.size w5 W ∧ W.cell? ⟨w.heap.size, 0, none⟩ = some (.int .i64 11) ∧ W.cell? ⟨w.heap.size, 1, none⟩ = some (.int .i64 o) ∧ W.cell? ⟨w.heap.size, 2, none⟩ = some (.string a) ∧ W.cell? ⟨w.heap.size, 3, none⟩ = some (.string b) ∧ W.cell? ⟨w.heap.size, 4, none⟩ = some (.slice ka kn kc) ∧ W.cell? ⟨w.heap.size + 1, 2, none⟩ = some (.bool x) ∧ W.cell? ⟨w.heap.size + 1, 3, none⟩ = some (.bool y) from fun W hW => by
    obtain ⟨x0, x1, x2, x3, x4⟩ := box_cells (boxb hn5.out hW)
    obtain ⟨y0, y1, y2, y3, y4⟩ := box_cells (boxb hp5.out hW)
    exact ⟨hW, x0, x1, x2, x3, x4, y2, y3⟩)
  go_cut [7] from 41 to 51 (fun ov wx => ∃ ob, ov = .pointer (some ⟨ob, 0, none⟩) ∧ Hid (Below w5.heap.size w5 wx) ∧ Hid (w5.heap.size ≤ ob) ∧ Hid (wx.heap[ob]? = some (.cells #[.int .i64 (kidLevB 11 o (j : Nat)), .bool ((11 : Int) == 6), .bool x, .bool y, .bool false] 36 (0, 0))))
  case first =>
    go_region_held3 (fun W => Below w5.heap.size w5 W ∧ W.cell? ⟨w.heap.size, 0, none⟩ = some (.int .i64 11) ∧ W.cell? ⟨w.heap.size, 1, none⟩ = some (.int .i64 o) ∧ W.cell? ⟨w.heap.size, 2, none⟩ = some (.string a) ∧ W.cell? ⟨w.heap.size, 3, none⟩ = some (.string b) ∧ W.cell? ⟨w.heap.size, 4, none⟩ = some (.slice ka kn kc) ∧ W.cell? ⟨w.heap.size + 1, 2, none⟩ = some (.bool x) ∧ W.cell? ⟨w.heap.size + 1, 3, none⟩ = some (.bool y))
      (first
        | (refine hS.out _ ?_
           with_reducible (first
             | exact (Below.refl _ _).drew
             | exact keep_a (by assumption) _
             | exact belowA1 _ _
             | exact belowA2 _ _ _
             | exact belowB1 _ _
             | exact belowB2 _ _ _
             | exact (Below.refl _ _).drew.drew)))
      (first
        | (go_at_call 181; refine (hK.out _).mono ?_; rintro e w2 ⟨rfl, hw2⟩; subst hw2))
    all_goals go_wp2_with fail
    all_goals go_meet
    all_goals first
      | exact ⟨_, rfl, hid (belowA2 _ _ _), hid (by simp), hid (at_second w5 _ _)⟩
      | exact ⟨_, rfl, hid (belowA2 _ _ _), hid (by simp), hid (at_first w5 _ _)⟩
      | exact ⟨_, rfl, hid (belowB2 _ _ _), hid (by simp), hid (at_second w5 _ _)⟩
      | exact ⟨_, rfl, hid (belowB2 _ _ _), hid (by simp), hid (at_first w5 _ _)⟩
  case rest =>
    obtain ⟨ob, rfl, hbx, hob, hox⟩ := hcut
    have hnx := boxb hn5.out hbx.out
    have hpx := boxb hp5.out hbx.out
    have hrx := hid (boxb hr5.out hbx.out)
    obtain ⟨n0, n1, n2, n3, n4⟩ := box_cells hnx
    obtain ⟨q0, q1, q2, q3, q4⟩ := box_cells hpx
    have hB := hid (hb5.out.trans (hbx.out.mono hb5.out.size))
    have hlo := heap_lt hr5.out
    have hob2 := hob.out
    obtain ⟨r0, r1, r2, r3, r4⟩ := box_cells hrx.out
    obtain ⟨x0, x1, x2, x3, x4⟩ := box_cells hox.out
    have f0 : ∀ j, wc.frozen? ⟨w.heap.size + 1 + 1, j, none⟩ = false := fun j => box_froz hrx.out
    clear hnx hpx
    go_wp2
    refine form_done zv hrx.out (fun W hW => ?_) rfl ⟨rfl, five_below hB.out (by omega)⟩
    obtain ⟨z0, z1, z2, z3, z4⟩ := box_cells hW
    rw [hzv.out]
    simp [results, Tryz.results166, go_sem, Pos.val, kidSignB, z0, z1, z2, z3, z4]
set_option maxRecDepth 100000 in
set_option maxHeartbeats 6400000 in
theorem implKidPos_14 (o : Int) (a b : ByteArray) (ka : Option Addr) (kn kc : Nat) (j : Nat) (p : Pos) (w : World) (hp : posOkB p = true) (hj : j < kn) (hn : kn ≤ 1000000) : Calls Tryz.prog 166 #[.agg #[.int .i64 14, .int .i64 o, .string a, .string b, .slice ka kn kc], .int .i64 (j : Nat), .agg #[.int .i64 p.level, .bool p.dollar, .bool p.noIn, .bool p.noGt, .bool p.noSign]] w fun e w' => e = .returned (kidPosB 14 o kn j p).val ∧ Below w.heap.size w w' := by
  have hl0 : levelB 14 o ≠ 0 := by simp [levelB]
  have e := kidPos_eq (k := 14) (o := o) (n := (kn : Int)) (j := (j : Int)) hp (by omega) hl0
  have hL := hid (fun W => implLevelOf_any 14 o a b ka kn kc W)
  have hP := hid (fun W => implPosOk_any p W)
  have hW := hid (fun W => implwithin_any (j : Int) 0 ((kn : Int) - 1) W)
  have hT := hid (fun W => implTop_x W)
  rw [hp] at hP
  rw [show inB (j : Int) 0 ((kn : Int) - 1) = true from by unfold inB; simp; omega] at hW
  rw [show levelB 14 o = 2 from rfl] at hL e
  have hK := hid (fun W => implkidLevel_any 14 o a b ka kn kc j W)
  obtain ⟨zv, hzv⟩ : ∃ zv, zv = (kidPosB 14 o kn j p).val := ⟨_, rfl⟩
  rw [← hzv]
  rw [e] at hzv
  clear e hl0
  rw [if_neg (by omega)] at hzv
  obtain ⟨lv0, d, x, y, z⟩ := p
  simp only at hP hzv ⊢
  replace hzv := hid hzv
  go_enter Tryz.func166, Tryz.ntmps166
  have hb5 : Below w.heap.size w ((((((w.alloc (.cells #[.int .i64 14, .int .i64 o, .string a, .string b, .slice ka kn kc] 58)).alloc (.cells #[.int .i64 lv0, .bool d, .bool x, .bool y, .bool z] 36)).alloc (.cells #[.int .i64 0, .bool false, .bool false, .bool false, .bool false] 36)).alloc (.cells #[.int .i64 lv0, .bool d, .bool x, .bool y, .bool z] 36)).alloc (.cells #[.int .i64 14, .int .i64 o, .string a, .string b, .slice ka kn kc] 58)).alloc (.cells #[.int .i64 14, .int .i64 o, .string a, .string b, .slice ka kn kc] 58)) := (((((Below.refl w.heap.size w).alloc (Nat.le_refl _) _).alloc (by simp) _).alloc (by simp; omega) _).alloc (by simp; omega) _).alloc (by simp; omega) _ |>.alloc (by simp; omega) _
  obtain ⟨hn5, hp5, hr5⟩ := alloc6 w (.cells #[.int .i64 14, .int .i64 o, .string a, .string b, .slice ka kn kc] 58) (.cells #[.int .i64 lv0, .bool d, .bool x, .bool y, .bool z] 36) (.cells #[.int .i64 0, .bool false, .bool false, .bool false, .bool false] 36) (.cells #[.int .i64 lv0, .bool d, .bool x, .bool y, .bool z] 36) (.cells #[.int .i64 14, .int .i64 o, .string a, .string b, .slice ka kn kc] 58) (.cells #[.int .i64 14, .int .i64 o, .string a, .string b, .slice ka kn kc] 58)
  replace hb5 := hid hb5
  replace hn5 := hid hn5
  replace hp5 := hid hp5
  replace hr5 := hid hr5
  go_upto_region 5 with (first
    | (go_at_call 69; refine (hP.out _).mono ?_; rintro e2 w2 ⟨rfl, hw2⟩; subst hw2)
    | (go_at_call 45; refine (hW.out _).mono ?_; rintro e2 w2 ⟨rfl, hw2⟩; subst hw2)
    | (go_at_call 90; refine (hL.out _).mono ?_; rintro e2 w2 ⟨rfl, hw2⟩; subst hw2)
    | (go_at_call 36; refine (hT.out _).mono ?_; rintro e2 w2 ⟨rfl, hw2⟩; subst hw2))
  generalize ((((((w.alloc (.cells #[.int .i64 14, .int .i64 o, .string a, .string b, .slice ka kn kc] 58)).alloc (.cells #[.int .i64 lv0, .bool d, .bool x, .bool y, .bool z] 36)).alloc (.cells #[.int .i64 0, .bool false, .bool false, .bool false, .bool false] 36)).alloc (.cells #[.int .i64 lv0, .bool d, .bool x, .bool y, .bool z] 36)).alloc (.cells #[.int .i64 14, .int .i64 o, .string a, .string b, .slice ka kn kc] 58)).alloc (.cells #[.int .i64 14, .int .i64 o, .string a, .string b, .slice ka kn kc] 58)) = w5 at hb5 hn5 hp5 hr5 ⊢
  have hS := hid (show ∀ W, Below w5.heap.size w5 W → Below w5.heap.size w5 W ∧ W.cell? ⟨w.heap.size, 0, none⟩ = some (.int .i64 14) ∧ W.cell? ⟨w.heap.size, 1, none⟩ = some (.int .i64 o) ∧ W.cell? ⟨w.heap.size, 2, none⟩ = some (.string a) ∧ W.cell? ⟨w.heap.size, 3, none⟩ = some (.string b) ∧ W.cell? ⟨w.heap.size, 4, none⟩ = some (.slice ka kn kc) ∧ W.cell? ⟨w.heap.size + 1, 2, none⟩ = some (.bool x) ∧ W.cell? ⟨w.heap.size + 1, 3, none⟩ = some (.bool y) from fun W hW => by
    obtain ⟨x0, x1, x2, x3, x4⟩ := box_cells (boxb hn5.out hW)
    obtain ⟨y0, y1, y2, y3, y4⟩ := box_cells (boxb hp5.out hW)
    exact ⟨hW, x0, x1, x2, x3, x4, y2, y3⟩)
  go_cut [7] from 41 to 51 (fun ov wx => ∃ ob, ov = .pointer (some ⟨ob, 0, none⟩) ∧ Hid (Below w5.heap.size w5 wx) ∧ Hid (w5.heap.size ≤ ob) ∧ Hid (wx.heap[ob]? = some (.cells #[.int .i64 (kidLevB 14 o (j : Nat)), .bool ((14 : Int) == 6), .bool x, .bool y, .bool false] 36 (0, 0))))
  case first =>
    go_region_held3 (fun W => Below w5.heap.size w5 W ∧ W.cell? ⟨w.heap.size, 0, none⟩ = some (.int .i64 14) ∧ W.cell? ⟨w.heap.size, 1, none⟩ = some (.int .i64 o) ∧ W.cell? ⟨w.heap.size, 2, none⟩ = some (.string a) ∧ W.cell? ⟨w.heap.size, 3, none⟩ = some (.string b) ∧ W.cell? ⟨w.heap.size, 4, none⟩ = some (.slice ka kn kc) ∧ W.cell? ⟨w.heap.size + 1, 2, none⟩ = some (.bool x) ∧ W.cell? ⟨w.heap.size + 1, 3, none⟩ = some (.bool y))
      (first
        | (refine hS.out _ ?_
           with_reducible (first
             | exact (Below.refl _ _).drew
             | exact keep_a (by assumption) _
             | exact belowA1 _ _
             | exact belowA2 _ _ _
             | exact belowB1 _ _
             | exact belowB2 _ _ _
             | exact (Below.refl _ _).drew.drew)))
      (first
        | (go_at_call 181; refine (hK.out _).mono ?_; rintro e w2 ⟨rfl, hw2⟩; subst hw2))
    all_goals go_wp2_with fail
    all_goals go_meet
    all_goals first
      | exact ⟨_, rfl, hid (belowA2 _ _ _), hid (by simp), hid (at_second w5 _ _)⟩
      | exact ⟨_, rfl, hid (belowA2 _ _ _), hid (by simp), hid (at_first w5 _ _)⟩
      | exact ⟨_, rfl, hid (belowB2 _ _ _), hid (by simp), hid (at_second w5 _ _)⟩
      | exact ⟨_, rfl, hid (belowB2 _ _ _), hid (by simp), hid (at_first w5 _ _)⟩
  case rest =>
    obtain ⟨ob, rfl, hbx, hob, hox⟩ := hcut
    have hnx := boxb hn5.out hbx.out
    have hpx := boxb hp5.out hbx.out
    have hrx := hid (boxb hr5.out hbx.out)
    obtain ⟨n0, n1, n2, n3, n4⟩ := box_cells hnx
    obtain ⟨q0, q1, q2, q3, q4⟩ := box_cells hpx
    have hB := hid (hb5.out.trans (hbx.out.mono hb5.out.size))
    have hlo := heap_lt hr5.out
    have hob2 := hob.out
    have f1 : ∀ j, wc.frozen? ⟨ob, j, none⟩ = false := fun j => box_froz hox.out
    obtain ⟨x0, x1, x2, x3, x4⟩ := box_cells hox.out
    have yy : ∀ v, (wc.setCell ⟨ob, 4, none⟩ v).heap[ob]? = some (.cells #[.int .i64 (kidLevB 14 o (j : Nat)), .bool ((14 : Int) == 6), .bool x, .bool y, v] 36 (0, 0)) := fun v => (heap_setCell_at hox.out).trans rfl
    have rr : ∀ v, (wc.setCell ⟨ob, 4, none⟩ v).heap[w.heap.size + 1 + 1]? = some (.cells #[.int .i64 0, .bool false, .bool false, .bool false, .bool false] 36 (0, 0)) := fun v => (heap_setCell_other wc ⟨ob, 4, none⟩ (w.heap.size + 1 + 1) v (by show w.heap.size + 1 + 1 ≠ ob; omega)).trans hrx.out
    have y0 := fun v => (box_cells (yy v)).1
    have y1 := fun v => (box_cells (yy v)).2.1
    have y2 := fun v => (box_cells (yy v)).2.2.1
    have y3 := fun v => (box_cells (yy v)).2.2.2.1
    have y4 := fun v => (box_cells (yy v)).2.2.2.2
    have r0 := fun v => (box_cells (rr v)).1
    have r1 := fun v => (box_cells (rr v)).2.1
    have r2 := fun v => (box_cells (rr v)).2.2.1
    have r3 := fun v => (box_cells (rr v)).2.2.2.1
    have r4 := fun v => (box_cells (rr v)).2.2.2.2
    have f0 : ∀ v j, (wc.setCell ⟨ob, 4, none⟩ v).frozen? ⟨w.heap.size + 1 + 1, j, none⟩ = false := fun v j => box_froz (rr v)
    clear hnx hpx
    by_cases j0 : j = 0
    · subst j0
      cases z
      all_goals
        go_wp2
        all_goals refine form_done zv (rr _) (fun W hW => ?_) rfl ⟨rfl, five_below (hB.out.setCell (p := ⟨ob, 4, none⟩) (show w.heap.size ≤ ob by omega) _) (by omega)⟩
        all_goals
          obtain ⟨z0, z1, z2, z3, z4⟩ := box_cells hW
          rw [hzv.out]
          simp [results, Tryz.results166, go_sem, Pos.val, kidSignB, z0, z1, z2, z3, z4]
    have j0b : ((j : Int) == 0) = false := by simpa using j0
    by_cases j1 : j = 1
    · subst j1
      go_wp2
      all_goals refine form_done zv (rr _) (fun W hW => ?_) rfl ⟨rfl, five_below (hB.out.setCell (p := ⟨ob, 4, none⟩) (show w.heap.size ≤ ob by omega) _) (by omega)⟩
      all_goals
        obtain ⟨z0, z1, z2, z3, z4⟩ := box_cells hW
        rw [hzv.out]
        simp [results, Tryz.results166, go_sem, Pos.val, kidSignB, z0, z1, z2, z3, z4]
    have j1b : ((j : Int) == 1) = false := by simp; omega
    have j0c : ¬ (j : Int) = 0 := by omega
    have j1c : ¬ (j : Int) = 1 := by omega
    go_wp2
    all_goals refine form_done zv (rr _) (fun W hW => ?_) rfl ⟨rfl, five_below (hB.out.setCell (p := ⟨ob, 4, none⟩) (show w.heap.size ≤ ob by omega) _) (by omega)⟩
    all_goals
      obtain ⟨z0, z1, z2, z3, z4⟩ := box_cells hW
      rw [hzv.out]
      simp [results, Tryz.results166, go_sem, Pos.val, kidSignB, z0, z1, z2, z3, z4, j0, j1, j0c, j1c, j0b, j1b]
set_option maxRecDepth 100000 in
set_option maxHeartbeats 6400000 in
theorem implKidPos_15 (o : Int) (a b : ByteArray) (ka : Option Addr) (kn kc : Nat) (j : Nat) (p : Pos) (w : World) (hp : posOkB p = true) (hj : j < kn) (hn : kn ≤ 1000000) : Calls Tryz.prog 166 #[.agg #[.int .i64 15, .int .i64 o, .string a, .string b, .slice ka kn kc], .int .i64 (j : Nat), .agg #[.int .i64 p.level, .bool p.dollar, .bool p.noIn, .bool p.noGt, .bool p.noSign]] w fun e w' => e = .returned (kidPosB 15 o kn j p).val ∧ Below w.heap.size w w' := by
  have hl0 : levelB 15 o ≠ 0 := by simp [levelB]
  have e := kidPos_eq (k := 15) (o := o) (n := (kn : Int)) (j := (j : Int)) hp (by omega) hl0
  have hL := hid (fun W => implLevelOf_any 15 o a b ka kn kc W)
  have hP := hid (fun W => implPosOk_any p W)
  have hW := hid (fun W => implwithin_any (j : Int) 0 ((kn : Int) - 1) W)
  have hT := hid (fun W => implTop_x W)
  rw [hp] at hP
  rw [show inB (j : Int) 0 ((kn : Int) - 1) = true from by unfold inB; simp; omega] at hW
  rw [show levelB 15 o = 1 from rfl] at hL e
  have hK := hid (fun W => implkidLevel_any 15 o a b ka kn kc j W)
  obtain ⟨zv, hzv⟩ : ∃ zv, zv = (kidPosB 15 o kn j p).val := ⟨_, rfl⟩
  rw [← hzv]
  rw [e] at hzv
  clear e hl0
  rw [if_neg (by omega)] at hzv
  obtain ⟨lv0, d, x, y, z⟩ := p
  simp only at hP hzv ⊢
  replace hzv := hid hzv
  go_enter Tryz.func166, Tryz.ntmps166
  have hb5 : Below w.heap.size w ((((((w.alloc (.cells #[.int .i64 15, .int .i64 o, .string a, .string b, .slice ka kn kc] 58)).alloc (.cells #[.int .i64 lv0, .bool d, .bool x, .bool y, .bool z] 36)).alloc (.cells #[.int .i64 0, .bool false, .bool false, .bool false, .bool false] 36)).alloc (.cells #[.int .i64 lv0, .bool d, .bool x, .bool y, .bool z] 36)).alloc (.cells #[.int .i64 15, .int .i64 o, .string a, .string b, .slice ka kn kc] 58)).alloc (.cells #[.int .i64 15, .int .i64 o, .string a, .string b, .slice ka kn kc] 58)) := (((((Below.refl w.heap.size w).alloc (Nat.le_refl _) _).alloc (by simp) _).alloc (by simp; omega) _).alloc (by simp; omega) _).alloc (by simp; omega) _ |>.alloc (by simp; omega) _
  obtain ⟨hn5, hp5, hr5⟩ := alloc6 w (.cells #[.int .i64 15, .int .i64 o, .string a, .string b, .slice ka kn kc] 58) (.cells #[.int .i64 lv0, .bool d, .bool x, .bool y, .bool z] 36) (.cells #[.int .i64 0, .bool false, .bool false, .bool false, .bool false] 36) (.cells #[.int .i64 lv0, .bool d, .bool x, .bool y, .bool z] 36) (.cells #[.int .i64 15, .int .i64 o, .string a, .string b, .slice ka kn kc] 58) (.cells #[.int .i64 15, .int .i64 o, .string a, .string b, .slice ka kn kc] 58)
  replace hb5 := hid hb5
  replace hn5 := hid hn5
  replace hp5 := hid hp5
  replace hr5 := hid hr5
  go_upto_region 5 with (first
    | (go_at_call 69; refine (hP.out _).mono ?_; rintro e2 w2 ⟨rfl, hw2⟩; subst hw2)
    | (go_at_call 45; refine (hW.out _).mono ?_; rintro e2 w2 ⟨rfl, hw2⟩; subst hw2)
    | (go_at_call 90; refine (hL.out _).mono ?_; rintro e2 w2 ⟨rfl, hw2⟩; subst hw2)
    | (go_at_call 36; refine (hT.out _).mono ?_; rintro e2 w2 ⟨rfl, hw2⟩; subst hw2))
  generalize ((((((w.alloc (.cells #[.int .i64 15, .int .i64 o, .string a, .string b, .slice ka kn kc] 58)).alloc (.cells #[.int .i64 lv0, .bool d, .bool x, .bool y, .bool z] 36)).alloc (.cells #[.int .i64 0, .bool false, .bool false, .bool false, .bool false] 36)).alloc (.cells #[.int .i64 lv0, .bool d, .bool x, .bool y, .bool z] 36)).alloc (.cells #[.int .i64 15, .int .i64 o, .string a, .string b, .slice ka kn kc] 58)).alloc (.cells #[.int .i64 15, .int .i64 o, .string a, .string b, .slice ka kn kc] 58)) = w5 at hb5 hn5 hp5 hr5 ⊢
  have hS := hid (show ∀ W, Below w5.heap.size w5 W → Below w5.heap.size w5 W ∧ W.cell? ⟨w.heap.size, 0, none⟩ = some (.int .i64 15) ∧ W.cell? ⟨w.heap.size, 1, none⟩ = some (.int .i64 o) ∧ W.cell? ⟨w.heap.size, 2, none⟩ = some (.string a) ∧ W.cell? ⟨w.heap.size, 3, none⟩ = some (.string b) ∧ W.cell? ⟨w.heap.size, 4, none⟩ = some (.slice ka kn kc) ∧ W.cell? ⟨w.heap.size + 1, 2, none⟩ = some (.bool x) ∧ W.cell? ⟨w.heap.size + 1, 3, none⟩ = some (.bool y) from fun W hW => by
    obtain ⟨x0, x1, x2, x3, x4⟩ := box_cells (boxb hn5.out hW)
    obtain ⟨y0, y1, y2, y3, y4⟩ := box_cells (boxb hp5.out hW)
    exact ⟨hW, x0, x1, x2, x3, x4, y2, y3⟩)
  go_cut [7] from 41 to 51 (fun ov wx => ∃ ob, ov = .pointer (some ⟨ob, 0, none⟩) ∧ Hid (Below w5.heap.size w5 wx) ∧ Hid (w5.heap.size ≤ ob) ∧ Hid (wx.heap[ob]? = some (.cells #[.int .i64 (kidLevB 15 o (j : Nat)), .bool ((15 : Int) == 6), .bool x, .bool y, .bool false] 36 (0, 0))))
  case first =>
    go_region_held3 (fun W => Below w5.heap.size w5 W ∧ W.cell? ⟨w.heap.size, 0, none⟩ = some (.int .i64 15) ∧ W.cell? ⟨w.heap.size, 1, none⟩ = some (.int .i64 o) ∧ W.cell? ⟨w.heap.size, 2, none⟩ = some (.string a) ∧ W.cell? ⟨w.heap.size, 3, none⟩ = some (.string b) ∧ W.cell? ⟨w.heap.size, 4, none⟩ = some (.slice ka kn kc) ∧ W.cell? ⟨w.heap.size + 1, 2, none⟩ = some (.bool x) ∧ W.cell? ⟨w.heap.size + 1, 3, none⟩ = some (.bool y))
      (first
        | (refine hS.out _ ?_
           with_reducible (first
             | exact (Below.refl _ _).drew
             | exact keep_a (by assumption) _
             | exact belowA1 _ _
             | exact belowA2 _ _ _
             | exact belowB1 _ _
             | exact belowB2 _ _ _
             | exact (Below.refl _ _).drew.drew)))
      (first
        | (go_at_call 181; refine (hK.out _).mono ?_; rintro e w2 ⟨rfl, hw2⟩; subst hw2))
    all_goals go_wp2_with fail
    all_goals go_meet
    all_goals first
      | exact ⟨_, rfl, hid (belowA2 _ _ _), hid (by simp), hid (at_second w5 _ _)⟩
      | exact ⟨_, rfl, hid (belowA2 _ _ _), hid (by simp), hid (at_first w5 _ _)⟩
      | exact ⟨_, rfl, hid (belowB2 _ _ _), hid (by simp), hid (at_second w5 _ _)⟩
      | exact ⟨_, rfl, hid (belowB2 _ _ _), hid (by simp), hid (at_first w5 _ _)⟩
  case rest =>
    obtain ⟨ob, rfl, hbx, hob, hox⟩ := hcut
    have hnx := boxb hn5.out hbx.out
    have hpx := boxb hp5.out hbx.out
    have hrx := hid (boxb hr5.out hbx.out)
    obtain ⟨n0, n1, n2, n3, n4⟩ := box_cells hnx
    obtain ⟨q0, q1, q2, q3, q4⟩ := box_cells hpx
    have hB := hid (hb5.out.trans (hbx.out.mono hb5.out.size))
    have hlo := heap_lt hr5.out
    have hob2 := hob.out
    have f1 : ∀ j, wc.frozen? ⟨ob, j, none⟩ = false := fun j => box_froz hox.out
    obtain ⟨x0, x1, x2, x3, x4⟩ := box_cells hox.out
    have yy : ∀ v, (wc.setCell ⟨ob, 4, none⟩ v).heap[ob]? = some (.cells #[.int .i64 (kidLevB 15 o (j : Nat)), .bool ((15 : Int) == 6), .bool x, .bool y, v] 36 (0, 0)) := fun v => (heap_setCell_at hox.out).trans rfl
    have rr : ∀ v, (wc.setCell ⟨ob, 4, none⟩ v).heap[w.heap.size + 1 + 1]? = some (.cells #[.int .i64 0, .bool false, .bool false, .bool false, .bool false] 36 (0, 0)) := fun v => (heap_setCell_other wc ⟨ob, 4, none⟩ (w.heap.size + 1 + 1) v (by show w.heap.size + 1 + 1 ≠ ob; omega)).trans hrx.out
    have y0 := fun v => (box_cells (yy v)).1
    have y1 := fun v => (box_cells (yy v)).2.1
    have y2 := fun v => (box_cells (yy v)).2.2.1
    have y3 := fun v => (box_cells (yy v)).2.2.2.1
    have y4 := fun v => (box_cells (yy v)).2.2.2.2
    have r0 := fun v => (box_cells (rr v)).1
    have r1 := fun v => (box_cells (rr v)).2.1
    have r2 := fun v => (box_cells (rr v)).2.2.1
    have r3 := fun v => (box_cells (rr v)).2.2.2.1
    have r4 := fun v => (box_cells (rr v)).2.2.2.2
    have f0 : ∀ v j, (wc.setCell ⟨ob, 4, none⟩ v).frozen? ⟨w.heap.size + 1 + 1, j, none⟩ = false := fun v j => box_froz (rr v)
    clear hnx hpx
    by_cases j0 : j = 0
    · subst j0
      cases z
      all_goals
        go_wp2
        all_goals refine form_done zv (rr _) (fun W hW => ?_) rfl ⟨rfl, five_below (hB.out.setCell (p := ⟨ob, 4, none⟩) (show w.heap.size ≤ ob by omega) _) (by omega)⟩
        all_goals
          obtain ⟨z0, z1, z2, z3, z4⟩ := box_cells hW
          rw [hzv.out]
          simp [results, Tryz.results166, go_sem, Pos.val, kidSignB, z0, z1, z2, z3, z4]
    have j0b : ((j : Int) == 0) = false := by simpa using j0
    by_cases j1 : j = 1
    · subst j1
      go_wp2
      all_goals refine form_done zv (rr _) (fun W hW => ?_) rfl ⟨rfl, five_below (hB.out.setCell (p := ⟨ob, 4, none⟩) (show w.heap.size ≤ ob by omega) _) (by omega)⟩
      all_goals
        obtain ⟨z0, z1, z2, z3, z4⟩ := box_cells hW
        rw [hzv.out]
        simp [results, Tryz.results166, go_sem, Pos.val, kidSignB, z0, z1, z2, z3, z4]
    have j1b : ((j : Int) == 1) = false := by simp; omega
    have j0c : ¬ (j : Int) = 0 := by omega
    have j1c : ¬ (j : Int) = 1 := by omega
    go_wp2
    all_goals refine form_done zv (rr _) (fun W hW => ?_) rfl ⟨rfl, five_below (hB.out.setCell (p := ⟨ob, 4, none⟩) (show w.heap.size ≤ ob by omega) _) (by omega)⟩
    all_goals
      obtain ⟨z0, z1, z2, z3, z4⟩ := box_cells hW
      rw [hzv.out]
      simp [results, Tryz.results166, go_sem, Pos.val, kidSignB, z0, z1, z2, z3, z4, j0, j1, j0c, j1c, j0b, j1b]
set_option maxRecDepth 100000 in
set_option maxHeartbeats 6400000 in
theorem implKidPos_12 (o : Int) (a b : ByteArray) (ka : Option Addr) (kn kc : Nat) (j : Nat) (p : Pos) (w : World) (hp : posOkB p = true) (hj : j < kn) (hn : kn ≤ 1000000) (ho : opLevelB o ≠ 0) : Calls Tryz.prog 166 #[.agg #[.int .i64 12, .int .i64 o, .string a, .string b, .slice ka kn kc], .int .i64 (j : Nat), .agg #[.int .i64 p.level, .bool p.dollar, .bool p.noIn, .bool p.noGt, .bool p.noSign]] w fun e w' => e = .returned (kidPosB 12 o kn j p).val ∧ Below w.heap.size w w' := by
  have hl0 : levelB 12 o ≠ 0 := by show opLevelB o ≠ 0; exact ho
  have e := kidPos_eq (k := 12) (o := o) (n := (kn : Int)) (j := (j : Int)) hp (by omega) hl0
  have hL := hid (fun W => implLevelOf_any 12 o a b ka kn kc W)
  have hP := hid (fun W => implPosOk_any p W)
  have hW := hid (fun W => implwithin_any (j : Int) 0 ((kn : Int) - 1) W)
  have hT := hid (fun W => implTop_x W)
  rw [hp] at hP
  rw [show inB (j : Int) 0 ((kn : Int) - 1) = true from by unfold inB; simp; omega] at hW
  have h15 : levelB 12 o ≠ 15 := by have := opLevelB_range o; show opLevelB o ≠ 15; omega
  have h15b : (levelB 12 o == 15) = false := by simpa using h15
  have h0b : (levelB 12 o == 0) = false := by simpa using hl0
  generalize levelB 12 o = lv at *
  have hK := hid (fun W => implkidLevel_any 12 o a b ka kn kc j W)
  obtain ⟨zv, hzv⟩ : ∃ zv, zv = (kidPosB 12 o kn j p).val := ⟨_, rfl⟩
  rw [← hzv]
  rw [e] at hzv
  clear e hl0
  rw [if_neg (by omega)] at hzv
  obtain ⟨lv0, d, x, y, z⟩ := p
  simp only at hP hzv ⊢
  replace hzv := hid hzv
  go_enter Tryz.func166, Tryz.ntmps166
  have hb5 : Below w.heap.size w ((((((w.alloc (.cells #[.int .i64 12, .int .i64 o, .string a, .string b, .slice ka kn kc] 58)).alloc (.cells #[.int .i64 lv0, .bool d, .bool x, .bool y, .bool z] 36)).alloc (.cells #[.int .i64 0, .bool false, .bool false, .bool false, .bool false] 36)).alloc (.cells #[.int .i64 lv0, .bool d, .bool x, .bool y, .bool z] 36)).alloc (.cells #[.int .i64 12, .int .i64 o, .string a, .string b, .slice ka kn kc] 58)).alloc (.cells #[.int .i64 12, .int .i64 o, .string a, .string b, .slice ka kn kc] 58)) := (((((Below.refl w.heap.size w).alloc (Nat.le_refl _) _).alloc (by simp) _).alloc (by simp; omega) _).alloc (by simp; omega) _).alloc (by simp; omega) _ |>.alloc (by simp; omega) _
  obtain ⟨hn5, hp5, hr5⟩ := alloc6 w (.cells #[.int .i64 12, .int .i64 o, .string a, .string b, .slice ka kn kc] 58) (.cells #[.int .i64 lv0, .bool d, .bool x, .bool y, .bool z] 36) (.cells #[.int .i64 0, .bool false, .bool false, .bool false, .bool false] 36) (.cells #[.int .i64 lv0, .bool d, .bool x, .bool y, .bool z] 36) (.cells #[.int .i64 12, .int .i64 o, .string a, .string b, .slice ka kn kc] 58) (.cells #[.int .i64 12, .int .i64 o, .string a, .string b, .slice ka kn kc] 58)
  replace hb5 := hid hb5
  replace hn5 := hid hn5
  replace hp5 := hid hp5
  replace hr5 := hid hr5
  go_upto_region 5 with (first
    | (go_at_call 69; refine (hP.out _).mono ?_; rintro e2 w2 ⟨rfl, hw2⟩; subst hw2)
    | (go_at_call 45; refine (hW.out _).mono ?_; rintro e2 w2 ⟨rfl, hw2⟩; subst hw2)
    | (go_at_call 90; refine (hL.out _).mono ?_; rintro e2 w2 ⟨rfl, hw2⟩; subst hw2)
    | (go_at_call 36; refine (hT.out _).mono ?_; rintro e2 w2 ⟨rfl, hw2⟩; subst hw2))
  generalize ((((((w.alloc (.cells #[.int .i64 12, .int .i64 o, .string a, .string b, .slice ka kn kc] 58)).alloc (.cells #[.int .i64 lv0, .bool d, .bool x, .bool y, .bool z] 36)).alloc (.cells #[.int .i64 0, .bool false, .bool false, .bool false, .bool false] 36)).alloc (.cells #[.int .i64 lv0, .bool d, .bool x, .bool y, .bool z] 36)).alloc (.cells #[.int .i64 12, .int .i64 o, .string a, .string b, .slice ka kn kc] 58)).alloc (.cells #[.int .i64 12, .int .i64 o, .string a, .string b, .slice ka kn kc] 58)) = w5 at hb5 hn5 hp5 hr5 ⊢
  have hS := hid (show ∀ W, Below w5.heap.size w5 W → Below w5.heap.size w5 W ∧ W.cell? ⟨w.heap.size, 0, none⟩ = some (.int .i64 12) ∧ W.cell? ⟨w.heap.size, 1, none⟩ = some (.int .i64 o) ∧ W.cell? ⟨w.heap.size, 2, none⟩ = some (.string a) ∧ W.cell? ⟨w.heap.size, 3, none⟩ = some (.string b) ∧ W.cell? ⟨w.heap.size, 4, none⟩ = some (.slice ka kn kc) ∧ W.cell? ⟨w.heap.size + 1, 2, none⟩ = some (.bool x) ∧ W.cell? ⟨w.heap.size + 1, 3, none⟩ = some (.bool y) from fun W hW => by
    obtain ⟨x0, x1, x2, x3, x4⟩ := box_cells (boxb hn5.out hW)
    obtain ⟨y0, y1, y2, y3, y4⟩ := box_cells (boxb hp5.out hW)
    exact ⟨hW, x0, x1, x2, x3, x4, y2, y3⟩)
  go_cut [7] from 41 to 51 (fun ov wx => ∃ ob, ov = .pointer (some ⟨ob, 0, none⟩) ∧ Hid (Below w5.heap.size w5 wx) ∧ Hid (w5.heap.size ≤ ob) ∧ Hid (wx.heap[ob]? = some (.cells #[.int .i64 (kidLevB 12 o (j : Nat)), .bool ((12 : Int) == 6), .bool x, .bool y, .bool false] 36 (0, 0))))
  case first =>
    go_region_held3 (fun W => Below w5.heap.size w5 W ∧ W.cell? ⟨w.heap.size, 0, none⟩ = some (.int .i64 12) ∧ W.cell? ⟨w.heap.size, 1, none⟩ = some (.int .i64 o) ∧ W.cell? ⟨w.heap.size, 2, none⟩ = some (.string a) ∧ W.cell? ⟨w.heap.size, 3, none⟩ = some (.string b) ∧ W.cell? ⟨w.heap.size, 4, none⟩ = some (.slice ka kn kc) ∧ W.cell? ⟨w.heap.size + 1, 2, none⟩ = some (.bool x) ∧ W.cell? ⟨w.heap.size + 1, 3, none⟩ = some (.bool y))
      (first
        | (refine hS.out _ ?_
           with_reducible (first
             | exact (Below.refl _ _).drew
             | exact keep_a (by assumption) _
             | exact belowA1 _ _
             | exact belowA2 _ _ _
             | exact belowB1 _ _
             | exact belowB2 _ _ _
             | exact (Below.refl _ _).drew.drew)))
      (first
        | (go_at_call 181; refine (hK.out _).mono ?_; rintro e w2 ⟨rfl, hw2⟩; subst hw2))
    all_goals go_wp2_with fail
    all_goals go_meet
    all_goals first
      | exact ⟨_, rfl, hid (belowA2 _ _ _), hid (by simp), hid (at_second w5 _ _)⟩
      | exact ⟨_, rfl, hid (belowA2 _ _ _), hid (by simp), hid (at_first w5 _ _)⟩
      | exact ⟨_, rfl, hid (belowB2 _ _ _), hid (by simp), hid (at_second w5 _ _)⟩
      | exact ⟨_, rfl, hid (belowB2 _ _ _), hid (by simp), hid (at_first w5 _ _)⟩
  case rest =>
    obtain ⟨ob, rfl, hbx, hob, hox⟩ := hcut
    have hnx := boxb hn5.out hbx.out
    have hpx := boxb hp5.out hbx.out
    have hrx := hid (boxb hr5.out hbx.out)
    obtain ⟨n0, n1, n2, n3, n4⟩ := box_cells hnx
    obtain ⟨q0, q1, q2, q3, q4⟩ := box_cells hpx
    have hB := hid (hb5.out.trans (hbx.out.mono hb5.out.size))
    have hlo := heap_lt hr5.out
    have hob2 := hob.out
    have f1 : ∀ j, wc.frozen? ⟨ob, j, none⟩ = false := fun j => box_froz hox.out
    obtain ⟨x0, x1, x2, x3, x4⟩ := box_cells hox.out
    have yy : ∀ v, (wc.setCell ⟨ob, 4, none⟩ v).heap[ob]? = some (.cells #[.int .i64 (kidLevB 12 o (j : Nat)), .bool ((12 : Int) == 6), .bool x, .bool y, v] 36 (0, 0)) := fun v => (heap_setCell_at hox.out).trans rfl
    have rr : ∀ v, (wc.setCell ⟨ob, 4, none⟩ v).heap[w.heap.size + 1 + 1]? = some (.cells #[.int .i64 0, .bool false, .bool false, .bool false, .bool false] 36 (0, 0)) := fun v => (heap_setCell_other wc ⟨ob, 4, none⟩ (w.heap.size + 1 + 1) v (by show w.heap.size + 1 + 1 ≠ ob; omega)).trans hrx.out
    have y0 := fun v => (box_cells (yy v)).1
    have y1 := fun v => (box_cells (yy v)).2.1
    have y2 := fun v => (box_cells (yy v)).2.2.1
    have y3 := fun v => (box_cells (yy v)).2.2.2.1
    have y4 := fun v => (box_cells (yy v)).2.2.2.2
    have r0 := fun v => (box_cells (rr v)).1
    have r1 := fun v => (box_cells (rr v)).2.1
    have r2 := fun v => (box_cells (rr v)).2.2.1
    have r3 := fun v => (box_cells (rr v)).2.2.2.1
    have r4 := fun v => (box_cells (rr v)).2.2.2.2
    have f0 : ∀ v j, (wc.setCell ⟨ob, 4, none⟩ v).frozen? ⟨w.heap.size + 1 + 1, j, none⟩ = false := fun v j => box_froz (rr v)
    clear hnx hpx
    by_cases j0 : j = 0
    · subst j0
      cases z
      all_goals
        go_wp2
        all_goals refine form_done zv (rr _) (fun W hW => ?_) rfl ⟨rfl, five_below (hB.out.setCell (p := ⟨ob, 4, none⟩) (show w.heap.size ≤ ob by omega) _) (by omega)⟩
        all_goals
          obtain ⟨z0, z1, z2, z3, z4⟩ := box_cells hW
          rw [hzv.out]
          simp [results, Tryz.results166, go_sem, Pos.val, kidSignB, z0, z1, z2, z3, z4]
    have j0b : ((j : Int) == 0) = false := by simpa using j0
    by_cases j1 : j = 1
    · subst j1
      by_cases o9 : o = 99
      · subst o9
        go_wp2
        all_goals refine form_done zv (rr _) (fun W hW => ?_) rfl ⟨rfl, five_below (hB.out.setCell (p := ⟨ob, 4, none⟩) (show w.heap.size ≤ ob by omega) _) (by omega)⟩
        all_goals
          obtain ⟨z0, z1, z2, z3, z4⟩ := box_cells hW
          rw [hzv.out]
          simp [results, Tryz.results166, go_sem, Pos.val, kidSignB, z0, z1, z2, z3, z4]
      · have o9b : (o == 99) = false := by simpa using o9
        go_wp2
        all_goals refine form_done zv (rr _) (fun W hW => ?_) rfl ⟨rfl, five_below (hB.out.setCell (p := ⟨ob, 4, none⟩) (show w.heap.size ≤ ob by omega) _) (by omega)⟩
        all_goals
          obtain ⟨z0, z1, z2, z3, z4⟩ := box_cells hW
          rw [hzv.out]
          simp [results, Tryz.results166, go_sem, Pos.val, kidSignB, z0, z1, z2, z3, z4, o9]
    have j1b : ((j : Int) == 1) = false := by simp; omega
    have j0c : ¬ (j : Int) = 0 := by omega
    have j1c : ¬ (j : Int) = 1 := by omega
    go_wp2
    all_goals refine form_done zv (rr _) (fun W hW => ?_) rfl ⟨rfl, five_below (hB.out.setCell (p := ⟨ob, 4, none⟩) (show w.heap.size ≤ ob by omega) _) (by omega)⟩
    all_goals
      obtain ⟨z0, z1, z2, z3, z4⟩ := box_cells hW
      rw [hzv.out]
      simp [results, Tryz.results166, go_sem, Pos.val, kidSignB, z0, z1, z2, z3, z4, j0, j1, j0c, j1c, j0b, j1b]
/-- The position of a kid. -/
theorem implKidPos_any (k o : Int) (a b : ByteArray) (ka : Option Addr) (kn kc : Nat) (j : Nat) (p : Pos) (w : World) (hp : posOkB p = true) (hj : j < kn) (ha : arity k kn) (ho : k = 12 → opLevelB o ≠ 0) : Calls Tryz.prog 166 #[.agg #[.int .i64 k, .int .i64 o, .string a, .string b, .slice ka kn kc], .int .i64 (j : Nat), .agg #[.int .i64 p.level, .bool p.dollar, .bool p.noIn, .bool p.noGt, .bool p.noSign]] w fun e w' => e = .returned (kidPosB k o kn j p).val ∧ Below w.heap.size w w' := by
  have hb : 1 ≤ k ∧ k ≤ 15 := by have := ha.1; unfold isExprB inB at this; simp at this; omega
  obtain ⟨_, h1, h2, h3, h4, h5, h6⟩ := ha
  have hk : k = 1 ∨ k = 2 ∨ k = 3 ∨ k = 4 ∨ k = 5 ∨ k = 7 ∨ k = 8 ∨ k = 13 ∨ k = 6 ∨ k = 9 ∨ k = 10 ∨ k = 11 ∨ k = 14 ∨ k = 15 ∨ k = 12 := by omega
  have hn : kn ≤ 1000000 := by
    rcases hk with h | h | h | h | h | h | h | h | h | h | h | h | h | h | h <;> omega
  rcases hk with h | h | h | h | h | h | h | h | h | h | h | h | h | h | h
  · subst h; exact implKidPos_1 o a b ka kn kc j p w hp hj hn
  · subst h; exact implKidPos_2 o a b ka kn kc j p w hp hj hn
  · subst h; exact implKidPos_3 o a b ka kn kc j p w hp hj hn
  · subst h; exact implKidPos_4 o a b ka kn kc j p w hp hj hn
  · subst h; exact implKidPos_5 o a b ka kn kc j p w hp hj hn
  · subst h; exact implKidPos_7 o a b ka kn kc j p w hp hj hn
  · subst h; exact implKidPos_8 o a b ka kn kc j p w hp hj hn
  · subst h
    by_cases h7 : 1 < kn
    · exact implKidPos_13m o a b ka kn kc j p w hp hj hn h7
    · exact implKidPos_13s o a b ka kn kc j p w hp hj hn (by omega)
  · subst h; exact implKidPos_6 o a b ka kn kc j p w hp hj hn
  · subst h; exact implKidPos_9 o a b ka kn kc j p w hp hj hn
  · subst h; exact implKidPos_10 o a b ka kn kc j p w hp hj hn
  · subst h; exact implKidPos_11 o a b ka kn kc j p w hp hj hn
  · subst h; exact implKidPos_14 o a b ka kn kc j p w hp hj hn
  · subst h; exact implKidPos_15 o a b ka kn kc j p w hp hj hn
  · subst h; exact implKidPos_12 o a b ka kn kc j p w hp hj hn (ho rfl)
end Go.Proofs.YtkelhmgdajiocaaGreatDoor
