/- Walks and lemmas of this seat (FKidPosS): what each theorem says of the functions that it names. Conditions: those that each theorem states. -/
import Derived.Test.YtkelhmgdajiocaaGreatDoorGSF
import Derived.Test.YtkelhmgdajiocaaGreatDoorGA
namespace Go.Proofs.YtkelhmgdajiocaaGreatDoor
set_option linter.unusedVariables false
set_option linter.unusedSimpArgs false
open Go.RowKit

set_option maxRecDepth 100000 in
set_option maxHeartbeats 1600000 in
theorem specl9Sides_any (o : Int) (w : World) : Calls Tryz.prog 130 #[.int .i64 o] w fun e w' => e = .returned (.tuple #[.int .i64 (sideA o), .int .i64 (sideB o)]) ∧ w' = w := by
  have h := hid (fun W => specOpLevel_any o W)
  have e1 : sideA o = if opLevelB o = 3 then 3 else if opLevelB o = 4 then 4 else if opLevelB o = 6 then 7 else if opLevelB o = 7 then 8 else if opLevelB o = 8 then 8 else if opLevelB o = 9 then 9 else if opLevelB o = 10 then 10 else 13 := rfl
  have e2 : sideB o = if opLevelB o = 3 then 4 else if opLevelB o = 4 then 5 else if opLevelB o = 6 then 7 else if opLevelB o = 7 then 8 else if opLevelB o = 8 then 9 else if opLevelB o = 9 then 10 else if opLevelB o = 10 then 11 else 11 := rfl
  generalize opLevelB o = lo at *
  generalize sideA o = sa at *
  generalize sideB o = sb at *
  go_enter Tryz.func130, Tryz.ntmps130
  go_wp2_with (go_at_call 106; refine (h.out _).mono ?_; rintro e w' ⟨rfl, hw'⟩; subst w')
  all_goals go_ret2
  all_goals exact ⟨by simp_all, rfl⟩
set_option maxRecDepth 100000 in
set_option maxHeartbeats 6400000 in
theorem specKidPos_1 (o : Int) (a b : ByteArray) (ka : Option Addr) (kn kc : Nat) (j : Nat) (p : Pos) (w : World) (hp : posOkB p = true) (hj : j < kn) (hn : kn ≤ 1000000) : Calls Tryz.prog 103 #[.agg #[.int .i64 1, .int .i64 o, .string a, .string b, .slice ka kn kc], .int .i64 (j : Nat), .agg #[.int .i64 p.level, .bool p.dollar, .bool p.noIn, .bool p.noGt, .bool p.noSign]] w fun e w' => e = .returned (kidPosB 1 o kn j p).val ∧ Below w.heap.size w w' := by
  have hl0 : levelB 1 o ≠ 0 := by simp [levelB]
  have e := kidPos_eq (k := 1) (o := o) (n := (kn : Int)) (j := (j : Int)) hp (by omega) hl0
  have hL := hid (fun W => specLevelOf_any 1 o a b ka kn kc W)
  have hP := hid (fun W => specPosOk_any p W)
  have hW := hid (fun W => specl1In_any (j : Int) 0 ((kn : Int) - 1) W)
  have hT := hid (fun W => specTop_x W)
  rw [hp] at hP
  rw [show inB (j : Int) 0 ((kn : Int) - 1) = true from by unfold inB; simp; omega] at hW
  rw [show levelB 1 o = 15 from rfl] at hL e
  obtain ⟨zv, hzv⟩ : ∃ zv, zv = (kidPosB 1 o kn j p).val := ⟨_, rfl⟩
  rw [← hzv]
  rw [e] at hzv
  clear e hl0
  rw [if_pos (.inl rfl)] at hzv
  obtain ⟨lv0, d, x, y, z⟩ := p
  simp only at hP hzv ⊢
  replace hzv := hid hzv
  go_enter Tryz.func103, Tryz.ntmps103
  cases z
  all_goals
    go_wp2_with (first
      | (go_at_call 25; refine (hP.out _).mono ?_; rintro e2 w2 ⟨rfl, hw2⟩; subst hw2)
      | (go_at_call 52; refine (hW.out _).mono ?_; rintro e2 w2 ⟨rfl, hw2⟩; subst hw2)
      | (go_at_call 78; refine (hL.out _).mono ?_; rintro e2 w2 ⟨rfl, hw2⟩; subst hw2)
      | (go_at_call 56; refine (hT.out _).mono ?_; rintro e2 w2 ⟨rfl, hw2⟩; subst hw2))
  all_goals exact bodyPost_ret (v := zv) (by rw [hzv.out]; simp [results, Tryz.results103, go_sem, posTop, Pos.val, kidLevB, kidSignB]) rfl ⟨rfl, by repeat (first | exact Below.refl _ _ | refine Below.alloc ?_ (by first | omega | (simp; done) | (simp; omega)) _ | refine Below.drew ?_)⟩
set_option maxRecDepth 100000 in
set_option maxHeartbeats 6400000 in
theorem specKidPos_2 (o : Int) (a b : ByteArray) (ka : Option Addr) (kn kc : Nat) (j : Nat) (p : Pos) (w : World) (hp : posOkB p = true) (hj : j < kn) (hn : kn ≤ 1000000) : Calls Tryz.prog 103 #[.agg #[.int .i64 2, .int .i64 o, .string a, .string b, .slice ka kn kc], .int .i64 (j : Nat), .agg #[.int .i64 p.level, .bool p.dollar, .bool p.noIn, .bool p.noGt, .bool p.noSign]] w fun e w' => e = .returned (kidPosB 2 o kn j p).val ∧ Below w.heap.size w w' := by
  have hl0 : levelB 2 o ≠ 0 := by simp [levelB]
  have e := kidPos_eq (k := 2) (o := o) (n := (kn : Int)) (j := (j : Int)) hp (by omega) hl0
  have hL := hid (fun W => specLevelOf_any 2 o a b ka kn kc W)
  have hP := hid (fun W => specPosOk_any p W)
  have hW := hid (fun W => specl1In_any (j : Int) 0 ((kn : Int) - 1) W)
  have hT := hid (fun W => specTop_x W)
  rw [hp] at hP
  rw [show inB (j : Int) 0 ((kn : Int) - 1) = true from by unfold inB; simp; omega] at hW
  rw [show levelB 2 o = 15 from rfl] at hL e
  obtain ⟨zv, hzv⟩ : ∃ zv, zv = (kidPosB 2 o kn j p).val := ⟨_, rfl⟩
  rw [← hzv]
  rw [e] at hzv
  clear e hl0
  rw [if_pos (.inl rfl)] at hzv
  obtain ⟨lv0, d, x, y, z⟩ := p
  simp only at hP hzv ⊢
  replace hzv := hid hzv
  go_enter Tryz.func103, Tryz.ntmps103
  cases z
  all_goals
    go_wp2_with (first
      | (go_at_call 25; refine (hP.out _).mono ?_; rintro e2 w2 ⟨rfl, hw2⟩; subst hw2)
      | (go_at_call 52; refine (hW.out _).mono ?_; rintro e2 w2 ⟨rfl, hw2⟩; subst hw2)
      | (go_at_call 78; refine (hL.out _).mono ?_; rintro e2 w2 ⟨rfl, hw2⟩; subst hw2)
      | (go_at_call 56; refine (hT.out _).mono ?_; rintro e2 w2 ⟨rfl, hw2⟩; subst hw2))
  all_goals exact bodyPost_ret (v := zv) (by rw [hzv.out]; simp [results, Tryz.results103, go_sem, posTop, Pos.val, kidLevB, kidSignB]) rfl ⟨rfl, by repeat (first | exact Below.refl _ _ | refine Below.alloc ?_ (by first | omega | (simp; done) | (simp; omega)) _ | refine Below.drew ?_)⟩
set_option maxRecDepth 100000 in
set_option maxHeartbeats 6400000 in
theorem specKidPos_3 (o : Int) (a b : ByteArray) (ka : Option Addr) (kn kc : Nat) (j : Nat) (p : Pos) (w : World) (hp : posOkB p = true) (hj : j < kn) (hn : kn ≤ 1000000) : Calls Tryz.prog 103 #[.agg #[.int .i64 3, .int .i64 o, .string a, .string b, .slice ka kn kc], .int .i64 (j : Nat), .agg #[.int .i64 p.level, .bool p.dollar, .bool p.noIn, .bool p.noGt, .bool p.noSign]] w fun e w' => e = .returned (kidPosB 3 o kn j p).val ∧ Below w.heap.size w w' := by
  have hl0 : levelB 3 o ≠ 0 := by simp [levelB]
  have e := kidPos_eq (k := 3) (o := o) (n := (kn : Int)) (j := (j : Int)) hp (by omega) hl0
  have hL := hid (fun W => specLevelOf_any 3 o a b ka kn kc W)
  have hP := hid (fun W => specPosOk_any p W)
  have hW := hid (fun W => specl1In_any (j : Int) 0 ((kn : Int) - 1) W)
  have hT := hid (fun W => specTop_x W)
  rw [hp] at hP
  rw [show inB (j : Int) 0 ((kn : Int) - 1) = true from by unfold inB; simp; omega] at hW
  rw [show levelB 3 o = 15 from rfl] at hL e
  obtain ⟨zv, hzv⟩ : ∃ zv, zv = (kidPosB 3 o kn j p).val := ⟨_, rfl⟩
  rw [← hzv]
  rw [e] at hzv
  clear e hl0
  rw [if_pos (.inl rfl)] at hzv
  obtain ⟨lv0, d, x, y, z⟩ := p
  simp only at hP hzv ⊢
  replace hzv := hid hzv
  go_enter Tryz.func103, Tryz.ntmps103
  cases z
  all_goals
    go_wp2_with (first
      | (go_at_call 25; refine (hP.out _).mono ?_; rintro e2 w2 ⟨rfl, hw2⟩; subst hw2)
      | (go_at_call 52; refine (hW.out _).mono ?_; rintro e2 w2 ⟨rfl, hw2⟩; subst hw2)
      | (go_at_call 78; refine (hL.out _).mono ?_; rintro e2 w2 ⟨rfl, hw2⟩; subst hw2)
      | (go_at_call 56; refine (hT.out _).mono ?_; rintro e2 w2 ⟨rfl, hw2⟩; subst hw2))
  all_goals exact bodyPost_ret (v := zv) (by rw [hzv.out]; simp [results, Tryz.results103, go_sem, posTop, Pos.val, kidLevB, kidSignB]) rfl ⟨rfl, by repeat (first | exact Below.refl _ _ | refine Below.alloc ?_ (by first | omega | (simp; done) | (simp; omega)) _ | refine Below.drew ?_)⟩
set_option maxRecDepth 100000 in
set_option maxHeartbeats 6400000 in
theorem specKidPos_4 (o : Int) (a b : ByteArray) (ka : Option Addr) (kn kc : Nat) (j : Nat) (p : Pos) (w : World) (hp : posOkB p = true) (hj : j < kn) (hn : kn ≤ 1000000) : Calls Tryz.prog 103 #[.agg #[.int .i64 4, .int .i64 o, .string a, .string b, .slice ka kn kc], .int .i64 (j : Nat), .agg #[.int .i64 p.level, .bool p.dollar, .bool p.noIn, .bool p.noGt, .bool p.noSign]] w fun e w' => e = .returned (kidPosB 4 o kn j p).val ∧ Below w.heap.size w w' := by
  have hl0 : levelB 4 o ≠ 0 := by simp [levelB]
  have e := kidPos_eq (k := 4) (o := o) (n := (kn : Int)) (j := (j : Int)) hp (by omega) hl0
  have hL := hid (fun W => specLevelOf_any 4 o a b ka kn kc W)
  have hP := hid (fun W => specPosOk_any p W)
  have hW := hid (fun W => specl1In_any (j : Int) 0 ((kn : Int) - 1) W)
  have hT := hid (fun W => specTop_x W)
  rw [hp] at hP
  rw [show inB (j : Int) 0 ((kn : Int) - 1) = true from by unfold inB; simp; omega] at hW
  rw [show levelB 4 o = 15 from rfl] at hL e
  obtain ⟨zv, hzv⟩ : ∃ zv, zv = (kidPosB 4 o kn j p).val := ⟨_, rfl⟩
  rw [← hzv]
  rw [e] at hzv
  clear e hl0
  rw [if_pos (.inl rfl)] at hzv
  obtain ⟨lv0, d, x, y, z⟩ := p
  simp only at hP hzv ⊢
  replace hzv := hid hzv
  go_enter Tryz.func103, Tryz.ntmps103
  cases z
  all_goals
    go_wp2_with (first
      | (go_at_call 25; refine (hP.out _).mono ?_; rintro e2 w2 ⟨rfl, hw2⟩; subst hw2)
      | (go_at_call 52; refine (hW.out _).mono ?_; rintro e2 w2 ⟨rfl, hw2⟩; subst hw2)
      | (go_at_call 78; refine (hL.out _).mono ?_; rintro e2 w2 ⟨rfl, hw2⟩; subst hw2)
      | (go_at_call 56; refine (hT.out _).mono ?_; rintro e2 w2 ⟨rfl, hw2⟩; subst hw2))
  all_goals exact bodyPost_ret (v := zv) (by rw [hzv.out]; simp [results, Tryz.results103, go_sem, posTop, Pos.val, kidLevB, kidSignB]) rfl ⟨rfl, by repeat (first | exact Below.refl _ _ | refine Below.alloc ?_ (by first | omega | (simp; done) | (simp; omega)) _ | refine Below.drew ?_)⟩
set_option maxRecDepth 100000 in
set_option maxHeartbeats 6400000 in
theorem specKidPos_5 (o : Int) (a b : ByteArray) (ka : Option Addr) (kn kc : Nat) (j : Nat) (p : Pos) (w : World) (hp : posOkB p = true) (hj : j < kn) (hn : kn ≤ 1000000) : Calls Tryz.prog 103 #[.agg #[.int .i64 5, .int .i64 o, .string a, .string b, .slice ka kn kc], .int .i64 (j : Nat), .agg #[.int .i64 p.level, .bool p.dollar, .bool p.noIn, .bool p.noGt, .bool p.noSign]] w fun e w' => e = .returned (kidPosB 5 o kn j p).val ∧ Below w.heap.size w w' := by
  have hl0 : levelB 5 o ≠ 0 := by simp [levelB]
  have e := kidPos_eq (k := 5) (o := o) (n := (kn : Int)) (j := (j : Int)) hp (by omega) hl0
  have hL := hid (fun W => specLevelOf_any 5 o a b ka kn kc W)
  have hP := hid (fun W => specPosOk_any p W)
  have hW := hid (fun W => specl1In_any (j : Int) 0 ((kn : Int) - 1) W)
  have hT := hid (fun W => specTop_x W)
  rw [hp] at hP
  rw [show inB (j : Int) 0 ((kn : Int) - 1) = true from by unfold inB; simp; omega] at hW
  rw [show levelB 5 o = 15 from rfl] at hL e
  obtain ⟨zv, hzv⟩ : ∃ zv, zv = (kidPosB 5 o kn j p).val := ⟨_, rfl⟩
  rw [← hzv]
  rw [e] at hzv
  clear e hl0
  rw [if_pos (.inl rfl)] at hzv
  obtain ⟨lv0, d, x, y, z⟩ := p
  simp only at hP hzv ⊢
  replace hzv := hid hzv
  go_enter Tryz.func103, Tryz.ntmps103
  cases z
  all_goals
    go_wp2_with (first
      | (go_at_call 25; refine (hP.out _).mono ?_; rintro e2 w2 ⟨rfl, hw2⟩; subst hw2)
      | (go_at_call 52; refine (hW.out _).mono ?_; rintro e2 w2 ⟨rfl, hw2⟩; subst hw2)
      | (go_at_call 78; refine (hL.out _).mono ?_; rintro e2 w2 ⟨rfl, hw2⟩; subst hw2)
      | (go_at_call 56; refine (hT.out _).mono ?_; rintro e2 w2 ⟨rfl, hw2⟩; subst hw2))
  all_goals exact bodyPost_ret (v := zv) (by rw [hzv.out]; simp [results, Tryz.results103, go_sem, posTop, Pos.val, kidLevB, kidSignB]) rfl ⟨rfl, by repeat (first | exact Below.refl _ _ | refine Below.alloc ?_ (by first | omega | (simp; done) | (simp; omega)) _ | refine Below.drew ?_)⟩
set_option maxRecDepth 100000 in
set_option maxHeartbeats 6400000 in
theorem specKidPos_7 (o : Int) (a b : ByteArray) (ka : Option Addr) (kn kc : Nat) (j : Nat) (p : Pos) (w : World) (hp : posOkB p = true) (hj : j < kn) (hn : kn ≤ 1000000) : Calls Tryz.prog 103 #[.agg #[.int .i64 7, .int .i64 o, .string a, .string b, .slice ka kn kc], .int .i64 (j : Nat), .agg #[.int .i64 p.level, .bool p.dollar, .bool p.noIn, .bool p.noGt, .bool p.noSign]] w fun e w' => e = .returned (kidPosB 7 o kn j p).val ∧ Below w.heap.size w w' := by
  have hl0 : levelB 7 o ≠ 0 := by simp [levelB]
  have e := kidPos_eq (k := 7) (o := o) (n := (kn : Int)) (j := (j : Int)) hp (by omega) hl0
  have hL := hid (fun W => specLevelOf_any 7 o a b ka kn kc W)
  have hP := hid (fun W => specPosOk_any p W)
  have hW := hid (fun W => specl1In_any (j : Int) 0 ((kn : Int) - 1) W)
  have hT := hid (fun W => specTop_x W)
  rw [hp] at hP
  rw [show inB (j : Int) 0 ((kn : Int) - 1) = true from by unfold inB; simp; omega] at hW
  rw [show levelB 7 o = 15 from rfl] at hL e
  obtain ⟨zv, hzv⟩ : ∃ zv, zv = (kidPosB 7 o kn j p).val := ⟨_, rfl⟩
  rw [← hzv]
  rw [e] at hzv
  clear e hl0
  rw [if_pos (.inl rfl)] at hzv
  obtain ⟨lv0, d, x, y, z⟩ := p
  simp only at hP hzv ⊢
  replace hzv := hid hzv
  go_enter Tryz.func103, Tryz.ntmps103
  cases z
  all_goals
    go_wp2_with (first
      | (go_at_call 25; refine (hP.out _).mono ?_; rintro e2 w2 ⟨rfl, hw2⟩; subst hw2)
      | (go_at_call 52; refine (hW.out _).mono ?_; rintro e2 w2 ⟨rfl, hw2⟩; subst hw2)
      | (go_at_call 78; refine (hL.out _).mono ?_; rintro e2 w2 ⟨rfl, hw2⟩; subst hw2)
      | (go_at_call 56; refine (hT.out _).mono ?_; rintro e2 w2 ⟨rfl, hw2⟩; subst hw2))
  all_goals exact bodyPost_ret (v := zv) (by rw [hzv.out]; simp [results, Tryz.results103, go_sem, posTop, Pos.val, kidLevB, kidSignB]) rfl ⟨rfl, by repeat (first | exact Below.refl _ _ | refine Below.alloc ?_ (by first | omega | (simp; done) | (simp; omega)) _ | refine Below.drew ?_)⟩
set_option maxRecDepth 100000 in
set_option maxHeartbeats 6400000 in
theorem specKidPos_8 (o : Int) (a b : ByteArray) (ka : Option Addr) (kn kc : Nat) (j : Nat) (p : Pos) (w : World) (hp : posOkB p = true) (hj : j < kn) (hn : kn ≤ 1000000) : Calls Tryz.prog 103 #[.agg #[.int .i64 8, .int .i64 o, .string a, .string b, .slice ka kn kc], .int .i64 (j : Nat), .agg #[.int .i64 p.level, .bool p.dollar, .bool p.noIn, .bool p.noGt, .bool p.noSign]] w fun e w' => e = .returned (kidPosB 8 o kn j p).val ∧ Below w.heap.size w w' := by
  have hl0 : levelB 8 o ≠ 0 := by simp [levelB]
  have e := kidPos_eq (k := 8) (o := o) (n := (kn : Int)) (j := (j : Int)) hp (by omega) hl0
  have hL := hid (fun W => specLevelOf_any 8 o a b ka kn kc W)
  have hP := hid (fun W => specPosOk_any p W)
  have hW := hid (fun W => specl1In_any (j : Int) 0 ((kn : Int) - 1) W)
  have hT := hid (fun W => specTop_x W)
  rw [hp] at hP
  rw [show inB (j : Int) 0 ((kn : Int) - 1) = true from by unfold inB; simp; omega] at hW
  rw [show levelB 8 o = 15 from rfl] at hL e
  obtain ⟨zv, hzv⟩ : ∃ zv, zv = (kidPosB 8 o kn j p).val := ⟨_, rfl⟩
  rw [← hzv]
  rw [e] at hzv
  clear e hl0
  rw [if_pos (.inl rfl)] at hzv
  obtain ⟨lv0, d, x, y, z⟩ := p
  simp only at hP hzv ⊢
  replace hzv := hid hzv
  go_enter Tryz.func103, Tryz.ntmps103
  cases z
  all_goals
    go_wp2_with (first
      | (go_at_call 25; refine (hP.out _).mono ?_; rintro e2 w2 ⟨rfl, hw2⟩; subst hw2)
      | (go_at_call 52; refine (hW.out _).mono ?_; rintro e2 w2 ⟨rfl, hw2⟩; subst hw2)
      | (go_at_call 78; refine (hL.out _).mono ?_; rintro e2 w2 ⟨rfl, hw2⟩; subst hw2)
      | (go_at_call 56; refine (hT.out _).mono ?_; rintro e2 w2 ⟨rfl, hw2⟩; subst hw2))
  all_goals exact bodyPost_ret (v := zv) (by rw [hzv.out]; simp [results, Tryz.results103, go_sem, posTop, Pos.val, kidLevB, kidSignB]) rfl ⟨rfl, by repeat (first | exact Below.refl _ _ | refine Below.alloc ?_ (by first | omega | (simp; done) | (simp; omega)) _ | refine Below.drew ?_)⟩
set_option maxRecDepth 100000 in
set_option maxHeartbeats 6400000 in
theorem specKidPos_13m (o : Int) (a b : ByteArray) (ka : Option Addr) (kn kc : Nat) (j : Nat) (p : Pos) (w : World) (hp : posOkB p = true) (hj : j < kn) (hn : kn ≤ 1000000) (hk1 : 1 < kn) : Calls Tryz.prog 103 #[.agg #[.int .i64 13, .int .i64 o, .string a, .string b, .slice ka kn kc], .int .i64 (j : Nat), .agg #[.int .i64 p.level, .bool p.dollar, .bool p.noIn, .bool p.noGt, .bool p.noSign]] w fun e w' => e = .returned (kidPosB 13 o kn j p).val ∧ Below w.heap.size w w' := by
  have hl0 : levelB 13 o ≠ 0 := by simp [levelB]
  have e := kidPos_eq (k := 13) (o := o) (n := (kn : Int)) (j := (j : Int)) hp (by omega) hl0
  have hL := hid (fun W => specLevelOf_any 13 o a b ka kn kc W)
  have hP := hid (fun W => specPosOk_any p W)
  have hW := hid (fun W => specl1In_any (j : Int) 0 ((kn : Int) - 1) W)
  have hT := hid (fun W => specTop_x W)
  rw [hp] at hP
  rw [show inB (j : Int) 0 ((kn : Int) - 1) = true from by unfold inB; simp; omega] at hW
  rw [show levelB 13 o = 5 from rfl] at hL e
  obtain ⟨zv, hzv⟩ : ∃ zv, zv = (kidPosB 13 o kn j p).val := ⟨_, rfl⟩
  rw [← hzv]
  rw [e] at hzv
  clear e hl0
  rw [if_pos (.inr ⟨rfl, by omega⟩)] at hzv
  obtain ⟨lv0, d, x, y, z⟩ := p
  simp only at hP hzv ⊢
  have hk2 : (1 : Int) < (kn : Int) := by omega
  replace hzv := hid hzv
  go_enter Tryz.func103, Tryz.ntmps103
  cases z
  all_goals
    go_wp2_with (first
      | (go_at_call 25; refine (hP.out _).mono ?_; rintro e2 w2 ⟨rfl, hw2⟩; subst hw2)
      | (go_at_call 52; refine (hW.out _).mono ?_; rintro e2 w2 ⟨rfl, hw2⟩; subst hw2)
      | (go_at_call 78; refine (hL.out _).mono ?_; rintro e2 w2 ⟨rfl, hw2⟩; subst hw2)
      | (go_at_call 56; refine (hT.out _).mono ?_; rintro e2 w2 ⟨rfl, hw2⟩; subst hw2))
  all_goals exact bodyPost_ret (v := zv) (by rw [hzv.out]; simp [results, Tryz.results103, go_sem, posTop, Pos.val, kidLevB, kidSignB]) rfl ⟨rfl, by repeat (first | exact Below.refl _ _ | refine Below.alloc ?_ (by first | omega | (simp; done) | (simp; omega)) _ | refine Below.drew ?_)⟩
set_option maxRecDepth 100000 in
set_option maxHeartbeats 6400000 in
theorem specKidPos_13s (o : Int) (a b : ByteArray) (ka : Option Addr) (kn kc : Nat) (j : Nat) (p : Pos) (w : World) (hp : posOkB p = true) (hj : j < kn) (hn : kn ≤ 1000000) (hk1 : kn = 1) : Calls Tryz.prog 103 #[.agg #[.int .i64 13, .int .i64 o, .string a, .string b, .slice ka kn kc], .int .i64 (j : Nat), .agg #[.int .i64 p.level, .bool p.dollar, .bool p.noIn, .bool p.noGt, .bool p.noSign]] w fun e w' => e = .returned (kidPosB 13 o kn j p).val ∧ Below w.heap.size w w' := by
  have hl0 : levelB 13 o ≠ 0 := by simp [levelB]
  have e := kidPos_eq (k := 13) (o := o) (n := (kn : Int)) (j := (j : Int)) hp (by omega) hl0
  have hL := hid (fun W => specLevelOf_any 13 o a b ka kn kc W)
  have hP := hid (fun W => specPosOk_any p W)
  have hW := hid (fun W => specl1In_any (j : Int) 0 ((kn : Int) - 1) W)
  have hT := hid (fun W => specTop_x W)
  rw [hp] at hP
  rw [show inB (j : Int) 0 ((kn : Int) - 1) = true from by unfold inB; simp; omega] at hW
  rw [show levelB 13 o = 5 from rfl] at hL e
  obtain ⟨zv, hzv⟩ : ∃ zv, zv = (kidPosB 13 o kn j p).val := ⟨_, rfl⟩
  rw [← hzv]
  rw [e] at hzv
  clear e hl0
  rw [if_neg (by omega)] at hzv
  obtain ⟨lv0, d, x, y, z⟩ := p
  simp only at hP hzv ⊢
  have hk2 : ¬ (1 : Int) < (kn : Int) := by omega
  have j0e := hid (show (j : Int) = 0 by omega)
  have j0t : ((j : Int) == 0) = true := by rw [j0e.out]; rfl
  have j1f : ((j : Int) == 1) = false := by rw [j0e.out]; rfl
  clear hk1
  replace hzv := hid hzv
  go_enter Tryz.func103, Tryz.ntmps103
  cases z
  all_goals
    go_wp2_with (first
      | (go_at_call 25; refine (hP.out _).mono ?_; rintro e2 w2 ⟨rfl, hw2⟩; subst hw2)
      | (go_at_call 52; refine (hW.out _).mono ?_; rintro e2 w2 ⟨rfl, hw2⟩; subst hw2)
      | (go_at_call 78; refine (hL.out _).mono ?_; rintro e2 w2 ⟨rfl, hw2⟩; subst hw2)
      | (go_at_call 56; refine (hT.out _).mono ?_; rintro e2 w2 ⟨rfl, hw2⟩; subst hw2))
  all_goals exact bodyPost_ret (v := zv) (by rw [hzv.out]; simp [results, Tryz.results103, go_sem, posTop, Pos.val, kidLevB, kidSignB, j0e.out]) rfl ⟨rfl, by repeat (first | exact Below.refl _ _ | refine Below.alloc ?_ (by first | omega | (simp; done) | (simp; omega)) _ | refine Below.drew ?_)⟩
set_option maxRecDepth 100000 in
set_option maxHeartbeats 6400000 in
theorem specKidPos_6 (o : Int) (a b : ByteArray) (ka : Option Addr) (kn kc : Nat) (j : Nat) (p : Pos) (w : World) (hp : posOkB p = true) (hj : j < kn) (hn : kn ≤ 1000000) : Calls Tryz.prog 103 #[.agg #[.int .i64 6, .int .i64 o, .string a, .string b, .slice ka kn kc], .int .i64 (j : Nat), .agg #[.int .i64 p.level, .bool p.dollar, .bool p.noIn, .bool p.noGt, .bool p.noSign]] w fun e w' => e = .returned (kidPosB 6 o kn j p).val ∧ Below w.heap.size w w' := by
  have hl0 : levelB 6 o ≠ 0 := by simp [levelB]
  have e := kidPos_eq (k := 6) (o := o) (n := (kn : Int)) (j := (j : Int)) hp (by omega) hl0
  have hL := hid (fun W => specLevelOf_any 6 o a b ka kn kc W)
  have hP := hid (fun W => specPosOk_any p W)
  have hW := hid (fun W => specl1In_any (j : Int) 0 ((kn : Int) - 1) W)
  have hT := hid (fun W => specTop_x W)
  rw [hp] at hP
  rw [show inB (j : Int) 0 ((kn : Int) - 1) = true from by unfold inB; simp; omega] at hW
  rw [show levelB 6 o = 14 from rfl] at hL e
  obtain ⟨zv, hzv⟩ : ∃ zv, zv = (kidPosB 6 o kn j p).val := ⟨_, rfl⟩
  rw [← hzv]
  rw [e] at hzv
  clear e hl0
  rw [if_neg (by omega)] at hzv
  obtain ⟨lv0, d, x, y, z⟩ := p
  simp only at hP hzv ⊢
  replace hzv := hid hzv
  go_enter Tryz.func103, Tryz.ntmps103
  cases z
  all_goals
    go_wp2_with (first
      | (go_at_call 25; refine (hP.out _).mono ?_; rintro e2 w2 ⟨rfl, hw2⟩; subst hw2)
      | (go_at_call 52; refine (hW.out _).mono ?_; rintro e2 w2 ⟨rfl, hw2⟩; subst hw2)
      | (go_at_call 78; refine (hL.out _).mono ?_; rintro e2 w2 ⟨rfl, hw2⟩; subst hw2)
      | (go_at_call 56; refine (hT.out _).mono ?_; rintro e2 w2 ⟨rfl, hw2⟩; subst hw2))
  all_goals exact bodyPost_ret (v := zv) (by rw [hzv.out]; simp [results, Tryz.results103, go_sem, posTop, Pos.val, kidLevB, kidSignB]) rfl ⟨rfl, by repeat (first | exact Below.refl _ _ | refine Below.alloc ?_ (by first | omega | (simp; done) | (simp; omega)) _ | refine Below.drew ?_)⟩
set_option maxRecDepth 100000 in
set_option maxHeartbeats 6400000 in
theorem specKidPos_9 (o : Int) (a b : ByteArray) (ka : Option Addr) (kn kc : Nat) (j : Nat) (p : Pos) (w : World) (hp : posOkB p = true) (hj : j < kn) (hn : kn ≤ 1000000) : Calls Tryz.prog 103 #[.agg #[.int .i64 9, .int .i64 o, .string a, .string b, .slice ka kn kc], .int .i64 (j : Nat), .agg #[.int .i64 p.level, .bool p.dollar, .bool p.noIn, .bool p.noGt, .bool p.noSign]] w fun e w' => e = .returned (kidPosB 9 o kn j p).val ∧ Below w.heap.size w w' := by
  have hl0 : levelB 9 o ≠ 0 := by simp [levelB]
  have e := kidPos_eq (k := 9) (o := o) (n := (kn : Int)) (j := (j : Int)) hp (by omega) hl0
  have hL := hid (fun W => specLevelOf_any 9 o a b ka kn kc W)
  have hP := hid (fun W => specPosOk_any p W)
  have hW := hid (fun W => specl1In_any (j : Int) 0 ((kn : Int) - 1) W)
  have hT := hid (fun W => specTop_x W)
  rw [hp] at hP
  rw [show inB (j : Int) 0 ((kn : Int) - 1) = true from by unfold inB; simp; omega] at hW
  rw [show levelB 9 o = 13 from rfl] at hL e
  obtain ⟨zv, hzv⟩ : ∃ zv, zv = (kidPosB 9 o kn j p).val := ⟨_, rfl⟩
  rw [← hzv]
  rw [e] at hzv
  clear e hl0
  rw [if_neg (by omega)] at hzv
  obtain ⟨lv0, d, x, y, z⟩ := p
  simp only at hP hzv ⊢
  replace hzv := hid hzv
  go_enter Tryz.func103, Tryz.ntmps103
  cases z
  all_goals
    go_wp2_with (first
      | (go_at_call 25; refine (hP.out _).mono ?_; rintro e2 w2 ⟨rfl, hw2⟩; subst hw2)
      | (go_at_call 52; refine (hW.out _).mono ?_; rintro e2 w2 ⟨rfl, hw2⟩; subst hw2)
      | (go_at_call 78; refine (hL.out _).mono ?_; rintro e2 w2 ⟨rfl, hw2⟩; subst hw2)
      | (go_at_call 56; refine (hT.out _).mono ?_; rintro e2 w2 ⟨rfl, hw2⟩; subst hw2))
  all_goals exact bodyPost_ret (v := zv) (by rw [hzv.out]; simp [results, Tryz.results103, go_sem, posTop, Pos.val, kidLevB, kidSignB]) rfl ⟨rfl, by repeat (first | exact Below.refl _ _ | refine Below.alloc ?_ (by first | omega | (simp; done) | (simp; omega)) _ | refine Below.drew ?_)⟩
set_option maxRecDepth 100000 in
set_option maxHeartbeats 6400000 in
theorem specKidPos_10 (o : Int) (a b : ByteArray) (ka : Option Addr) (kn kc : Nat) (j : Nat) (p : Pos) (w : World) (hp : posOkB p = true) (hj : j < kn) (hn : kn ≤ 1000000) : Calls Tryz.prog 103 #[.agg #[.int .i64 10, .int .i64 o, .string a, .string b, .slice ka kn kc], .int .i64 (j : Nat), .agg #[.int .i64 p.level, .bool p.dollar, .bool p.noIn, .bool p.noGt, .bool p.noSign]] w fun e w' => e = .returned (kidPosB 10 o kn j p).val ∧ Below w.heap.size w w' := by
  have hl0 : levelB 10 o ≠ 0 := by simp [levelB]
  have e := kidPos_eq (k := 10) (o := o) (n := (kn : Int)) (j := (j : Int)) hp (by omega) hl0
  have hL := hid (fun W => specLevelOf_any 10 o a b ka kn kc W)
  have hP := hid (fun W => specPosOk_any p W)
  have hW := hid (fun W => specl1In_any (j : Int) 0 ((kn : Int) - 1) W)
  have hT := hid (fun W => specTop_x W)
  rw [hp] at hP
  rw [show inB (j : Int) 0 ((kn : Int) - 1) = true from by unfold inB; simp; omega] at hW
  rw [show levelB 10 o = 13 from rfl] at hL e
  obtain ⟨zv, hzv⟩ : ∃ zv, zv = (kidPosB 10 o kn j p).val := ⟨_, rfl⟩
  rw [← hzv]
  rw [e] at hzv
  clear e hl0
  rw [if_neg (by omega)] at hzv
  obtain ⟨lv0, d, x, y, z⟩ := p
  simp only at hP hzv ⊢
  replace hzv := hid hzv
  go_enter Tryz.func103, Tryz.ntmps103
  cases z
  all_goals
    go_wp2_with (first
      | (go_at_call 25; refine (hP.out _).mono ?_; rintro e2 w2 ⟨rfl, hw2⟩; subst hw2)
      | (go_at_call 52; refine (hW.out _).mono ?_; rintro e2 w2 ⟨rfl, hw2⟩; subst hw2)
      | (go_at_call 78; refine (hL.out _).mono ?_; rintro e2 w2 ⟨rfl, hw2⟩; subst hw2)
      | (go_at_call 56; refine (hT.out _).mono ?_; rintro e2 w2 ⟨rfl, hw2⟩; subst hw2))
  all_goals exact bodyPost_ret (v := zv) (by rw [hzv.out]; simp [results, Tryz.results103, go_sem, posTop, Pos.val, kidLevB, kidSignB]) rfl ⟨rfl, by repeat (first | exact Below.refl _ _ | refine Below.alloc ?_ (by first | omega | (simp; done) | (simp; omega)) _ | refine Below.drew ?_)⟩
set_option maxRecDepth 100000 in
set_option maxHeartbeats 6400000 in
theorem specKidPos_11 (o : Int) (a b : ByteArray) (ka : Option Addr) (kn kc : Nat) (j : Nat) (p : Pos) (w : World) (hp : posOkB p = true) (hj : j < kn) (hn : kn ≤ 1000000) : Calls Tryz.prog 103 #[.agg #[.int .i64 11, .int .i64 o, .string a, .string b, .slice ka kn kc], .int .i64 (j : Nat), .agg #[.int .i64 p.level, .bool p.dollar, .bool p.noIn, .bool p.noGt, .bool p.noSign]] w fun e w' => e = .returned (kidPosB 11 o kn j p).val ∧ Below w.heap.size w w' := by
  have hl0 : levelB 11 o ≠ 0 := by simp [levelB]
  have e := kidPos_eq (k := 11) (o := o) (n := (kn : Int)) (j := (j : Int)) hp (by omega) hl0
  have hL := hid (fun W => specLevelOf_any 11 o a b ka kn kc W)
  have hP := hid (fun W => specPosOk_any p W)
  have hW := hid (fun W => specl1In_any (j : Int) 0 ((kn : Int) - 1) W)
  have hT := hid (fun W => specTop_x W)
  rw [hp] at hP
  rw [show inB (j : Int) 0 ((kn : Int) - 1) = true from by unfold inB; simp; omega] at hW
  rw [show levelB 11 o = 11 from rfl] at hL e
  obtain ⟨zv, hzv⟩ : ∃ zv, zv = (kidPosB 11 o kn j p).val := ⟨_, rfl⟩
  rw [← hzv]
  rw [e] at hzv
  clear e hl0
  rw [if_neg (by omega)] at hzv
  obtain ⟨lv0, d, x, y, z⟩ := p
  simp only at hP hzv ⊢
  replace hzv := hid hzv
  go_enter Tryz.func103, Tryz.ntmps103
  cases z
  all_goals
    go_wp2_with (first
      | (go_at_call 25; refine (hP.out _).mono ?_; rintro e2 w2 ⟨rfl, hw2⟩; subst hw2)
      | (go_at_call 52; refine (hW.out _).mono ?_; rintro e2 w2 ⟨rfl, hw2⟩; subst hw2)
      | (go_at_call 78; refine (hL.out _).mono ?_; rintro e2 w2 ⟨rfl, hw2⟩; subst hw2)
      | (go_at_call 56; refine (hT.out _).mono ?_; rintro e2 w2 ⟨rfl, hw2⟩; subst hw2))
  all_goals exact bodyPost_ret (v := zv) (by rw [hzv.out]; simp [results, Tryz.results103, go_sem, posTop, Pos.val, kidLevB, kidSignB]) rfl ⟨rfl, by repeat (first | exact Below.refl _ _ | refine Below.alloc ?_ (by first | omega | (simp; done) | (simp; omega)) _ | refine Below.drew ?_)⟩
set_option maxRecDepth 100000 in
set_option maxHeartbeats 6400000 in
theorem specKidPos_14 (o : Int) (a b : ByteArray) (ka : Option Addr) (kn kc : Nat) (j : Nat) (p : Pos) (w : World) (hp : posOkB p = true) (hj : j < kn) (hn : kn ≤ 1000000) : Calls Tryz.prog 103 #[.agg #[.int .i64 14, .int .i64 o, .string a, .string b, .slice ka kn kc], .int .i64 (j : Nat), .agg #[.int .i64 p.level, .bool p.dollar, .bool p.noIn, .bool p.noGt, .bool p.noSign]] w fun e w' => e = .returned (kidPosB 14 o kn j p).val ∧ Below w.heap.size w w' := by
  have hl0 : levelB 14 o ≠ 0 := by simp [levelB]
  have e := kidPos_eq (k := 14) (o := o) (n := (kn : Int)) (j := (j : Int)) hp (by omega) hl0
  have hL := hid (fun W => specLevelOf_any 14 o a b ka kn kc W)
  have hP := hid (fun W => specPosOk_any p W)
  have hW := hid (fun W => specl1In_any (j : Int) 0 ((kn : Int) - 1) W)
  have hT := hid (fun W => specTop_x W)
  rw [hp] at hP
  rw [show inB (j : Int) 0 ((kn : Int) - 1) = true from by unfold inB; simp; omega] at hW
  rw [show levelB 14 o = 2 from rfl] at hL e
  obtain ⟨zv, hzv⟩ : ∃ zv, zv = (kidPosB 14 o kn j p).val := ⟨_, rfl⟩
  rw [← hzv]
  rw [e] at hzv
  clear e hl0
  rw [if_neg (by omega)] at hzv
  obtain ⟨lv0, d, x, y, z⟩ := p
  simp only at hP hzv ⊢
  replace hzv := hid hzv
  go_enter Tryz.func103, Tryz.ntmps103
  by_cases j0 : j = 0
  · subst j0
    cases z
    all_goals
      go_wp2_with (first
        | (go_at_call 25; refine (hP.out _).mono ?_; rintro e2 w2 ⟨rfl, hw2⟩; subst hw2)
        | (go_at_call 52; refine (hW.out _).mono ?_; rintro e2 w2 ⟨rfl, hw2⟩; subst hw2)
        | (go_at_call 78; refine (hL.out _).mono ?_; rintro e2 w2 ⟨rfl, hw2⟩; subst hw2)
        | (go_at_call 56; refine (hT.out _).mono ?_; rintro e2 w2 ⟨rfl, hw2⟩; subst hw2))
    all_goals exact bodyPost_ret (v := zv) (by rw [hzv.out]; simp [results, Tryz.results103, go_sem, posTop, Pos.val, kidLevB, kidSignB]) rfl ⟨rfl, by repeat (first | exact Below.refl _ _ | refine Below.alloc ?_ (by first | omega | (simp; done) | (simp; omega)) _ | refine Below.drew ?_)⟩
  · have hj1 : (0 : Int) < (j : Int) := by omega
    have hj2 : ((j : Int) == 0) = false := by simpa using j0
    have hj3 : ¬ (j : Int) = 0 := by omega
    have j0n := hid j0
    cases z
    all_goals
      go_wp2_with (first
        | (go_at_call 25; refine (hP.out _).mono ?_; rintro e2 w2 ⟨rfl, hw2⟩; subst hw2)
        | (go_at_call 52; refine (hW.out _).mono ?_; rintro e2 w2 ⟨rfl, hw2⟩; subst hw2)
        | (go_at_call 78; refine (hL.out _).mono ?_; rintro e2 w2 ⟨rfl, hw2⟩; subst hw2)
        | (go_at_call 56; refine (hT.out _).mono ?_; rintro e2 w2 ⟨rfl, hw2⟩; subst hw2))
    all_goals exact bodyPost_ret (v := zv) (by rw [hzv.out]; simp [results, Tryz.results103, go_sem, posTop, Pos.val, kidLevB, kidSignB, hj1, hj3, j0n.out]) rfl ⟨rfl, by repeat (first | exact Below.refl _ _ | refine Below.alloc ?_ (by first | omega | (simp; done) | (simp; omega)) _ | refine Below.drew ?_)⟩
set_option maxRecDepth 100000 in
set_option maxHeartbeats 6400000 in
theorem specKidPos_15 (o : Int) (a b : ByteArray) (ka : Option Addr) (kn kc : Nat) (j : Nat) (p : Pos) (w : World) (hp : posOkB p = true) (hj : j < kn) (hn : kn ≤ 1000000) : Calls Tryz.prog 103 #[.agg #[.int .i64 15, .int .i64 o, .string a, .string b, .slice ka kn kc], .int .i64 (j : Nat), .agg #[.int .i64 p.level, .bool p.dollar, .bool p.noIn, .bool p.noGt, .bool p.noSign]] w fun e w' => e = .returned (kidPosB 15 o kn j p).val ∧ Below w.heap.size w w' := by
  have hl0 : levelB 15 o ≠ 0 := by simp [levelB]
  have e := kidPos_eq (k := 15) (o := o) (n := (kn : Int)) (j := (j : Int)) hp (by omega) hl0
  have hL := hid (fun W => specLevelOf_any 15 o a b ka kn kc W)
  have hP := hid (fun W => specPosOk_any p W)
  have hW := hid (fun W => specl1In_any (j : Int) 0 ((kn : Int) - 1) W)
  have hT := hid (fun W => specTop_x W)
  rw [hp] at hP
  rw [show inB (j : Int) 0 ((kn : Int) - 1) = true from by unfold inB; simp; omega] at hW
  rw [show levelB 15 o = 1 from rfl] at hL e
  obtain ⟨zv, hzv⟩ : ∃ zv, zv = (kidPosB 15 o kn j p).val := ⟨_, rfl⟩
  rw [← hzv]
  rw [e] at hzv
  clear e hl0
  rw [if_neg (by omega)] at hzv
  obtain ⟨lv0, d, x, y, z⟩ := p
  simp only at hP hzv ⊢
  replace hzv := hid hzv
  go_enter Tryz.func103, Tryz.ntmps103
  by_cases j0 : j = 0
  · subst j0
    cases z
    all_goals
      go_wp2_with (first
        | (go_at_call 25; refine (hP.out _).mono ?_; rintro e2 w2 ⟨rfl, hw2⟩; subst hw2)
        | (go_at_call 52; refine (hW.out _).mono ?_; rintro e2 w2 ⟨rfl, hw2⟩; subst hw2)
        | (go_at_call 78; refine (hL.out _).mono ?_; rintro e2 w2 ⟨rfl, hw2⟩; subst hw2)
        | (go_at_call 56; refine (hT.out _).mono ?_; rintro e2 w2 ⟨rfl, hw2⟩; subst hw2))
    all_goals exact bodyPost_ret (v := zv) (by rw [hzv.out]; simp [results, Tryz.results103, go_sem, posTop, Pos.val, kidLevB, kidSignB]) rfl ⟨rfl, by repeat (first | exact Below.refl _ _ | refine Below.alloc ?_ (by first | omega | (simp; done) | (simp; omega)) _ | refine Below.drew ?_)⟩
  · have hj1 : (0 : Int) < (j : Int) := by omega
    have hj2 : ((j : Int) == 0) = false := by simpa using j0
    have hj3 : ¬ (j : Int) = 0 := by omega
    have j0n := hid j0
    cases z
    all_goals
      go_wp2_with (first
        | (go_at_call 25; refine (hP.out _).mono ?_; rintro e2 w2 ⟨rfl, hw2⟩; subst hw2)
        | (go_at_call 52; refine (hW.out _).mono ?_; rintro e2 w2 ⟨rfl, hw2⟩; subst hw2)
        | (go_at_call 78; refine (hL.out _).mono ?_; rintro e2 w2 ⟨rfl, hw2⟩; subst hw2)
        | (go_at_call 56; refine (hT.out _).mono ?_; rintro e2 w2 ⟨rfl, hw2⟩; subst hw2))
    all_goals exact bodyPost_ret (v := zv) (by rw [hzv.out]; simp [results, Tryz.results103, go_sem, posTop, Pos.val, kidLevB, kidSignB, hj1, hj3, j0n.out]) rfl ⟨rfl, by repeat (first | exact Below.refl _ _ | refine Below.alloc ?_ (by first | omega | (simp; done) | (simp; omega)) _ | refine Below.drew ?_)⟩
set_option maxRecDepth 100000 in
set_option maxHeartbeats 6400000 in
theorem specKidPos_12 (o : Int) (a b : ByteArray) (ka : Option Addr) (kn kc : Nat) (j : Nat) (p : Pos) (w : World) (hp : posOkB p = true) (hj : j < kn) (hn : kn ≤ 1000000) (ho : opLevelB o ≠ 0) (hk1 : kn = 2) : Calls Tryz.prog 103 #[.agg #[.int .i64 12, .int .i64 o, .string a, .string b, .slice ka kn kc], .int .i64 (j : Nat), .agg #[.int .i64 p.level, .bool p.dollar, .bool p.noIn, .bool p.noGt, .bool p.noSign]] w fun e w' => e = .returned (kidPosB 12 o kn j p).val ∧ Below w.heap.size w w' := by
  have hl0 : levelB 12 o ≠ 0 := by show opLevelB o ≠ 0; exact ho
  have e := kidPos_eq (k := 12) (o := o) (n := (kn : Int)) (j := (j : Int)) hp (by omega) hl0
  have hL := hid (fun W => specLevelOf_any 12 o a b ka kn kc W)
  have hP := hid (fun W => specPosOk_any p W)
  have hW := hid (fun W => specl1In_any (j : Int) 0 ((kn : Int) - 1) W)
  have hT := hid (fun W => specTop_x W)
  rw [hp] at hP
  rw [show inB (j : Int) 0 ((kn : Int) - 1) = true from by unfold inB; simp; omega] at hW
  have h15 : levelB 12 o ≠ 15 := by have := opLevelB_range o; show opLevelB o ≠ 15; omega
  have h15b : (levelB 12 o == 15) = false := by simpa using h15
  have h0b : (levelB 12 o == 0) = false := by simpa using hl0
  generalize levelB 12 o = lv at *
  have hD := hid (fun W => specl9Sides_any o W)
  obtain ⟨zv, hzv⟩ : ∃ zv, zv = (kidPosB 12 o kn j p).val := ⟨_, rfl⟩
  rw [← hzv]
  rw [e] at hzv
  clear e hl0
  rw [if_neg (by omega)] at hzv
  obtain ⟨lv0, d, x, y, z⟩ := p
  simp only at hP hzv ⊢
  replace hzv := hid hzv
  go_enter Tryz.func103, Tryz.ntmps103
  have hj3 : j = 0 ∨ j = 1 := by omega
  clear hk1
  rcases hj3 with rfl | rfl
  · cases z
    all_goals
      go_wp2_with (first
        | (go_at_call 25; refine (hP.out _).mono ?_; rintro e2 w2 ⟨rfl, hw2⟩; subst hw2)
        | (go_at_call 52; refine (hW.out _).mono ?_; rintro e2 w2 ⟨rfl, hw2⟩; subst hw2)
        | (go_at_call 78; refine (hL.out _).mono ?_; rintro e2 w2 ⟨rfl, hw2⟩; subst hw2)
        | (go_at_call 56; refine (hT.out _).mono ?_; rintro e2 w2 ⟨rfl, hw2⟩; subst hw2)
        | (go_at_call 130; refine (hD.out _).mono ?_; rintro e2 w2 ⟨rfl, hw2⟩; subst hw2))
    all_goals exact bodyPost_ret (v := zv) (by rw [hzv.out]; simp [results, Tryz.results103, go_sem, posTop, Pos.val, kidLevB, kidSignB]) rfl ⟨rfl, by repeat (first | exact Below.refl _ _ | refine Below.alloc ?_ (by first | omega | (simp; done) | (simp; omega)) _ | refine Below.drew ?_)⟩
  · cases z
    all_goals
      go_wp2_with (first
        | (go_at_call 25; refine (hP.out _).mono ?_; rintro e2 w2 ⟨rfl, hw2⟩; subst hw2)
        | (go_at_call 52; refine (hW.out _).mono ?_; rintro e2 w2 ⟨rfl, hw2⟩; subst hw2)
        | (go_at_call 78; refine (hL.out _).mono ?_; rintro e2 w2 ⟨rfl, hw2⟩; subst hw2)
        | (go_at_call 56; refine (hT.out _).mono ?_; rintro e2 w2 ⟨rfl, hw2⟩; subst hw2)
        | (go_at_call 130; refine (hD.out _).mono ?_; rintro e2 w2 ⟨rfl, hw2⟩; subst hw2))
    all_goals exact bodyPost_ret (v := zv) (by rw [hzv.out]; simp [results, Tryz.results103, go_sem, posTop, Pos.val, kidLevB, kidSignB]) rfl ⟨rfl, by repeat (first | exact Below.refl _ _ | refine Below.alloc ?_ (by first | omega | (simp; done) | (simp; omega)) _ | refine Below.drew ?_)⟩
/-- The position of a kid. -/
theorem specKidPos_any (k o : Int) (a b : ByteArray) (ka : Option Addr) (kn kc : Nat) (j : Nat) (p : Pos) (w : World) (hp : posOkB p = true) (hj : j < kn) (ha : arity k kn) (ho : k = 12 → opLevelB o ≠ 0) : Calls Tryz.prog 103 #[.agg #[.int .i64 k, .int .i64 o, .string a, .string b, .slice ka kn kc], .int .i64 (j : Nat), .agg #[.int .i64 p.level, .bool p.dollar, .bool p.noIn, .bool p.noGt, .bool p.noSign]] w fun e w' => e = .returned (kidPosB k o kn j p).val ∧ Below w.heap.size w w' := by
  have hb : 1 ≤ k ∧ k ≤ 15 := by have := ha.1; unfold isExprB inB at this; simp at this; omega
  obtain ⟨_, h1, h2, h3, h4, h5, h6⟩ := ha
  have hk : k = 1 ∨ k = 2 ∨ k = 3 ∨ k = 4 ∨ k = 5 ∨ k = 7 ∨ k = 8 ∨ k = 13 ∨ k = 6 ∨ k = 9 ∨ k = 10 ∨ k = 11 ∨ k = 14 ∨ k = 15 ∨ k = 12 := by omega
  have hn : kn ≤ 1000000 := by
    rcases hk with h | h | h | h | h | h | h | h | h | h | h | h | h | h | h <;> omega
  rcases hk with h | h | h | h | h | h | h | h | h | h | h | h | h | h | h
  · subst h; exact specKidPos_1 o a b ka kn kc j p w hp hj hn
  · subst h; exact specKidPos_2 o a b ka kn kc j p w hp hj hn
  · subst h; exact specKidPos_3 o a b ka kn kc j p w hp hj hn
  · subst h; exact specKidPos_4 o a b ka kn kc j p w hp hj hn
  · subst h; exact specKidPos_5 o a b ka kn kc j p w hp hj hn
  · subst h; exact specKidPos_7 o a b ka kn kc j p w hp hj hn
  · subst h; exact specKidPos_8 o a b ka kn kc j p w hp hj hn
  · subst h
    by_cases h7 : 1 < kn
    · exact specKidPos_13m o a b ka kn kc j p w hp hj hn h7
    · exact specKidPos_13s o a b ka kn kc j p w hp hj hn (by omega)
  · subst h; exact specKidPos_6 o a b ka kn kc j p w hp hj hn
  · subst h; exact specKidPos_9 o a b ka kn kc j p w hp hj hn
  · subst h; exact specKidPos_10 o a b ka kn kc j p w hp hj hn
  · subst h; exact specKidPos_11 o a b ka kn kc j p w hp hj hn
  · subst h; exact specKidPos_14 o a b ka kn kc j p w hp hj hn
  · subst h; exact specKidPos_15 o a b ka kn kc j p w hp hj hn
  · subst h; exact specKidPos_12 o a b ka kn kc j p w hp hj hn (ho rfl) (h5 (by omega))
end Go.Proofs.YtkelhmgdajiocaaGreatDoor
