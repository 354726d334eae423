/- Walks and lemmas of this seat (FRenI): what each theorem says of the functions that it names. Conditions: those that each theorem states. -/
import Derived.Test.YtgmciglaapnahaaGreatDoorPRename
import Derived.Test.YtgmciglaapnahaaGreatDoorFCopy
import Derived.Test.YtgmciglaapnahaaGreatDoorGV
namespace Go.Proofs.YtgmciglaapnahaaGreatDoor
set_option linter.unusedVariables false
set_option linter.unusedSimpArgs false
open Go.RowKit Go.Lib

theorem own_froz5 {w : World} {B : Nat} {e : TypeId} {s n cap g : Nat} {xs : List Value} (h : w.ownsRow B e s (.slice (some ⟨g, 0, none⟩) n cap) n xs) (j : Nat) : w.frozen? ⟨g, j, none⟩ = false := by
  rcases h.2 with ⟨e0, _⟩ | ⟨g', cap', cur, he, _, hg, _⟩
  · cases e0
  · injection he with e1 _ _
    injection e1 with e1
    injection e1 with e1
    subst e1
    simp [World.frozen?, hg]
theorem set_same {xs : List Value} {o : Nat} {v : Value} (h : xs[o]? = some v) : xs.set o v = xs := by
  apply List.ext_getElem?
  intro i
  rw [List.getElem?_set]
  split
  · rename_i e
    subst e
    rw [h, if_pos (List.getElem?_eq_some_iff.1 h).1]
  · rfl
theorem own_drN {w : World} {B : Nat} {e : TypeId} {s n : Nat} {v : Value} {xs : List Value} (h : w.ownsRow B e s v n xs) (k : Nat) : (w.drewN k).ownsRow B e s v n xs := h

set_option maxRecDepth 100000 in
theorem renClosure (f t s : ByteArray) (g o fb tb B n cap : Nat) (xs : List Value) (w : World) (hown : w.ownsRow B 40 5 (.slice (some ⟨g, 0, none⟩) n cap) n xs) (hxo : xs[o]? = some (.string s)) (hf : w.cell? ⟨fb, 0, none⟩ = some (.string f)) (ht : w.cell? ⟨tb, 0, none⟩ = some (.string t)) :
    Calls Tryz.prog 137 #[.pointer (some ⟨g, o, none⟩), .pointer (some ⟨fb, 0, none⟩), .pointer (some ⟨tb, 0, none⟩)] w fun e w' => e = .returned (.tuple #[]) ∧ w.grownBy w' (some g) ∧ w'.ownsRow B 40 5 (.slice (some ⟨g, 0, none⟩) n cap) n (xs.set o (.string (ren f t s))) := by
  have c0 := own_read hown hxo
  have c1 := own_froz5 hown o
  have hown2 := hid hown
  have hxo2 := hid hxo
  clear hown hxo
  by_cases h : (s.toList == f.toList) = true
  · rw [ren_t h]
    go_enter Tryz.func137, Tryz.ntmps137
    go_wp2_with fail
    go_quiet (fail)
    go_wp2
    go_end0
    have h9 := (own_drN hown2.out nq).stored o (.string t)
    exact ⟨rfl, grown_trans (grown_drewN _ _ _) h9.2, h9.1⟩
  · have h : (s.toList == f.toList) = false := by simpa using h
    rw [ren_f h]
    go_enter Tryz.func137, Tryz.ntmps137
    go_wp2_with fail
    go_quiet (fail)
    go_wp2
    go_end0
    exact ⟨rfl, grown_drewN _ _ _, by rw [set_same hxo2.out]; exact hown2.out⟩

theorem renameN_not {f t : ByteArray} {x : Node} (h : isTextK x.kind = false) : renameN f t x = x := by
  have h32 : ¬ x.kind = 32 := by intro h'; simp [isTextK, h'] at h
  unfold renameN; rw [if_neg (by rw [h]; simp), if_neg h32]
theorem renameN_1 {f t : ByteArray} {x : Node} (h : isTextK x.kind = true) (h32 : ¬ x.kind = 32) : renameN f t x = ⟨x.kind, x.op, ren f t x.text, x.other, x.kids⟩ := by unfold renameN; rw [if_pos h, if_neg h32]
theorem renameN_2 {f t : ByteArray} {x : Node} (h32 : x.kind = 32) : renameN f t x = ⟨x.kind, x.op, ren f t x.text, ren f t x.other, x.kids⟩ := by unfold renameN; rw [if_pos (by simp [isTextK, h32]), if_pos h32]

set_option maxRecDepth 100000 in
set_option maxHeartbeats 1600000 in
theorem renNamesIn (f t : ByteArray) (x : Node) (kv : Value) (g k fb tb B n cap : Nat) (q : List (Node × Value)) (w : World) (hown : w.ownsRow B 40 5 (.slice (some ⟨g, 0, none⟩) n cap) n (q.flatMap Node.cells)) (hq : q[k]? = some (x, kv)) (hf : w.cell? ⟨fb, 0, none⟩ = some (.string f)) (ht : w.cell? ⟨tb, 0, none⟩ = some (.string t)) (hfg : fb ≠ g) (htg : tb ≠ g) :
    Calls Tryz.prog 136 #[.pointer (some ⟨g, k * 5, none⟩), .func (.func 137) #[] #[.pointer (some ⟨fb, 0, none⟩), .pointer (some ⟨tb, 0, none⟩)]] w fun e w' => e = .returned (.tuple #[]) ∧ w.grownBy w' (some g) ∧ w'.ownsRow B 40 5 (.slice (some ⟨g, 0, none⟩) n cap) n ((q.set k (renameN f t x, kv)).flatMap Node.cells) := by
  have hk0 : (q.flatMap Node.cells)[k * 5]? = some (.int .i64 x.kind) := by have := flat_get Node.cells 5 Node.len q k 0 (x, kv) (.int .i64 x.kind) hq rfl; simpa using this
  have hk2 : (q.flatMap Node.cells)[k * 5 + 2]? = some (.string x.text) := flat_get Node.cells 5 Node.len q k 2 (x, kv) _ hq rfl
  have c0 := own_read hown hk0
  have hc1 := hid (renClosure f t x.text g (k * 5 + 2) fb tb B n cap _ w hown hk2 hf ht)
  have hs1 := flat_set Node.cells 5 Node.len q k (x, kv) (⟨x.kind, x.op, ren f t x.text, x.other, x.kids⟩, kv) 2 (.string (ren f t x.text)) hq (by omega) rfl
  rw [hs1] at hc1
  have hkl := (List.getElem?_eq_some_iff.1 hq).1
  have hown2 := hid hown
  clear hs1 hk2 hown hk0
  by_cases h32 : x.kind = 32
  · have hR := hid (renameN_2 (f := f) (t := t) h32)
    go_enter Tryz.func136, Tryz.ntmps136
    go_wp2_with fail
    refine hc1.out.mono ?_; rintro e w1 ⟨rfl, hg1, ho1⟩
    have hq1 : (q.set k (⟨x.kind, x.op, ren f t x.text, x.other, x.kids⟩, kv))[k]? = some (⟨x.kind, x.op, ren f t x.text, x.other, x.kids⟩, kv) := by rw [List.getElem?_set, if_pos rfl, if_pos hkl]
    have e0 := own_read ho1 (by have := flat_get Node.cells 5 Node.len _ k 0 _ (.int .i64 x.kind) hq1 rfl; simpa using this : ((q.set k (⟨x.kind, x.op, ren f t x.text, x.other, x.kids⟩, kv)).flatMap Node.cells)[k * 5]? = some (.int .i64 x.kind))
    have hk3 := flat_get Node.cells 5 Node.len _ k 3 _ (.string x.other) hq1 rfl
    have hf1 := grown_cell hg1 hf hfg
    have ht1 := grown_cell hg1 ht htg
    have hc2 := hid (renClosure f t x.other g (k * 5 + 3) fb tb B n cap _ w1 ho1 hk3 hf1 ht1)
    have hs2 := flat_set Node.cells 5 Node.len _ k _ (⟨x.kind, x.op, ren f t x.text, ren f t x.other, x.kids⟩, kv) 3 (.string (ren f t x.other)) hq1 (by omega) rfl
    rw [hs2, List.set_set] at hc2
    replace hg1 := hid hg1
    replace ho1 := hid ho1
    clear hs2 hk3 hq1 hf1 ht1
    go_wp2_with fail
    refine hc2.out.mono ?_; rintro e w2 ⟨rfl, hg2, ho2⟩
    replace ho2 := hid ho2
    clear hc1 hc2
    go_wp2
    go_end0
    exact ⟨rfl, grown_trans hg1.out hg2, by rw [hR.out]; exact ho2.out⟩
  · have hk32 : (x.kind == 32) = false := by simpa using h32
    by_cases hkt : isTextK x.kind = true
    · have hR := hid (renameN_1 (f := f) (t := t) hkt h32)
      have hq1 : (q.set k (⟨x.kind, x.op, ren f t x.text, x.other, x.kids⟩, kv))[k]? = some (⟨x.kind, x.op, ren f t x.text, x.other, x.kids⟩, kv) := by rw [List.getElem?_set, if_pos rfl, if_pos hkl]
      have hk0 := hid (by have := flat_get Node.cells 5 Node.len _ k 0 _ (.int .i64 x.kind) hq1 rfl; simpa using this : ((q.set k (⟨x.kind, x.op, ren f t x.text, x.other, x.kids⟩, kv)).flatMap Node.cells)[k * 5]? = some (.int .i64 x.kind))
      clear hq1
      go_enter Tryz.func136, Tryz.ntmps136
      go_wp2_with (go_at_call 137; refine hc1.out.mono ?_; rintro e w1 ⟨rfl, hg1, ho1⟩; have e0 := own_read ho1 hk0.out; replace ho1 := hid ho1; replace hg1 := hid hg1)
      all_goals first
        | (go_end0; exact ⟨rfl, hg1.out, by rw [hR.out]; exact ho1.out⟩)
        | (exfalso; simp_all [isTextK]; done)
    · have ht' : isTextK x.kind = false := by simpa using hkt
      have hR := hid (renameN_not (f := f) (t := t) ht')
      have n1 : (x.kind == 1) = false := by cases h : (x.kind == 1) <;> simp_all [isTextK]
      have n2 : (x.kind == 5) = false := by cases h : (x.kind == 5) <;> simp_all [isTextK]
      have n3 : (x.kind == 13) = false := by cases h : (x.kind == 13) <;> simp_all [isTextK]
      have n4 : (x.kind == 27) = false := by cases h : (x.kind == 27) <;> simp_all [isTextK]
      have hsame : Hid (q.set k (x, kv) = q) := hid (by
        apply List.ext_getElem?
        intro i
        rw [List.getElem?_set]
        split
        · rename_i e
          subst e
          first | exact hq.symm | (simp [hq, hkl]; done)
        · rfl)
      clear hc1 hq
      go_enter Tryz.func136, Tryz.ntmps136
      go_wp2
      go_end0
      exact ⟨rfl, grown_refl _ _, by rw [hR.out, hsame.out]; exact hown2.out⟩
end Go.Proofs.YtgmciglaapnahaaGreatDoor
