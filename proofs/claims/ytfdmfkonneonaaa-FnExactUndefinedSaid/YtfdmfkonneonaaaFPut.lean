/- Walks and lemmas of this seat (FPut): what each theorem says of the functions that it names. Conditions: those that each theorem states. -/
import Derived.Test.YtfdmfkonneonaaaPNames
import Derived.Test.YtfdmfkonneonaaaHString
import Derived.Test.YtfdmfkonneonaaaShelf
import Derived.WalkLawsBesides
import Derived.Sort.Walk0
import Derived.Sort.OwnSorted
import Derived.Lib.OwnBridge
namespace Go.Proofs.Ytfdmfkonneonaaa
set_option linter.unusedVariables false
set_option linter.unusedSimpArgs false
open Go.RowKit

/-! The same of texts. -/
def mkT (l : List UInt8) : ByteArray := ⟨l.toArray⟩
def dat (s : ByteArray) : List UInt8 := s.data.toList
theorem mkT_dat (s : ByteArray) : mkT (dat s) = s := toList_inj.1 (by rw [ByteArray.toList_eq, ByteArray.toList_eq]; simp [mkT, dat])
theorem dat_mkT (l : List UInt8) : dat (mkT l) = l := by simp [mkT, dat]
theorem toList_dat (s : ByteArray) : s.toList = dat s := by rw [ByteArray.toList_eq]; rfl
theorem dat_inj {a b : ByteArray} (h : dat a = dat b) : a = b := toList_inj.1 (by rw [toList_dat, toList_dat, h])
/-- Is x greater than s? -/
def gtT (x s : ByteArray) : Bool := !(Op.bytesLess x.toList s.toList || x.toList == s.toList)
theorem gtT_iff (x s : ByteArray) : gtT x s = true ↔ dat s < dat x := by
  unfold gtT
  rw [bytesLess_eq, toList_dat, toList_dat]
  simp
  constructor
  · rintro ⟨h1, h2⟩
    rcases bl_tri (dat s) (dat x) with h | h | h
    · exact h
    · exact absurd h.symm h2
    · exact absurd h (List.not_lt.2 h1)
  · intro h
    exact ⟨List.not_lt.1 (fun k => bl_irrefl _ (bl_trans h k)), fun e => bl_irrefl (dat s) (by rw [e] at h; exact h)⟩
def insT (s : ByteArray) : List ByteArray → List ByteArray
  | [] => [s]
  | x :: l => if gtT x s = true then s :: x :: l else x :: insT s l
def hasT (l : List ByteArray) (s : ByteArray) : Bool := l.any fun x => x.toList == s.toList
def putT (s : ByteArray) (l : List ByteArray) : List ByteArray := if hasT l s = true then l else insT s l
theorem insT_len (s : ByteArray) (l : List ByteArray) : (insT s l).length = l.length + 1 := by
  induction l with
  | nil => rfl
  | cons x l ih => rw [insT]; split <;> simp [ih]
theorem putT_len (s : ByteArray) (l : List ByteArray) : (putT s l).length ≤ l.length + 1 := by
  unfold putT; split
  · omega
  · rw [insT_len]; omega
theorem insT_dat (s : ByteArray) (l : List ByteArray) : (insT s l).map dat = ins (dat s) (l.map dat) := by
  induction l with
  | nil => rfl
  | cons x l ih =>
    rw [insT, List.map_cons, ins]
    by_cases h : gtT x s = true
    · rw [if_pos h, if_pos ((gtT_iff x s).1 h)]; rfl
    · rw [if_neg h, if_neg (fun e => h ((gtT_iff x s).2 e)), List.map_cons, ih]
theorem hasT_iff (l : List ByteArray) (s : ByteArray) : hasT l s = true ↔ dat s ∈ l.map dat := by
  unfold hasT
  rw [List.any_eq_true]
  simp only [beq_iff_eq, toList_dat, List.mem_map]
theorem putT_dat (s : ByteArray) (l : List ByteArray) : (putT s l).map dat = putN (dat s) (l.map dat) := by
  unfold putT putN
  by_cases h : hasT l s = true
  · rw [if_pos h, if_pos ((hasT_iff l s).1 h)]
  · rw [if_neg h, if_neg (fun e => h ((hasT_iff l s).2 e)), insT_dat]
/-- All names, in order. -/
def namesT (L : List ByteArray) : List ByteArray := L.foldl (fun l s => putT s l) []
theorem foldl_putT (L : List ByteArray) : ∀ (l : List ByteArray), (L.foldl (fun l s => putT s l) l).map dat = (L.map dat).foldl (fun l s => putN s l) (l.map dat) := by
  induction L with
  | nil => intro l; rfl
  | cons s L ih => intro l; rw [List.foldl_cons, ih, putT_dat, List.map_cons, List.foldl_cons]
theorem namesT_dat (L : List ByteArray) : (namesT L).map dat = namesL (L.map dat) := foldl_putT L []
theorem map_dat_inj {a b : List ByteArray} (h : a.map dat = b.map dat) : a = b := by
  induction a generalizing b with
  | nil => cases b <;> simp_all
  | cons x a ih =>
    cases b with
    | nil => simp at h
    | cons y b =>
      simp only [List.map_cons, List.cons.injEq] at h
      rw [ih h.2, dat_inj h.1]
theorem namesT_eq (L : List ByteArray) : namesT L = (Lib.compact ((L.map dat).mergeSort fun x y => decide (x ≤ y))).map mkT := by
  apply map_dat_inj
  rw [namesT_dat, compact_sort, List.map_map]
  have : (dat ∘ mkT) = id := by funext l; exact dat_mkT l
  rw [this, List.map_id]
theorem foldT_len (L : List ByteArray) : ∀ (l : List ByteArray), (L.foldl (fun l s => putT s l) l).length ≤ l.length + L.length := by
  induction L with
  | nil => intro l; simp
  | cons s L ih => intro l; have := ih (putT s l); have := putT_len s l; rw [List.foldl_cons, List.length_cons]; omega
theorem namesT_len (L : List ByteArray) : (namesT L).length ≤ L.length := by have := foldT_len L []; simpa [namesT] using this

/-- What is built: before its place is found, and behind it. -/
def rest (s : ByteArray) (done : Bool) (l : List ByteArray) : List ByteArray := if done = true then l else insT s l

set_option maxRecDepth 100000 in
set_option maxHeartbeats 1600000 in
theorem specl23Put_any (l0 : List ByteArray) (v0 : Value) (s : ByteArray) (w : World) (B : Nat) (hB : B ≤ w.heap.size) (hn0 : l0.length ≤ 4194304) (hs : s.size ≤ maxLen) (hx : ∀ x ∈ l0, x.size ≤ maxLen) (ho : w.ownsRow B 9 1 v0 l0.length (l0.flatMap str1)) :
    Calls Try.prog 20 #[v0, .string s] w fun e w' => ∃ v', e = .returned v' ∧ Below w.heap.size w w' ∧ w'.ownsRow B 9 1 v' (putT s l0).length ((putT s l0).flatMap str1) := by
  obtain ⟨_, a, cap, rfl, hc, hm, hrow⟩ := Slc.of_own ho
  unfold maxLen at hm
  replace ho := hid ho
  obtain ⟨i0, hi, hz0, hz1, hz2⟩ := info_parts Try.info9
  go_enter Try.func20, Try.ntmps20
  go_wp2
  go_loopw [5, 6, 7] (fun v d i wr => ∃ (k : Nat) (acc : List ByteArray) (done : Bool), i = .int .i64 k ∧ d = .bool done ∧ k ≤ l0.length ∧ acc.length ≤ k + done.toNat ∧ Below w.heap.size w wr ∧ wr.ownsRow w.heap.size 9 1 v acc.length (acc.flatMap str1) ∧ Hid (insT s l0 = acc ++ rest s done (l0.drop k)) ∧ Hid (hasT l0 s = hasT (l0.drop k) s)) (fun _ _ i _ => l0.length - (intOf i).toNat)
  case atStart => exact ⟨0, [], false, rfl, rfl, by omega, by simp, by repeat (first | exact Below.refl _ _ | refine Below.alloc ?_ (by first | omega | (simp; done) | (simp; omega)) _ | refine Below.drew ?_), own_new0 _ _ _, hid rfl, hid rfl⟩
  obtain ⟨k, acc, done, rfl, rfl, hk, hacc, hb, hown, hrel, hhas⟩ := hrel
  have hbs := hb.size
  by_cases hlt : k < l0.length
  · obtain ⟨x, hx0⟩ := get_of_lt hlt
    obtain ⟨b, off, rfl, hro⟩ := slc_some hrow (by omega)
    have hc0 := hid (fun (W : World) (h : Below w.heap.size w W) => (hro.mono h (Nat.le_refl _)).one str1_len hx0 rfl)
    have c0 := hc0.out wr hb
    have hxs := hx x (List.mem_of_getElem? hx0)
    unfold maxLen at hxs hs
    rw [drop_cons hx0] at hrel hhas
    clear hx0 hro
    by_cases heq : (x.toList == s.toList) = true
    · have hR : Hid (putT s l0 = l0) := hid (by unfold putT; rw [if_pos]; rw [hhas.out]; simp [hasT] at heq ⊢; exact .inl heq)
      clear hrel hhas
      go_wp2
      go_ret
      rw [hR.out]
      exact ⟨_, rfl, hb, own_below ho.out hb (Nat.le_refl _)⟩
    · have heq : (x.toList == s.toList) = false := by simpa using heq
      have hh : Hid (hasT l0 s = hasT (l0.drop (k + 1)) s) := hid (by rw [hhas.out]; unfold hasT; rw [List.any_cons, heq, Bool.false_or])
      clear hhas
      cases done with
      | true =>
        simp only [Bool.toNat_true] at hacc
        have hr2 : Hid (insT s l0 = (acc ++ [x]) ++ rest s true (l0.drop (k + 1))) := hid (by rw [hrel.out]; simp [rest])
        clear hrel
        go_wp2_with (at_builtin; refine wpList_append_own _ rfl _ _ 24 rfl w.heap.size 9 i0 _ 1 16 Try.underlying24 hi hz0 hz1 hz2 rfl (by decide) _ acc.length (acc.flatMap str1) rfl (hown.alloc _) _ _ _ (str1 x) rfl rfl (new_cells_at _ _ _ _ _ rfl (by first | rfl | simp)) (by intro u hu; simp [str1] at hu; rcases hu with rfl | rfl | rfl | rfl | rfl <;> rfl) (by unfold maxLen; omega) (by omega) (by first | omega | (simp; done) | (simp; omega)) ?_; intro v2 w2 hown2 hgr2 hiff; clear hiff; have hb2 := app_below (hb.alloc (by first | omega | (simp; done) | (simp; omega)) _) (hown.alloc _) hgr2)
        all_goals go_roundw
        all_goals first
          | (simp [intOf]; omega)
          | exact ⟨k + 1, acc ++ [x], true, by go_num, rfl, by omega, by simp; omega, hb2, by simpa using hown2, hr2, hh⟩
      | false =>
        simp only [Bool.toNat_false] at hacc
        by_cases hgt : gtT x s = true
        · have hr2 : Hid (insT s l0 = (acc ++ [s] ++ [x]) ++ rest s true (l0.drop (k + 1))) := hid (by rw [hrel.out]; simp [rest, insT, hgt])
          unfold gtT at hgt
          simp only [heq, Bool.or_false, Bool.not_eq_true', Bool.not_eq_false'] at hgt
          clear hrel
          go_wp2_with (first
            | ((at_builtin; refine wpList_append_own _ rfl _ _ 24 rfl w.heap.size 9 i0 _ 1 16 Try.underlying24 hi hz0 hz1 hz2 rfl (by decide) _ acc.length (acc.flatMap str1) rfl (hown.alloc _) _ _ _ (str1 s) rfl rfl (new_cells_at _ _ _ _ _ rfl (by first | rfl | simp)) (by intro u hu; simp [str1] at hu; rcases hu with rfl | rfl | rfl | rfl | rfl <;> rfl) (by unfold maxLen; omega) (by omega) (by first | omega | (simp; done) | (simp; omega)) ?_; intro v2 w2 hown2 hgr2 hiff; clear hiff; have hb2 := app_below (hb.alloc (by first | omega | (simp; done) | (simp; omega)) _) (hown.alloc _) hgr2); have c1 := hc0.out _ hb2)
            | (at_builtin; refine wpList_append_own _ rfl _ _ 24 rfl w.heap.size 9 i0 _ 1 16 Try.underlying24 hi hz0 hz1 hz2 rfl (by decide) _ (acc.length + 1) (acc.flatMap str1 ++ str1 s) rfl (hown2.alloc _) _ _ _ (str1 x) rfl rfl (new_cells_at _ _ _ _ _ rfl (by first | rfl | simp)) (by intro u hu; simp [str1] at hu; subst hu; rfl) (by unfold maxLen; omega) (by omega) (by have := hb2.size; simp; omega) ?_; intro v3 w3 hown3 hgr3 hiff; clear hiff; have hb3 := app_below (hb2.alloc hb2.size _) (hown2.alloc _) hgr3))
          all_goals go_roundw
          all_goals first
            | (simp [intOf]; omega)
            | exact ⟨k + 1, acc ++ [s] ++ [x], true, by go_num, rfl, by omega, by simp; omega, hb3, by simpa using hown3, hr2, hh⟩
        · have hgt : gtT x s = false := by simpa using hgt
          have hr2 : Hid (insT s l0 = (acc ++ [x]) ++ rest s false (l0.drop (k + 1))) := hid (by rw [hrel.out]; simp [rest, insT, hgt])
          unfold gtT at hgt
          simp only [heq, Bool.or_false, Bool.not_eq_true', Bool.not_eq_false'] at hgt
          clear hrel
          go_wp2_with (at_builtin; refine wpList_append_own _ rfl _ _ 24 rfl w.heap.size 9 i0 _ 1 16 Try.underlying24 hi hz0 hz1 hz2 rfl (by decide) _ acc.length (acc.flatMap str1) rfl (hown.alloc _) _ _ _ (str1 x) rfl rfl (new_cells_at _ _ _ _ _ rfl (by first | rfl | simp)) (by intro u hu; simp [str1] at hu; rcases hu with rfl | rfl | rfl | rfl | rfl <;> rfl) (by unfold maxLen; omega) (by omega) (by first | omega | (simp; done) | (simp; omega)) ?_; intro v2 w2 hown2 hgr2 hiff; clear hiff; have hb2 := app_below (hb.alloc (by first | omega | (simp; done) | (simp; omega)) _) (hown.alloc _) hgr2)
          all_goals go_roundw
          all_goals first
            | (simp [intOf]; omega)
            | exact ⟨k + 1, acc ++ [x], false, by go_num, rfl, by omega, by simp; omega, hb2, by simpa using hown2, hr2, hh⟩
  · obtain rfl : k = l0.length := by omega
    have hR0 : Hid (putT s l0 = insT s l0) := hid (by unfold putT; rw [if_neg]; rw [hhas.out, List.drop_of_length_le (Nat.le_refl _)]; simp [hasT])
    rw [List.drop_of_length_le (Nat.le_refl _)] at hrel
    unfold maxLen at hs
    clear hhas
    cases done with
    | true =>
      simp only [Bool.toNat_true] at hacc
      have hR : Hid (putT s l0 = acc) := hid (by rw [hR0.out, hrel.out]; simp [rest])
      clear hrel hR0
      go_wp2
      go_ret
      rw [hR.out]
      exact ⟨_, rfl, hb, own_base hown hB⟩
    | false =>
      simp only [Bool.toNat_false] at hacc
      have hR : Hid (putT s l0 = acc ++ [s]) := hid (by rw [hR0.out, hrel.out]; simp [rest, insT])
      clear hrel hR0
      go_wp2_with (at_builtin; refine wpList_append_own _ rfl _ _ 24 rfl w.heap.size 9 i0 _ 1 16 Try.underlying24 hi hz0 hz1 hz2 rfl (by decide) _ acc.length (acc.flatMap str1) rfl (hown.alloc _) _ _ _ (str1 s) rfl rfl (new_cells_at _ _ _ _ _ rfl (by first | rfl | simp)) (by intro u hu; simp [str1] at hu; rcases hu with rfl | rfl | rfl | rfl | rfl <;> rfl) (by unfold maxLen; omega) (by omega) (by first | omega | (simp; done) | (simp; omega)) ?_; intro v2 w2 hown2 hgr2 hiff; clear hiff; have hb2 := app_below (hb.alloc (by first | omega | (simp; done) | (simp; omega)) _) (hown.alloc _) hgr2)
      all_goals go_ret
      all_goals (rw [hR.out]; exact ⟨_, rfl, hb2, own_base (by simpa using hown2) hB⟩)
end Go.Proofs.Ytfdmfkonneonaaa
