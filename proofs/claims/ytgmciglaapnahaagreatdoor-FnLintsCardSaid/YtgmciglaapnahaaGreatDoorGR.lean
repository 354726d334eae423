/- Walks and lemmas of this seat (PNames): what each theorem says of the functions that it names. Conditions: those that each theorem states. -/
import Derived.Test.YtgmciglaapnahaaGreatDoorGA
import Derived.Lib.SlicesCompact
import Derived.Test.YtgmciglaapnahaaGreatDoorShelf
import Derived.WalkLawsBesides
import Derived.Sort.Walk0
import Derived.Sort.OwnSorted
import Derived.Lib.OwnBridge
import Derived.Test.YtgmciglaapnahaaGreatDoorGK
namespace Go.Proofs.YtgmciglaapnahaaGreatDoor
set_option linter.unusedVariables false
set_option linter.unusedSimpArgs false
open Go.RowKit

/-! Names in order, each once. -/
theorem bl_trans {x y z : List UInt8} (h : x < y) (k : y < z) : x < z := List.lt_trans h k
theorem bl_irrefl (x : List UInt8) : ¬ x < x := List.lt_irrefl x
theorem bl_tri (x y : List UInt8) : x < y ∨ x = y ∨ y < x := by
  by_cases h : x < y
  · exact .inl h
  · by_cases k : y < x
    · exact .inr (.inr k)
    · exact .inr (.inl (List.le_antisymm (List.not_lt.1 k) (List.not_lt.1 h)))
/-- s in its place among others, where it is not there. -/
def ins (s : List UInt8) : List (List UInt8) → List (List UInt8)
  | [] => [s]
  | x :: l => if s < x then s :: x :: l else x :: ins s l
def putN (s : List UInt8) (l : List (List UInt8)) : List (List UInt8) := if s ∈ l then l else ins s l
/-- All names, in order. -/
def namesL (L : List (List UInt8)) : List (List UInt8) := L.foldl (fun l s => putN s l) []
theorem ins_mem (s : List UInt8) : ∀ (l : List (List UInt8)) (x : List UInt8), x ∈ ins s l ↔ x = s ∨ x ∈ l := by
  intro l
  induction l with
  | nil => intro x; simp [ins]
  | cons y l ih =>
    intro x
    rw [ins]
    split
    · simp
    · simp only [List.mem_cons, ih]
      constructor
      · rintro (h | h | h)
        · exact .inr (.inl h)
        · exact .inl h
        · exact .inr (.inr h)
      · rintro (h | h | h)
        · exact .inr (.inl h)
        · exact .inl h
        · exact .inr (.inr h)
theorem ins_sorted (s : List UInt8) : ∀ (l : List (List UInt8)), l.Pairwise (· < ·) → s ∉ l → (ins s l).Pairwise (· < ·) := by
  intro l
  induction l with
  | nil => intro _ _; simp [ins]
  | cons y l ih =>
    intro h hs
    rw [ins]
    rw [List.pairwise_cons] at h
    split
    · rename_i hlt
      rw [List.pairwise_cons]
      refine ⟨fun x hx => ?_, List.pairwise_cons.2 h⟩
      rcases List.mem_cons.1 hx with rfl | hx
      · exact hlt
      · exact bl_trans hlt (h.1 x hx)
    · rename_i hlt
      rw [List.pairwise_cons]
      refine ⟨fun x hx => ?_, ih h.2 (fun e => hs (List.mem_cons_of_mem _ e))⟩
      rcases (ins_mem s l x).1 hx with rfl | hx
      · rcases bl_tri x y with k | k | k
        · exact absurd k hlt
        · exact absurd (by rw [k]; exact List.mem_cons_self) hs
        · exact k
      · exact h.1 x hx
theorem putN_sorted {s : List UInt8} {l : List (List UInt8)} (h : l.Pairwise (· < ·)) : (putN s l).Pairwise (· < ·) := by
  unfold putN
  split
  · exact h
  · rename_i hs; exact ins_sorted s l h hs
theorem putN_mem (s : List UInt8) (l : List (List UInt8)) (x : List UInt8) : x ∈ putN s l ↔ x = s ∨ x ∈ l := by
  unfold putN
  split
  · rename_i hs
    constructor
    · exact .inr
    · rintro (rfl | h)
      · exact hs
      · exact h
  · exact ins_mem s l x
theorem foldl_put (L : List (List UInt8)) : ∀ (l : List (List UInt8)), l.Pairwise (· < ·) → (L.foldl (fun l s => putN s l) l).Pairwise (· < ·) ∧ ∀ x, x ∈ L.foldl (fun l s => putN s l) l ↔ x ∈ L ∨ x ∈ l := by
  induction L with
  | nil => intro l h; exact ⟨h, fun x => by simp⟩
  | cons s L ih =>
    intro l h
    obtain ⟨h1, h2⟩ := ih (putN s l) (putN_sorted h)
    refine ⟨h1, fun x => ?_⟩
    rw [List.foldl_cons, h2, putN_mem, List.mem_cons]
    constructor
    · rintro (h | h | h)
      · exact .inl (.inr h)
      · exact .inl (.inl h)
      · exact .inr h
    · rintro ((h | h) | h)
      · exact .inr (.inl h)
      · exact .inl h
      · exact .inr (.inr h)
theorem strict_ext : ∀ {l r : List (List UInt8)}, l.Pairwise (· < ·) → r.Pairwise (· < ·) → (∀ x, x ∈ l ↔ x ∈ r) → l = r := by
  intro l
  induction l with
  | nil =>
    intro r _ _ h
    cases r with
    | nil => rfl
    | cons y r => exact absurd ((h y).2 List.mem_cons_self) (by simp)
  | cons x l ih =>
    intro r hl hr h
    cases r with
    | nil => exact absurd ((h x).1 List.mem_cons_self) (by simp)
    | cons y r =>
      rw [List.pairwise_cons] at hl hr
      have hxy : x = y := by
        rcases List.mem_cons.1 ((h x).1 List.mem_cons_self) with e | hx
        · exact e
        · rcases List.mem_cons.1 ((h y).2 List.mem_cons_self) with e | hy
          · exact e.symm
          · exact absurd (bl_trans (hr.1 x hx) (hl.1 y hy)) (bl_irrefl y)
      subst hxy
      congr 1
      refine ih hl.2 hr.2 fun z => ?_
      constructor
      · intro hz
        rcases List.mem_cons.1 ((h z).1 (List.mem_cons_of_mem _ hz)) with e | hz'
        · subst e; exact absurd (hl.1 z hz) (bl_irrefl z)
        · exact hz'
      · intro hz
        rcases List.mem_cons.1 ((h z).2 (List.mem_cons_of_mem _ hz)) with e | hz'
        · subst e; exact absurd (hr.1 z hz) (bl_irrefl z)
        · exact hz'
theorem compactUpTo_strict (d : Array (List UInt8)) (hs : ∀ i j, i < j → j < d.size → d[i]! ≤ d[j]!) : ∀ m, m ≤ d.size → (Lib.compactUpTo d m).Pairwise (· < ·) ∧ ∀ x, x ∈ Lib.compactUpTo d m ↔ ∃ i, i < m ∧ d[i]! = x := by
  intro m
  induction m with
  | zero => intro _; simp [Lib.compactUpTo]
  | succ m ih =>
    intro hm
    obtain ⟨h1, h2⟩ := ih (by omega)
    rw [Lib.compactUpTo_succ]
    by_cases hk : Lib.keeps d m = true
    · rw [if_pos hk]
      refine ⟨pairwise_snoc h1 fun a ha => ?_, fun x => ?_⟩
      · obtain ⟨i, hi, rfl⟩ := (h2 a).1 ha
        have hne : d[m]! ≠ d[m - 1]! := by
          intro e
          rw [Lib.keeps_neg (by omega) e] at hk
          cases hk
        have hle : d[i]! ≤ d[m - 1]! := by
          by_cases e : i = m - 1
          · rw [e]; exact List.not_lt.1 (bl_irrefl _)
          · exact hs i (m - 1) (by omega) (by omega)
        have hle2 := hs (m - 1) m (by omega) (by omega)
        rcases bl_tri d[i]! d[m]! with h | h | h
        · exact h
        · exfalso
          rw [h] at hle
          exact hne (List.le_antisymm hle hle2)
        · exfalso
          have : d[i]! ≤ d[m]! := hs i m hi (by omega)
          exact List.not_lt.2 this h
      · rw [List.mem_append, h2]
        constructor
        · rintro (⟨i, hi, e⟩ | h)
          · exact ⟨i, by omega, e⟩
          · simp at h; exact ⟨m, by omega, h.symm⟩
        · rintro ⟨i, hi, e⟩
          by_cases h : i = m
          · subst h; exact .inr (by simp [e])
          · exact .inl ⟨i, by omega, e⟩
    · have hk : Lib.keeps d m = false := by simpa using hk
      rw [if_neg (by rw [hk]; simp), List.append_nil]
      refine ⟨h1, fun x => ?_⟩
      rw [h2]
      constructor
      · rintro ⟨i, hi, e⟩; exact ⟨i, by omega, e⟩
      · rintro ⟨i, hi, e⟩
        by_cases h : i = m
        · subst h
          have hpos : 0 < i := by
            apply Nat.pos_of_ne_zero
            rintro rfl
            rw [Lib.keeps_lt_one d 0 (by omega)] at hk
            cases hk
          have heq : d[i]! = d[i - 1]! := by
            apply Classical.byContradiction
            intro hne
            rw [Lib.keeps_pos hne] at hk
            cases hk
          exact ⟨i - 1, by omega, by rw [← heq]; exact e⟩
        · exact ⟨i, by omega, e⟩
/-- THE LAW: sorted, and each once, is each put in its place. -/
theorem compact_sort (L : List (List UInt8)) : Lib.compact (L.mergeSort fun x y => decide (x ≤ y)) = namesL L := by
  have hp := List.mergeSort_perm L (fun x y => decide (x ≤ y))
  have hsrt := List.pairwise_mergeSort (le := fun x y : List UInt8 => decide (x ≤ y)) (fun a b c h k => by
    simp only [decide_eq_true_eq] at *
    exact List.le_trans h k) (fun a b => by
    simp only [Bool.or_eq_true, decide_eq_true_eq]
    exact List.le_total a b) L
  generalize L.mergeSort (fun x y => decide (x ≤ y)) = M at hp hsrt
  have hs : ∀ i j, i < j → j < M.toArray.size → M.toArray[i]! ≤ M.toArray[j]! := fun i j hij hj => by
    have hj' : j < M.length := by simpa using hj
    have := List.pairwise_iff_getElem.1 hsrt i j (by omega) hj' hij
    simpa [getElem!_pos, hj', show i < M.length by omega] using this
  obtain ⟨h1, h2⟩ := compactUpTo_strict M.toArray hs M.length (by simp)
  obtain ⟨h3, h4⟩ := foldl_put L [] List.Pairwise.nil
  refine strict_ext h1 h3 fun x => ?_
  rw [show Lib.compact M = Lib.compactUpTo M.toArray M.length from rfl, h2]
  unfold namesL; rw [h4]
  simp only [List.not_mem_nil, or_false]
  rw [← hp.mem_iff]
  constructor
  · rintro ⟨i, hi, e⟩
    rw [← e]
    simp [getElem!_pos, hi]
  · intro hx
    obtain ⟨i, hi, e⟩ := List.getElem_of_mem hx
    exact ⟨i, hi, by simp [getElem!_pos, hi, e]⟩
end Go.Proofs.YtgmciglaapnahaaGreatDoor
/- Walks and lemmas of this seat (FPut): what each theorem says of the functions that it names. Conditions: those that each theorem states. -/
namespace Go.Proofs.YtgmciglaapnahaaGreatDoor
set_option linter.unusedVariables false
set_option linter.unusedSimpArgs false
open Go.RowKit

/-! The same of texts. -/
def mkT (l : List UInt8) : ByteArray := ⟨l.toArray⟩
def dat (s : ByteArray) : List UInt8 := s.data.toList
theorem dat_mkT (l : List UInt8) : dat (mkT l) = l := by simp [mkT, dat]
theorem toList_dat (s : ByteArray) : s.toList = dat s := by rw [ByteArray.toList_eq]; rfl
theorem dat_inj {a b : ByteArray} (h : dat a = dat b) : a = b := toList_inj.1 (by rw [toList_dat, toList_dat, h])
/-- Is x greater than s? -/
def gtT (x s : ByteArray) : Bool := !(Op.bytesLess x.toList s.toList || x.toList == s.toList)
theorem gtT_iff (x s : ByteArray) : gtT x s = true ↔ dat s < dat x := by
  unfold gtT
  rw [bytesLess_eq, toList_dat, toList_dat]
  simp
  constructor
  · rintro ⟨h1, h2⟩
    rcases bl_tri (dat s) (dat x) with h | h | h
    · exact h
    · exact absurd h.symm h2
    · exact absurd h (List.not_lt.2 h1)
  · intro h
    exact ⟨List.not_lt.1 (fun k => bl_irrefl _ (bl_trans h k)), fun e => bl_irrefl (dat s) (by rw [e] at h; exact h)⟩
def insT (s : ByteArray) : List ByteArray → List ByteArray
  | [] => [s]
  | x :: l => if gtT x s = true then s :: x :: l else x :: insT s l
def hasT (l : List ByteArray) (s : ByteArray) : Bool := l.any fun x => x.toList == s.toList
def putT (s : ByteArray) (l : List ByteArray) : List ByteArray := if hasT l s = true then l else insT s l
theorem insT_len (s : ByteArray) (l : List ByteArray) : (insT s l).length = l.length + 1 := by
  induction l with
  | nil => rfl
  | cons x l ih => rw [insT]; split <;> simp [ih]
theorem putT_len (s : ByteArray) (l : List ByteArray) : (putT s l).length ≤ l.length + 1 := by
  unfold putT; split
  · omega
  · rw [insT_len]; omega
theorem insT_dat (s : ByteArray) (l : List ByteArray) : (insT s l).map dat = ins (dat s) (l.map dat) := by
  induction l with
  | nil => rfl
  | cons x l ih =>
    rw [insT, List.map_cons, ins]
    by_cases h : gtT x s = true
    · rw [if_pos h, if_pos ((gtT_iff x s).1 h)]; rfl
    · rw [if_neg h, if_neg (fun e => h ((gtT_iff x s).2 e)), List.map_cons, ih]
theorem hasT_iff (l : List ByteArray) (s : ByteArray) : hasT l s = true ↔ dat s ∈ l.map dat := by
  unfold hasT
  rw [List.any_eq_true]
  simp only [beq_iff_eq, toList_dat, List.mem_map]
theorem putT_dat (s : ByteArray) (l : List ByteArray) : (putT s l).map dat = putN (dat s) (l.map dat) := by
  unfold putT putN
  by_cases h : hasT l s = true
  · rw [if_pos h, if_pos ((hasT_iff l s).1 h)]
  · rw [if_neg h, if_neg (fun e => h ((hasT_iff l s).2 e)), insT_dat]
/-- All names, in order. -/
def namesT (L : List ByteArray) : List ByteArray := L.foldl (fun l s => putT s l) []
theorem foldl_putT (L : List ByteArray) : ∀ (l : List ByteArray), (L.foldl (fun l s => putT s l) l).map dat = (L.map dat).foldl (fun l s => putN s l) (l.map dat) := by
  induction L with
  | nil => intro l; rfl
  | cons s L ih => intro l; rw [List.foldl_cons, ih, putT_dat, List.map_cons, List.foldl_cons]
theorem namesT_dat (L : List ByteArray) : (namesT L).map dat = namesL (L.map dat) := foldl_putT L []
theorem map_dat_inj {a b : List ByteArray} (h : a.map dat = b.map dat) : a = b := by
  induction a generalizing b with
  | nil => cases b <;> simp_all
  | cons x a ih =>
    cases b with
    | nil => simp at h
    | cons y b =>
      simp only [List.map_cons, List.cons.injEq] at h
      rw [ih h.2, dat_inj h.1]
theorem namesT_eq (L : List ByteArray) : namesT L = (Lib.compact ((L.map dat).mergeSort fun x y => decide (x ≤ y))).map mkT := by
  apply map_dat_inj
  rw [namesT_dat, compact_sort, List.map_map]
  have : (dat ∘ mkT) = id := by funext l; exact dat_mkT l
  rw [this, List.map_id]
theorem foldT_len (L : List ByteArray) : ∀ (l : List ByteArray), (L.foldl (fun l s => putT s l) l).length ≤ l.length + L.length := by
  induction L with
  | nil => intro l; simp
  | cons s L ih => intro l; have := ih (putT s l); have := putT_len s l; rw [List.foldl_cons, List.length_cons]; omega
theorem namesT_len (L : List ByteArray) : (namesT L).length ≤ L.length := by have := foldT_len L []; simpa [namesT] using this

/-- What is built: before its place is found, and behind it. -/
def rest (s : ByteArray) (done : Bool) (l : List ByteArray) : List ByteArray := if done = true then l else insT s l

set_option maxRecDepth 100000 in
set_option maxHeartbeats 1600000 in
theorem specl23Put_any (l0 : List ByteArray) (v0 : Value) (s : ByteArray) (w : World) (B : Nat) (hB : B ≤ w.heap.size) (hn0 : l0.length ≤ 4194304) (hs : s.size ≤ maxLen) (hx : ∀ x ∈ l0, x.size ≤ maxLen) (ho : w.ownsRow B 9 1 v0 l0.length (l0.flatMap str1)) :
    Calls Tryz.prog 106 #[v0, .string s] w fun e w' => ∃ v', e = .returned v' ∧ Below w.heap.size w w' ∧ w'.ownsRow B 9 1 v' (putT s l0).length ((putT s l0).flatMap str1) := by
  obtain ⟨_, a, cap, rfl, hc, hm, hrow⟩ := Slc.of_own ho
  unfold maxLen at hm
  replace ho := hid ho
  obtain ⟨i0, hi, hz0, hz1, hz2⟩ := info_parts Tryz.info9
  go_enter Tryz.func106, Tryz.ntmps106
  go_wp2
  go_loopw [5, 6, 7] (fun v d i wr => ∃ (k : Nat) (acc : List ByteArray) (done : Bool), i = .int .i64 k ∧ d = .bool done ∧ k ≤ l0.length ∧ acc.length ≤ k + done.toNat ∧ Below w.heap.size w wr ∧ wr.ownsRow w.heap.size 9 1 v acc.length (acc.flatMap str1) ∧ Hid (insT s l0 = acc ++ rest s done (l0.drop k)) ∧ Hid (hasT l0 s = hasT (l0.drop k) s)) (fun _ _ i _ => l0.length - (intOf i).toNat)
  case atStart => exact ⟨0, [], false, rfl, rfl, by omega, by simp, by repeat (first | exact Below.refl _ _ | refine Below.alloc ?_ (by first | omega | (simp; done) | (simp; omega)) _ | refine Below.drew ?_), own_new0 _ _ _, hid rfl, hid rfl⟩
  obtain ⟨k, acc, done, rfl, rfl, hk, hacc, hb, hown, hrel, hhas⟩ := hrel
  have hbs := hb.size
  by_cases hlt : k < l0.length
  · obtain ⟨x, hx0⟩ := get_of_lt hlt
    obtain ⟨b, off, rfl, hro⟩ := slc_some hrow (by omega)
    have hc0 := hid (fun (W : World) (h : Below w.heap.size w W) => (hro.mono h (Nat.le_refl _)).one str1_len hx0 rfl)
    have c0 := hc0.out wr hb
    have hxs := hx x (List.mem_of_getElem? hx0)
    unfold maxLen at hxs hs
    rw [drop_cons hx0] at hrel hhas
    clear hx0 hro
    by_cases heq : (x.toList == s.toList) = true
    · have hR : Hid (putT s l0 = l0) := hid (by unfold putT; rw [if_pos]; rw [hhas.out]; simp [hasT] at heq ⊢; exact .inl heq)
      clear hrel hhas
      go_wp2
      go_ret
      rw [hR.out]
      exact ⟨_, rfl, hb, own_below ho.out hb (Nat.le_refl _)⟩
    · have heq : (x.toList == s.toList) = false := by simpa using heq
      have hh : Hid (hasT l0 s = hasT (l0.drop (k + 1)) s) := hid (by rw [hhas.out]; unfold hasT; rw [List.any_cons, heq, Bool.false_or])
      clear hhas
      cases done with
      | true =>
        simp only [Bool.toNat_true] at hacc
        have hr2 : Hid (insT s l0 = (acc ++ [x]) ++ rest s true (l0.drop (k + 1))) := hid (by rw [hrel.out]; simp [rest])
        clear hrel
        go_wp2_with (at_builtin; refine wpList_append_own _ rfl _ _ 26 rfl w.heap.size 9 i0 _ 1 16 Tryz.underlying26 hi hz0 hz1 hz2 rfl (by decide) _ acc.length (acc.flatMap str1) rfl (hown.alloc _) _ _ _ (str1 x) rfl rfl (new_cells_at _ _ _ _ _ rfl (by first | rfl | simp)) (by intro u hu; simp [str1] at hu; rcases hu with rfl | rfl | rfl | rfl | rfl <;> rfl) (by unfold maxLen; omega) (by omega) (by first | omega | (simp; done) | (simp; omega)) ?_; intro v2 w2 hown2 hgr2 hiff; clear hiff; have hb2 := app_below (hb.alloc (by first | omega | (simp; done) | (simp; omega)) _) (hown.alloc _) hgr2)
        all_goals go_roundw
        all_goals first
          | (simp [intOf]; omega)
          | exact ⟨k + 1, acc ++ [x], true, by go_num, rfl, by omega, by simp; omega, hb2, by simpa using hown2, hr2, hh⟩
      | false =>
        simp only [Bool.toNat_false] at hacc
        by_cases hgt : gtT x s = true
        · have hr2 : Hid (insT s l0 = (acc ++ [s] ++ [x]) ++ rest s true (l0.drop (k + 1))) := hid (by rw [hrel.out]; simp [rest, insT, hgt])
          unfold gtT at hgt
          simp only [heq, Bool.or_false, Bool.not_eq_true', Bool.not_eq_false'] at hgt
          clear hrel
          go_wp2_with (first
            | ((at_builtin; refine wpList_append_own _ rfl _ _ 26 rfl w.heap.size 9 i0 _ 1 16 Tryz.underlying26 hi hz0 hz1 hz2 rfl (by decide) _ acc.length (acc.flatMap str1) rfl (hown.alloc _) _ _ _ (str1 s) rfl rfl (new_cells_at _ _ _ _ _ rfl (by first | rfl | simp)) (by intro u hu; simp [str1] at hu; rcases hu with rfl | rfl | rfl | rfl | rfl <;> rfl) (by unfold maxLen; omega) (by omega) (by first | omega | (simp; done) | (simp; omega)) ?_; intro v2 w2 hown2 hgr2 hiff; clear hiff; have hb2 := app_below (hb.alloc (by first | omega | (simp; done) | (simp; omega)) _) (hown.alloc _) hgr2); have c1 := hc0.out _ hb2)
            | (at_builtin; refine wpList_append_own _ rfl _ _ 26 rfl w.heap.size 9 i0 _ 1 16 Tryz.underlying26 hi hz0 hz1 hz2 rfl (by decide) _ (acc.length + 1) (acc.flatMap str1 ++ str1 s) rfl (hown2.alloc _) _ _ _ (str1 x) rfl rfl (new_cells_at _ _ _ _ _ rfl (by first | rfl | simp)) (by intro u hu; simp [str1] at hu; subst hu; rfl) (by unfold maxLen; omega) (by omega) (by have := hb2.size; simp; omega) ?_; intro v3 w3 hown3 hgr3 hiff; clear hiff; have hb3 := app_below (hb2.alloc hb2.size _) (hown2.alloc _) hgr3))
          all_goals go_roundw
          all_goals first
            | (simp [intOf]; omega)
            | exact ⟨k + 1, acc ++ [s] ++ [x], true, by go_num, rfl, by omega, by simp; omega, hb3, by simpa using hown3, hr2, hh⟩
        · have hgt : gtT x s = false := by simpa using hgt
          have hr2 : Hid (insT s l0 = (acc ++ [x]) ++ rest s false (l0.drop (k + 1))) := hid (by rw [hrel.out]; simp [rest, insT, hgt])
          unfold gtT at hgt
          simp only [heq, Bool.or_false, Bool.not_eq_true', Bool.not_eq_false'] at hgt
          clear hrel
          go_wp2_with (at_builtin; refine wpList_append_own _ rfl _ _ 26 rfl w.heap.size 9 i0 _ 1 16 Tryz.underlying26 hi hz0 hz1 hz2 rfl (by decide) _ acc.length (acc.flatMap str1) rfl (hown.alloc _) _ _ _ (str1 x) rfl rfl (new_cells_at _ _ _ _ _ rfl (by first | rfl | simp)) (by intro u hu; simp [str1] at hu; rcases hu with rfl | rfl | rfl | rfl | rfl <;> rfl) (by unfold maxLen; omega) (by omega) (by first | omega | (simp; done) | (simp; omega)) ?_; intro v2 w2 hown2 hgr2 hiff; clear hiff; have hb2 := app_below (hb.alloc (by first | omega | (simp; done) | (simp; omega)) _) (hown.alloc _) hgr2)
          all_goals go_roundw
          all_goals first
            | (simp [intOf]; omega)
            | exact ⟨k + 1, acc ++ [x], false, by go_num, rfl, by omega, by simp; omega, hb2, by simpa using hown2, hr2, hh⟩
  · obtain rfl : k = l0.length := by omega
    have hR0 : Hid (putT s l0 = insT s l0) := hid (by unfold putT; rw [if_neg]; rw [hhas.out, List.drop_of_length_le (Nat.le_refl _)]; simp [hasT])
    rw [List.drop_of_length_le (Nat.le_refl _)] at hrel
    unfold maxLen at hs
    clear hhas
    cases done with
    | true =>
      simp only [Bool.toNat_true] at hacc
      have hR : Hid (putT s l0 = acc) := hid (by rw [hR0.out, hrel.out]; simp [rest])
      clear hrel hR0
      go_wp2
      go_ret
      rw [hR.out]
      exact ⟨_, rfl, hb, own_base hown hB⟩
    | false =>
      simp only [Bool.toNat_false] at hacc
      have hR : Hid (putT s l0 = acc ++ [s]) := hid (by rw [hR0.out, hrel.out]; simp [rest, insT])
      clear hrel hR0
      go_wp2_with (at_builtin; refine wpList_append_own _ rfl _ _ 26 rfl w.heap.size 9 i0 _ 1 16 Tryz.underlying26 hi hz0 hz1 hz2 rfl (by decide) _ acc.length (acc.flatMap str1) rfl (hown.alloc _) _ _ _ (str1 s) rfl rfl (new_cells_at _ _ _ _ _ rfl (by first | rfl | simp)) (by intro u hu; simp [str1] at hu; rcases hu with rfl | rfl | rfl | rfl | rfl <;> rfl) (by unfold maxLen; omega) (by omega) (by first | omega | (simp; done) | (simp; omega)) ?_; intro v2 w2 hown2 hgr2 hiff; clear hiff; have hb2 := app_below (hb.alloc (by first | omega | (simp; done) | (simp; omega)) _) (hown.alloc _) hgr2)
      all_goals go_ret
      all_goals (rw [hR.out]; exact ⟨_, rfl, hb2, own_base (by simpa using hown2) hB⟩)
end Go.Proofs.YtgmciglaapnahaaGreatDoor
/- Walks and lemmas of this seat (FOnce): what each theorem says of the functions that it names. Conditions: those that each theorem states. -/
namespace Go.Proofs.YtgmciglaapnahaaGreatDoor
set_option linter.unusedVariables false
set_option linter.unusedSimpArgs false
open Go.RowKit

theorem grown_putRow {α : Type} [Inhabited α] (enc : α → Value) (w : World) (q g : Nat) (d : Array α) : w.grownBy (Sort.putRow enc (Sort.ahead w q) g 0 d) (some g) := by
  refine ⟨rfl, rfl, rfl, by simp [Sort.putRow, Sort.mapBlock, Sort.ahead], fun k hk hne => ?_⟩
  have : g ≠ k := fun e => hne (by rw [e])
  simp [Sort.putRow, Sort.mapBlock, Sort.ahead, Array.getElem?_modify, this]
theorem strs_enc (l : List ByteArray) : l.flatMap str1 = (l.map dat).map encStr := by
  induction l with
  | nil => rfl
  | cons x l ih =>
    rw [List.flatMap_cons, List.map_cons, List.map_cons, ih]
    simp [str1, encStr, dat]
theorem enc_strs (l : List (List UInt8)) : l.map encStr = (l.map mkT).flatMap str1 := by
  have : (dat ∘ mkT) = id := by funext x; exact dat_mkT x
  have h2 : (l.map mkT).map dat = l := by rw [List.map_map, this, List.map_id]
  rw [strs_enc, h2]

set_option maxRecDepth 100000 in
set_option maxHeartbeats 1600000 in
/-- impl.once sorts a list of its caller's own and keeps each text once. -/
theorem implonce_any (l0 : List ByteArray) (v0 : Value) (w : World) (B : Nat) (hn0 : l0.length ≤ 4194304) (hnil : v0 ≠ .slice none 0 0) (ho : w.ownsRow B 9 1 v0 l0.length (l0.flatMap str1)) :
    Calls Tryz.prog 101 #[v0] w fun e w' => ∃ v', e = .returned v' ∧ w.grownBy w' v0.ownBlock ∧ w'.ownsRow B 9 1 v' (namesT l0).length ((namesT l0).flatMap str1) := by
  have ho1 := ho
  rw [strs_enc] at ho1
  obtain ⟨g, cap, rfl, hBg, hgw, hnc, hcm, hl, hH⟩ := Lib.holds_of_ownsRow ho1 hnil
  have hsort := Tryz.slices_Sort_string g 0 cap (l0.map dat) w hH hgw (by rw [hl]; omega)
  rw [List.length_map] at hsort
  obtain ⟨M, hM⟩ : ∃ M, M = (l0.map dat).mergeSort (fun x y => decide (x ≤ y)) := ⟨_, rfl⟩
  have hML : M.length = l0.length := by rw [hM]; simp
  have hNT := namesT_eq l0
  rw [← hM] at hsort hNT
  replace hM := hid hM
  replace hNT := hid hNT
  rcases ho1.2 with ⟨e0, _⟩ | ⟨g', cap', cur, he, hb1, hb2, h1, h2, h3, h4⟩
  · cases e0
  · injection he with e1 _ e3
    injection e1 with e1
    injection e1 with e1
    subst e1; subst e3
    go_enter Tryz.func101, Tryz.ntmps101
    go_wp2_with fail
    refine hsort.mono ?_; rintro e w1 ⟨rfl, n, os, rfl⟩
    have hown1 := ownsRow_sorted (n := n) (os := os) (ts := M) (ss := l0.map dat) (by rw [hML, List.length_map]) hBg hb2 (by rw [List.length_map]; exact h1) h2 h3
    rw [List.length_map] at hown1
    have hg1 := grownBy_sorted (w := w) (g := g) (n := n) (os := os) M.toArray
    generalize Sort.grow (Sort.putRow encStr (Sort.ahead w n) g 0 M.toArray) os = W1 at hown1 hg1 ⊢
    obtain ⟨g2, cap2, hv2, _, hg2w, hnc2, hcm2, hl2, hH2⟩ := Lib.holds_of_ownsRow hown1 (by simp)
    injection hv2 with e1 _ e3
    injection e1 with e1
    injection e1 with e1
    subst e1; subst e3
    have hcomp := Tryz.slices_Compact_string g 0 cap M W1 hH2 (by omega) (by omega)
    rw [hML] at hcomp
    have hlen := Lib.compact_length_le M
    rw [hML] at hlen
    go_wp2_with fail
    refine hcomp.mono ?_; rintro e w2 ⟨rfl, q, rfl⟩
    have hown2 := Lib.ownsRow_putRow (q := q) (k := (Lib.compact M).length) (ys := Lib.compact M ++ List.replicate (l0.length - (Lib.compact M).length) []) hown1 (by simp; omega) hlen
    have hg2 := grown_putRow encStr W1 q g (Lib.compact M ++ List.replicate (l0.length - (Lib.compact M).length) []).toArray
    rw [List.take_left] at hown2
    go_wp2
    go_ret
    refine ⟨_, rfl, grown_trans hg1 hg2, ?_⟩
    rw [hNT.out, List.length_map, ← enc_strs]
    exact hown2
end Go.Proofs.YtgmciglaapnahaaGreatDoor
/- Walks and lemmas of this seat (FRep): what each theorem says of the functions that it names. Conditions: those that each theorem states. -/
namespace Go.Proofs.YtgmciglaapnahaaGreatDoor
set_option linter.unusedVariables false
set_option linter.unusedSimpArgs false
open Go.RowKit Go.Lib

/-! The parameters that occur more than once. -/
def dupsAt (P : List ByteArray) : Nat → List ByteArray → List ByteArray
  | _, [] => []
  | k, x :: r => if hasT (P.take k) x = true then x :: dupsAt P (k + 1) r else dupsAt P (k + 1) r
def repeatedOf (P : List ByteArray) : List ByteArray := namesT (dupsAt P 0 P)
def repeated (l : List Node) (i : Int) : List ByteArray := repeatedOf (paramsOf l i)
theorem dupsAt_len (P : List ByteArray) : ∀ (r : List ByteArray) (k : Nat), (dupsAt P k r).length ≤ r.length := by
  intro r
  induction r with
  | nil => intro k; simp [dupsAt]
  | cons x r ih => intro k; have := ih (k + 1); unfold dupsAt; split <;> simp <;> omega
theorem find_has (s : ByteArray) (l : List ByteArray) : decide (0 ≤ findS s l 0) = hasT l s := by
  rw [Bool.eq_iff_iff, decide_eq_true_eq, findS_iff]; rfl
theorem take_cells {P : List ByteArray} {k : Nat} : ∀ (j : Nat) (u : Value), ((P.take k).flatMap str1)[j]? = some u → (P.flatMap str1)[j]? = some u := by
  intro j u h
  have e : P.flatMap str1 = (P.take k).flatMap str1 ++ (P.drop k).flatMap str1 := by rw [← List.flatMap_append, List.take_append_drop]
  rw [e, List.getElem?_append_left (List.getElem?_eq_some_iff.1 h).1]
  exact h
theorem slc_take {w : World} {P : List ByteArray} {b off k cap : Nat} (h : RowAt w b off (P.flatMap str1)) (hk : k ≤ P.length) (hc : k ≤ cap) (hm : cap ≤ maxLen) : Slc w (.slice (some ⟨b, off, none⟩) k cap) 1 (P.take k).length ((P.take k).flatMap str1) := by
  have e : (P.take k).length = k := by simp; omega
  rw [e]
  exact ⟨by rw [flat_len str1 1 str1_len, e], _, _, rfl, hc, hm, .inr ⟨_, _, rfl, fun j u hj => h j u (take_cells j u hj)⟩⟩
theorem putT_mem2 {Q : ByteArray → Prop} {s : ByteArray} {l : List ByteArray} (hs : Q s) (hl : ∀ x ∈ l, Q x) : ∀ x ∈ putT s l, Q x := by
  intro x hx
  have h1 : dat x ∈ (putT s l).map dat := List.mem_map_of_mem hx
  rw [putT_dat, putN_mem] at h1
  rcases h1 with h | h
  · rw [dat_inj h]; exact hs
  · obtain ⟨y, hy, e⟩ := List.mem_map.1 h
    rw [← dat_inj e]; exact hl y hy
theorem params_max {l : List Node} (hx : ∀ x ∈ l, x.Ok) (i : Int) : ∀ s ∈ paramsOf l i, s.size ≤ maxLen := by
  intro s hs
  unfold paramsOf at hs
  split at hs
  · unfold paramsAt at hs
    obtain ⟨k, _, rfl⟩ := List.mem_map.1 hs
    unfold textAt
    split
    · rename_i x hx'
      exact (hx x (List.mem_of_getElem? hx')).1
    · show 0 ≤ maxLen; unfold maxLen; omega
  · simp at hs
end Go.Proofs.YtgmciglaapnahaaGreatDoor
