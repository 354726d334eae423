/- Walks and lemmas of this seat (PNamesLaw): what each theorem says of the functions that it names. Conditions: those that each theorem states. -/
import Derived.Test.YtndbpfamklnfaaaGW
import Derived.Test.YtndbpfamklnfaaaGV
import Derived.Test.YtndbpfamklnfaaaGDZ
import Derived.Test.YtndbpfamklnfaaaFSameTexts
import Derived.Test.YtndbpfamklnfaaaGHB
namespace Go.Proofs.Ytndbpfamklnfaaa
set_option linter.unusedVariables false
set_option linter.unusedSimpArgs false
open Go.RowKit

/-! The names of a list are listed once, in order, and they are all. -/
theorem count_sum {α : Type} [BEq α] [LawfulBEq α] (V : List α) : ∀ (N : List α), N.Nodup → (∀ x ∈ V, x ∈ N) → (N.map fun s => V.count s).sum = V.length := by
  intro N hN
  induction V with
  | nil =>
    intro _
    have : ∀ M : List α, (M.map fun s => ([] : List α).count s).sum = 0 := fun M => by
      induction M with
      | nil => rfl
      | cons s M ih => rw [List.map_cons, List.sum_cons, ih]; rfl
    exact this N
  | cons x V ih =>
    intro h
    have h1 := ih fun y hy => h y (by simp [hy])
    have hx := h x (by simp)
    have e : ∀ M : List α, M.Nodup → (M.map fun s => (x :: V).count s).sum = (M.map fun s => V.count s).sum + if x ∈ M then 1 else 0 := by
      intro M
      induction M with
      | nil => intro _; simp
      | cons s M ihM =>
        intro hM
        rw [List.nodup_cons] at hM
        have := ihM hM.2
        rw [List.map_cons, List.sum_cons, this, List.map_cons, List.sum_cons, List.count_cons]
        by_cases hs : x = s
        · subst hs
          rw [if_neg hM.1]
          simp
          omega
        · have : (x ∈ s :: M) ↔ x ∈ M := by simp [hs]
          simp only [this]
          have hb : (x == s) = false := by simpa using hs
          rw [hb]
          simp
          omega
    rw [e N hN, h1, if_pos hx, List.length_cons]
theorem same01_dat (t n : ByteArray) : same01 t n = if dat t = dat n then 1 else 0 := by
  unfold same01
  rw [toList_dat, toList_dat]
  by_cases h : dat t = dat n
  · rw [if_pos h, if_pos (by simpa using h)]
  · rw [if_neg h, if_neg (by simpa using h)]
theorem usesAt_count (name : ByteArray) (x : Node) : usesAt name x = ((namesAt x).map dat).count (dat name) := by
  have h0 : ∀ t : ByteArray, [dat t].count (dat name) = same01 t name := fun t => by
    rw [same01_dat, List.count_singleton]
    by_cases h : dat t = dat name
    · rw [if_pos h, if_pos (by simpa using h)]
    · rw [if_neg h, if_neg (by simpa using h)]
  unfold usesAt namesAt
  rw [List.map_append, List.count_append]
  congr 1
  · split
    · exact (h0 _).symm
    · rfl
  · split
    · exact (h0 _).symm
    · rfl
theorem usesOf_count (name : ByteArray) (l : List Node) : usesOf name l = ((vnames l).map dat).count (dat name) := by
  induction l with
  | nil => rfl
  | cons x l ih => rw [usesOf, vnames, List.map_append, List.count_append, ih, usesAt_count]
theorem namesOf_put (l : List Node) : ((namesOf l).map dat).Pairwise (· < ·) ∧ ∀ x, x ∈ (namesOf l).map dat ↔ x ∈ (vnames l).map dat := by
  have e : (namesOf l).map dat = ((vnames l).map dat).foldl (fun l s => putN s l) [] := by unfold namesOf; exact namesT_dat _
  have h := foldl_put ((vnames l).map dat) [] (by simp)
  rw [e]
  refine ⟨h.1, fun x => ?_⟩
  rw [h.2]
  simp
theorem namesOf_nodup (l : List Node) : ((namesOf l).map dat).Nodup := by
  unfold List.Nodup
  exact (namesOf_put l).1.imp fun {a b} hab (heq : a = b) => bl_irrefl a (by rw [← heq] at hab; exact hab)
/-- THE LAW: the uses of the names listed are all that there are. -/
theorem names_total (l : List Node) : ((namesOf l).map fun s => usesOf s l).sum = (vnames l).length := by
  have h := count_sum ((vnames l).map dat) _ (namesOf_nodup l) fun x hx => ((namesOf_put l).2 x).2 hx
  rw [List.length_map, List.map_map] at h
  rw [← h]
  congr 1
  exact List.map_congr_left fun s _ => by rw [usesOf_count]; rfl
theorem names_used {l : List Node} {s : ByteArray} (h : s ∈ namesOf l) : 1 ≤ usesOf s l := by
  rw [usesOf_count]
  exact List.count_pos_iff.2 (((namesOf_put l).2 _).1 (List.mem_map_of_mem h))
theorem names_asc {l : List Node} {i : Nat} {a b : ByteArray} (ha : (namesOf l)[i]? = some a) (hb : (namesOf l)[i + 1]? = some b) : dat a < dat b := by
  have h := List.pairwise_iff_getElem.1 (namesOf_put l).1 i (i + 1) (by rw [List.length_map]; exact (List.getElem?_eq_some_iff.1 ha).1) (by rw [List.length_map]; exact (List.getElem?_eq_some_iff.1 hb).1) (by omega)
  rw [List.getElem_map, List.getElem_map, (List.getElem?_eq_some_iff.1 ha).2, (List.getElem?_eq_some_iff.1 hb).2] at h
  exact h
theorem vnames_mem {l : List Node} {s : ByteArray} (h : s ∈ vnames l) : ∃ x ∈ l, s = x.text ∨ s = x.other := by
  induction l with
  | nil => simp [vnames] at h
  | cons x l ih =>
    rw [vnames] at h
    rcases List.mem_append.1 h with h | h
    · refine ⟨x, by simp, ?_⟩
      unfold namesAt at h
      rcases List.mem_append.1 h with h | h
      · split at h
        · exact .inl (List.mem_singleton.1 h)
        · simp at h
      · split at h
        · exact .inr (List.mem_singleton.1 h)
        · simp at h
    · obtain ⟨y, hy, e⟩ := ih h
      exact ⟨y, by simp [hy], e⟩
theorem namesOf_memV {l : List Node} {s : ByteArray} (h : s ∈ namesOf l) : s ∈ vnames l := by
  obtain ⟨y, hy, hd⟩ := List.mem_map.1 (((namesOf_put l).2 _).1 (List.mem_map_of_mem h))
  rw [← dat_inj hd]; exact hy
theorem sum_take_leN (f : ByteArray → Nat) : ∀ (l : List ByteArray) (k : Nat), ((l.take k).map f).sum ≤ (l.map f).sum := by
  intro l
  induction l with
  | nil => intro k; simp
  | cons x l ih =>
    intro k
    cases k with
    | zero => simp
    | succ k => have := ih k; rw [List.take_succ_cons]; simp only [List.map_cons, List.sum_cons]; omega
theorem vnames_take {l : List Node} {k : Nat} {x : Node} (h : l[k]? = some x) : (vnames (l.take (k + 1))).length = (vnames (l.take k)).length + (namesAt x).length := by
  rw [take_next h]
  generalize l.take k = L
  induction L with
  | nil => simp [vnames]
  | cons y L ih => rw [List.cons_append, vnames, vnames, List.length_append, List.length_append, ih]; omega
end Go.Proofs.Ytndbpfamklnfaaa
/- Walks and lemmas of this seat (LFnNames): what each theorem says of the functions that it names. Conditions: those that each theorem states. -/
namespace Go.Proofs.Ytndbpfamklnfaaa
set_option linter.unusedVariables false
set_option linter.unusedSimpArgs false
open Go.RowKit

set_option maxRecDepth 100000 in
set_option maxHeartbeats 6400000 in
theorem lawFnNames {w : World} (bs : List UInt8) (v0 : Value) (hv0 : Slc w v0 1 bs.length (bs.flatMap byte1)) :
    Calls Try.prog 3 #[v0] w fun e w' => e = .returned (.bool true) ∧ Below w.heap.size w w' := by
  have hbig := hid (lawsbig_any v0 bs w hv0)
  by_cases hs : 1048576 < bs.length
  · have hd : decide (1048576 < bs.length) = true := by simpa using hs
    rw [hd] at hbig
    obtain ⟨_, a, cap, rfl, hcap, hm, hrow⟩ := hv0
    go_enter Try.func3, Try.ntmps3
    go_wp2_with (go_at_call 5; refine hbig.out.mono ?_; rintro e w' ⟨rfl, rfl⟩)
    go_ret
    exact ⟨rfl, Below.refl _ _⟩
  have hd : decide (1048576 < bs.length) = false := by simpa using hs
  rw [hd] at hbig
  have hdraw := hid (specDrawNamesOf_any w v0 bs hv0 (by omega))
  obtain ⟨_, a, cap, rfl, hcap, hm, _⟩ := hv0
  clear hd hs
  go_enter Try.func3, Try.ntmps3
  go_wp2_with (go_at_call 5; refine hbig.out.mono ?_; rintro e w' ⟨rfl, hw'⟩; subst w')
  refine hdraw.out.mono ?_; rintro e w1 ⟨v, l, rfl, hbw, hD, hsm, hll⟩
  have hf := hsm.fine (by omega)
  obtain ⟨va, vc, rfl, hvm, hvc, hsl⟩ := hD.shape
  have cnames := hid (fun (W : World) (hb : Below w1.heap.size w1 W) => implNamesOf_any l _ W hf.2.1 hf.2.2.1 (hD.mono hb (Nat.le_refl _)))
  have cuses := hid (fun (s : ByteArray) (hs : s.size ≤ 1048576) (W : World) (hb : Below w1.heap.size w1 W) => implUsesOf_any l _ s W hf.2.1 hf.2.2.1 (hD.mono hb (Nat.le_refl _)) hs)
  have cfi := hid (fun (W : World) (hb : Below w1.heap.size w1 W) => implFuncNames_any l _ W hf.2.1 hf.2.2.1 (hD.mono hb (Nat.le_refl _)))
  have cfs := hid (fun (W : World) (hb : Below w1.heap.size w1 W) => specFuncNames_any l _ W hf.2.1 hf.2.2.1 (hD.mono hb (Nat.le_refl _)))
  have hws := hbw.size
  have hB := hid (fun (W : World) (hb : Below w1.heap.size w1 W) => hbw.trans (hb.mono hws))
  have hb1 := hid (Below.refl w1.heap.size w1)
  have htot := hid (names_total l)
  have hvl := vnames_len l
  have hused := hid (fun s (h : s ∈ namesOf l) => (⟨names_used h, by
    obtain ⟨x, hx, e⟩ := vnames_mem (namesOf_memV h)
    have h1 := (hsm.2 x hx).1
    rcases e with rfl | rfl <;> omega⟩ : 1 ≤ usesOf s l ∧ s.size ≤ 16))
  have hasc := hid (fun (i : Nat) (a b : ByteArray) (ha : (namesOf l)[i]? = some a) (hb : (namesOf l)[i + 1]? = some b) => names_asc ha hb)
  have hstake := hid (sum_take_leN (fun s => usesOf s l) (namesOf l))
  have hNlen : (namesOf l).length ≤ 2600 := by
    have h1 := (namesOf_nodup l)
    have : (namesOf l).length ≤ ((namesOf l).map fun s => usesOf s l).sum := by
      have : ∀ M : List ByteArray, (∀ s ∈ M, 1 ≤ usesOf s l) → M.length ≤ (M.map fun s => usesOf s l).sum := fun M => by
        induction M with
        | nil => intro _; simp
        | cons s M ih => intro h; have h1 := h s (by simp); have h2 := ih fun t ht => h t (by simp [ht]); simp only [List.length_cons, List.map_cons, List.sum_cons]; omega
      exact this _ fun s hs => (hused.out s hs).1
    rw [htot.out] at this
    omega
  clear hdraw hbig hbw hf hsm hD
  generalize namesOf l = N at *
  go_wp2_with fail
  refine (cnames.out w1 hb1.out).mono ?_; rintro e w2 ⟨v2, rfl, hbx, ho2⟩
  have hb2 := hid (hb1.out.trans (hbx.mono hb1.out.size))
  have hN := hid (fun (W : World) (hb : Below w2.heap.size w2 W) => (Slc.of_own ho2).mono hb (Nat.le_refl _))
  obtain ⟨a2, c2, rfl, hm2⟩ := own_slice ho2
  have hs12 := hbx.size
  clear cnames hbx ho2
  go_wp2
  go_loopw [5, 6] (fun tv i wr => ∃ (k t : Nat), i = .int .i64 k ∧ k ≤ N.length ∧ tv = .int .i64 t ∧ t ≤ 2600 ∧ Hid (t = ((N.take k).map fun s => usesOf s l).sum) ∧ Hid (Below w2.heap.size w2 wr)) (fun _ i _ => N.length - (intOf i).toNat)
  case atStart => exact ⟨0, 0, rfl, by omega, rfl, by omega, hid (by simp), hid (Below.refl _ _)⟩
  obtain ⟨k, t, rfl, hk, rfl, ht, hsum, hb⟩ := hrel
  rename World => wo
  have hbo := hid (hb2.out.trans (hb.out.mono hb2.out.size))
  by_cases hlt : k < N.length
  · obtain ⟨x, hx⟩ := get_of_lt hlt
    obtain ⟨_, a9, c9, hv9, _, _, hrow9⟩ := hN.out wo hb.out
    simp only [Value.slice.injEq, true_and] at hv9
    obtain ⟨rfl, rfl⟩ := hv9
    obtain ⟨b, off, rfl, hro⟩ := slc_some hrow9 (by omega)
    have c0 := hro.one str1_len hx rfl
    have hu := hused.out x (List.mem_of_getElem? hx)
    have hu1 := hu.1
    have hsum2 : Hid (t + usesOf x l = ((N.take (k + 1)).map fun s => usesOf s l).sum) := hid (by rw [take_next hx, List.map_append, List.sum_append, ← hsum.out]; simp)
    have hbd : t + usesOf x l ≤ 2600 := by
      have h1 := hstake.out (k + 1)
      rw [htot.out, ← hsum2.out] at h1
      omega
    have hcu := hid (cuses.out x (by omega))
    generalize usesOf x l = u at *
    have hbl0 := World.block_lt_of_cell? wo _ c0
    by_cases hk0 : k = 0
    · subst hk0
      replace hx := hid hx
      clear hrow9 hro hu
      simp only [Nat.add_zero] at c0
      go_wp2_with fail
      refine (hcu.out wo hbo.out).mono ?_; rintro e w4 ⟨rfl, hbx⟩
      have hb4 := hid (hb.out.trans (hbx.mono hb.out.size))
      clear hbx hcu c0
      have hd1 : decide ((u : Int) < 1) = false := by rw [decide_eq_false_iff_not]; omega
      go_wp2_with fail
      go_quiet (fail)
      go_wp2
      all_goals go_roundw
      all_goals first
        | (simp [intOf]; omega)
        | exact ⟨1, t + u, by go_num, by omega, by first | rfl | (congr 1; omega), by omega, hsum2, hid (below_drewN hb4.out _)⟩
    · obtain ⟨k', rfl⟩ : ∃ k', k = k' + 1 := ⟨k - 1, by omega⟩
      obtain ⟨y, hy⟩ := get_of_lt (l := N) (k := k') (by omega)
      have d0 := hro.one str1_len hy rfl
      have hlt2 := hasc.out k' y x hy hx
      have hg : gtT x y = true := (gtT_iff x y).2 hlt2
      unfold gtT at hg
      simp only [Bool.not_eq_true', Bool.or_eq_false_iff] at hg
      obtain ⟨g1, g2⟩ := hg
      replace hx := hid hx
      replace hy := hid hy
      clear hrow9 hro hu hlt2
      have al : ∀ {q : Addr} {u : Value} (W : World), Below wo.heap.size wo W → wo.cell? q = some u → W.cell? q = some u := fun {q u} W hb h => (hb.cell (p := q) (World.block_lt_of_cell? wo _ h)).trans h
      have e0 := fun W hb => al W hb c0
      have e1 := fun W hb => al W hb d0
      clear al
      go_wp2_with fail
      refine (hcu.out wo hbo.out).mono ?_; rintro e w4 ⟨rfl, hbx⟩
      have f0 := e0 w4 hbx
      have f1 := e1 w4 hbx
      have hb4 := hid (hb.out.trans (hbx.mono hb.out.size))
      clear hbx hcu c0 d0 e0 e1
      have hd1 : decide ((u : Int) < 1) = false := by rw [decide_eq_false_iff_not]; omega
      have hd2 : decide ((0 : Int) < (k' : Int) + 1) = true := by rw [decide_eq_true_iff]; omega
      go_wp2_with fail
      go_quiet (fail)
      go_wp2
      all_goals go_roundw
      all_goals first
        | (simp [intOf]; omega)
        | exact ⟨k' + 1 + 1, t + u, by go_num, by omega, by first | rfl | (congr 1; omega), by omega, hsum2, hid (below_drewN hb4.out _)⟩
  · obtain rfl : k = N.length := by omega
    have htv : Hid (t = (vnames l).length) := hid (by rw [hsum.out, List.take_of_length_le (Nat.le_refl _), htot.out])
    clear hsum hb hused hasc hstake cuses htot
    replace hb2 := hbo
    go_wp2
    go_loopw [8, 9] (fun av i wr => ∃ (j q : Nat), i = .int .i64 j ∧ j ≤ l.length ∧ av = .int .i64 q ∧ q ≤ 2 * j ∧ Hid (q = (vnames (l.take j)).length) ∧ wr = wo) (fun _ i _ => l.length - (intOf i).toNat)
    case atStart => exact ⟨0, 0, rfl, by omega, rfl, by omega, hid (by simp [vnames]), rfl⟩
    obtain ⟨j, q, rfl, hj, rfl, hq, hcnt, rfl⟩ := hrel
    by_cases hlj : j < l.length
    · obtain ⟨x, ka, kc, b, off, hx, rfl, c0, c1, c2, c3, c4, hkd⟩ := hsl.at hb2.out (Nat.le_refl _) hlj
      have hvt := vnames_take hx
      clear hx c1 c2 c3 c4 hkd
      by_cases k32 : x.kind = 32
      · have hn : (namesAt x).length = 2 := by unfold namesAt; simp [isTextK, k32]
        have hc2 : Hid (q + 2 = (vnames (l.take (j + 1))).length) := hid (by rw [hvt, hn, ← hcnt.out])
        clear hvt hn hcnt
        go_wp2
        all_goals go_roundw
        all_goals first
          | (simp [intOf]; omega)
          | exact ⟨j + 1, q + 2, by go_num, by omega, by first | rfl | (congr 1; omega), by omega, hc2, by first | rfl | trivial⟩
      by_cases ht : isTextK x.kind = true
      · have hn : (namesAt x).length = 1 := by unfold namesAt; rw [if_pos ht, if_neg k32]; rfl
        have hc2 : Hid (q + 1 = (vnames (l.take (j + 1))).length) := hid (by rw [hvt, hn, ← hcnt.out])
        clear hvt hn hcnt
        obtain h1 | h1 | h1 | h1 : x.kind = 1 ∨ x.kind = 5 ∨ x.kind = 13 ∨ x.kind = 27 := by
          unfold isTextK at ht
          simp only [Bool.or_eq_true, beq_iff_eq] at ht
          omega
        all_goals clear ht k32
        all_goals go_wp2
        all_goals go_roundw
        all_goals first
          | (simp [intOf]; omega)
          | exact ⟨j + 1, q + 1, by go_num, by omega, by first | rfl | (congr 1; omega), by omega, hc2, by first | rfl | trivial⟩
      · have hn : (namesAt x).length = 0 := by unfold namesAt; rw [if_neg ht, if_neg k32]; rfl
        have hc2 : Hid (q = (vnames (l.take (j + 1))).length) := hid (by rw [hvt, hn, ← hcnt.out]; rfl)
        have n1 : (x.kind == 1) = false := by cases h : (x.kind == 1) <;> simp_all [isTextK]
        have n2 : (x.kind == 5) = false := by cases h : (x.kind == 5) <;> simp_all [isTextK]
        have n3 : (x.kind == 13) = false := by cases h : (x.kind == 13) <;> simp_all [isTextK]
        have n4 : (x.kind == 27) = false := by cases h : (x.kind == 27) <;> simp_all [isTextK]
        have n5 : (x.kind == 32) = false := by simpa using k32
        clear hvt hn hcnt ht k32
        go_wp2
        all_goals go_roundw
        all_goals first
          | (simp [intOf]; omega)
          | exact ⟨j + 1, q, by go_num, by omega, rfl, by omega, hc2, by first | rfl | trivial⟩
    · obtain rfl : j = l.length := by omega
      obtain rfl : t = q := by rw [htv.out, hcnt.out, List.take_of_length_le (Nat.le_refl _)]
      clear hcnt htv
      go_wp2_with fail
      refine (cfi.out _ hb2.out).mono ?_; rintro e w3 ⟨v3, rfl, hbx, ho3⟩
      have hb3 := hid (hb2.out.trans (hbx.mono hb2.out.size))
      obtain ⟨a3, c3, rfl, _⟩ := own_slice ho3
      replace ho3 := hid ho3
      clear hbx
      go_wp2_with fail
      refine (cfs.out w3 hb3.out).mono ?_; rintro e w4 ⟨v4, rfl, hbx, ho4⟩
      have hb4 := hid (hb3.out.trans (hbx.mono hb3.out.size))
      have hT := hid (lawssameTexts_self (funcNames l) _ _ w4 ((Slc.of_own ho3.out).mono hbx (Nat.le_refl _)) (Slc.of_own ho4))
      obtain ⟨a4, c4, rfl, _⟩ := own_slice ho4
      clear hbx ho4 ho3
      go_wp2_with fail
      refine hT.out.mono ?_; rintro e w5 ⟨rfl, hbx⟩
      have hb5 := hid (hb4.out.trans (hbx.mono hb4.out.size))
      clear hbx
      go_wp2
      go_ret
      exact ⟨rfl, hB.out _ hb5.out⟩
end Go.Proofs.Ytndbpfamklnfaaa
