/- Walks and lemmas of this seat (FDrawDiff): what each theorem says of the functions that it names. Conditions: those that each theorem states. -/
import Derived.Test.YtdnjjgidlpmgjaaFDrawText
import Derived.Laws.AppendOwn
namespace Go.Proofs.Ytdnjjgidlpmgjaa
set_option linter.unusedVariables false
set_option linter.unusedSimpArgs false
open Go.RowKit

theorem app_grown {w wr w2 : World} {p : Nat} {e : TypeId} {s n : Nat} {v : Value} {xs : List Value} (hg : w.grownBy wr (some p)) (ho : wr.ownsRow w.heap.size e s v n xs) (hr : wr.grownBy w2 v.ownBlock) : w.grownBy w2 (some p) :=
  ⟨hr.os.trans hg.os, hr.tape.trans hg.tape, hr.output.trans hg.output, Nat.le_trans hg.size hr.size, fun k hk hne => by
    rw [hr.block k (Nat.lt_of_lt_of_le hk hg.size) (fun e => by have := (ho.lt k e.symm).1; omega)]
    exact hg.block k hk hne⟩
theorem Cur.app {w0 wr w2 : World} {p B : Nat} {bv : Value} {bs : List UInt8} {e : TypeId} {s n : Nat} {v : Value} {xs : List Value} (hc : Cur w0 wr p bv bs) (hB : p < B) (ho : wr.ownsRow B e s v n xs) (hr : wr.grownBy w2 v.ownBlock) : Cur w0 w2 p bv bs := by
  have hat := hc.at_
  refine ⟨hc.code, hc.small, hc.at_, hc.old.grown hr hc.old.size (fun r e => ?_), hc.box.keep (hr.block p hc.box.lt (fun e => ?_))⟩
  · have := (ho.lt r e).1; omega
  · have := (ho.lt p e.symm).1; omega
theorem ownBlock_ne {w : World} {p B : Nat} {e : TypeId} {s n : Nat} {v : Value} {xs : List Value} (ho : w.ownsRow B e s v n xs) (hp : p < B) : v.ownBlock = none ∨ v.ownBlock ≠ some p := by
  cases hno : v.ownBlock with
  | none => exact .inl rfl
  | some g => exact .inr fun e => by have := (ho.lt g hno).1; have := Option.some.inj e; omega
def vlen : Value → Nat | .slice _ n _ => n | _ => 0
theorem own_vlen {w : World} {B : Nat} {e : TypeId} {s n : Nat} {v : Value} {xs : List Value} (h : w.ownsRow B e s v n xs) : vlen v = n := by
  rcases h.2 with ⟨rfl, h0⟩ | ⟨g, cap, cur, rfl, _⟩
  · rw [h0]; rfl
  · rfl
def pieces29 : List ByteArray := [⟨#[97]⟩, ⟨#[98]⟩, ⟨#[99]⟩, ⟨#[]⟩, ⟨#[32, 100]⟩, ⟨#[45, 101]⟩]

set_option maxRecDepth 100000 in
set_option maxHeartbeats 3200000 in
theorem specl29Lines_any (w0 w : World) (p : Nat) (bv : Value) (bs : List UInt8) (hc : Cur w0 w p bv bs) :
    Calls Try.prog 97 #[.pointer (some ⟨p, 0, none⟩)] w fun e w' => ∃ (v : Value) (l : List ByteArray), l.length ≤ 207 ∧ (∀ x ∈ l, x.size ≤ 2) ∧ e = .returned v ∧ w.grownBy w' (some p) ∧ Cur w0 w' p bv bs ∧ w'.ownsRow w.heap.size 9 1 v l.length (l.flatMap str1) := by
  have hpw := hc.box.lt
  have hcall := hid (fun o => specl1Below_any w0 (w.alloc o) p bv bs 8 (by unfold I64; omega) (hc.below ((Below.refl _ _).alloc (Nat.le_refl _) _)))
  clear hc
  obtain ⟨i0, hi, hz0, hz1, hz2⟩ := info_parts Try.info9
  go_enter Try.func97, Try.ntmps97
  go_wp2_with fail
  refine (hcall.out _).mono ?_; rintro e w1 ⟨x, rfl, hx0, hx1, _, hg1, hc1⟩
  replace hx1 := hx1 (by omega)
  have hown1 := (own_new0 w 9 1).kept hg1 (by right; simp [Value.ownBlock]; omega)
  clear hcall
  go_wp2
  go_loopw [3, 4] (fun v i wr => ∃ (l : List ByteArray) (m : Nat), i = .int .i64 m ∧ l.length + m ≤ 7 ∧ Hid (∀ x ∈ l, x.size ≤ 2) ∧ w.grownBy wr (some p) ∧ Cur w0 wr p bv bs ∧ wr.ownsRow w.heap.size 9 1 v l.length (l.flatMap str1)) (fun _ i _ => (intOf i).toNat)
  case atStart => exact ⟨[], x.toNat, by congr 1; omega, by simp; omega, hid (by simp), grown_trans (World.grownBy_alloc _ _ _) hg1, hc1, hown1⟩
  clear hg1 hc1 hx0 hx1 hown1
  obtain ⟨l, m, rfl, hm, hsz, hg, hc, hown⟩ := hrel
  have hwr := hg.size
  by_cases hm0 : 0 < m
  · have hcall := hid (fun o => specl1Pick_any w0 (wr.alloc (.cells (pieces29.flatMap str1).toArray o)) p bv bs pieces29 wr.heap.size 6 (by decide) (by decide) (by decide) (by omega) (rowAt_lit _ _ _) (hc.below ((Below.refl _ _).alloc (Nat.le_refl _) _)))
    replace hg := hid hg
    replace hown := hid hown
    clear hc
    go_wp2_with fail
    refine (hcall.out _).mono ?_; rintro e w3 ⟨y, hy, rfl, hg3, hc3⟩
    have hys : y.size ≤ 2 := by
      have : ∀ y ∈ pieces29, y.size ≤ 2 := by decide
      exact this y hy
    have hs3 := hg3.size
    rw [World.size_alloc] at hs3
    have hg4 := hid (grown_trans (grown_al hg.out _) hg3)
    have hown3 := (hown.out.alloc _).kept hg3 (ownBlock_ne hown.out hpw)
    replace hc3 := hid hc3
    clear hg hg3 hcall hy hown
    have hown4 := hid hown3
    go_wp2_with (at_builtin; refine wpList_append_own _ rfl _ _ 34 rfl w.heap.size 9 i0 _ 1 16 Try.underlying34 hi hz0 hz1 hz2 rfl (by decide) _ l.length (l.flatMap str1) rfl (hown4.out.alloc _) _ _ _ (str1 y) rfl rfl (new_cells_at _ _ _ _ _ rfl (by first | rfl | simp)) (by intro u hu; simp [str1] at hu; rcases hu with rfl; rfl) (by unfold maxLen; omega) (by omega) (by first | omega | (simp; done) | (simp; omega)) ?_; intro v2 w2 hown2 hgr2 hiff; clear hiff)
    all_goals go_roundw
    all_goals first
      | (simp only [intOf]; omega)
      | exact ⟨l ++ [y], m - 1, by congr 1; omega, by simp; omega, hid (by intro z hz; rcases List.mem_append.1 hz with h | h; exact hsz.out z h; rw [List.mem_singleton.1 h]; exact hys), app_grown (grown_al hg4.out _) (hown4.out.alloc _) hgr2, (hc3.out.below ((Below.refl _ _).alloc (Nat.le_refl _) _)).app hpw (hown4.out.alloc _) hgr2, by simpa using hown2⟩
  · have hcall := hid (specl1Once_any w0 wr p bv bs 40 (by unfold I64; omega) hc)
    replace hg := hid hg
    replace hown := hid hown
    clear hc
    go_wp2_with fail
    refine hcall.out.mono ?_; rintro e w3 ⟨b, rfl, hg3, hc3⟩
    have hg4 := hid (grown_trans hg.out hg3)
    have hs3 := hg3.size
    have hown3 := hid (hown.out.kept hg3 (ownBlock_ne hown.out hpw))
    clear hg hg3 hcall hown
    cases b with
    | false =>
      replace hc3 := hid hc3
      go_wp2
      go_ret
      exact ⟨_, l, by omega, hsz.out, rfl, hg4.out, hc3.out, hown3.out⟩
    | true =>
      go_wp2
      rename World => wrX
      go_loopw [3] (fun v wr => ∃ (l : List ByteArray), l.length ≤ 207 ∧ Hid (∀ x ∈ l, x.size ≤ 2) ∧ w.grownBy wr (some p) ∧ Cur w0 wr p bv bs ∧ wr.ownsRow w.heap.size 9 1 v l.length (l.flatMap str1)) (fun v _ => 210 - vlen v)
      case atStart => exact ⟨l, by omega, hsz, hg4.out, hc3, hown3.out⟩
      clear hg4 hc3 hown3 hs3
      obtain ⟨l2, hm2, hsz2, hg2, hc2, ho2⟩ := hrel
      have hwr2 := hg2.size
      obtain ⟨va, vc, rfl, hvm⟩ := own_slice ho2
      have hcall := hid (specl1Below_any w0 wr p bv bs 3 (by unfold I64; omega) hc2)
      replace hg2 := hid hg2
      replace ho2 := hid ho2
      clear hc2
      go_wp2_with fail
      refine hcall.out.mono ?_; rintro e w3 ⟨y, rfl, hy0, hy1, _, hg3, hc3⟩
      replace hy1 := hy1 (by omega)
      have hs3 := hg3.size
      have hg4 := hid (grown_trans hg2.out hg3)
      have ho3 := hid (ho2.out.kept hg3 (ownBlock_ne ho2.out hpw))
      replace hc3 := hid hc3
      clear hg2 hg3 hcall ho2
      by_cases hlt : (l2.length : Int) < 199 + y
      · go_wp2_with (at_builtin; refine wpList_append_own _ rfl _ _ 34 rfl w.heap.size 9 i0 _ 1 16 Try.underlying34 hi hz0 hz1 hz2 rfl (by decide) _ l2.length (l2.flatMap str1) rfl (ho3.out.alloc _) _ _ _ (str1 ⟨#[120]⟩) rfl rfl (new_cells_at _ _ _ _ _ rfl (by first | rfl | simp)) (by intro u hu; simp [str1] at hu; rcases hu with rfl; rfl) (by unfold maxLen; omega) (by omega) (by first | omega | (simp; done) | (simp; omega)) ?_; intro v2 w2 hown2 hgr2 hiff; clear hiff)
        all_goals go_roundw
        all_goals first
          | (rw [own_vlen hown2]; simp only [vlen]; omega)
          | exact ⟨l2 ++ [⟨#[120]⟩], by simp; omega, hid (by intro z hz; rcases List.mem_append.1 hz with h | h; exact hsz2.out z h; rw [List.mem_singleton.1 h]; decide), app_grown (grown_al hg4.out _) (ho3.out.alloc _) hgr2, (hc3.out.below ((Below.refl _ _).alloc (Nat.le_refl _) _)).app hpw (ho3.out.alloc _) hgr2, by simpa using hown2⟩
      · go_wp2
        go_ret
        exact ⟨_, l2, by omega, hsz2.out, rfl, hg4.out, hc3.out, ho3.out⟩

set_option maxRecDepth 100000 in
set_option maxHeartbeats 1600000 in
/-- Two lists of small texts. -/
def DrawnPair (w : World) (e : Ending) (w' : World) : Prop := ∃ (v0 v1 : Value) (l0 l1 : List ByteArray), l0.length ≤ 207 ∧ l1.length ≤ 207 ∧ (∀ x ∈ l0, x.size ≤ 2) ∧ (∀ x ∈ l1, x.size ≤ 2) ∧ e = .returned (.tuple #[v0, v1]) ∧ Below w.heap.size w w' ∧ Slc w' v0 1 l0.length (l0.flatMap str1) ∧ Slc w' v1 1 l1.length (l1.flatMap str1)
theorem own_upto {w0 w w' : World} {p : Nat} {v : Value} {xs : List Value} {T : TypeId} {s n : Nat} (h : w.ownsRow (p + 1) T s v n xs) (hg : w.grownBy w' (some p)) : w'.ownsRow (p + 1) T s v n xs := h.kept hg (ownBlock_ne h (Nat.lt_succ_self p))
set_option maxRecDepth 100000 in
set_option maxHeartbeats 1600000 in
theorem specDrawCommon_any (w : World) (bv : Value) (bs : List UInt8) (hc : Slc w bv 1 bs.length (bs.flatMap byte1)) (hs : bs.length ≤ 1048576) :
    Calls Try.prog 75 #[bv] w fun e w' => DrawnPair w e w' := by
  have hcall := hid (specl1New_any w bv bs hc hs)
  obtain ⟨_, a, cap, rfl, hcap, hm, hrow⟩ := hc
  go_enter Try.func75, Try.ntmps75
  go_wp2_with fail
  refine hcall.out.mono ?_; rintro e w1 ⟨p, rfl, hb1, hc1⟩
  have hpl := hc1.box.lt
  have hcall2 := hid (specl29Lines_any _ _ _ _ _ hc1)
  clear hc1 hcall hrow
  go_wp2_with fail
  refine hcall2.out.mono ?_; rintro e w2 ⟨v0, l0, hl0, hz0, rfl, hg2, hc2, ho0⟩
  have hcall3 := hid (specl29Lines_any _ _ _ _ _ hc2)
  have hob := hid (own_base (B' := p + 1) ho0 (by omega))
  clear hc2 hcall2
  obtain ⟨va, vc, rfl, hvm⟩ := own_slice ho0
  clear ho0
  go_wp2_with fail
  refine hcall3.out.mono ?_; rintro e w3 ⟨v1, l1, hl1, hz1, rfl, hg3, hc3, ho1⟩
  have hB := hid hc3.old
  obtain ⟨vb, vd, rfl, hvm2⟩ := own_slice ho1
  have hS1 := hid (Slc.of_own ho1)
  have hS0 := hid (Slc.of_own (own_upto (w0 := w) hob.out hg3))
  clear hc3 hcall3 hg3 ho1 hob
  go_wp2
  go_ret2
  exact ⟨_, _, l0, l1, hl0, hl1, hz0, hz1, rfl, hB.out, hS0.out, hS1.out⟩
set_option maxRecDepth 100000 in
theorem specDrawDiff_any (w : World) (bv : Value) (bs : List UInt8) (hc : Slc w bv 1 bs.length (bs.flatMap byte1)) (hs : bs.length ≤ 1048576) :
    Calls Try.prog 35 #[bv] w fun e w' => DrawnPair w e w' := by
  have hcall := hid (specDrawCommon_any w bv bs hc hs)
  obtain ⟨_, a, cap, rfl, hcap, hm, hrow⟩ := hc
  go_enter Try.func35, Try.ntmps35
  go_wp2_with fail
  refine hcall.out.mono ?_; rintro e w1 ⟨v0, v1, l0, l1, h1, h2, h3, h4, rfl, hB, hS0, hS1⟩
  obtain ⟨_, a0, c0, rfl, _⟩ := id hS0
  obtain ⟨_, a1, c1, rfl, _⟩ := id hS1
  replace hS0 := hid hS0
  replace hS1 := hid hS1
  replace hB := hid hB
  clear hcall hrow
  go_wp2
  go_ret2
  exact ⟨_, _, l0, l1, h1, h2, h3, h4, rfl, hB.out, hS0.out, hS1.out⟩
end Go.Proofs.Ytdnjjgidlpmgjaa
