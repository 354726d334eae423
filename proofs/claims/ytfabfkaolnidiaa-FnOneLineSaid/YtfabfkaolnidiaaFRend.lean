/- Walks and lemmas of this seat (FRend): what each theorem says of the functions that it names. Conditions: those that each theorem states. -/
import Derived.Test.YtfabfkaolnidiaaFLayI0
import Derived.Test.YtfabfkaolnidiaaFLayR
import Derived.Laws.BytesArg
namespace Go.Proofs.Ytfabfkaolnidiaa
set_option linter.unusedVariables false
set_option linter.unusedSimpArgs false
open Go.RowKit

theorem own_text {w : World} {B : Nat} {v : Value} {acc : List UInt8} (h : w.ownsRow B 5 1 v acc.length (acc.flatMap byte1)) : (convert 38 9 v).run Try.prog w = Result.ok (.string ⟨acc.toArray⟩) w := by
  by_cases hv : v = .slice none 0 0
  · have h0 : acc = [] := by
      rcases h.2 with ⟨_, h0⟩ | ⟨g, cap, cur, e, _⟩
      · exact List.eq_nil_of_length_eq_zero h0
      · rw [hv] at e; cases e
    subst hv
    subst h0
    exact run_convert_bytes_nil (P := Try.prog) w 38 5 Try.underlying38 Try.underlying5 0 0 9 Try.underlying9
  · exact OwnB.text (B := B) ⟨h, hv⟩
theorem fine_mass (n : Nat) : ∀ d : Doc, d.wt < n → d.Fine → d.mass ≤ 1048576 * d.wt := by
  induction n with
  | zero => intro d h; omega
  | succ n ih =>
    intro d hn hd
    have hh := hd.has
    have h1 : leafMass d.kind d.text ≤ 1048576 := by have := hh.t; unfold leafMass; split <;> (try split) <;> omega
    have h2 : ∀ l : List Doc, Doc.wts l < n → (∀ u ∈ l, Doc.Fine u) → Doc.massS l ≤ 1048576 * Doc.wts l := by
      intro l
      induction l with
      | nil => intro _ _; simp [Doc.massS]
      | cons u l ihl =>
        intro hw hf
        rw [Doc.wts] at hw
        have a := ih u (by omega) (hf u (by simp))
        have b := ihl (by omega) (fun v hv => hf v (by simp [hv]))
        rw [Doc.massS, Doc.wts]
        omega
    rw [d.wt_eq] at hn
    have h3 := h2 d.kids (by omega) hh.kids
    rw [d.mass_eq, d.wt_eq]
    omega
theorem fine_flat {d : Doc} (hf : d.Fine) (hw : d.wt ≤ 10000) : d.mass ≤ 10485760000 ∧ ∀ s, d.flat = some s → s.length ≤ 10485760000 := by
  have h1 := fine_mass _ d (Nat.lt_succ_self _) hf
  have h2 : d.mass ≤ 10485760000 := by omega
  exact ⟨h2, fun s hs => Nat.le_trans (Doc.flat_mass _ d (Nat.lt_succ_self _) s hs) h2⟩
theorem behind_le (n : Nat) : ∀ l : List Doc, Doc.wts l < n → (∀ d ∈ l, d.Fine) → behindW l ≤ 1048576 * Doc.wts l := by
  induction n with
  | zero => intro l h; omega
  | succ n ih =>
    intro l hn hf
    cases l with
    | nil => rw [behindW_nil]; omega
    | cons d C =>
      have hd := (hf d (by simp)).has
      have ht := hd.t
      rw [Doc.wts, d.wt_eq] at hn
      rw [behindW_cons, Doc.wts, d.wt_eq]
      have h1 := ih (d.kids ++ C) (by rw [Doc.wts_append]; omega) (fun x hx => by
        rcases List.mem_append.1 hx with hx | hx
        · exact hd.kids x hx
        · exact hf x (by simp [hx]))
      rw [Doc.wts_append] at h1
      split
      · omega
      split <;> omega

set_option maxRecDepth 100000 in
set_option maxHeartbeats 3200000 in
theorem renderClosure (g ob wb B : Nat) (wd : Int) (hwd : 0 ≤ wd ∧ wd ≤ 10000) (W : World) (ov tv : Value) (col : Nat) (L : List PIt) (x : PIt) (S : Nat → Prop)
    (h1 : W.cell? ⟨ob, 0, none⟩ = some (.pointer (some ⟨g, 0, none⟩))) (h2 : W.cell? ⟨wb, 0, none⟩ = some (.int .i64 wd)) (hW : Wr W g ov col tv) (ho : W.ownsRow B 92 7 tv L.length (L.flatMap PIt.cells))
    (hd : ∀ p ∈ L ++ [x], DocIs S W p.it.d p.kv ∧ p.it.d.Fine) (hw : itWts (pIts (L ++ [x])) ≤ 10000) (hc : col ≤ 8002000000) :
    Calls Try.prog 43 #[.agg #[.int .i64 x.it.d.kind, .int .i64 x.it.d.n, .string x.it.d.text, x.kv, .int .i64 x.it.d.group], .pointer (some ⟨ob, 0, none⟩), .pointer (some ⟨wb, 0, none⟩)] W fun e W' => e = .returned (.bool (fitDec wd col (pIts L) x.it)) ∧ Below W.heap.size W W' := by
  obtain ⟨hxd, hxf⟩ := hd x (by simp)
  rw [pIts_snoc, itWts_cons] at hw
  obtain ⟨hms, hfl⟩ := fine_flat hxf (by omega)
  obtain ⟨⟨xd, xi, xfl⟩, xkv⟩ := x
  simp only at hxd hxf hms hfl hw
  obtain ⟨xa, xn, xc, rfl⟩ := hxd.shape
  have hbw : behindW ((pIts L).map LIt.d) ≤ 104857600000 := by
    have h9 : Doc.wts ((pIts L).map LIt.d) ≤ 100000 := by unfold itWts at hw; omega
    have h8 := behind_le _ ((pIts L).map LIt.d) (Nat.lt_succ_self _) (fun d hd9 => by
      obtain ⟨y, hy, rfl⟩ := List.mem_map.1 hd9
      unfold pIts at hy
      obtain ⟨p, hp, rfl⟩ := List.mem_map.1 (List.mem_reverse.1 hy)
      exact (hd p (by simp [hp])).2)
    omega
  obtain ⟨bw, hbwe⟩ : ∃ bw, bw = behindW ((pIts L).map LIt.d) := ⟨_, rfl⟩
  have hbeh := hid fun (W1 : World) (hb : Below W.heap.size W W1) => implbehind_any g B ov col tv L S W1 (hW.below hb) (own_below ho hb (Nat.le_refl _)) (fun p hp => (hd p (by simp [hp])).1.mono hb (Nat.le_refl _)) (fun p hp => (hd p (by simp [hp])).2) (Nat.le_trans (Nat.le_add_left _ _) (Nat.le_trans hw (by omega)))
  rw [← hbwe] at hbeh hbw
  have hflt := hid fun (o : Obj) => implflat_any _ xd (.slice xa xn xc) (W.alloc o) S (Nat.lt_succ_self _) (Nat.le_trans hms (by omega)) (hxd.mono ((Below.refl _ _).alloc (Nat.le_refl _) o) (Nat.le_refl _))
  have h1l := World.block_lt_of_cell? W _ h1
  have h2l := World.block_lt_of_cell? W _ h2
  have h1l : ob < W.heap.size := h1l
  have h2l : wb < W.heap.size := h2l
  have t1 := hW.c1
  have hgl := hW.lt
  have hF : Hid (fitDec wd col (pIts L) ⟨xd, xi, xfl⟩ = match xd.flat with | none => false | some s => decide ((s.length : Int) + bw ≤ wd - col)) := hid (by rw [hbwe]; rfl)
  obtain ⟨dd, hdd⟩ : ∃ dd, dd = fitDec wd col (pIts L) ⟨xd, xi, xfl⟩ := ⟨_, rfl⟩
  rw [← hdd]
  have hF := hF.out
  rw [← hdd] at hF
  clear hbwe hdd
  cases hfx : xd.flat with
  | none =>
    rw [hfx] at hflt hF
    simp only at hF
    subst hF
    clear hfx hfl hd ho hW hw hxd hxf
    go_enter Try.func43, Try.ntmps43
    go_wp2_with (go_at_call 44; refine (hflt.out _).mono ?_; rintro e w2 ⟨rfl, hb2⟩; have hB2 : Below W.heap.size W w2 := ((Below.refl W.heap.size W).alloc (Nat.le_refl _) _).trans (hb2.mono (by simp)); replace hB2 := hid hB2)
    all_goals go_quiet (fail)
    all_goals go_wp2
    all_goals go_ret
    all_goals exact ⟨rfl, hB2.out.trans ((bdn _ _).mono hB2.out.size)⟩
  | some s =>
    have hsl := hfl s hfx
    have hfs : flatStr (some s) = ⟨s.toArray⟩ := rfl
    rw [hfx, hfs] at hflt
    have hss : (⟨s.toArray⟩ : ByteArray).size = s.length := rfl
    rw [hfx] at hF
    simp only at hF
    rw [← hss] at hF hsl
    generalize (⟨s.toArray⟩ : ByteArray) = sb at hflt hsl hF
    replace hF := hid hF
    have hwr1 : IntKind.wrap .i64 ((sb.size : Int) + (bw : Int)) = (sb.size : Int) + (bw : Int) := wrap_in _ (by unfold I64; omega)
    have hwr2 : IntKind.wrap .i64 (wd - (col : Int)) = wd - (col : Int) := wrap_in _ (by unfold I64; omega)
    clear hfx hfl hd ho hW hw hxd hxf hss hfs
    go_enter Try.func43, Try.ntmps43
    go_wp2_with (go_at_call 44; refine (hflt.out _).mono ?_; rintro e w2 ⟨rfl, hb2⟩)
    have hB2 : Below W.heap.size W w2 := ((Below.refl W.heap.size W).alloc (Nat.le_refl _) _).trans (hb2.mono (by simp))
    have p1 := (hB2.cell (p := ⟨ob, 0, none⟩) h1l).trans h1
    have p2 := (hB2.cell (p := ⟨wb, 0, none⟩) h2l).trans h2
    have p3 := (hB2.cell (p := ⟨g, 1, none⟩) hgl).trans t1
    replace hB2 := hid hB2
    go_region_held3 (fun V => V.cell? ⟨ob, 0, none⟩ = some (.pointer (some ⟨g, 0, none⟩)) ∧ V.cell? ⟨wb, 0, none⟩ = some (.int .i64 wd) ∧ V.cell? ⟨g, 1, none⟩ = some (.int .i64 col))
      (first | exact ⟨p1, p2, p3⟩ | exact ⟨z1, z2, z3⟩)
      (first | (go_at_call 45; refine (hbeh.out _ hB2.out.drew).mono ?_; rintro e w3 ⟨rfl, hb3⟩; have hB3 := hB2.out.drew.trans (hb3.mono hB2.out.size); have z1 := (hB3.cell (p := ⟨ob, 0, none⟩) h1l).trans h1; have z2 := (hB3.cell (p := ⟨wb, 0, none⟩) h2l).trans h2; have z3 := (hB3.cell (p := ⟨g, 1, none⟩) hgl).trans t1; replace hB3 := hid hB3))
    all_goals go_wp2
    all_goals go_ret
    all_goals exact ⟨by rw [hF.out]; rfl, hB3.out⟩
end Go.Proofs.Ytfabfkaolnidiaa
