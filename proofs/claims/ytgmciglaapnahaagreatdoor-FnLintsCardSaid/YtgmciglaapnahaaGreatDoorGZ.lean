/- Walks and lemmas of this seat (FRepS): what each theorem says of the functions that it names. Conditions: those that each theorem states. -/
import Derived.Test.YtgmciglaapnahaaGreatDoorGR
namespace Go.Proofs.YtgmciglaapnahaaGreatDoor
set_option linter.unusedVariables false
set_option linter.unusedSimpArgs false
open Go.RowKit Go.Lib

set_option maxRecDepth 100000 in
set_option maxHeartbeats 3200000 in
theorem specRepeated_any (l0 : List Node) (v0 : Value) (a1 : Int) (w : World) (hx0 : ∀ x ∈ l0, x.Ok) (hn0 : bulk Node.sizes l0 ≤ 1048576) (hv0 : NodeSlc w v0 l0) (ha1 : I64 a1) :
    Calls Tryz.prog 93 #[v0, .int .i64 a1] w fun e w' => ∃ v', e = .returned v' ∧ Below w.heap.size w w' ∧ w'.ownsRow w.heap.size 9 1 v' (repeated l0 a1).length ((repeated l0 a1).flatMap str1) := by
  have hv := hv0
  have hn := length_bulk Node.sizes l0
  have hpar := hid (fun W (hb : Below w.heap.size w W) => specParamsOf_any l0 v0 a1 W hx0 hn0 (hv.mono hb (Nat.le_refl _)) ha1)
  have hpl := paramsOf_len l0 (by omega) a1
  have hpm := hid (params_max hx0 a1)
  obtain ⟨a, cap, rfl, hm, hc, hsl⟩ := hv0.shape
  unfold repeated
  generalize paramsOf l0 a1 = P at hpar hpl hpm ⊢
  have hP : Hid (repeatedOf P = (dupsAt P 0 (P.drop 0)).foldl (fun l s => putT s l) []) := hid rfl
  generalize hrp : repeatedOf P = rp at hP ⊢
  clear hrp
  go_enter Tryz.func93, Tryz.ntmps93
  go_wp2_with fail
  refine (hpar.out _ (by repeat (first | exact Below.refl _ _ | refine Below.alloc ?_ (by first | omega | (simp; done) | (simp; omega)) _ | refine Below.drew ?_))).mono ?_; rintro e w2 ⟨pv, rfl, hb2, hownp⟩
  have hB2 : Below w.heap.size w w2 := (by repeat (first | exact Below.refl _ _ | refine Below.alloc ?_ (by first | omega | (simp; done) | (simp; omega)) _ | refine Below.drew ?_) : Below w.heap.size w _).trans (hb2.mono (by simp))
  have hown0 := own_below (own_new0 w 9 1) hb2 (Nat.le_refl _)
  obtain ⟨_, pa, pcap, rfl, hpc, hpcm, hprow⟩ := Slc.of_own hownp
  unfold maxLen at hpcm
  clear hpar hb2 hownp
  go_wp2
  go_loopw [5, 7] (fun v i wr => ∃ (k : Nat) (acc : List ByteArray), i = .int .i64 k ∧ k ≤ P.length ∧ acc.length ≤ k ∧ (∀ x ∈ acc, x.size ≤ maxLen) ∧ Below w.heap.size w wr ∧ Below w2.heap.size w2 wr ∧ wr.ownsRow w.heap.size 9 1 v acc.length (acc.flatMap str1) ∧ Hid (rp = (dupsAt P k (P.drop k)).foldl (fun l s => putT s l) acc)) (fun _ i _ => P.length - (intOf i).toNat)
  case atStart => exact ⟨0, [], rfl, by omega, by simp, by simp, hB2, Below.refl _ _, hown0, hP⟩
  clear hB2 hown0 hP
  obtain ⟨k, acc, rfl, hk, hacc, hxa, hb, hbw, hown, hrel⟩ := hrel
  have hbs := hb.size
  by_cases hlt : k < P.length
  · obtain ⟨x, hx⟩ := get_of_lt hlt
    obtain ⟨pb, poff, rfl, hpro⟩ := hprow.resolve_left (by omega)
    have hrw := hpro.mono hbw (Nat.le_refl _)
    have c0 := hrw.one str1_len hx rfl
    have hxm := hpm.out x (List.mem_of_getElem? hx)
    have hfind := hid fun n => specl3Find_any (P.take k) (.slice (some ⟨pb, poff, none⟩) k pcap) x (wr.drewN n) (by simp; omega) (slc_take hrw (by omega) (by omega) (by unfold maxLen; omega))
    have hfh := find_has x (P.take k)
    rw [drop_cons hx, dupsAt] at hrel
    have hki : (k : Int) < (P.length : Int) := by omega
    have hkc : (k : Int) ≤ (pcap : Int) := by omega
    have hkc2 : k ≤ pcap := by omega
    replace hxa := hid hxa
    replace hpm := hid hpm
    by_cases hd : hasT (P.take k) x = true
    · rw [if_pos hd, List.foldl_cons] at hrel
      rw [hd] at hfh
      have hput := hid fun n => specl23Put_any acc _ x (wr.drewN n) w.heap.size hbs (by omega) hxm hxa.out hown
      have hpl2 := putT_len x acc
      have hpm2 := hid (putT_mem2 (Q := fun x => x.size ≤ maxLen) hxm hxa.out)
      generalize findS x (P.take k) 0 = fv at hfind hfh
      have hfv : 0 ≤ fv := by simpa using hfh
      clear hfh hd hx hpro hprow hxm
      go_wp2_with fail
      go_quiet ((go_at_call 92; exact Calls.quiet_of_same (hfind.out _)))
      go_wp2_with fail
      refine (hput.out _).mono ?_; rintro e w4 ⟨v4, rfl, hb4, ho4⟩
      have hb5 := hb.trans ((show Below wr.heap.size wr w4 from ⟨hb4.os, hb4.tape, hb4.output, hb4.size, hb4.block⟩).mono hbs)
      have hbw5 := hbw.trans ((show Below wr.heap.size wr w4 from ⟨hb4.os, hb4.tape, hb4.output, hb4.size, hb4.block⟩).mono hbw.size)
      clear hput hfind hb4 hb hbw hown
      go_wp2
      go_roundw
      case rel => exact ⟨k + 1, putT x acc, by go_num, by omega, by omega, hpm2.out, hb5, hbw5, ho4, hrel⟩
      case measure => simp [intOf]; omega
    · have hd : hasT (P.take k) x = false := by simpa using hd
      rw [hd, if_neg (by decide)] at hrel
      rw [hd] at hfh
      generalize findS x (P.take k) 0 = fv at hfind hfh
      have hfv : fv < 0 := by simpa using hfh
      clear hfh hd hx hpro hprow hxm
      go_wp2_with fail
      go_quiet ((go_at_call 92; exact Calls.quiet_of_same (hfind.out _)))
      go_wp2
      go_roundw
      case rel => exact ⟨k + 1, acc, by go_num, by omega, by omega, hxa.out, below_drewN hb _, below_drewN hbw _, hown, hrel⟩
      case measure => simp [intOf]; omega
  · have hR : Hid (rp = acc) := hid (by rw [hrel.out, List.drop_of_length_le (by omega), dupsAt]; rfl)
    replace hxa := hid hxa
    clear hrel
    go_wp2
    go_ret
    exact ⟨_, rfl, hb, by rw [hR.out]; exact hown⟩
end Go.Proofs.YtgmciglaapnahaaGreatDoor
/- Walks and lemmas of this seat (FRepI): what each theorem says of the functions that it names. Conditions: those that each theorem states. -/
namespace Go.Proofs.YtgmciglaapnahaaGreatDoor
set_option linter.unusedVariables false
set_option linter.unusedSimpArgs false
open Go.RowKit Go.Lib

set_option maxRecDepth 100000 in
set_option maxHeartbeats 3200000 in
theorem implRepeated_any (l0 : List Node) (v0 : Value) (a1 : Int) (w : World) (hx0 : ∀ x ∈ l0, x.Ok) (hn0 : bulk Node.sizes l0 ≤ 1048576) (hv0 : NodeSlc w v0 l0) (ha1 : I64 a1) (hE : WordEnv w) :
    Calls Tryz.prog 29 #[v0, .int .i64 a1] w fun e w' => ∃ v', e = .returned v' ∧ Below w.heap.size w w' ∧ w'.ownsRow w.heap.size 9 1 v' (repeated l0 a1).length ((repeated l0 a1).flatMap str1) := by
  have hv := hv0
  have hn := length_bulk Node.sizes l0
  have hpar := hid (fun W (hb : Below w.heap.size w W) => implParamsOf_any l0 v0 a1 W hx0 hn0 (hv.mono hb (Nat.le_refl _)) ha1 (hE.below hb))
  have hpl := paramsOf_len l0 (by omega) a1
  obtain ⟨a, cap, rfl, hm, hc, hsl⟩ := hv0.shape
  obtain ⟨i0, hi, hz0, hz1, hz2⟩ := info_parts Tryz.info9
  unfold repeated
  generalize paramsOf l0 a1 = P at hpar hpl ⊢
  have hP : Hid (repeatedOf P = namesT (dupsAt P 0 P)) := hid rfl
  generalize hrp : repeatedOf P = rp at hP ⊢
  clear hrp
  go_enter Tryz.func29, Tryz.ntmps29
  go_wp2_with fail
  refine (hpar.out _ (by repeat (first | exact Below.refl _ _ | refine Below.alloc ?_ (by first | omega | (simp; done) | (simp; omega)) _ | refine Below.drew ?_))).mono ?_; rintro e w2 ⟨pv, rfl, hb2, hownp⟩
  have hB2 : Below w.heap.size w w2 := (by repeat (first | exact Below.refl _ _ | refine Below.alloc ?_ (by first | omega | (simp; done) | (simp; omega)) _ | refine Below.drew ?_) : Below w.heap.size w _).trans (hb2.mono (by simp))
  have hown0 := own_below (own_new0 w 9 1) hb2 (Nat.le_refl _)
  have hpb := hid (fun g (hg : pv.ownBlock = some g) => hownp.lt g hg)
  obtain ⟨_, pa, pcap, rfl, hpc, hpcm, hprow⟩ := Slc.of_own hownp
  unfold maxLen at hpcm
  clear hpar hb2 hownp
  have hpb2 : ∀ b o, pa = some ⟨b, o, none⟩ → w.heap.size < b ∧ b < w2.heap.size := fun b o e => by
    have := hpb.out b (by rw [e]; rfl)
    simp at this
    omega
  go_wp2
  go_loopw [5, 15] (fun v i wr => ∃ (k : Nat) (acc : List ByteArray), i = .int .i64 k ∧ k ≤ P.length ∧ acc.length ≤ k ∧ v ≠ .slice none 0 0 ∧ (∀ g, v.ownBlock = some g → ∀ b o, pa = some ⟨b, o, none⟩ → b ≠ g) ∧ Below w.heap.size w wr ∧ (∀ b o, pa = some ⟨b, o, none⟩ → wr.heap[b]? = w2.heap[b]?) ∧ w2.heap.size ≤ wr.heap.size ∧ wr.ownsRow w.heap.size 9 1 v acc.length (acc.flatMap str1) ∧ Hid (dupsAt P 0 P = acc ++ dupsAt P k (P.drop k))) (fun _ i _ => P.length - (intOf i).toNat)
  case atStart => exact ⟨0, [], rfl, by omega, by simp, by simp, (fun g hg b o e => by have h1 := (hpb2 b o e).1; have h2 : w.heap.size = g := Option.some.inj hg; omega), hB2, fun _ _ _ => rfl, Nat.le_refl _, hown0, hid rfl⟩
  clear hB2 hown0
  obtain ⟨k, acc, rfl, hk, hacc, hnil, hne, hb, hkeep, hsz, hown, hrel⟩ := hrel
  have hbs := hb.size
  by_cases hlt : k < P.length
  · obtain ⟨x, hx⟩ := get_of_lt hlt
    obtain ⟨pb, poff, rfl, hpro⟩ := hprow.resolve_left (by omega)
    have hpk := hkeep pb poff rfl
    have hpl3 := (hpb2 pb poff rfl).2
    have cel : ∀ (j : Nat) (y : ByteArray), P[j]? = some y → wr.cell? ⟨pb, poff + j, none⟩ = some (.string y) := fun j y hy => (World.cell?_of_block (a := ⟨pb, poff + j, none⟩) hpk).trans (hpro.one str1_len hy rfl)
    have c0 := cel k x hx
    have hhas := Tryz.slices_Contains_string pb poff k pcap P x wr (by omega) (by omega) (fun j hj => by
      obtain ⟨y, hy⟩ := get_of_lt hj
      rw [cel j y hy, List.getD_eq_getElem?_getD, hy]; rfl)
    have hcon : containsS (P.take k) x = hasT (P.take k) x := by unfold containsS; rw [idx_find]; exact find_has x (P.take k)
    rw [hcon] at hhas
    rw [drop_cons hx, dupsAt] at hrel
    have hki : (k : Int) < (P.length : Int) := by omega
    have hkc : (k : Int) ≤ (pcap : Int) := by omega
    have hkc2 : k ≤ pcap := by omega
    have hne2 := hid hne
    have hkeep2 := hid hkeep
    replace hhas := hid hhas
    have hnil2 := hid hnil
    have hpk2 := hid hpk
    have hpw : pb < wr.heap.size := by omega
    by_cases hd : hasT (P.take k) x = true
    · rw [if_pos hd] at hrel
      rw [hd] at hhas
      have hR2 : Hid (dupsAt P 0 P = (acc ++ [x]) ++ dupsAt P (k + 1) (P.drop (k + 1))) := hid (by rw [hrel.out]; simp)
      clear hrel hd hx hpro hprow hne hkeep hcon cel hpk hnil hpb
      go_wp2_with (first | (go_at_call 91; refine hhas.out.mono ?_; rintro e w' ⟨rfl, hw9⟩; subst w') | (at_builtin; refine wpList_append_lies _ (by rfl) _ _ _ (by rfl) w.heap.size 9 i0 _ 1 16 Tryz.underlying26 hi hz0 hz1 hz2 rfl (by omega) _ acc.length (acc.flatMap str1) (by rfl) (hown.alloc _) ⟨wr.heap.size, 0, none⟩ 1 1 [.string x] (by rfl) (by rfl) (World.news_of_block (cs := #[.string x]) (t := 9) (fr := (0, 0)) (heap_alloc_new wr _)) (by simp [Value.oneCell']) (by omega) (by unfold maxLen; omega) (by omega) (by simp; omega) (wr.heap.size + 1) (by simp) ?_; intro gg cap2 w4 hown4 hgr4 hat4 hlt4))
      have hb4 : Below w.heap.size w w4 := app_below (hb.alloc hbs _) (hown.alloc _) hgr4
      have hk4 : w4.heap[pb]? = w2.heap[pb]? := (hgr4.block pb (by simp; omega) (fun e => hne2.out pb e.symm pb poff rfl rfl)).trans ((Below.heap_alloc _ _ _ (by omega)).trans hpk2.out)
      have hn4 : pb ≠ gg := by
        rcases hat4 with e | e
        · exact hne2.out gg e pb poff rfl
        · omega
      have hs4 : w2.heap.size ≤ w4.heap.size := Nat.le_trans (Nat.le_trans hsz (by simp)) hgr4.size
      all_goals go_roundw
      all_goals first
        | (simp [intOf]; omega)
        | exact ⟨k + 1, acc ++ [x], by go_num, by omega, by simp; omega, (by intro e; cases e), (fun g hg b o e => by obtain ⟨rfl, rfl⟩ : pb = b ∧ poff = o := (by simpa using e); have h2 : gg = g := Option.some.inj hg; omega), hb4, (fun b o e => by obtain ⟨rfl, rfl⟩ : pb = b ∧ poff = o := (by simpa using e); exact hk4), hs4, by simpa [str1] using hown4, hR2⟩
    · have hd : hasT (P.take k) x = false := by simpa using hd
      rw [hd, if_neg (by decide)] at hrel
      rw [hd] at hhas
      clear hd hx hpro hprow hne hkeep hcon cel hpk hnil hpb
      go_wp2_with (go_at_call 91; refine hhas.out.mono ?_; rintro e w' ⟨rfl, hw9⟩; subst w')
      go_roundw
      case rel => exact ⟨k + 1, acc, by go_num, by omega, by omega, hnil2.out, hne2.out, hb, hkeep2.out, hsz, hown, hrel⟩
      case measure => simp [intOf]; omega
  · have hR : Hid (dupsAt P 0 P = acc) := hid (by rw [hrel.out, List.drop_of_length_le (by omega), dupsAt, List.append_nil])
    have hcall := implonce_any acc _ wr w.heap.size (by omega) hnil hown
    replace hnil := hid hnil
    replace hne := hid hne
    replace hkeep := hid hkeep
    clear hrel
    go_wp2_with fail
    refine hcall.mono ?_; rintro e w4 ⟨v4, rfl, hg4, ho4⟩
    clear hcall
    go_wp2
    go_ret
    exact ⟨_, rfl, hb.grown hg4 hbs (fun r e => (hown.lt r e).1), by rw [hP.out, hR.out]; exact ho4⟩
end Go.Proofs.YtgmciglaapnahaaGreatDoor
