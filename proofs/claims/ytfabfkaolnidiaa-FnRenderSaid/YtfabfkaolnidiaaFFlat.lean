/- Walks and lemmas of this seat (FFlat): what each theorem says of the functions that it names. Conditions: those that each theorem states. -/
import Derived.Test.YtfabfkaolnidiaaFDocAt
import Derived.Test.YtfabfkaolnidiaaPMass
import Derived.Lib.AppendStr
import Derived.Lib.SlBytesRow
namespace Go.Proofs.Ytfabfkaolnidiaa
set_option linter.unusedVariables false
set_option linter.unusedSimpArgs false
open Go.RowKit

theorem Try.info5 : (Try.prog.info? 5).map (fun i => (i.zero, i.size, i.bytes)) = some (some (.int .u8 0), 1, 1) := by kernel_rfl
theorem strCells_eq (s : ByteArray) : Lib.strCells s = s.data.toList.flatMap byte1 := by
  unfold Lib.strCells
  induction s.data.toList with
  | nil => rfl
  | cons x l ih => rw [List.map_cons, List.flatMap_cons, ih]; rfl
theorem own_new1 (w : World) (o : Obj) (T : TypeId) (s : Nat) : ((w.alloc o).alloc (.cells #[] T)).ownsRow w.heap.size T s (.slice (some ⟨w.heap.size + 1, 0, none⟩) 0 0) 0 [] := by
  have := own_new0 (w.alloc o) T s
  rw [World.size_alloc] at this
  exact own_base this (by omega)
/-- A slice of bytes of the call's own, made and not nil. -/
def OwnB (w : World) (B : Nat) (v : Value) (acc : List UInt8) : Prop := w.ownsRow B 5 1 v acc.length (acc.flatMap byte1) ∧ v ≠ .slice none 0 0
theorem OwnB.below {w w' : World} {B : Nat} {v : Value} {acc : List UInt8} (h : OwnB w B v acc) (hb : Below w.heap.size w w') : OwnB w' B v acc := ⟨own_below h.1 hb (Nat.le_refl _), h.2⟩
/-- The text that such a slice reads as. -/
theorem OwnB.text {w : World} {B : Nat} {v : Value} {acc : List UInt8} (h : OwnB w B v acc) : (convert 38 9 v).run Try.prog w = Result.ok (.string ⟨acc.toArray⟩) w := by
  obtain ⟨h, hv⟩ := h
  rcases h.2 with ⟨e, h0⟩ | ⟨g, cap, cur, rfl, hg, hgg, hc, hm, hcs, ht⟩
  · exact absurd e hv
  · have hl : acc.length = (⟨acc.toArray⟩ : ByteArray).size := rfl
    rw [hl]
    refine Lib.run_convert_whole w _ _ _ Try.underlying38 Try.underlying5 Try.underlying9 g 0 ⟨acc.toArray⟩ (fun i hi => ?_) cap
    have hi' : i < acc.length := hi
    rw [Nat.zero_add, h.cellAt i (by omega)]
    have := flat_get byte1 1 byte1_len acc i 0 acc[i] (.int .u8 (acc[i]).toNat) (List.getElem?_eq_getElem hi') rfl
    have e : (⟨acc.toArray⟩ : ByteArray)[i] = acc[i] := rfl
    rw [e]
    simpa using this
def flatStr (o : Option (List UInt8)) : ByteArray := ⟨(o.getD []).toArray⟩
theorem flatStr_text (t : ByteArray) : flatStr (some t.data.toList) = t := by
  apply toList_inj.1
  rw [ByteArray.toList_eq, ByteArray.toList_eq]
  rfl
theorem Doc.kid_lt {t u : Doc} (h : u ∈ t.kids) : SizeOf.sizeOf u < SizeOf.sizeOf t := by
  cases t with
  | mk k o x l y =>
    have := List.sizeOf_lt_of_mem (show u ∈ l from h)
    simp
    omega
theorem Doc.flat_eq (d : Doc) : d.flat = if d.kind = 1 ∨ d.kind = 2 ∨ d.kind = 3 then leafOf d.kind d.text else Doc.flats d.kids := by
  cases d; rw [Doc.flat]; rfl
theorem Doc.mass_eq (d : Doc) : d.mass = leafMass d.kind d.text + Doc.massS d.kids := by
  cases d; rw [Doc.mass]; rfl
theorem Doc.massS_mem {d : Doc} {l : List Doc} (h : d ∈ l) : d.mass ≤ Doc.massS l := by
  induction l with
  | nil => simp at h
  | cons u l ih =>
    rw [Doc.massS]
    rcases List.mem_cons.1 h with rfl | h
    · omega
    · have := ih h; omega

set_option maxRecDepth 100000 in
set_option maxHeartbeats 3200000 in
theorem implflat_any (n : Nat) : ∀ (t : Doc) (kv : Value) (w : World) (S : Nat → Prop), SizeOf.sizeOf t < n → t.mass ≤ 100000000000 → DocIs S w t kv →
    Calls Try.prog 44 #[.agg #[.int .i64 t.kind, .int .i64 t.n, .string t.text, kv, .int .i64 t.group]] w fun e w' => e = .returned (.tuple #[.string (flatStr t.flat), .bool t.flat.isSome]) ∧ Below w.heap.size w w' := by
  induction n with
  | zero => intro t kv w S h; omega
  | succ n ih =>
  intro t kv w S hsz hbl ht
  obtain ⟨q, hq, ⟨_, a, cap, rfl, hc, hm, hrow⟩, hsub⟩ := ht.open
  unfold maxLen at hm
  have hfe := hid t.flat_eq
  have hmk : Doc.massS t.kids ≤ 100000000000 := by have := t.mass_eq; omega
  have hkid : ∀ p ∈ q, SizeOf.sizeOf p.1 < n ∧ p.1.mass ≤ 100000000000 := fun p hp => by
    have hm : p.1 ∈ t.kids := by rw [← hq]; exact List.mem_map_of_mem hp
    have h1 := Doc.kid_lt hm
    have h2 := Doc.massS_mem hm
    omega
  obtain ⟨i0, hi, hz0, hz1, hz2⟩ := info_parts Try.info5
  by_cases k1 : t.kind = 1
  · have hR : Hid (t.flat = some t.text.data.toList) := hid (by rw [hfe.out, if_pos (.inl k1), leafOf, if_pos k1])
    go_enter Try.func44, Try.ntmps44
    go_wp2
    go_ret2
    exact ⟨by rw [hR.out, flatStr_text]; rfl, by repeat (first | exact Below.refl _ _ | refine Below.alloc ?_ (by first | omega | (simp; done) | (simp; omega)) _ | refine Below.drew ?_)⟩
  by_cases k2 : t.kind = 2
  · have hR : Hid (t.flat = some [32]) := hid (by rw [hfe.out, if_pos (.inr (.inl k2)), leafOf, if_neg k1, if_pos k2])
    clear k1
    go_enter Try.func44, Try.ntmps44
    go_wp2
    go_ret2
    exact ⟨by rw [hR.out]; rfl, by repeat (first | exact Below.refl _ _ | refine Below.alloc ?_ (by first | omega | (simp; done) | (simp; omega)) _ | refine Below.drew ?_)⟩
  by_cases k3 : t.kind = 3
  · have hR : Hid (t.flat = none) := hid (by rw [hfe.out, if_pos (.inr (.inr k3)), leafOf, if_neg k1, if_neg k2, if_pos k3])
    clear k1 k2
    go_enter Try.func44, Try.ntmps44
    go_wp2
    go_ret2
    exact ⟨by rw [hR.out]; rfl, by repeat (first | exact Below.refl _ _ | refine Below.alloc ?_ (by first | omega | (simp; done) | (simp; omega)) _ | refine Below.drew ?_)⟩
  have hR : Hid (t.flat = Doc.flats (q.map Prod.fst)) := hid (by rw [hfe.out, if_neg (by simp [k1, k2, k3]), hq])
  have e1 : (t.kind == 1) = false := by simpa using k1
  have e2 : (t.kind == 2) = false := by simpa using k2
  have e3 : (t.kind == 3) = false := by simpa using k3
  have hmq : Hid (Doc.massS (q.map Prod.fst) ≤ 100000000000) := hid (by rw [hq]; exact hmk)
  clear k1 k2 k3 hfe hmk ht
  replace hkid := hid hkid
  replace hsub := hid hsub
  replace hq := hid hq
  replace ih := hid ih
  go_enter Try.func44, Try.ntmps44
  go_wp2
  go_loopw [4, 23] (fun v i wr => ∃ (k : Nat) (acc : List UInt8), i = .int .i64 k ∧ k ≤ q.length ∧ OwnB wr w.heap.size v acc ∧ Below w.heap.size w wr ∧ acc.length + Doc.massS ((q.drop k).map Prod.fst) ≤ 100000000000 ∧ Hid (t.flat = (Doc.flats ((q.drop k).map Prod.fst)).map (acc ++ ·))) (fun _ i _ => q.length - (intOf i).toNat)
  case atStart => exact ⟨0, [], rfl, by omega, ⟨own_new1 _ _ _ _, by simp⟩, by repeat (first | exact Below.refl _ _ | refine Below.alloc ?_ (by first | omega | (simp; done) | (simp; omega)) _ | refine Below.drew ?_), by rw [List.drop_zero]; simpa using hmq.out, hid (by rw [List.drop_zero, hR.out]; simp)⟩
  clear hR hmq
  obtain ⟨k, acc, rfl, hk, hown, hb, hmass, hrel⟩ := hrel
  have hbs := hb.size
  by_cases hlt : k < q.length
  · obtain ⟨⟨pt, pv⟩, hp⟩ := get_of_lt hlt
    obtain ⟨b, off, rfl, _, hro⟩ := hrow.resolve_left (by omega)
    have hrw := hro.mono hb (Nat.le_refl _)
    have c0 := hrw.flat0 5 Doc.len hp rfl
    have c1 := hrw.flat 5 Doc.len hp 1 rfl
    have c2 := hrw.flat 5 Doc.len hp 2 rfl
    have c3 := hrw.flat 5 Doc.len hp 3 rfl
    have c4 := hrw.flat 5 Doc.len hp 4 rfl
    have hmem := List.mem_of_getElem? hp
    obtain ⟨pa, pn, pc, rfl⟩ := (hsub.out _ hmem).shape
    have hts := (hsub.out _ hmem).mono hb (Nat.le_refl _)
    have hks := hkid.out _ hmem
    rw [drop_cons hp, List.map_cons, Doc.massS] at hmass
    rw [drop_cons hp, List.map_cons, Doc.flats] at hrel
    have hcall := hid (fun o => ih.out pt _ (wr.alloc o) S hks.1 hks.2 (hts.mono ((Below.refl _ _).alloc (Nat.le_refl _) o) (Nat.le_refl _)))
    have hfm := hid (Doc.flat_mass _ pt (Nat.lt_succ_self _))
    clear hp hts hks hrw hmem
    simp only at hcall hrel hmass hfm
    cases hpf : pt.flat with
    | none =>
      have hR : Hid (t.flat = none) := hid (by rw [hrel.out, hpf]; rfl)
      rw [hpf] at hcall
      clear hrel hpf hfm
      go_wp2_with (go_at_call 44; refine (hcall.out _).mono ?_; rintro e w2 ⟨rfl, hb2⟩)
      go_ret2
      exact ⟨by rw [hR.out]; rfl, (show Below w.heap.size w (wr.alloc _) from hb.alloc hb.size _).trans (hb2.mono (by simp; omega))⟩
    | some s =>
      have hR : Hid (t.flat = (Doc.flats ((q.drop (k + 1)).map Prod.fst)).map ((acc ++ s) ++ ·)) := hid (by
        rw [hrel.out, hpf]
        cases Doc.flats ((q.drop (k + 1)).map Prod.fst) <;> simp)
      have hsl := hfm.out s hpf
      have hfs : flatStr (some s) = ⟨s.toArray⟩ := rfl
      rw [hpf, hfs] at hcall
      have hss : (⟨s.toArray⟩ : ByteArray).size = s.length := rfl
      have hsc : Lib.strCells ⟨s.toArray⟩ = s.flatMap byte1 := strCells_eq _
      generalize (⟨s.toArray⟩ : ByteArray) = sb at hcall hss hsc
      clear hrel hpf hfm
      replace hsc := hid hsc
      replace hss := hid hss
      have hsb : sb.size ≤ 100000000000 := by rw [hss.out]; omega
      go_wp2_with (first
        | (go_at_call 44; refine (hcall.out _).mono ?_; rintro e w2 ⟨rfl, hb2⟩; have hown2 := (hown.below ((Below.refl wr.heap.size wr).alloc (Nat.le_refl _) _)).below hb2; have hB2 := (hb.alloc hb.size _).trans (hb2.mono (by simp; omega)))
        | (at_builtin; refine Lib.wpList_append_own_string _ rfl _ _ 38 9 rfl w.heap.size 5 i0 Try.underlying38 Try.underlying9 hi hz0 hz1 hz2 _ acc.length (acc.flatMap byte1) rfl hown2.1 sb rfl (by have := hss.out; unfold maxLen; omega) (by have := hss.out; omega) (by have := hB2.size; omega) ?_; intro v3 w3 hown3 hgr3 hiff))
      all_goals go_roundw
      all_goals first
        | (simp [intOf]; omega)
        | (refine ⟨k + 1, acc ++ s, by go_num, by omega, ⟨?_, fun e => hown2.2 (hiff.1 e).1⟩, hB2.grown hgr3 hB2.size (fun r e => (hown2.1.lt r e).1), by rw [List.length_append]; omega, hR⟩
           rw [hsc.out, hss.out] at hown3
           simpa using hown3)
  · obtain rfl : k = q.length := by omega
    have hR : Hid (t.flat = some acc) := hid (by rw [hrel.out, List.drop_of_length_le (Nat.le_refl _)]; simp [Doc.flats])
    have hcv := hown.text
    go_wp2
    go_ret2
    exact ⟨by rw [hR.out]; rfl, hb⟩
end Go.Proofs.Ytfabfkaolnidiaa
