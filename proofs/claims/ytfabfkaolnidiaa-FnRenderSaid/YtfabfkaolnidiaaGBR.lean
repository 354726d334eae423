/- Walks and lemmas of this seat (PRender): what each theorem says of the functions that it names. Conditions: those that each theorem states. -/
import Derived.Test.YtfabfkaolnidiaaFIsLay
import Derived.Test.YtfabfkaolnidiaaFRend
import Derived.Test.YtfabfkaolnidiaaGHB
import Derived.Laws.AppendOwn
namespace Go.Proofs.Ytfabfkaolnidiaa
set_option linter.unusedVariables false
set_option linter.unusedSimpArgs false
open Go.RowKit

/-! What is laid, without blanks and ends of lines, does not depend on the choices. -/
def bareL (l : List UInt8) : List UInt8 := l.filter fun c => c != 32 && c != 10
theorem bareL_append (a b : List UInt8) : bareL (a ++ b) = bareL a ++ bareL b := by unfold bareL; rw [List.filter_append]
theorem bareL_brk (n : Nat) : bareL (brk n) = [] := by
  unfold bareL brk
  rw [List.filter_eq_nil_iff]
  intro c hc
  rcases List.mem_cons.1 hc with rfl | hc
  · decide
  · rw [List.mem_replicate] at hc; rw [hc.2]; decide
mutual
def Doc.bareT : Doc → List UInt8
  | .mk k _ t kids _ => (if k = 1 then bareL t.data.toList else []) ++ Doc.bareTs kids
def Doc.bareTs : List Doc → List UInt8
  | [] => []
  | d :: l => d.bareT ++ Doc.bareTs l
end
theorem Doc.bareT_eq (d : Doc) : d.bareT = (if d.kind = 1 then bareL d.text.data.toList else []) ++ Doc.bareTs d.kids := by cases d; rw [Doc.bareT]; rfl
theorem bareTs_append (a b : List Doc) : Doc.bareTs (a ++ b) = Doc.bareTs a ++ Doc.bareTs b := by
  induction a with
  | nil => simp [Doc.bareTs]
  | cons d a ih => rw [List.cons_append, Doc.bareTs, Doc.bareTs, ih, List.append_assoc]
theorem layRun_bare (dec : Nat → List LIt → LIt → Bool) : ∀ (f : Nat) (s : LSt), (∀ x ∈ s.st, x.d.Fine) → itWts s.st ≤ f → bareL (layRun dec f s).1 = bareL s.out ++ Doc.bareTs (s.st.map LIt.d) := by
  intro f
  induction f with
  | zero =>
    intro s hs hf
    obtain ⟨out, col, ok, st⟩ := s
    cases st with
    | nil => simp [layRun, Doc.bareTs]
    | cons x st => have := itWts_cons x st; have := x.d.wt_eq; simp only at hf; omega
  | succ f ih =>
    intro s hs hf
    obtain ⟨out, col, ok, st⟩ := s
    cases st with
    | nil => simp [layRun, Doc.bareTs]
    | cons x st =>
      have hw := layStep_wts dec out col ok st x
      have hx := (hs x (by simp)).has
      have hst : ∀ y ∈ st, y.d.Fine := fun y hy => hs y (by simp [hy])
      have hk : ∀ (ind : Nat) (fl : Bool), ∀ y ∈ kidIts x.d ind fl ++ st, y.d.Fine := fun ind fl y hy => by
        rcases List.mem_append.1 hy with hy | hy
        · obtain ⟨k, hk, rfl⟩ := List.mem_map.1 hy; exact hx.kids k hk
        · exact hst y hy
      simp only at hf
      rw [layRun_cons, ih _ _ (by omega)]
      · show _ = bareL out ++ Doc.bareTs ((x :: st).map LIt.d)
        rw [List.map_cons, Doc.bareTs, Doc.bareT_eq]
        unfold layStep
        split
        · rename_i h1
          simp only
          rw [hx.leaf (.inl h1), bareL_append]; simp [Doc.bareTs]
        · rename_i h1
          split
          · rename_i h2
            simp only
            rw [hx.leaf (.inr (.inl h2.1)), bareL_append]; simp [Doc.bareTs, bareL]
          · split
            · rename_i h3
              simp only
              rw [hx.leaf (.inr h3), bareL_append, bareL_brk]; simp [Doc.bareTs]
            · split
              · simp only
                rw [List.map_append, kidIts_docs, bareTs_append]; simp
              · simp only
                rw [List.map_append, kidIts_docs, bareTs_append]; simp
      · unfold layStep
        split
        · exact hst
        split
        · exact hst
        split
        · exact hst
        split
        · exact hk _ _
        · exact hk _ _

/-! The numbers of the groups of a document. -/
mutual
def Doc.gs : Doc → List Nat
  | .mk k _ _ kids g => (if k = 5 then [g.toNat] else []) ++ Doc.gss kids
def Doc.gss : List Doc → List Nat
  | [] => []
  | d :: l => d.gs ++ Doc.gss l
end
theorem Doc.gs_eq (d : Doc) : d.gs = (if d.kind = 5 then [d.group.toNat] else []) ++ Doc.gss d.kids := by cases d; rw [Doc.gs]; rfl
theorem gss_append (a b : List Doc) : Doc.gss (a ++ b) = Doc.gss a ++ Doc.gss b := by
  induction a with
  | nil => simp [Doc.gss]
  | cons d a ih => rw [List.cons_append, Doc.gss, Doc.gss, ih, List.append_assoc]
def cntG (l : List DNode) (i : Nat) : Nat := (l.take i).countP isGroupB
theorem cntG_succ {l : List DNode} {i : Nat} {x : DNode} (hx : l[i]? = some x) : cntG l (i + 1) = cntG l i + if x.kind = 5 then 1 else 0 := by
  unfold cntG
  rw [List.take_add_one, hx, List.countP_append]
  congr 1
  by_cases h : x.kind = 5 <;> simp [isGroupB, h]
theorem cntG_le {l : List DNode} {a b : Nat} (h : a ≤ b) : cntG l a ≤ cntG l b := by
  unfold cntG
  exact List.Sublist.countP_le (List.take_sublist_take_left h)
theorem gs_seg {l : List DNode} {s : List Nat} (h : starts (l.map DNode.kids) = some s) : ∀ (i : Nat), i < l.length → (docIx l i).gs.Nodup ∧ ∀ g ∈ (docIx l i).gs, cntG l (s.getD i 0) ≤ g ∧ g < cntG l (i + 1) := by
  have hah := aheadD_of h
  have hl := (starts_len h).1
  intro i
  induction i using Nat.strongRecOn with
  | _ i ih =>
  intro hi
  obtain ⟨x, hx⟩ := get_of_lt hi
  have ht := starts_tilesK h (i := i) (ks := x.kids) (by rw [List.getElem?_map, hx]; rfl)
  have key : ∀ (ks : List Int) (b : Nat), Tiles s ks b i → (Doc.gss (ks.map fun k => docIx l k.toNat)).Nodup ∧ ∀ g ∈ Doc.gss (ks.map fun k => docIx l k.toNat), cntG l b ≤ g ∧ g < cntG l i := by
    intro ks
    induction ks with
    | nil => intro b hb; simp [Doc.gss]
    | cons k ks ihk =>
      intro b hb
      obtain ⟨j, rfl, hs, hj, hrest⟩ := hb
      have hbj := hl.getD j
      rw [hs] at hbj
      have e1 := ih j hj (by omega)
      rw [hs] at e1
      have e2 := ihk (j + 1) hrest
      rw [List.map_cons, Doc.gss, Int.toNat_natCast]
      have l1 := cntG_le (l := l) (show j + 1 ≤ i by omega)
      have l2 := cntG_le (l := l) (show b ≤ j + 1 by omega)
      refine ⟨List.nodup_append.2 ⟨e1.1, e2.1, fun a ha c hc e => ?_⟩, fun g hg => ?_⟩
      · have h1 := e1.2 a ha
        have h2 := e2.2 c hc
        omega
      · rcases List.mem_append.1 hg with hg | hg
        · have := e1.2 g hg; omega
        · have := e2.2 g hg; omega
  have hkey := key _ _ ht
  have hsu := cntG_succ hx
  have hle := cntG_le (l := l) (hl.getD i)
  rw [docIx_eq hah hx, Doc.gs]
  by_cases h5 : x.kind = 5
  · rw [if_pos h5] at hsu ⊢
    rw [List.singleton_append, Int.toNat_natCast]
    refine ⟨List.nodup_cons.2 ⟨fun hm => ?_, hkey.1⟩, fun g hg => ?_⟩
    · have := (hkey.2 _ hm).2
      unfold cntG at this; omega
    · rcases List.mem_cons.1 hg with rfl | hg
      · show _ ≤ cntG l i ∧ cntG l i < _; omega
      · have := hkey.2 g hg; omega
  · rw [if_neg h5] at hsu ⊢
    rw [List.nil_append]
    refine ⟨hkey.1, fun g hg => ?_⟩
    have := hkey.2 g hg; omega

/-! A run, its choices written down by the groups' numbers. -/
def decM (M : Nat → Bool) : Nat → List LIt → LIt → Bool := fun _ _ x => M x.d.group.toNat
def itGs (st : List LIt) : List Nat := Doc.gss (st.map LIt.d)
theorem itGs_cons (x : LIt) (st : List LIt) : itGs (x :: st) = x.d.gs ++ itGs st := by unfold itGs; rw [List.map_cons, Doc.gss]
theorem itGs_kids (d : Doc) (ind : Nat) (f : Bool) (st : List LIt) : itGs (kidIts d ind f ++ st) = Doc.gss d.kids ++ itGs st := by
  unfold itGs; rw [List.map_append, kidIts_docs, gss_append]
theorem step_gs (dec : Nat → List LIt → LIt → Bool) (out : List UInt8) (col : Nat) (ok : Bool) (st : List LIt) (x : LIt) : (itGs (layStep dec out col ok st x).st).Sublist (Doc.gss x.d.kids ++ itGs st) := by
  unfold layStep
  split
  · exact List.sublist_append_right _ _
  split
  · exact List.sublist_append_right _ _
  split
  · exact List.sublist_append_right _ _
  split
  · show (itGs (kidIts _ _ _ ++ st)).Sublist _; rw [itGs_kids]; exact List.Sublist.refl _
  · show (itGs (kidIts _ _ _ ++ st)).Sublist _; rw [itGs_kids]; exact List.Sublist.refl _
theorem step_same (dec dec' : Nat → List LIt → LIt → Bool) (out : List UInt8) (col : Nat) (ok : Bool) (st : List LIt) (x : LIt) (h : x.d.kind = 5 → dec col st x = dec' col st x) : layStep dec out col ok st x = layStep dec' out col ok st x := by
  unfold layStep
  by_cases h5 : x.d.kind = 5
  · rw [h h5]
  · rw [if_neg h5, if_neg h5]
theorem gs_sub (x : LIt) (st : List LIt) : (Doc.gss x.d.kids ++ itGs st).Sublist (itGs (x :: st)) := by
  rw [itGs_cons, x.d.gs_eq, List.append_assoc]
  exact List.sublist_append_right _ _
theorem run_same (M M' : Nat → Bool) : ∀ (f : Nat) (s : LSt), (∀ g ∈ itGs s.st, M g = M' g) → layRun (decM M) f s = layRun (decM M') f s := by
  intro f
  induction f with
  | zero => intro s _; rfl
  | succ f ih =>
    intro s h
    obtain ⟨out, col, ok, st⟩ := s
    cases st with
    | nil => rfl
    | cons x st =>
      simp only at h
      rw [layRun_cons, layRun_cons, step_same (decM M) (decM M') out col ok st x]
      · exact ih _ fun g hg => h g ((gs_sub x st).subset ((step_gs _ _ _ _ _ _).subset hg))
      · intro h5
        refine h _ ?_
        rw [itGs_cons, x.d.gs_eq, if_pos h5]
        simp
theorem run_mask (dec : Nat → List LIt → LIt → Bool) : ∀ (f : Nat) (s : LSt), (itGs s.st).Nodup → ∃ M : Nat → Bool, layRun dec f s = layRun (decM M) f s := by
  intro f
  induction f with
  | zero => intro s _; exact ⟨fun _ => false, rfl⟩
  | succ f ih =>
    intro s h
    obtain ⟨out, col, ok, st⟩ := s
    cases st with
    | nil => exact ⟨fun _ => false, rfl⟩
    | cons x st =>
      simp only at h
      obtain ⟨M, hM⟩ := ih (layStep dec out col ok st x) (List.Nodup.sublist (step_gs _ _ _ _ _ _) (List.Nodup.sublist (gs_sub x st) h))
      by_cases h5 : x.d.kind = 5
      · refine ⟨fun g => if g = x.d.group.toNat then dec col st x else M g, ?_⟩
        have hst : layStep dec out col ok st x = layStep (decM fun g => if g = x.d.group.toNat then dec col st x else M g) out col ok st x := step_same _ _ _ _ _ _ _ (fun _ => by simp [decM])
        rw [layRun_cons, layRun_cons, hM, ← hst]
        refine run_same _ _ _ _ fun g hg => ?_
        rw [if_neg]
        rintro rfl
        rw [itGs_cons, x.d.gs_eq, if_pos h5, List.append_assoc, List.singleton_append, List.nodup_cons] at h
        exact h.1 ((step_gs _ _ _ _ _ _).subset hg)
      · refine ⟨M, ?_⟩
        rw [layRun_cons, layRun_cons, hM, step_same dec (decM M) out col ok st x (fun e => absurd e h5)]
theorem mask_of (M : Nat → Bool) : ∀ G : Nat, ∃ m : Nat, m < 2 ^ G ∧ ∀ g, g < G → maskB m g = M g := by
  intro G
  induction G with
  | zero => exact ⟨0, by simp, fun g hg => by omega⟩
  | succ G ih =>
    obtain ⟨m, hm, h⟩ := ih
    have hp : 2 ^ (G + 1) = 2 ^ G + 2 ^ G := by rw [Nat.pow_succ]; omega
    refine ⟨m + (if M G then 2 ^ G else 0), by split <;> omega, fun g hg => ?_⟩
    by_cases e : g = G
    · subst e
      unfold maskB
      cases M g with
      | false => simp [Nat.div_eq_of_lt hm]
      | true =>
        simp only [if_true]
        rw [Nat.add_div_right _ (Nat.two_pow_pos g), Nat.div_eq_of_lt hm]
        rfl
    · rw [← h g (by omega)]
      unfold maskB
      split
      · obtain ⟨k, hk⟩ : ∃ k, 2 ^ G = 2 ^ g * (2 * 2 ^ k) := ⟨G - g - 1, by rw [← Nat.pow_succ', ← Nat.pow_add]; congr 1; omega⟩
        rw [hk, Nat.add_mul_div_left _ _ (Nat.two_pow_pos g), Nat.add_mul_mod_self_left]
      · rfl
theorem fitRun_ok (wd : Int) : ∀ (f : Nat) (s : LSt), s.ok = true → (layRun (fitDec wd) f s).2 = true := by
  intro f
  induction f with
  | zero => intro s h; exact h
  | succ f ih =>
    intro s h
    obtain ⟨out, col, ok, st⟩ := s
    cases st with
    | nil => exact h
    | cons x st =>
      simp only at h
      subst h
      rw [layRun_cons]
      refine ih _ ?_
      unfold layStep
      split
      · rfl
      split
      · rfl
      split
      · rfl
      split
      · simp only [Bool.true_and]
        cases hd : fitDec wd col st x with
        | false => simp
        | true => rw [fitDec_some hd]; simp
      · rfl
theorem root_gs {l : List DNode} (h : docOk l = true) : (docIx l (l.length - 1)).gs.Nodup ∧ ∀ g ∈ (docIx l (l.length - 1)).gs, g < l.countP isGroupB := by
  obtain ⟨h1, _, _, s, hs, h0⟩ := docOk_starts h
  have := gs_seg hs (l.length - 1) (by omega)
  refine ⟨this.1, fun g hg => ?_⟩
  have h2 := (this.2 g hg).2
  rw [show l.length - 1 + 1 = l.length by omega] at h2
  unfold cntG at h2
  rwa [List.take_length] at h2
theorem render_mask {l : List DNode} {wd : Int} {o : List UInt8} (h : docOk l = true) (hr : renderL l wd = some o) : ∃ m, m < 2 ^ l.countP isGroupB ∧ layMask l m = (o, true) := by
  unfold renderL at hr
  split at hr
  case isFalse => simp at hr
  have hg := root_gs h
  have e : itGs [root0 l] = (docIx l (l.length - 1)).gs := by unfold itGs; simp [Doc.gss, root0]
  obtain ⟨M, hM⟩ := run_mask (fitDec wd) l.length ⟨[], 0, true, [root0 l]⟩ (by show (itGs [root0 l]).Nodup; rw [e]; exact hg.1)
  obtain ⟨m, hm, hmb⟩ := mask_of M (l.countP isGroupB)
  refine ⟨m, hm, ?_⟩
  have e2 : layMask l m = layRun (fitDec wd) l.length ⟨[], 0, true, [root0 l]⟩ := by
    rw [hM]
    show layRun (decM (maskB m)) _ _ = _
    refine run_same _ _ _ _ fun g hg2 => ?_
    have hg2 : g ∈ itGs [root0 l] := hg2
    rw [e] at hg2
    exact hmb g (hg.2 g hg2)
  have e3 := fitRun_ok wd l.length ⟨[], 0, true, [root0 l]⟩ rfl
  rw [e2]
  exact Prod.ext (Option.some.inj hr) e3
theorem mem_findS {s : ByteArray} {L : List ByteArray} : s ∈ L ↔ 0 ≤ findS s L 0 := by
  rw [findS_iff, List.any_eq_true]
  constructor
  · intro h; exact ⟨s, h, by simp⟩
  · rintro ⟨x, hx, he⟩
    have : x = s := toList_inj.1 (by simpa using he)
    rw [← this]; exact hx
theorem layoutsTo_has (l : List DNode) (m : Nat) (o : List UInt8) (ho : layMask l m = (o, true)) : ∀ n, m < n → (⟨o.toArray⟩ : ByteArray) ∈ layoutsTo l n := by
  intro n
  induction n with
  | zero => intro h; omega
  | succ n ih =>
    intro h
    rw [layoutsTo]
    by_cases e : m = n
    · subst e
      by_cases hf : findS ⟨o.toArray⟩ (layoutsTo l m) 0 < 0
      · rw [ho, if_pos ⟨rfl, hf⟩]; simp
      · rw [ho, if_neg (fun h => hf h.2)]
        exact mem_findS.2 (by omega)
    · have := ih (by omega)
      split
      · exact List.mem_append_left _ this
      · exact this
theorem layoutsTo_mem (l : List DNode) {x : ByteArray} : ∀ n, x ∈ layoutsTo l n → ∃ m, x = ⟨(layMask l m).1.toArray⟩ := by
  intro n
  induction n with
  | zero => intro h; simp [layoutsTo] at h
  | succ n ih =>
    intro h
    rw [layoutsTo] at h
    split at h
    · rcases List.mem_append.1 h with h | h
      · exact ih h
      · rw [List.mem_singleton] at h; exact ⟨n, h⟩
    · exact ih h
/-- THE LAW: what is rendered is one of the layouts. -/
theorem render_isLayout {l : List DNode} {wd : Int} {o : List UInt8} (h : docOk l = true) (hg : l.countP isGroupB ≤ 8) (hr : renderL l wd = some o) : isLayout l ⟨o.toArray⟩ = true := by
  obtain ⟨m, hm, e⟩ := render_mask h hr
  unfold isLayout layoutsOf
  rw [if_pos ⟨h, hg⟩]
  exact decide_eq_true (mem_findS.1 (layoutsTo_has l m o e _ hm))
theorem run_root_bare {l : List DNode} (h : docOk l = true) (hn : bulk DNode.sizes l ≤ 1048576) (dec : Nat → List LIt → LIt → Bool) : bareL (layRun dec l.length ⟨[], 0, true, [root0 l]⟩).1 = (docIx l (l.length - 1)).bareT := by
  obtain ⟨h1, h2, hd, s, hs, _⟩ := docOk_starts h
  have hw : itWts [root0 l] = l.length := by
    rw [itWts_cons]
    show (docIx l (l.length - 1)).wt + 0 = _
    rw [wt_root h]; rfl
  rw [layRun_bare dec _ _ (fun x hx => ?_) (by show itWts [root0 l] ≤ _; omega)]
  · simp [bareL, Doc.bareTs, root0]
  · simp at hx; subst hx
    exact fine_ix (aheadD_of hs) hd hn _ (by omega)
/-- THE LAW: only blanks and ends of lines depend on the width. -/
theorem render_bare {l : List DNode} {wd : Int} {o : List UInt8} (h : docOk l = true) (hn : bulk DNode.sizes l ≤ 1048576) (hr : renderL l wd = some o) : bareL o = (docIx l (l.length - 1)).bareT := by
  unfold renderL at hr
  split at hr
  case isFalse => simp at hr
  rw [← Option.some.inj hr]
  exact run_root_bare h hn _
theorem layouts_bare {l : List DNode} (hn : bulk DNode.sizes l ≤ 1048576) {x : ByteArray} (hx : x ∈ layoutsOf l) : bareL x.data.toList = (docIx l (l.length - 1)).bareT := by
  unfold layoutsOf at hx
  split at hx
  case isFalse => simp at hx
  rename_i h
  obtain ⟨m, rfl⟩ := layoutsTo_mem l _ hx
  simp only
  exact run_root_bare h.1 hn _
end Go.Proofs.Ytfabfkaolnidiaa
/- Walks and lemmas of this seat (FBareT): what each theorem says of the functions that it names. Conditions: those that each theorem states. -/
namespace Go.Proofs.Ytfabfkaolnidiaa
set_option linter.unusedVariables false
set_option linter.unusedSimpArgs false
open Go.RowKit

theorem bareL_drop {l : List UInt8} {k : Nat} {y : UInt8} (h : l[k]? = some y) : bareL (l.take (k + 1)) = bareL (l.take k) ++ (if y != 32 && y != 10 then [y] else []) := by
  rw [take_next h, bareL_append]
  congr 1
  unfold bareL
  rw [List.filter_cons]
  rfl
set_option maxRecDepth 100000 in
set_option maxHeartbeats 3200000 in
/-- laws.bareText: a text without blanks and ends of lines. -/
theorem lawsbareText_any (s : ByteArray) (w : World) (hs : s.size ≤ 10000000000) :
    Calls Try.prog 25 #[.string s] w fun e w' => e = .returned (.string ⟨(bareL s.data.toList).toArray⟩) ∧ Below w.heap.size w w' := by
  obtain ⟨i0, hi, hz0, hz1, hz2⟩ := info_parts Try.info5
  have hsl : s.data.toList.length = s.size := rfl
  obtain ⟨L, hL⟩ : ∃ L, L = s.data.toList := ⟨_, rfl⟩
  have hLs : L.length = s.size := by rw [hL]; rfl
  rw [← hL]
  replace hL := hid hL
  replace hLs := hid hLs
  clear hsl
  go_enter Try.func25, Try.ntmps25
  go_wp2
  go_loopw [3, 4] (fun v i wr => ∃ (k : Nat) (acc : List UInt8), i = .int .i64 k ∧ k ≤ s.size ∧ acc.length ≤ k ∧ Hid (acc = bareL (L.take k)) ∧ OwnB wr w.heap.size v acc ∧ Below w.heap.size w wr) (fun _ i _ => s.size - (intOf i).toNat)
  case atStart => exact ⟨0, [], rfl, by omega, by simp, hid (by simp [bareL]), ⟨own_new0 _ _ _, by simp⟩, by repeat (first | exact Below.refl _ _ | refine Below.alloc ?_ (by first | omega | (simp; done) | (simp; omega)) _ | refine Below.drew ?_)⟩
  obtain ⟨k, acc, rfl, hk, hal, hacc, hown, hb⟩ := hrel
  have hbs := hb.size
  by_cases hlt : k < s.size
  · obtain ⟨y, hy⟩ := get_of_lt (l := L) (k := k) (by rw [hLs.out]; exact hlt)
    have hyl := y.toNat_lt
    have hbd := bareL_drop hy
    have hyb : Hid (s[k] = y) := hid (by
      have h2 : s.data.toList[k]? = some y := by rw [← hL.out]; exact hy
      have h3 := (List.getElem?_eq_some_iff.1 h2).2
      rw [← h3]; rfl)
    by_cases y1 : y = 32
    · have hbd2 : Hid (acc = bareL (L.take (k + 1))) := hid (by rw [hbd, ← hacc.out, y1]; simp)
      have hyv : ((s[k]).toNat : Int) = 32 := by rw [hyb.out, y1]; rfl
      clear hbd hy
      replace hown := hid hown
      replace hb := hid hb
      go_wp2
      all_goals go_roundw
      all_goals first
        | (simp [intOf]; omega)
        | exact ⟨k + 1, acc, by go_num, by omega, by omega, hbd2, hown.out, hb.out⟩
    · by_cases y2 : y = 10
      · have hbd2 : Hid (acc = bareL (L.take (k + 1))) := hid (by rw [hbd, ← hacc.out, y2]; simp)
        have hyv : ((s[k]).toNat : Int) = 10 := by rw [hyb.out, y2]; rfl
        clear hbd hy
        replace hown := hid hown
        replace hb := hid hb
        go_wp2
        all_goals go_roundw
        all_goals first
          | (simp [intOf]; omega)
          | exact ⟨k + 1, acc, by go_num, by omega, by omega, hbd2, hown.out, hb.out⟩
      · have hbd2 : Hid (acc ++ [y] = bareL (L.take (k + 1))) := hid (by rw [hbd, ← hacc.out]; simp [y1, y2])
        have n1 : ¬ ((s[k]).toNat : Int) = 32 := fun e => y1 (UInt8.toNat_inj.1 (by rw [hyb.out] at e; have : (32 : UInt8).toNat = 32 := rfl; omega))
        have n2 : ¬ ((s[k]).toNat : Int) = 10 := fun e => y2 (UInt8.toNat_inj.1 (by rw [hyb.out] at e; have : (10 : UInt8).toNat = 10 := rfl; omega))
        have q1 : (((s[k]).toNat : Int) != 32) = true := by simpa using n1
        have q2 : (((s[k]).toNat : Int) != 10) = true := by simpa using n2
        clear hbd hy y1 y2 n1 n2
        have hown0 := hid hown
        replace hb := hid hb
        clear hown
        go_wp2_with (at_builtin; refine Hid.out ?_)
        refine hid ?_
        refine wpList_append_own _ rfl _ _ 38 rfl w.heap.size 5 i0 _ 1 1 Try.underlying38 hi hz0 hz1 hz2 rfl (by decide) _ acc.length (acc.flatMap byte1) rfl (hown0.out.1.alloc _) _ 1 1 (byte1 y) rfl rfl (new_cells_at _ _ _ _ _ (by first | rfl | simp [byte1, hyb.out]) (by first | rfl | simp)) (by intro u hu; simp [byte1] at hu; subst hu; rfl) (by unfold maxLen; omega) (by omega) (by have := hb.out.size; simp; omega) ?_
        intro v3 w3 hown3 hgr3 hiff
        go_wp2
        all_goals go_roundw
        all_goals first
          | (simp [intOf]; done)
          | (simp [intOf]; omega)
          | exact ⟨k + 1, acc ++ [y], by go_num, by omega, by rw [List.length_append]; simp; omega, hbd2, ⟨by simpa using hown3, fun e => hown0.out.2 (hiff.1 e).1⟩, (hb.out.alloc hb.out.size _).grown hgr3 (by simp; omega) (fun r e => (hown0.out.1.lt r e).1)⟩
  · have hR : Hid (acc = bareL L) := hid (by rw [hacc.out, List.take_of_length_le (by rw [hLs.out]; omega)])
    have hcv := hown.text
    replace hown := hid hown
    go_wp2
    go_ret
    exact ⟨by rw [← hR.out]; rfl, hb⟩
end Go.Proofs.Ytfabfkaolnidiaa
