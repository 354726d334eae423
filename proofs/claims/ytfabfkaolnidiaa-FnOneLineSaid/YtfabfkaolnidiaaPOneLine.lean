/- Walks and lemmas of this seat (POneLine): what each theorem says of the functions that it names. Conditions: those that each theorem states. -/
import Derived.Test.YtfabfkaolnidiaaFLayR
namespace Go.Proofs.Ytfabfkaolnidiaa
set_option linter.unusedVariables false
set_option linter.unusedSimpArgs false
open Go.RowKit

/-! A group over a document that has no forced end of a line, in a width where it has room. -/
def grp (n : Nat) : DNode := ⟨5, 0, ⟨#[]⟩, [(n : Int) - 1]⟩
theorem startsL_append : ∀ (a b : List (List Int)) (out : List Nat), startsL out (a ++ b) = match startsL out a with | none => none | some s => startsL s b := by
  intro a
  induction a with
  | nil => intro b out; rfl
  | cons ks a ih =>
    intro b out
    rw [List.cons_append, startsL, startsL]
    cases stepK out ks.reverse out.length with
    | none => rfl
    | some x => exact ih b _
theorem docNode_grp (n : Nat) : docNode (grp n) = true := by
  simp [docNode, grp, ByteArray.toList_eq]
theorem starts_grp {l : List DNode} {s : List Nat} (h : starts (l.map DNode.kids) = some s) (hl : 1 ≤ l.length) (h0 : s.getD (l.length - 1) 0 = 0) : starts ((l ++ [grp l.length]).map DNode.kids) = some (s ++ [0]) := by
  have hs := (starts_len h).2
  rw [List.length_map] at hs
  unfold starts at h ⊢
  rw [List.map_append, startsL_append, h]
  show startsL s [[((l.length : Nat) : Int) - 1]] = _
  have e : ((l.length : Nat) : Int) - 1 = ((l.length - 1 : Nat) : Int) := by omega
  rw [e]
  have hk : stepK s [((l.length - 1 : Nat) : Int)].reverse s.length = some 0 := by
    show stepK s [((l.length - 1 : Nat) : Int)] s.length = some 0
    rw [stepK, if_neg (by omega), stepK, hs, h0]
  rw [startsL_go hk]
  rfl
theorem docOk_grp {l : List DNode} (h : docOk l = true) (hl : l.length + 1 ≤ 4000) : docOk (l ++ [grp l.length]) = true := by
  obtain ⟨h1, h2, h3, s, hs, h0⟩ := docOk_starts h
  have h4 := starts_grp hs h1 h0
  have h5 := (starts_len hs).2
  rw [List.length_map] at h5
  unfold docOk
  simp only [Bool.and_eq_true, decide_eq_true_eq, List.all_eq_true]
  refine ⟨⟨⟨by simp, by simpa using hl⟩, fun x hx => ?_⟩, ?_⟩
  · rcases List.mem_append.1 hx with hx | hx
    · exact h3 x hx
    · rw [List.mem_singleton.1 hx]; exact docNode_grp _
  · unfold startsLast
    rw [h4]
    simp [h5]
theorem docIx_append {l : List DNode} (hl : AheadD l) {x : DNode} (hx : AheadD (l ++ [x])) : ∀ i, i < l.length → docIx (l ++ [x]) i = docIx l i := by
  intro i
  induction i using Nat.strongRecOn with
  | _ i ih =>
  intro hi
  obtain ⟨y, hy⟩ := get_of_lt hi
  have hy2 : (l ++ [x])[i]? = some y := by rw [List.getElem?_append_left hi]; exact hy
  rw [docIx_eq hl hy, docIx_eq hx hy2, List.take_append_of_le_length (by omega)]
  congr 1
  apply List.map_congr_left
  intro k hk
  have := hl i y hy k hk
  exact ih _ this.2 (by omega)
theorem run_flat (dec : Nat → List LIt → LIt → Bool) (n : Nat) : (∀ (d : Doc), d.wt < n → d.Fine → ∀ s, d.flat = some s → ∀ (ind f : Nat) (out : List UInt8) (col : Nat) (ok : Bool) (st : List LIt), d.wt ≤ f → ∃ col' ok', layRun dec f ⟨out, col, ok, ⟨d, ind, true⟩ :: st⟩ = layRun dec (f - d.wt) ⟨out ++ s, col', ok', st⟩) ∧
    (∀ (l : List Doc), Doc.wts l < n → (∀ d ∈ l, d.Fine) → ∀ s, Doc.flats l = some s → ∀ (ind f : Nat) (out : List UInt8) (col : Nat) (ok : Bool) (st : List LIt), Doc.wts l ≤ f → ∃ col' ok', layRun dec f ⟨out, col, ok, l.map (fun k => (⟨k, ind, true⟩ : LIt)) ++ st⟩ = layRun dec (f - Doc.wts l) ⟨out ++ s, col', ok', st⟩) := by
  induction n with
  | zero => exact ⟨fun d h => by omega, fun l h => by omega⟩
  | succ n ih =>
    have hd : ∀ (d : Doc), d.wt < n + 1 → d.Fine → ∀ s, d.flat = some s → ∀ (ind f : Nat) (out : List UInt8) (col : Nat) (ok : Bool) (st : List LIt), d.wt ≤ f → ∃ col' ok', layRun dec f ⟨out, col, ok, ⟨d, ind, true⟩ :: st⟩ = layRun dec (f - d.wt) ⟨out ++ s, col', ok', st⟩ := by
      intro d hn hf s hs ind f out col ok st hwf
      have hh := hf.has
      have hw := d.wt_eq
      have hfl : d.flat = if d.kind = 1 ∨ d.kind = 2 ∨ d.kind = 3 then leafOf d.kind d.text else Doc.flats d.kids := by cases d; rw [Doc.flat]; rfl
      rw [hfl] at hs
      obtain ⟨f, rfl⟩ : ∃ g, f = g + 1 := ⟨f - 1, by omega⟩
      rw [layRun_cons]
      unfold layStep
      by_cases k1 : d.kind = 1
      · rw [if_pos (.inl k1), leafOf, if_pos k1] at hs
        have hs := Option.some.inj hs
        subst hs
        have hkz := hh.leaf (.inl k1)
        rw [hkz, Doc.wts] at hw
        rw [if_pos k1, show f + 1 - d.wt = f by omega]
        exact ⟨_, _, rfl⟩
      by_cases k2 : d.kind = 2
      · rw [if_pos (.inr (.inl k2)), leafOf, if_neg k1, if_pos k2] at hs
        have hs := Option.some.inj hs
        subst hs
        have hkz := hh.leaf (.inr (.inl k2))
        rw [hkz, Doc.wts] at hw
        rw [if_neg k1, if_pos ⟨k2, rfl⟩, show f + 1 - d.wt = f by omega]
        exact ⟨_, _, rfl⟩
      by_cases k3 : d.kind = 3
      · rw [if_pos (.inr (.inr k3)), leafOf, if_neg k1, if_neg k2, if_pos k3] at hs
        simp at hs
      rw [if_neg (by simp [k1, k2, k3])] at hs
      rw [if_neg k1, if_neg (fun e => k2 e.1), if_neg (by simp [k2, k3]), show f + 1 - d.wt = f - Doc.wts d.kids by omega]
      split
      · exact ih.2 d.kids (by omega) hh.kids s hs _ f out _ _ st (by omega)
      · exact ih.2 d.kids (by omega) hh.kids s hs _ f out _ _ st (by omega)
    refine ⟨hd, ?_⟩
    intro l
    induction l with
    | nil => intro _ _ s hs ind f out col ok st _; simp [Doc.flats] at hs; subst hs; exact ⟨col, ok, by simp [Doc.wts]⟩
    | cons d l ihl =>
      intro hn hf s hs ind f out col ok st hwf
      rw [Doc.wts] at hn hwf
      have hw := d.wt_eq
      rw [Doc.flats] at hs
      cases h1 : d.flat with
      | none => rw [h1] at hs; simp at hs
      | some a =>
        rw [h1] at hs
        cases h2 : Doc.flats l with
        | none => rw [h2] at hs; simp at hs
        | some b =>
          rw [h2] at hs
          simp at hs
          subst hs
          obtain ⟨c1, o1, e1⟩ := hd d (by omega) (hf d (by simp)) a h1 ind f out col ok (l.map (fun k => (⟨k, ind, true⟩ : LIt)) ++ st) (by omega)
          obtain ⟨c2, o2, e2⟩ := ihl (by omega) (fun u hu => hf u (by simp [hu])) b h2 ind (f - d.wt) (out ++ a) c1 o1 st (by omega)
          refine ⟨c2, o2, ?_⟩
          rw [List.map_cons, List.cons_append, e1, e2, Doc.wts, List.append_assoc, Nat.sub_sub]
/-- THE LAW: it is laid on one line. -/
theorem render_grp {l : List DNode} {s : List UInt8} (h : docOk l = true) (hl : l.length + 1 ≤ 4000) (hn : bulk DNode.sizes l ≤ 1048576) (hs : flatText l = some s) {wd : Int} (hw : (s.length : Int) ≤ wd ∧ wd ≤ 10000) : renderL (l ++ [grp l.length]) wd = some s := by
  obtain ⟨h1, h2, h3, st, hst, h0⟩ := docOk_starts h
  have hg := docOk_grp h hl
  obtain ⟨_, _, _, st2, hst2, _⟩ := docOk_starts hg
  have ha := aheadD_of hst
  have ha2 := aheadD_of hst2
  rw [flatText_root h] at hs
  have hlast : (l ++ [grp l.length])[l.length]? = some (grp l.length) := by simp
  have hroot : docIx (l ++ [grp l.length]) l.length = .mk 5 0 ⟨#[]⟩ [docIx l (l.length - 1)] ((l.countP isGroupB : Nat) : Int) := by
    rw [docIx_eq ha2 hlast]
    show Doc.mk 5 0 ⟨#[]⟩ [docIx (l ++ [grp l.length]) (((l.length : Nat) : Int) - 1).toNat] _ = _
    rw [show (((l.length : Nat) : Int) - 1).toNat = l.length - 1 by omega, docIx_append ha ha2 _ (by omega), List.take_append_of_le_length (Nat.le_refl _), List.take_length]
  have hrf : (Doc.mk 5 0 ⟨#[]⟩ [docIx l (l.length - 1)] ((l.countP isGroupB : Nat) : Int)).flat = some s := by
    rw [Doc.flat, if_neg (by decide), Doc.flats, hs]
    simp [Doc.flats]
  unfold renderL
  rw [if_pos ⟨hg, by omega, hw.2⟩]
  unfold root0
  rw [List.length_append, List.length_singleton, Nat.add_sub_cancel, hroot, layRun_cons]
  have hd : ∀ x : LIt, x = ⟨.mk 5 0 ⟨#[]⟩ [docIx l (l.length - 1)] ((l.countP isGroupB : Nat) : Int), 0, false⟩ → fitDec wd 0 [] x = true := fun x hx => by
    subst hx
    unfold fitDec
    simp only [hrf]
    simp [behindW_nil]
    omega
  have hstep : ∃ ok, layStep (fitDec wd) [] 0 true [] ⟨.mk 5 0 ⟨#[]⟩ [docIx l (l.length - 1)] ((l.countP isGroupB : Nat) : Int), 0, false⟩ = ⟨[], 0, ok, [⟨docIx l (l.length - 1), 0, true⟩]⟩ := by
    unfold layStep
    rw [if_neg (by simp [Doc.kind]), if_neg (by simp [Doc.kind]), if_neg (by simp [Doc.kind]), if_pos (by simp [Doc.kind]), hd _ rfl]
    exact ⟨_, rfl⟩
  obtain ⟨ok, hok⟩ := hstep
  rw [hok]
  have hwt := wt_root h
  obtain ⟨c1, o1, e1⟩ := (run_flat (fitDec wd) _).1 (docIx l (l.length - 1)) (Nat.lt_succ_self _) (fine_ix ha h3 hn _ (by omega)) s hs 0 l.length [] 0 ok [] (by omega)
  rw [e1, layRun_nil]
  simp
end Go.Proofs.Ytfabfkaolnidiaa
