/- Walks and lemmas of this seat (PGlobals): what each theorem says of the functions that it names. Conditions: those that each theorem states. -/
import Derived.Test.YtgmciglaapnahaaGreatDoorGUU
import Derived.Test.YtgmciglaapnahaaGreatDoorGW
import Derived.Test.YtgmciglaapnahaaGreatDoorGU
import Derived.Test.YtgmciglaapnahaaGreatDoorGP
import Derived.Test.YtgmciglaapnahaaGreatDoorGR
import Derived.Deep.AppendLies
namespace Go.Proofs.YtgmciglaapnahaaGreatDoor
set_option linter.unusedVariables false
set_option linter.unusedSimpArgs false
open Go.RowKit Go.Lib

/-! The names that are not a function's own. -/
def kidsAt (l : List Node) (i : Nat) : List Int := match l[i]? with | some x => x.kids | none => []
def globAt (l : List Node) (i : Int) : List ByteArray :=
  if kindAt l i = 44 then (namesOf (bodyOf l i.toNat)).filter (fun s => !hasT (paramsAt l i.toNat) s) else namesOf (part l i)
def globsIn (l : List Node) : List Int → List ByteArray
  | [] => []
  | i :: r => globAt l i ++ globsIn l r
def globalsOf (l : List Node) : List ByteArray := if progOkB l = true then namesT (globsIn l (kidsAt l (l.length - 1))) else []
theorem isFunc_at {l : List Node} (hok : treeOk l = true) {n : Nat} {x : Node} (hx : l[n]? = some x) (h44 : x.kind = 44) : isFuncB l (n : Int) = true := by
  have hl := (List.getElem?_eq_some_iff.1 hx).1
  unfold isFuncB inB
  rw [hok, kindAt_of hx, h44]
  simp
  omega
theorem vnames_bulk (l : List Node) : (vnames l).length ≤ 2 * bulk Node.sizes l := by
  have h1 := vnames_len l
  have h2 := length_bulk Node.sizes l
  omega
theorem namesOf_len (l : List Node) : (namesOf l).length ≤ 2 * l.length := by
  unfold namesOf
  have h1 := namesT_len (vnames l)
  have h2 := vnames_len l
  omega
theorem part_len {l : List Node} (i : Int) : (part l i).length ≤ 400 := by
  unfold part
  split
  · rename_i h
    obtain ⟨h1, h2, _⟩ := shapeOk_yes h.1
    split
    · simp
    · unfold seg
      rw [List.length_map, List.length_take, List.length_drop]
      omega
  · simp
theorem globAt_len (l : List Node) (i : Int) : (globAt l i).length ≤ 800 := by
  unfold globAt
  split
  · have h1 := namesOf_len (bodyOf l i.toNat)
    have h2 := List.length_filter_le (fun s => !hasT (paramsAt l i.toNat) s) (namesOf (bodyOf l i.toNat))
    have h3 : (bodyOf l i.toNat).length ≤ 400 := part_len _
    omega
  · have h1 := namesOf_len (part l i)
    have h3 := part_len (l := l) i
    omega
theorem globsIn_len (l : List Node) (r : List Int) : (globsIn l r).length ≤ 800 * r.length := by
  induction r with
  | nil => simp [globsIn]
  | cons i r ih => have := globAt_len l i; rw [globsIn]; simp only [List.length_append, List.length_cons]; omega
end Go.Proofs.YtgmciglaapnahaaGreatDoor
/- Walks and lemmas of this seat (FGlobalsS): what each theorem says of the functions that it names. Conditions: those that each theorem states. -/
namespace Go.Proofs.YtgmciglaapnahaaGreatDoor
set_option linter.unusedVariables false
set_option linter.unusedSimpArgs false
open Go.RowKit Go.Lib

theorem globAt_func {l : List Node} {i : Int} (h : kindAt l i = 44) : globAt l i = (namesOf (bodyOf l i.toNat)).filter (fun s => !hasT (paramsAt l i.toNat) s) := by unfold globAt; rw [if_pos h]
theorem globAt_else {l : List Node} {i : Int} (h : ¬ kindAt l i = 44) : globAt l i = (namesOf (part l i)).filter (fun s => !hasT [] s) := by
  unfold globAt; rw [if_neg h]
  exact (List.filter_eq_self.2 fun y _ => rfl).symm
theorem namesOf_max {l : List Node} (h : ∀ x ∈ l, x.Ok) : ∀ s ∈ namesOf l, s.size ≤ maxLen := by
  have h1 : ∀ (L : List Node), (∀ x ∈ L, x.Ok) → ∀ s ∈ vnames L, s.size ≤ maxLen := by
    intro L
    induction L with
    | nil => intro _ s hs; simp [vnames] at hs
    | cons x L ih =>
      intro hx s hs
      rw [vnames] at hs
      rcases List.mem_append.1 hs with hs | hs
      · obtain ⟨o1, o2, _⟩ := hx x (by simp)
        unfold namesAt at hs
        split at hs <;> split at hs <;> simp at hs
        · rcases hs with rfl | rfl <;> assumption
        · subst hs; assumption
        · subst hs; assumption
      · exact ih (fun y hy => hx y (by simp [hy])) s hs
  intro s hs
  unfold namesOf namesT at hs
  have h2 : ∀ (L acc : List ByteArray), (∀ s ∈ L, s.size ≤ maxLen) → (∀ s ∈ acc, s.size ≤ maxLen) → ∀ s ∈ L.foldl (fun l s => putT s l) acc, s.size ≤ maxLen := by
    intro L
    induction L with
    | nil => intro acc _ h; exact h
    | cons x L ih =>
      intro acc hL ha
      rw [List.foldl_cons]
      exact ih _ (fun s hs => hL s (by simp [hs])) (putT_mem2 (Q := fun x => x.size ≤ maxLen) (hL x (by simp)) ha)
  exact h2 _ _ (h1 l h) (by simp) s hs

set_option maxRecDepth 100000 in
set_option maxHeartbeats 3200000 in
theorem specGlobalsOf_any (l0 : List Node) (v0 : Value) (w : World) (hx0 : ∀ x ∈ l0, x.Ok) (hn0 : bulk Node.sizes l0 ≤ 1048576) (hv0 : NodeSlc w v0 l0) :
    Calls Tryz.prog 37 #[v0] w fun e w' => ∃ v', e = .returned v' ∧ Below w.heap.size w w' ∧ w'.ownsRow w.heap.size 9 1 v' (globalsOf l0).length ((globalsOf l0).flatMap str1) := by
  have hv := hv0
  have hprog := hid fun W (hb : Below w.heap.size w W) => specProgramOk_any l0 v0 W hx0 hn0 (hv.mono hb (Nat.le_refl _))
  obtain ⟨a, cap, rfl, hm, hc, hsl⟩ := hv0.shape
  by_cases hp : progOkB l0 = true
  · have hok := progOk_tree hp
    have hs := treeOk_shape hok
    obtain ⟨h1, h2, _⟩ := shapeOk_yes hs
    have hah := shapeOk_ahead hs
    obtain ⟨n, hn⟩ : ∃ n : Nat, n = l0.length - 1 := ⟨_, rfl⟩
    have hnl : n < l0.length := by omega
    have hni : (l0.length : Int) - 1 = (n : Int) := by omega
    obtain ⟨x, ka, kc, b, off, hx, rfl, C0, C1, C2, C3, C4, hkd⟩ := hsl.at (Below.refl _ _) (Nat.le_refl _) hnl
    have hkl := shapeOk_klen hs hx
    have hR : globalsOf l0 = namesT (globsIn l0 x.kids) := by unfold globalsOf kidsAt; rw [if_pos hp, ← hn, hx]
    have hkb := hid (hah n x hx)
    obtain ⟨_, _, _, hkv, hkc, hkm, hkrow⟩ := hkd
    simp at hkv
    obtain ⟨rfl, rfl⟩ := hkv
    unfold maxLen at hkm
    generalize hg0 : globalsOf l0 = rp at hR ⊢
    have hP : Hid (rp = (globsIn l0 (x.kids.drop 0)).foldl (fun l s => putT s l) []) := hid hR
    have hpart := hid fun (m : Nat) (hm : m < l0.length) W (hb : Below w.heap.size w W) => specl6Part_any l0 _ m W hx0 hn0 (hv.mono hb (Nat.le_refl _)) hs hm
    have hblk := hid fun a1 hf W (hb : Below w.heap.size w W) => specl24Block_any l0 _ a1 W hx0 hn0 (hv.mono hb (Nat.le_refl _)) hf
    have hpar := hid fun a1 hf W (hb : Below w.heap.size w W) => specl24Params_any l0 _ a1 W hx0 hn0 (hv.mono hb (Nat.le_refl _)) hf
    have hnam := hid fun i vb W (hb : NodeSlc W vb (part l0 i)) => specNamesOf_any (part l0 i) vb W (part_ok hx0 (by omega) i) (part_bulk l0 i hn0) hb
    have hfun := hid fun (m : Nat) (y : Node) (hy : l0[m]? = some y) (h44 : y.kind = 44) => isFunc_at hok hy h44
    have hmax := hid fun i => namesOf_max (part_ok hx0 (by omega) i)
    have hrange := hid hsl
    rw [hp] at hprog
    clear hR hg0 hx hp hs hah hn hok hv0 hsl
    replace hv := hid hv
    go_enter Tryz.func37, Tryz.ntmps37
    go_wp2_with fail
    refine (hprog.out _ (by repeat (first | exact Below.refl _ _ | refine Below.alloc ?_ (by first | omega | (simp; done) | (simp; omega)) _ | refine Below.drew ?_))).mono ?_; rintro e w2 ⟨rfl, hb2⟩
    have hB2 : Below w.heap.size w w2 := (by repeat (first | exact Below.refl _ _ | refine Below.alloc ?_ (by first | omega | (simp; done) | (simp; omega)) _ | refine Below.drew ?_) : Below w.heap.size w _).trans (hb2.mono (by simp))
    have hown0 := own_below (own_new0 w 9 1) hb2 (Nat.le_refl _)
    have c4 := keepc hB2 C4
    clear hprog hb2
    go_wp2
    go_loopw [3, 5] (fun v i wr => ∃ (k : Nat) (acc : List ByteArray) (kv : Value), kv = v ∧ i = .int .i64 k ∧ k ≤ x.kids.length ∧ acc.length ≤ 800 * k ∧ (∀ x ∈ acc, x.size ≤ maxLen) ∧ Below w.heap.size w wr ∧ wr.ownsRow w.heap.size 9 1 kv acc.length (acc.flatMap str1) ∧ Hid (rp = (globsIn l0 (x.kids.drop k)).foldl (fun l s => putT s l) acc)) (fun _ i _ => x.kids.length - (intOf i).toNat)
    case atStart => exact ⟨0, [], _, rfl, rfl, by omega, by simp, by simp, hB2, hown0, hP⟩
    clear hB2 hown0 hP c4
    obtain ⟨k, acc, v, rfl, rfl, hk, hacc, hxa, hb, hown, hrel⟩ := hrel
    have hbs := hb.size
    by_cases hlt : k < x.kids.length
    · obtain ⟨kid, hkid⟩ := get_of_lt hlt
      obtain ⟨kb, koff, rfl, hkro⟩ := slc_some hkrow (by omega)
      have D0 := hkro.one int1_len hkid rfl
      obtain ⟨hk0, hkj⟩ := hkb.out kid (List.mem_of_getElem? hkid)
      obtain ⟨j, rfl⟩ : ∃ j : Nat, kid = (j : Int) := ⟨kid.toNat, by omega⟩
      have hjl : j < l0.length := by omega
      obtain ⟨y, ka2, kc2, b2, off2, hy, hab, E0, -, -, -, -, -⟩ := hrange.out.at (Below.refl _ _) (Nat.le_refl _) hjl
      obtain ⟨rfl, rfl⟩ : b = b2 ∧ off = off2 := by simpa using hab
      have hky := kindAt_of hy
      rw [drop_cons hkid, globsIn, List.foldl_append] at hrel
      have hjz : (j : Int) < (l0.length : Int) := by omega
      have hkz : (k : Int) < (x.kids.length : Int) := by omega
      have d0 := fun o => keepc (hb.alloc hbs o) D0
      have hf44 := hid (hfun.out j y hy)
      replace hxa := hid hxa
      have hdd := hid hrel
      clear hrel hkid hkro hk0 hkj hab hy
      by_cases h44 : y.kind = 44
      · have hff := hf44.out h44
        have hg : globAt l0 (j : Int) = (namesOf (bodyOf l0 j)).filter (fun s => !hasT (paramsAt l0 j) s) := by rw [globAt_func (by rw [hky]; exact h44), Int.toNat_natCast]
        have hp1 := hid (hpart.out j hjl)
        have hpa := hid (hpar.out (j : Int) hff)
        have hbk := hid (hblk.out (j : Int) hff)
        have hn1 : Hid (∀ (vb : Value) (W : World), NodeSlc W vb (bodyOf l0 j) → Calls Tryz.prog 33 #[vb] W fun e w' => ∃ v', e = .returned v' ∧ Below W.heap.size W w' ∧ w'.ownsRow W.heap.size 9 1 v' (namesOf (bodyOf l0 j)).length ((namesOf (bodyOf l0 j)).flatMap str1)) := hid (hnam.out (bodyIx l0 j))
        obtain ⟨PL, hPL⟩ : ∃ PL, PL = paramsAt l0 j := ⟨_, rfl⟩
        obtain ⟨NL, hNL⟩ : ∃ NL, NL = namesOf (bodyOf l0 j) := ⟨_, rfl⟩
        have hNm := hid (show ∀ s ∈ NL, s.size ≤ maxLen by rw [hNL]; exact hmax.out (bodyIx l0 j))
        have hNn : NL.length ≤ 800 := by rw [hNL]; have := namesOf_len (bodyOf l0 j); have : (bodyOf l0 j).length ≤ 400 := part_len _; omega
        have hPn : PL.length ≤ 1048576 := by rw [hPL]; have h9 := paramsOf_len l0 (by omega) (j : Int); unfold paramsOf at h9; rw [if_pos hff, Int.toNat_natCast] at h9; exact h9
        rw [Int.toNat_natCast] at hpa hbk
        rw [← hNL] at hg hn1
        rw [← hPL] at hg hpa
        rw [hg] at hdd
        rw [h44] at E0
        clear hNL hPL hg hky h44 hff
        go_wp2_with (first
          | (go_at_call 113; refine (hp1.out _ (hb.alloc hbs _)).mono ?_; rintro e w3 ⟨bv, rfl, hb3, ho3⟩; obtain ⟨ba, bc, rfl, -⟩ := ho3.slc.shape; have hB3 : Below w.heap.size w w3 := (hb.alloc hbs _).trans (hb3.mono (by simp; omega)); have d1 := keepc hB3 D0; have e1 := keepc hB3 E0; have hw3 : Below wr.heap.size wr w3 := ((Below.refl _ _).alloc (Nat.le_refl _) _).trans (hb3.mono (by simp)))
          | (go_at_call 108; refine (hpa.out _ hB3).mono ?_; rintro e w5 ⟨pv, rfl, hb5, ho5⟩; obtain ⟨qa, qc, rfl, -⟩ := own_slice ho5; have hB5 := hB3.trans (hb5.mono hB3.size); have d2 := keepc hB5 D0)
          | (go_at_call 105; refine (hbk.out _ hB5).mono ?_; rintro e w6 ⟨bv2, rfl, hb6, ho6⟩; obtain ⟨ba2, bc2, rfl, -⟩ := ho6.slc.shape; have hB6 := hB5.trans (hb6.mono hB5.size))
          | (go_at_call 33; refine (hn1.out _ _ (OwnNode.slc ho6)).mono ?_; rintro e w4 ⟨nv, rfl, hb4, ho4⟩))
        have hB4 := hB6.trans (hb4.mono hB6.size)
        have hw5 := hw3.trans (hb5.mono hw3.size)
        have hw6 := hw5.trans (hb6.mono hw5.size)
        have hw4 : Below wr.heap.size wr w4 := hw6.trans (hb4.mono hw6.size)
        have hown4 := own_below hown hw4 (Nat.le_refl _)
        have hp5 := (Slc.of_own ho5).mono (hb6.trans (hb4.mono hb6.size)) (Nat.le_refl _)
        have hfind := hid fun s W (hW : Below w4.heap.size w4 W) => specl3Find_any PL (.slice qa PL.length qc) s W (by omega) (hp5.mono hW (Nat.le_refl _))
        obtain ⟨_, na, nc, rfl, hnc, hnm, hNS⟩ := Slc.of_own ho4
        unfold maxLen at hnm
        clear hb3 hb4 hb5 hb6 ho3 ho4 ho5 ho6 hB3 hB5 hB6 hw3 hw4 hw5 hw6 hp5 hown hb hbs d0 d1 d2 e1 hf44
        have hNi : (NL.length : Int) ≤ 9223372036854775807 := by omega
        go_loopw [3, 9] (fun v i wx => ∃ (q : Nat) (ac : List ByteArray) (kv : Value), kv = v ∧ i = .int .i64 q ∧ q ≤ NL.length ∧ ac.length ≤ 800 * k + q ∧ (∀ x ∈ ac, x.size ≤ maxLen) ∧ Below w.heap.size w wx ∧ Below w4.heap.size w4 wx ∧ wx.ownsRow w.heap.size 9 1 kv ac.length (ac.flatMap str1) ∧ Hid (rp = (globsIn l0 (x.kids.drop (k + 1))).foldl (fun l s => putT s l) (((NL.drop q).filter fun s => !hasT PL s).foldl (fun l s => putT s l) ac))) (fun _ i _ => NL.length - (intOf i).toNat)
        case atStart => exact ⟨0, acc, _, rfl, rfl, by omega, by omega, hxa.out, hB4, Below.refl _ _, hown4, hdd⟩
        clear hB4 hown4 hdd hxa
        obtain ⟨q, ac, v, rfl, rfl, hq, hac, hxc, hbx, hbw, hown, hrel⟩ := hrel
        have hbxs := hbx.size
        by_cases hlq : q < NL.length
        · obtain ⟨s, hs⟩ := get_of_lt hlq
          obtain ⟨nb, noff, rfl, hnro⟩ := hNS.resolve_left (by omega)
          have hnrw := hnro.mono hbw (Nat.le_refl _)
          have c0 := hnrw.one str1_len hs rfl
          have hsm := hNm.out s (List.mem_of_getElem? hs)
          have hff := hid (hfind.out s _ hbw)
          have hfh := find_has s PL
          rw [drop_cons hs, List.filter_cons] at hrel
          have hqz : (q : Int) < (NL.length : Int) := by omega
          have hput := hid fun W (ho : W.ownsRow w.heap.size 9 1 v ac.length (ac.flatMap str1)) (hW : w.heap.size ≤ W.heap.size) => specl23Put_any ac v s W w.heap.size hW (by omega) hsm hxc ho
          have hpl2 := putT_len s ac
          have hpm2 := hid (putT_mem2 (Q := fun x => x.size ≤ maxLen) hsm hxc)
          generalize findS s PL 0 = fv at hff hfh
          replace hxc := hid hxc
          clear hs hnro hnrw hsm
          by_cases hd : hasT PL s = true
          · rw [hd] at hrel hfh
            rw [if_neg (by simp)] at hrel
            have hfv : ¬ fv < 0 := by have := of_decide_eq_true hfh; omega
            clear hfh hd hput
            go_wp2_with (go_at_call 92; refine hff.out.mono ?_; rintro e w' ⟨rfl, hw9⟩; subst w')
            go_roundw
            case rel => exact ⟨q + 1, ac, _, rfl, by go_num, by omega, by omega, hxc.out, hbx, hbw, hown, hrel⟩
            case measure => simp [intOf]; omega
          · have hd : hasT PL s = false := by simpa using hd
            rw [hd] at hrel hfh
            rw [if_pos (by rfl), List.foldl_cons] at hrel
            have hfv : fv < 0 := by have := of_decide_eq_false hfh; omega
            have hcp := hid (hput.out _ hown hbxs)
            clear hfh hd hput
            go_wp2_with (first
              | (go_at_call 92; refine hff.out.mono ?_; rintro e w' ⟨rfl, hw9⟩; subst w')
              | (go_at_call 106; refine hcp.out.mono ?_; rintro e w7 ⟨v7, rfl, hb7, ho7⟩))
            go_roundw
            case rel => exact ⟨q + 1, putT s ac, _, rfl, by go_num, by omega, by omega, hpm2.out, hbx.trans (hb7.mono hbxs), hbw.trans (hb7.mono hbw.size), ho7, hrel⟩
            case measure => simp [intOf]; omega
        · have hR : Hid (rp = (globsIn l0 (x.kids.drop (k + 1))).foldl (fun l s => putT s l) ac) := hid (by rw [hrel.out, List.drop_of_length_le (by omega)]; rfl)
          replace hxc := hid hxc
          clear hrel
          go_wp2
          go_roundw
          case rel => exact ⟨k + 1, ac, _, rfl, by go_num, by omega, by omega, hxc.out, hbx, hown, hR⟩
          case measure => simp [intOf]; omega
      · have hg : globAt l0 (j : Int) = (namesOf (part l0 (j : Int))).filter (fun s => !hasT [] s) := globAt_else (by rw [hky]; exact h44)
        have h44b : (y.kind == 44) = false := by simpa using h44
        have hp1 := hid (hpart.out j hjl)
        have hn1 := hid (hnam.out (j : Int))
        obtain ⟨PL, hPL⟩ : ∃ PL, PL = ([] : List ByteArray) := ⟨_, rfl⟩
        obtain ⟨NL, hNL⟩ : ∃ NL, NL = namesOf (part l0 (j : Int)) := ⟨_, rfl⟩
        have hNm := hid (show ∀ s ∈ NL, s.size ≤ maxLen by rw [hNL]; exact hmax.out _)
        have hNn : NL.length ≤ 800 := by rw [hNL]; have := namesOf_len (part l0 (j : Int)); have := part_len (l := l0) (j : Int); omega
        rw [← hNL] at hg hn1
        rw [hg] at hdd
        rw [← hPL] at hdd
        clear hNL hg hky h44
        go_wp2_with (first
          | (go_at_call 113; refine (hp1.out _ (hb.alloc hbs _)).mono ?_; rintro e w3 ⟨bv, rfl, hb3, ho3⟩; obtain ⟨ba, bc, rfl, -⟩ := ho3.slc.shape; have hB3 : Below w.heap.size w w3 := (hb.alloc hbs _).trans (hb3.mono (by simp; omega)); have d1 := keepc hB3 D0; have e1 := keepc hB3 E0; have hw3 : Below wr.heap.size wr w3 := ((Below.refl _ _).alloc (Nat.le_refl _) _).trans (hb3.mono (by simp)))
          | (go_at_call 33; refine (hn1.out _ _ (OwnNode.slc ho3)).mono ?_; rintro e w4 ⟨nv, rfl, hb4, ho4⟩))
        have hB4 := hB3.trans (hb4.mono hB3.size)
        have hw4 : Below wr.heap.size wr w4 := hw3.trans (hb4.mono hw3.size)
        have hown4 := own_below hown hw4 (Nat.le_refl _)
        have hfind := hid fun s W (hW : Below w4.heap.size w4 W) => specl3Find_any [] (.slice (some ⟨wr.heap.size, 0, none⟩) 0 0) s W (by simp) ⟨by simp, _, _, rfl, by simp, by unfold maxLen; omega, .inl rfl⟩
        rw [← hPL] at hfind
        obtain ⟨_, na, nc, rfl, hnc, hnm, hNS⟩ := Slc.of_own ho4
        unfold maxLen at hnm
        clear hb3 hb4 ho3 ho4 hB3 hw3 hw4 hown hb hbs d0 d1 e1 hf44 hPL
        have hNi : (NL.length : Int) ≤ 9223372036854775807 := by omega
        go_loopw [3, 9] (fun v i wx => ∃ (q : Nat) (ac : List ByteArray) (kv : Value), kv = v ∧ i = .int .i64 q ∧ q ≤ NL.length ∧ ac.length ≤ 800 * k + q ∧ (∀ x ∈ ac, x.size ≤ maxLen) ∧ Below w.heap.size w wx ∧ Below w4.heap.size w4 wx ∧ wx.ownsRow w.heap.size 9 1 kv ac.length (ac.flatMap str1) ∧ Hid (rp = (globsIn l0 (x.kids.drop (k + 1))).foldl (fun l s => putT s l) (((NL.drop q).filter fun s => !hasT PL s).foldl (fun l s => putT s l) ac))) (fun _ i _ => NL.length - (intOf i).toNat)
        case atStart => exact ⟨0, acc, _, rfl, rfl, by omega, by omega, hxa.out, hB4, Below.refl _ _, hown4, hdd⟩
        clear hB4 hown4 hdd hxa
        obtain ⟨q, ac, v, rfl, rfl, hq, hac, hxc, hbx, hbw, hown, hrel⟩ := hrel
        have hbxs := hbx.size
        by_cases hlq : q < NL.length
        · obtain ⟨s, hs⟩ := get_of_lt hlq
          obtain ⟨nb, noff, rfl, hnro⟩ := hNS.resolve_left (by omega)
          have hnrw := hnro.mono hbw (Nat.le_refl _)
          have c0 := hnrw.one str1_len hs rfl
          have hsm := hNm.out s (List.mem_of_getElem? hs)
          have hff := hid (hfind.out s _ hbw)
          have hfh := find_has s PL
          rw [drop_cons hs, List.filter_cons] at hrel
          have hqz : (q : Int) < (NL.length : Int) := by omega
          have hput := hid fun W (ho : W.ownsRow w.heap.size 9 1 v ac.length (ac.flatMap str1)) (hW : w.heap.size ≤ W.heap.size) => specl23Put_any ac v s W w.heap.size hW (by omega) hsm hxc ho
          have hpl2 := putT_len s ac
          have hpm2 := hid (putT_mem2 (Q := fun x => x.size ≤ maxLen) hsm hxc)
          generalize findS s PL 0 = fv at hff hfh
          replace hxc := hid hxc
          clear hs hnro hnrw hsm
          by_cases hd : hasT PL s = true
          · rw [hd] at hrel hfh
            rw [if_neg (by simp)] at hrel
            have hfv : ¬ fv < 0 := by have := of_decide_eq_true hfh; omega
            clear hfh hd hput
            go_wp2_with (go_at_call 92; refine hff.out.mono ?_; rintro e w' ⟨rfl, hw9⟩; subst w')
            go_roundw
            case rel => exact ⟨q + 1, ac, _, rfl, by go_num, by omega, by omega, hxc.out, hbx, hbw, hown, hrel⟩
            case measure => simp [intOf]; omega
          · have hd : hasT PL s = false := by simpa using hd
            rw [hd] at hrel hfh
            rw [if_pos (by rfl), List.foldl_cons] at hrel
            have hfv : fv < 0 := by have := of_decide_eq_false hfh; omega
            have hcp := hid (hput.out _ hown hbxs)
            clear hfh hd hput
            go_wp2_with (first
              | (go_at_call 92; refine hff.out.mono ?_; rintro e w' ⟨rfl, hw9⟩; subst w')
              | (go_at_call 106; refine hcp.out.mono ?_; rintro e w7 ⟨v7, rfl, hb7, ho7⟩))
            go_roundw
            case rel => exact ⟨q + 1, putT s ac, _, rfl, by go_num, by omega, by omega, hpm2.out, hbx.trans (hb7.mono hbxs), hbw.trans (hb7.mono hbw.size), ho7, hrel⟩
            case measure => simp [intOf]; omega
        · have hR : Hid (rp = (globsIn l0 (x.kids.drop (k + 1))).foldl (fun l s => putT s l) ac) := hid (by rw [hrel.out, List.drop_of_length_le (by omega)]; rfl)
          replace hxc := hid hxc
          clear hrel
          go_wp2
          go_roundw
          case rel => exact ⟨k + 1, ac, _, rfl, by go_num, by omega, by omega, hxc.out, hbx, hown, hR⟩
          case measure => simp [intOf]; omega
    · have hR : Hid (rp = acc) := hid (by rw [hrel.out, List.drop_of_length_le (by omega), globsIn]; rfl)
      replace hxa := hid hxa
      clear hrel
      go_wp2
      go_ret
      exact ⟨_, rfl, hb, by rw [hR.out]; exact hown⟩
  · have hR : Hid (globalsOf l0 = []) := hid (by unfold globalsOf; rw [if_neg hp])
    have hp : progOkB l0 = false := by simpa using hp
    rw [hp] at hprog
    clear hp
    go_enter Tryz.func37, Tryz.ntmps37
    go_wp2_with fail
    refine (hprog.out _ (by repeat (first | exact Below.refl _ _ | refine Below.alloc ?_ (by first | omega | (simp; done) | (simp; omega)) _ | refine Below.drew ?_))).mono ?_; rintro e w2 ⟨rfl, hb2⟩
    have hB2 : Below w.heap.size w w2 := (by repeat (first | exact Below.refl _ _ | refine Below.alloc ?_ (by first | omega | (simp; done) | (simp; omega)) _ | refine Below.drew ?_) : Below w.heap.size w _).trans (hb2.mono (by simp))
    have hown0 := own_below (own_new0 w 9 1) hb2 (Nat.le_refl _)
    go_wp2
    go_ret
    exact ⟨_, rfl, hB2, by rw [hR.out]; exact hown0⟩
end Go.Proofs.YtgmciglaapnahaaGreatDoor
/- Walks and lemmas of this seat (FGlobalsI): what each theorem says of the functions that it names. Conditions: those that each theorem states. -/
namespace Go.Proofs.YtgmciglaapnahaaGreatDoor
set_option linter.unusedVariables false
set_option linter.unusedSimpArgs false
open Go.RowKit Go.Lib

theorem run_append_zero {P : Program} {w : World} (base : Nat) (t ty e : TypeId) (i : TypeInfo) (size : Nat) (ht : P.underlying t = some (.slice e)) (hi : P.info? e = some i)
    (v : Value) (n : Nat) (xs : List Value) (hown : w.ownsRow base e size v n xs) (pa : Option Addr) (c : Nat) :
    (Builtin.append_ #[t, t] ty #[v, .slice pa 0 c]).run P w = .ok v w := by
  cases pa <;> rcases hown.2 with ⟨rfl, rfl⟩ | ⟨g, cap, cur, rfl, _, _, hnc, _⟩ <;> simp [Builtin.append_, run_underlying ht, sizeOf, typeInfo, hi, Builtin.lenOf, Builtin.firstCells, *, storeCells, loadCells, loadCellsFrom]
theorem wpList_append_zero {P : Program} {w : World} {ops : Array Oper} {rest : List Oper} {o : Oper} {a : Act} {Q : Exit → Act → World → Prop} (hgd : o.guard = none) (s x : Operand) (t : TypeId)
    (ho : o.op = .call { callee := .builtin .append, args := #[s, x], argTypes := #[t, t] })
    (base : Nat) (e : TypeId) (i : TypeInfo) (size : Nat) (ht : P.underlying t = some (.slice e)) (hi : P.info? e = some i)
    (v : Value) (n : Nat) (xs : List Value) (hs : a.eval s = v) (hown : w.ownsRow base e size v n xs) (pa : Option Addr) (m c : Nat) (hx : a.eval x = .slice pa m c) (hm : m = 0)
    (h : wpList P ops Q rest (a.put o.dst v) w) : wpList P ops Q (o :: rest) a w := by
  subst hm
  refine wpList_plain hgd fun K hK => ?_
  have hrun := run_append_zero (P := P) (w := w) base t o.type e i size ht hi v n xs hown pa c
  unfold Oper.wp
  simp [execOp, ho, resolve, invoke, builtin, hs, hx, hrun, Result.andThen]
  exact hK _ _ h
theorem slcS_beside {wr w2 : World} {v pv : Value} {gg n cap m : Nat} {cs : List Value} {o : Obj} (h : SlcS (fun b => some b ≠ v.ownBlock) wr pv 1 m cs) (hg : (wr.alloc o).grownBy w2 v.ownBlock) (hat : v.ownBlock = some gg ∨ gg = wr.heap.size + 1) :
    SlcS (fun b => some b ≠ (Value.slice (some ⟨gg, 0, none⟩) n cap).ownBlock) w2 pv 1 m cs := h.keep (by decide) fun b hS hl => ⟨(hg.block b (by simp; omega) hS).trans (Below.heap_alloc _ _ _ hl), fun e => by
    have e : b = gg := Option.some.inj e
    rcases hat with hat | hat
    · exact hS (by rw [hat, e])
    · omega⟩
theorem containsS_slc (PL : List ByteArray) (pv : Value) (s : ByteArray) (W : World) (hn : PL.length ≤ 9223372036854775807) (h : Slc W pv 1 PL.length (PL.flatMap str1)) :
    Calls Tryz.prog 91 #[pv, .string s] W fun e w' => e = .returned (.bool (hasT PL s)) ∧ w' = W := by
  obtain ⟨_, pa, pc, rfl, hc, hm, hrow⟩ := h
  by_cases h0 : PL.length = 0
  · have hP : PL = [] := List.eq_nil_of_length_eq_zero h0
    subst hP
    exact Tryz.slices_Contains_string_empty pa pc s W
  · obtain ⟨b, off, rfl, hro⟩ := hrow.resolve_left h0
    have hhas := Tryz.slices_Contains_string b off PL.length pc PL s W (Nat.le_refl _) hn (fun j hj => by
      obtain ⟨y, hy⟩ := get_of_lt hj
      rw [hro.one str1_len hy rfl, List.getD_eq_getElem?_getD, hy]; rfl)
    have hcon : containsS (PL.take PL.length) s = hasT PL s := by rw [List.take_length]; unfold containsS; rw [idx_find]; exact find_has s PL
    rw [hcon] at hhas
    exact hhas

set_option maxRecDepth 100000 in
set_option maxHeartbeats 3200000 in
theorem implGlobalsOf_any (l0 : List Node) (v0 : Value) (w : World) (hx0 : ∀ x ∈ l0, x.Ok) (hn0 : bulk Node.sizes l0 ≤ 1048576) (hv0 : NodeSlc w v0 l0) (hE : WordEnv w) :
    Calls Tryz.prog 32 #[v0] w fun e w' => ∃ v', e = .returned v' ∧ Below w.heap.size w w' ∧ w'.ownsRow w.heap.size 9 1 v' (globalsOf l0).length ((globalsOf l0).flatMap str1) := by
  have hv := hv0
  have hprog := hid fun W (hb : Below w.heap.size w W) => implProgramOk_any l0 v0 W hx0 hn0 (hv.mono hb (Nat.le_refl _)) (hE.below hb)
  obtain ⟨i0, hi, hz0, hz1, hz2⟩ := info_parts Tryz.info9
  obtain ⟨a, cap, rfl, hm, hc, hsl⟩ := hv0.shape
  by_cases hp : progOkB l0 = true
  · have hok := progOk_tree hp
    have hs := treeOk_shape hok
    obtain ⟨h1, h2, _⟩ := shapeOk_yes hs
    have hah := shapeOk_ahead hs
    obtain ⟨n, hn⟩ : ∃ n : Nat, n = l0.length - 1 := ⟨_, rfl⟩
    have hnl : n < l0.length := by omega
    have hni : (l0.length : Int) - 1 = (n : Int) := by omega
    obtain ⟨x, ka, kc, b, off, hx, rfl, C0, C1, C2, C3, C4, hkd⟩ := hsl.at (Below.refl _ _) (Nat.le_refl _) hnl
    have hkl := shapeOk_klen hs hx
    have hR : Hid (globalsOf l0 = namesT (globsIn l0 x.kids)) := hid (by unfold globalsOf kidsAt; rw [if_pos hp, ← hn, hx])
    have hkb := hid (hah n x hx)
    obtain ⟨_, _, _, hkv, hkc, hkm, hkrow⟩ := hkd
    simp at hkv
    obtain ⟨rfl, rfl⟩ := hkv
    unfold maxLen at hkm
    generalize globalsOf l0 = rp at hR ⊢
    have hpart := hid fun (m : Nat) (hm : m < l0.length) W (hb : Below w.heap.size w W) => implPart_any l0 _ (m : Int) W hx0 hn0 (hv.mono hb (Nat.le_refl _)) (by unfold I64; omega)
    have hpar := hid fun a1 hf W (hb : Below w.heap.size w W) => implparamsOf_ne l0 _ a1 W hx0 hn0 (hv.mono hb (Nat.le_refl _)) hf
    have hnam := hid fun i vb W (hb : NodeSlc W vb (part l0 i)) => implNamesOf_any (part l0 i) vb W (part_ok hx0 (by omega) i) (part_bulk l0 i hn0) hb
    have hfun := hid fun (m : Nat) (y : Node) (hy : l0[m]? = some y) (h44 : y.kind = 44) => isFunc_at hok hy h44
    have hbk := hid fun (m : Nat) (y : Node) (hy : l0[m]? = some y) (hk : 1 ≤ y.kids.length) => body_kid hok hy hk
    have hklen := hid fun (m : Nat) (y : Node) (hy : l0[m]? = some y) => shapeOk_klen hs hy
    have hrange := hid hsl
    rw [hp] at hprog
    clear hx hp hs hah hn hok hv0 hsl
    replace hv := hid hv
    go_enter Tryz.func32, Tryz.ntmps32
    go_wp2_with fail
    refine (hprog.out _ (by repeat (first | exact Below.refl _ _ | refine Below.alloc ?_ (by first | omega | (simp; done) | (simp; omega)) _ | refine Below.drew ?_))).mono ?_; rintro e w2 ⟨rfl, hb2⟩
    have hB2 : Below w.heap.size w w2 := (by repeat (first | exact Below.refl _ _ | refine Below.alloc ?_ (by first | omega | (simp; done) | (simp; omega)) _ | refine Below.drew ?_) : Below w.heap.size w _).trans (hb2.mono (by simp))
    have hown0 := own_below (own_new0 w 9 1) hb2 (Nat.le_refl _)
    have c4 := keepc hB2 C4
    clear hprog hb2
    go_wp2
    go_loopw [3, 22] (fun v i wr => ∃ (k : Nat) (acc : List ByteArray) (kv : Value), kv = v ∧ i = .int .i64 k ∧ k ≤ x.kids.length ∧ acc.length ≤ 800 * k ∧ kv ≠ .slice none 0 0 ∧ Below w.heap.size w wr ∧ wr.ownsRow w.heap.size 9 1 kv acc.length (acc.flatMap str1) ∧ Hid (globsIn l0 x.kids = acc ++ globsIn l0 (x.kids.drop k))) (fun _ i _ => x.kids.length - (intOf i).toNat)
    case atStart => exact ⟨0, [], _, rfl, rfl, by omega, by simp, by simp, hB2, hown0, hid rfl⟩
    clear hB2 hown0 c4
    obtain ⟨k, acc, v, rfl, rfl, hk, hacc, hnil, hb, hown, hrel⟩ := hrel
    have hbs := hb.size
    by_cases hlt : k < x.kids.length
    · obtain ⟨kid, hkid⟩ := get_of_lt hlt
      obtain ⟨kb, koff, rfl, hkro⟩ := slc_some hkrow (by omega)
      have D0 := hkro.one int1_len hkid rfl
      obtain ⟨hk0, hkj⟩ := hkb.out kid (List.mem_of_getElem? hkid)
      obtain ⟨j, rfl⟩ : ∃ j : Nat, kid = (j : Int) := ⟨kid.toNat, by omega⟩
      have hjl : j < l0.length := by omega
      obtain ⟨y, ka2, kc2, b2, off2, hy, hab, E0, E1, E2, E3, E4, hkd2⟩ := hrange.out.at (Below.refl _ _) (Nat.le_refl _) hjl
      obtain ⟨rfl, rfl⟩ : b = b2 ∧ off = off2 := by simpa using hab
      have hky := kindAt_of hy
      rw [drop_cons hkid, globsIn] at hrel
      have hjz : (j : Int) < (l0.length : Int) := by omega
      have hkz : (k : Int) < (x.kids.length : Int) := by omega
      have d0 := keepc hb D0
      have e0 := keepc hb E0
      replace hnil := hid hnil
      have hvb := hid (fun r (e : v.ownBlock = some r) => hown.lt r e)
      by_cases h44 : y.kind = 44
      · have hfB := hfun.out j y hy h44
        have hyk : 1 ≤ y.kids.length := by
          obtain ⟨_, n', x', e', _, hx', _, hk1⟩ := isFunc_yes hfB
          obtain rfl : j = n' := by omega
          rw [hy] at hx'
          obtain rfl := Option.some.inj hx'
          exact hk1
        obtain ⟨m, hmk, hml, hmb⟩ := hbk.out j y hy hyk
        have hyl := hklen.out j y hy
        obtain ⟨_, _, _, hkv2, hkc2, hkm2, hkrow2⟩ := hkd2
        simp at hkv2
        obtain ⟨rfl, rfl⟩ := hkv2
        unfold maxLen at hkm2
        obtain ⟨kb2, koff2, rfl, hkro2⟩ := slc_some hkrow2 (by omega)
        have F0 := hkro2.one int1_len hmk rfl
        obtain ⟨L, hL⟩ : ∃ L : Nat, y.kids.length = L + 1 := ⟨y.kids.length - 1, by omega⟩
        have hLi : (y.kids.length : Int) - 1 = (L : Int) := by omega
        have hLn : y.kids.length - 1 = L := by omega
        have hLt : L < y.kids.length := by omega
        have hLz : (L : Int) < (y.kids.length : Int) := by omega
        have hL0 : (0 : Int) ≤ (L : Int) := by omega
        have hj0 : (0 : Int) ≤ (j : Int) := by omega
        have hLw : IntKind.wrap .i64 (L : Int) = (L : Int) := wrap_in _ (by unfold I64; omega)
        rw [hLn] at F0
        have hbd : bodyOf l0 j = part l0 (m : Int) := by unfold bodyOf; rw [hmb]
        have hg : globAt l0 (j : Int) = (namesOf (part l0 (m : Int))).filter (fun s => !hasT (paramsAt l0 j) s) := by rw [globAt_func (by rw [hky]; exact h44), Int.toNat_natCast, hbd]
        have hp1 := hid (hpart.out m hml)
        have hpa := hid (hpar.out (j : Int) hfB)
        have hn1 := hid (hnam.out (m : Int))
        obtain ⟨PL, hPL⟩ : ∃ PL, PL = paramsAt l0 j := ⟨_, rfl⟩
        obtain ⟨NL, hNL⟩ : ∃ NL, NL = namesOf (part l0 (m : Int)) := ⟨_, rfl⟩
        have hNn : NL.length ≤ 800 := by rw [hNL]; have := namesOf_len (part l0 (m : Int)); have := part_len (l := l0) (m : Int); omega
        have hPn : PL.length ≤ 1048576 := by rw [hPL]; have h9 := paramsOf_len l0 (by omega) (j : Int); unfold paramsOf at h9; rw [if_pos hfB, Int.toNat_natCast] at h9; exact h9
        rw [Int.toNat_natCast] at hpa
        rw [← hNL] at hg hn1
        rw [← hPL] at hg hpa
        rw [hg, ← List.append_assoc] at hrel
        rw [h44] at e0
        replace hL := hid hL
        generalize y.kids.length = K at hL hLi hLt hLz hyl hkc2 hkm2 E4
        clear hNL hPL hg hky h44 hkid hkro hk0 hkj hab hy hfB hyk hmk hmb hbd hkrow2 hkro2 E1 E2 E3 hLn
        have hl1 := World.block_lt_of_cell? w _ E4
        have hl2 := World.block_lt_of_cell? w _ F0
        go_wp2_with (go_at_call 103; refine (hpa.out _ hb).mono ?_; rintro e w5 ⟨pv, rfl, hb5, hpn, ho5⟩; obtain ⟨qa, qc, rfl, -⟩ := own_slice ho5)
        have hB5 := hb.trans (hb5.mono hbs)
        have g4 := keepc hB5 E4
        have f0 := keepc hB5 F0
        have hl3 : b < w5.heap.size := Nat.lt_of_lt_of_le hl1 hB5.size
        have hl4 : kb2 < w5.heap.size := Nat.lt_of_lt_of_le hl2 hB5.size
        go_region_held3 (fun W => Below w5.heap.size w5 W ∧ W.cell? ⟨b, off + j * 5 + 4, none⟩ = some (.slice (some ⟨kb2, koff2, none⟩) K kc2) ∧ W.cell? ⟨kb2, koff2 + L, none⟩ = some (.int .i64 m))
          (first
            | exact ⟨(Below.refl _ _).drew, g4, f0⟩
            | exact (fun h3 => ⟨h3, (h3.cell (p := ⟨b, off + j * 5 + 4, none⟩) hl3).trans g4, (h3.cell (p := ⟨kb2, koff2 + L, none⟩) hl4).trans f0⟩) (keep_b2 (by assumption) hb6)
            | exact (fun h3 => ⟨h3, (h3.cell (p := ⟨b, off + j * 5 + 4, none⟩) hl3).trans g4, (h3.cell (p := ⟨kb2, koff2 + L, none⟩) hl4).trans f0⟩) (keep_b (by assumption) hb6)
            | exact (fun h3 => ⟨h3, (h3.cell (p := ⟨b, off + j * 5 + 4, none⟩) hl3).trans g4, (h3.cell (p := ⟨kb2, koff2 + L, none⟩) hl4).trans f0⟩) (keep_b2 (by assumption) hb4)
            | exact (fun h3 => ⟨h3, (h3.cell (p := ⟨b, off + j * 5 + 4, none⟩) hl3).trans g4, (h3.cell (p := ⟨kb2, koff2 + L, none⟩) hl4).trans f0⟩) (keep_b (by assumption) hb4))
          (first
            | (go_at_call 100; refine (hp1.out _ hB5.drew).mono ?_; rintro e w6 ⟨bv, rfl, hb6, ho6⟩)
            | (go_at_call 111; refine (hn1.out _ _ (OwnNode.slc ho6)).mono ?_; rintro e w4 ⟨nv, rfl, hb4, ho4⟩; obtain ⟨na, nc, rfl, hnm⟩ := own_slice ho4))
        have hB6 := hB5.drew.trans (hb6.mono hB5.drew.size)
        have hB4 := hB6.trans (hb4.mono hB6.size)
        have hw5 : Below w5.heap.size w5 w6 := (Below.refl w5.heap.size w5).drew.trans (hb6.mono (Nat.le_refl _))
        have hw6 : Below w5.heap.size w5 w4 := hw5.trans (hb4.mono hw5.size)
        have hw4 : Below wr.heap.size wr w4 := hb5.trans (hw6.mono hb5.size)
        have hown4 := own_below hown hw4 (Nat.le_refl _)
        have hPS : SlcS (fun b => some b ≠ v.ownBlock) w4 (.slice qa PL.length qc) 1 PL.length (PL.flatMap str1) := (SlcS.of_own ho5).keep (by decide) fun b hS hl => ⟨hw6.block b hl, fun e => by have h9 := (hvb.out b e.symm).2; have hS' : wr.heap.size ≤ b := hS; omega⟩
        have hNS : SlcS (fun b => some b ≠ v.ownBlock) w4 (.slice na NL.length nc) 1 NL.length (NL.flatMap str1) := (SlcS.of_own ho4).keep (by decide) fun b hS hl => ⟨rfl, fun e => by have h9 := (hvb.out b e.symm).2; have hS' : w6.heap.size ≤ b := hS; have h8 := hb5.size; have h7 := hw5.size; omega⟩
        unfold maxLen at hnm
        have hnl9 : (NL.length : Int) ≤ 9223372036854775807 := by omega
        have hrel2 : Hid (globsIn l0 x.kids = (acc ++ (NL.drop 0).filter (fun s => !hasT PL s)) ++ globsIn l0 (x.kids.drop (k + 1))) := hid hrel.out
        clear hb4 hb5 hb6 ho4 ho5 ho6 hB5 hB6 hw4 hw5 hw6 hown hb hbs d0 e0 g4 f0 hrel hl3 hl4
        go_wp2_with fail
        go_loopw [3, 59] (fun v i wx => ∃ (q : Nat) (ac : List ByteArray) (kv : Value), kv = v ∧ i = .int .i64 q ∧ q ≤ NL.length ∧ ac.length ≤ 800 * k + q ∧ kv ≠ .slice none 0 0 ∧ Below w.heap.size w wx ∧ SlcS (fun b => some b ≠ kv.ownBlock) wx (.slice qa PL.length qc) 1 PL.length (PL.flatMap str1) ∧ SlcS (fun b => some b ≠ kv.ownBlock) wx (.slice na NL.length nc) 1 NL.length (NL.flatMap str1) ∧ wx.ownsRow w.heap.size 9 1 kv ac.length (ac.flatMap str1) ∧ Hid (globsIn l0 x.kids = (ac ++ (NL.drop q).filter (fun s => !hasT PL s)) ++ globsIn l0 (x.kids.drop (k + 1)))) (fun _ i _ => NL.length - (intOf i).toNat)
        case atStart => exact ⟨0, acc, _, rfl, rfl, by omega, by omega, hnil.out, hB4, hPS, hNS, hown4, hrel2⟩
        clear hB4 hPS hNS hown4 hrel2 hnil hvb
        obtain ⟨q, ac, v, rfl, rfl, hq, hac, hnil, hbx, hPS, hNS, hown, hrel⟩ := hrel
        have hbxs := hbx.size
        by_cases hlq : q < NL.length
        · obtain ⟨s, hs⟩ := get_of_lt hlq
          have hNS2 := hid hNS
          obtain ⟨_, _, _, hve, _, _, hnrw⟩ := hNS
          simp at hve
          obtain ⟨rfl, rfl⟩ := hve
          obtain ⟨nb, noff, rfl, _, hnro⟩ := hnrw.resolve_left (by omega)
          have c0 := hnro.one str1_len hs rfl
          have hcon := hid (containsS_slc PL (.slice qa PL.length qc) s wr (by omega) hPS.slc)
          rw [drop_cons hs, List.filter_cons] at hrel
          have hqz : (q : Int) < (NL.length : Int) := by omega
          have hvb := hid (fun r (e : v.ownBlock = some r) => hown.lt r e)
          replace hnil := hid hnil
          have hPS2 := hid hPS
          clear hs hnro hnrw hPS
          by_cases hd : hasT PL s = true
          · rw [hd] at hrel hcon
            rw [if_neg (by simp)] at hrel
            clear hd
            go_wp2_with (go_at_call 91; refine hcon.out.mono ?_; rintro e w' ⟨rfl, hw9⟩; subst w')
            go_roundw
            case rel => exact ⟨q + 1, ac, _, rfl, by go_num, by omega, by omega, hnil.out, hbx, hPS2.out, hNS2.out, hown, hrel⟩
            case measure => simp [intOf]; omega
          · have hd : hasT PL s = false := by simpa using hd
            rw [hd] at hrel hcon
            rw [if_pos (by rfl)] at hrel
            have hR2 : Hid (globsIn l0 x.kids = ((ac ++ [s]) ++ (NL.drop (q + 1)).filter (fun s => !hasT PL s)) ++ globsIn l0 (x.kids.drop (k + 1))) := hid (by rw [hrel.out]; simp)
            clear hd hrel
            go_wp2_with (first
              | (go_at_call 91; refine hcon.out.mono ?_; rintro e w' ⟨rfl, hw9⟩; subst w')
              | (at_builtin; refine wpList_append_lies _ (by rfl) _ _ _ (by rfl) w.heap.size 9 i0 _ 1 16 Tryz.underlying26 hi hz0 hz1 hz2 rfl (by omega) v ac.length (ac.flatMap str1) (by rfl) (hown.alloc _) ⟨wr.heap.size, 0, none⟩ 1 1 [.string s] (by rfl) (by rfl) (World.news_of_block (cs := #[.string s]) (t := 9) (fr := (0, 0)) (heap_alloc_new wr _)) (by simp [Value.oneCell']) (by omega) (by unfold maxLen; omega) (by omega) (by simp; omega) (wr.heap.size + 1) (by simp) ?_; intro gg cap2 w8 hown8 hgr8 hat8 hlt8))
            all_goals go_roundw
            all_goals first
              | (simp [intOf]; omega)
              | exact ⟨q + 1, ac ++ [s], _, rfl, by go_num, by omega, by simp; omega, by simp, (hbx.alloc hbxs _).grown hgr8 (by simp; omega) (fun r e => (hvb.out r e).1), slcS_beside hPS2.out hgr8 hat8, slcS_beside hNS2.out hgr8 hat8, by simpa [str1] using hown8, hR2⟩
        · have hR2 : Hid (globsIn l0 x.kids = ac ++ globsIn l0 (x.kids.drop (k + 1))) := hid (by rw [hrel.out, List.drop_of_length_le (by omega)]; simp)
          replace hnil := hid hnil
          replace hPS := hid hPS
          replace hNS := hid hNS
          clear hrel
          go_wp2
          go_roundw
          case rel => exact ⟨k + 1, ac, _, rfl, by go_num, by omega, by omega, hnil.out, hbx, hown, hR2⟩
          case measure => simp [intOf]; omega
      · have hg : globAt l0 (j : Int) = namesOf (part l0 (j : Int)) := by unfold globAt; rw [if_neg (by rw [hky]; exact h44)]
        have h44b : (y.kind == 44) = false := by simpa using h44
        have hp1 := hid (hpart.out j hjl)
        have hn1 := hid (hnam.out (j : Int))
        obtain ⟨NL, hNL⟩ : ∃ NL, NL = namesOf (part l0 (j : Int)) := ⟨_, rfl⟩
        have hNn : NL.length ≤ 800 := by rw [hNL]; have := namesOf_len (part l0 (j : Int)); have := part_len (l := l0) (j : Int); omega
        rw [← hNL] at hg hn1
        rw [hg, ← List.append_assoc] at hrel
        have hx63 : acc.length + NL.length ≤ maxLen := by unfold maxLen; omega
        have hx47 : (acc.length + NL.length) * 16 ≤ 140737488355328 := by omega
        clear hNL hg hky h44 hkid hkro hk0 hkj hab hy hkd2
        by_cases hN0 : NL.length = 0
        · have hNe : NL = [] := List.eq_nil_of_length_eq_zero hN0
          rw [hNe, List.append_nil] at hrel
          replace hown := hid hown
          go_wp2_with (first
            | (go_at_call 100; refine (hp1.out _ hb).mono ?_; rintro e w3 ⟨bv, rfl, hb3, ho3⟩; obtain ⟨ba, bc, rfl, -⟩ := ho3.slc.shape)
            | (go_at_call 111; refine (hn1.out _ _ (OwnNode.slc ho3)).mono ?_; rintro e w4 ⟨nv, rfl, hb4, ho4⟩; obtain ⟨na, nc, rfl, hnm⟩ := own_slice ho4)
            | (at_builtin; refine wpList_append_zero (by rfl) _ _ _ (by rfl) w.heap.size 9 i0 1 Tryz.underlying26 hi v acc.length (acc.flatMap str1) (by rfl) (own_below (own_below hown.out hb3 (Nat.le_refl _)) hb4 (Nat.le_refl _)) na 0 nc (by rfl) rfl ?_))
          all_goals go_roundw
          all_goals first
            | (simp [intOf]; omega)
            | exact ⟨k + 1, acc, _, rfl, by go_num, by omega, by omega, hnil.out, (hb.trans (hb3.mono hbs)).trans (hb4.mono (Nat.le_trans hbs hb3.size)), own_below (own_below hown.out hb3 (Nat.le_refl _)) hb4 (Nat.le_refl _), hrel⟩
        · replace hown := hid hown
          go_wp2_with (first
            | (go_at_call 100; refine (hp1.out _ hb).mono ?_; rintro e w3 ⟨bv, rfl, hb3, ho3⟩; obtain ⟨ba, bc, rfl, -⟩ := ho3.slc.shape)
            | (go_at_call 111; refine (hn1.out _ _ (OwnNode.slc ho3)).mono ?_; rintro e w4 ⟨nv, rfl, hb4, ho4⟩; obtain ⟨ng, nc, rfl, hnc⟩ := own_slice' ho4 (by omega))
            | (at_builtin; refine wpList_append_lies _ (by rfl) _ _ _ (by rfl) w.heap.size 9 i0 _ 1 16 Tryz.underlying26 hi hz0 hz1 hz2 rfl (by omega) v acc.length (acc.flatMap str1) (by rfl) (own_below (own_below hown.out hb3 (Nat.le_refl _)) hb4 (Nat.le_refl _)) ⟨ng, 0, none⟩ NL.length nc (NL.flatMap str1) (by rfl) (flat_len str1 1 str1_len NL) (ho4.cells rfl) (fun u hu => by rw [str_map] at hu; obtain ⟨z, _, rfl⟩ := List.mem_map.1 hu; rfl) (by omega) hx63 hx47 (Nat.le_trans hbs (Nat.le_trans hb3.size hb4.size)) w4.heap.size rfl ?_; intro gg cap2 w5 hown5 hgrow hat hlt3))
          all_goals go_roundw
          all_goals first
            | (simp [intOf]; omega)
            | exact ⟨k + 1, acc ++ NL, _, rfl, by go_num, by omega, by rw [List.length_append]; omega, by simp, ((hb.trans (hb3.mono hbs)).trans (hb4.mono (Nat.le_trans hbs hb3.size))).grown hgrow (Nat.le_trans hbs (Nat.le_trans hb3.size hb4.size)) (fun r e => (hvb.out r e).1), by rw [List.length_append, List.flatMap_append]; exact hown5, hrel⟩
    · have hR2 : Hid (globsIn l0 x.kids = acc) := hid (by rw [hrel.out, List.drop_of_length_le (by omega), globsIn, List.append_nil])
      have honce := hid (implonce_any acc v wr w.heap.size (by omega) hnil hown)
      have hvb := hid (fun r (e : v.ownBlock = some r) => hown.lt r e)
      replace hnil := hid hnil
      replace hown := hid hown
      clear hrel
      go_wp2_with fail
      refine honce.out.mono ?_; rintro e w4 ⟨v4, rfl, hg4, ho4⟩
      clear honce
      go_wp2
      go_ret
      exact ⟨_, rfl, hb.grown hg4 hbs (fun r e => (hvb.out r e).1), by rw [hR.out, hR2.out]; exact ho4⟩
  · have hR : Hid (globalsOf l0 = []) := hid (by unfold globalsOf; rw [if_neg hp])
    have hp : progOkB l0 = false := by simpa using hp
    rw [hp] at hprog
    clear hp
    go_enter Tryz.func32, Tryz.ntmps32
    go_wp2_with fail
    refine (hprog.out _ (by repeat (first | exact Below.refl _ _ | refine Below.alloc ?_ (by first | omega | (simp; done) | (simp; omega)) _ | refine Below.drew ?_))).mono ?_; rintro e w2 ⟨rfl, hb2⟩
    have hB2 : Below w.heap.size w w2 := (by repeat (first | exact Below.refl _ _ | refine Below.alloc ?_ (by first | omega | (simp; done) | (simp; omega)) _ | refine Below.drew ?_) : Below w.heap.size w _).trans (hb2.mono (by simp))
    have hown0 := own_below (own_new0 w 9 1) hb2 (Nat.le_refl _)
    go_wp2
    go_ret
    exact ⟨_, rfl, hB2, by rw [hR.out]; exact hown0⟩
end Go.Proofs.YtgmciglaapnahaaGreatDoor
/- Walks and lemmas of this seat (FGlobals): what each theorem says of the functions that it names. Conditions: those that each theorem states. -/
namespace Go.Proofs.YtgmciglaapnahaaGreatDoor
set_option linter.unusedVariables false
set_option linter.unusedSimpArgs false
open Go.RowKit Go.Lib

theorem globalsOf_len (l : List Node) : (globalsOf l).length ≤ 1048576 := by
  unfold globalsOf
  split
  · rename_i h
    have hs := treeOk_shape (progOk_tree h)
    obtain ⟨h1, h2, _⟩ := shapeOk_yes hs
    obtain ⟨x, hx⟩ := get_of_lt (show l.length - 1 < l.length by omega)
    have hk := shapeOk_klen hs hx
    have e : kidsAt l (l.length - 1) = x.kids := by unfold kidsAt; rw [hx]
    rw [e]
    have h3 := namesT_len (globsIn l x.kids)
    have h4 := globsIn_len l x.kids
    omega
  · simp
end Go.Proofs.YtgmciglaapnahaaGreatDoor
