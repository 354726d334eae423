/- Walks and lemmas of this seat (FFromInt): what each theorem says of the functions that it names. Conditions: those that each theorem states. -/
import Derived.Test.YtmemgmcopnaogaaGreatDoorGB
import Derived.Test.YtmemgmcopnaogaaGreatDoorGP
import Derived.Test.YtmemgmcopnaogaaGreatDoorGN
namespace Go.Proofs.YtmemgmcopnaogaaGreatDoor
set_option linter.unusedVariables false
set_option linter.unusedSimpArgs false
open Go.RowKit Go.Lib

def bEmp : ByteArray := ⟨#[]⟩
def numNode (s : ByteArray) : Node := ⟨2, 0, s, bEmp, []⟩
def decText (n : Int) : ByteArray := ⟨(itoa n).toArray⟩
/-- The nodes of a number. -/
def fromNodes (n : Int) : List Node := if -999999999 ≤ n ∧ n ≤ 999999999 then (if 0 ≤ n then [numNode (decText n)] else [numNode (decText (-n)), ⟨11, 56, bEmp, bEmp, [0]⟩]) else []
theorem fromNodes_out {n : Int} (h : ¬ (-999999999 ≤ n ∧ n ≤ 999999999)) : fromNodes n = [] := by unfold fromNodes; rw [if_neg h]
theorem fromNodes_pos {n : Int} (h : -999999999 ≤ n ∧ n ≤ 999999999) (h0 : 0 ≤ n) : fromNodes n = [numNode (decText n)] := by unfold fromNodes; rw [if_pos h, if_pos h0]
theorem fromNodes_neg {n : Int} (h : -999999999 ≤ n ∧ n ≤ 999999999) (h0 : ¬ 0 ≤ n) : fromNodes n = [numNode (decText (-n)), ⟨11, 56, bEmp, bEmp, [0]⟩] := by unfold fromNodes; rw [if_pos h, if_neg h0]
theorem itoa_len {n : Int} (h0 : 0 ≤ n) (h1 : n ≤ 999999999) : (itoa n).length ≤ 9 := by
  obtain ⟨u, rfl⟩ : ∃ u : Nat, n = (u : Int) := ⟨n.toNat, by omega⟩
  rw [itoa_nonneg, decDigits_length]
  exact nD_of_lt (by omega) (by omega)
theorem decText_size {n : Int} (h0 : 0 ≤ n) (h1 : n ≤ 999999999) : (decText n).size ≤ 9 := itoa_len h0 h1
theorem make_neg (s : ByteArray) : makeN ⟨11, 56, bEmp, bEmp, []⟩ [[numNode s]] = [numNode s, ⟨11, 56, bEmp, bEmp, [0]⟩] := by
  simp [makeN, makeK, makeStep, numNode, Node.shift]
def numTree (s : ByteArray) : Tree := .mk 2 0 s bEmp []
def negTree (s : ByteArray) : Tree := .mk 11 56 bEmp bEmp [numTree s]
theorem numTree_nodes (s : ByteArray) : (numTree s).addTo [] = [numNode s] := by simp [numTree, Tree.addTo, Tree.addsTo, numNode]
theorem negTree_nodes (s : ByteArray) : (negTree s).addTo [] = [numNode s, ⟨11, 56, bEmp, bEmp, [0]⟩] := by simp [negTree, numTree, Tree.addTo, Tree.addsTo, numNode]
theorem ownNode_lit (w : World) (x : Node) (hk : x.kids = []) (lo : Nat) (hlo : lo ≤ w.heap.size) :
    OwnNode (w.alloc (.cells #[.int .i64 x.kind, .int .i64 x.op, .string x.text, .string x.other, .slice none 0 0] 78)) lo (w.alloc (.cells #[.int .i64 x.kind, .int .i64 x.op, .string x.text, .string x.other, .slice none 0 0] 78)).heap.size (.slice (some ⟨w.heap.size, 0, none⟩) 1 1) [x] := by
  refine ⟨[(x, .slice none 0 0)], rfl, ⟨?_, fun k h => ?_⟩, fun p hp => ?_, ?_⟩
  · exact World.ownsRow_lit w (e := 78) (size := 5) #[.int .i64 x.kind, .int .i64 x.op, .string x.text, .string x.other, .slice none 0 0] 1 (base := lo) hlo (by unfold maxLen; omega) (by simp)
  · simp [Value.ownBlock] at h; subst h; simp
  · simp at hp; subst hp
    exact ⟨⟨by simp [hk], .inl ⟨rfl, by simp [hk]⟩⟩, fun k h => by simp [Value.ownBlock] at h⟩
  · simp [Apart, Value.ownBlock]

theorem OwnNode.base {w : World} {lo lo' hi : Nat} {v : Value} {l : List Node} (h : OwnNode w lo hi v l) (hl : lo' ≤ lo) : OwnNode w lo' hi v l := by
  obtain ⟨q, h1, h2, h3, h4⟩ := h
  exact ⟨q, h1, ⟨own_base h2.1 hl, h2.2⟩, fun p hp => ⟨own_base (h3 p hp).1 hl, (h3 p hp).2⟩, h4⟩
theorem numNode_ok {s : ByteArray} (h : s.size ≤ 9) : (numNode s).Ok := by
  unfold numNode Node.Ok
  have h0 : bEmp.size = 0 := rfl
  simp [I64, maxLen, h0]
  omega
theorem numNode_bulk {s : ByteArray} (h : s.size ≤ 9) : bulk Node.sizes [numNode s] ≤ 1048576 := by
  have h0 : bEmp.size = 0 := rfl
  simp [bulk, Node.sizes, numNode, h0]
  omega

set_option maxRecDepth 100000 in
set_option maxHeartbeats 1600000 in
theorem specFromInt_any (n : Int) (w : World) (hn : I64 n) : Calls Tryz.prog 118 #[.int .i64 n] w fun e w' => ∃ v', e = .returned v' ∧ Below w.heap.size w w' ∧ OwnNode w' w.heap.size w'.heap.size v' (fromNodes n) := by
  by_cases h : -999999999 ≤ n ∧ n ≤ 999999999
  · have hin : decide (-999999999 ≤ n ∧ n ≤ 999999999) = true := by simpa using h
    by_cases h0 : 0 ≤ n
    · have hR := hid (fromNodes_pos h h0)
      have hcall := hid (specDec_any n w (by omega) (by omega))
      go_enter Tryz.func118, Tryz.ntmps118
      go_wp2_with (first | (go_at_call 90; refine (specl1In_dec _ _ _ _).mono ?_; rintro e w' ⟨rfl, rfl⟩; rw [hin]) | (go_at_call 155; refine hcall.out.mono ?_; rintro e w' ⟨rfl, hb⟩))
      go_ret
      exact ⟨_, rfl, hb.alloc hb.size _, by rw [hR.out]; exact ownNode_lit _ (numNode (decText n)) rfl _ hb.size⟩
    · have hR := hid (fromNodes_neg h h0)
      have hcall := hid (specDec_any (-n) w (by omega) (by omega))
      have hsz := decText_size (n := -n) (by omega) (by omega)
      go_enter Tryz.func118, Tryz.ntmps118
      go_wp2_with (first | (go_at_call 90; refine (specl1In_dec _ _ _ _).mono ?_; rintro e w' ⟨rfl, rfl⟩; rw [hin]) | (go_at_call 155; refine hcall.out.mono ?_; rintro e w' ⟨rfl, hb⟩))
      have hO := ownNode_lit w' (numNode (decText (-n))) rfl w.heap.size hb.size
      have hB2 : Below w.heap.size w ((w'.alloc (.cells #[.int .i64 2, .int .i64 0, .string ⟨(itoa (-n)).toArray⟩, .string ⟨#[]⟩, .slice none 0 0] 78)).alloc (.cells #[.slice (some ⟨w'.heap.size, 0, none⟩) 1 1] 24)) := (hb.alloc hb.size _).alloc (by have := hb.size; simp; omega) _
      have hls := World.ownsRow_lit (w'.alloc (.cells #[.int .i64 2, .int .i64 0, .string ⟨(itoa (-n)).toArray⟩, .string ⟨#[]⟩, .slice none 0 0] 78)) (e := 24) (size := 1) #[.slice (some ⟨w'.heap.size, 0, none⟩) 1 1] 1 (base := 0) (Nat.zero_le _) (by unfold maxLen; omega) (by simp)
      rw [World.size_alloc] at hls
      have hN : NodeSlc ((w'.alloc (.cells #[.int .i64 2, .int .i64 0, .string ⟨(itoa (-n)).toArray⟩, .string ⟨#[]⟩, .slice none 0 0] 78)).alloc (.cells #[.slice (some ⟨w'.heap.size, 0, none⟩) 1 1] 24)) (.slice (some ⟨w'.heap.size, 0, none⟩) 1 1) [numNode (decText (-n))] :=
        NodeSlc.mono (B := (w'.alloc (.cells #[.int .i64 2, .int .i64 0, .string ⟨(itoa (-n)).toArray⟩, .string ⟨#[]⟩, .slice none 0 0] 78)).heap.size) hO.slc ((Below.refl _ _).alloc (Nat.le_refl _) _) (Nat.le_refl _)
      have hsb := hB2.size
      have hmk := specl6Make_any ⟨11, 56, bEmp, bEmp, []⟩ (.slice none 0 0) (.slice (some ⟨w'.heap.size + 1, 0, none⟩) 1 1) [([numNode (decText (-n))], .slice (some ⟨w'.heap.size, 0, none⟩) 1 1)] _ (Slc.of_own hls) (by intro p hp; simp at hp; subst hp; exact hN) (by
        intro p hp; simp at hp; subst hp
        exact ⟨by simp, fun y hy => by simp at hy; subst hy; exact numNode_ok (by omega), numNode_bulk (by omega), fun y hy k hk => by simp at hy; subst hy; simp [numNode] at hk⟩) (by simp) ⟨_, _, _, rfl⟩
      refine hmk.mono ?_; rintro e w3 ⟨v', rfl, hb3, ho3⟩
      obtain ⟨ya, yc, rfl, _⟩ := ho3.slc.shape
      have hfin := hid (OwnNode.base ho3 hsb)
      have hB3 := hid (hB2.trans (hb3.mono hsb))
      clear hmk hN hO hls hb3 hB2 ho3
      go_wp2
      go_ret
      exact ⟨_, rfl, hB3.out, by rw [hR.out]; have := hfin.out; simp only [List.map_cons, List.map_nil] at this; rw [make_neg] at this; exact this⟩
  · have hin : decide (-999999999 ≤ n ∧ n ≤ 999999999) = false := by simpa using h
    have hR := hid (fromNodes_out h)
    go_enter Tryz.func118, Tryz.ntmps118
    go_wp2_with (go_at_call 90; refine (specl1In_dec _ _ _ _).mono ?_; rintro e w' ⟨rfl, rfl⟩; rw [hin])
    go_ret
    rw [hR.out]
    refine ⟨_, rfl, (Below.refl _ _).alloc (Nat.le_refl _) _, [], rfl, ⟨own_new0 _ _ _, fun k hk => ?_⟩, by simp, by simp⟩
    simp [Value.ownBlock] at hk; subst hk; simp

/-- What fromInt hands back. -/
def FromPost (n : Int) (w : World) (e : Ending) (w' : World) : Prop := ∃ (t : Tree) (kv : Value), e = .returned (.tuple #[.agg #[.int .i64 t.kind, .int .i64 t.op, .string t.text, .string t.other, kv], .bool (decide (-999999999 ≤ n ∧ n ≤ 999999999))]) ∧ Below w.heap.size w w' ∧ (∃ a m c, kv = .slice a m c) ∧ ((-999999999 ≤ n ∧ n ≤ 999999999) → TreeIs (fun b => w.heap.size ≤ b ∧ b < w'.heap.size) w' t kv ∧ t.addTo [] = fromNodes n)
theorem numTree_is (S : Nat → Prop) (w : World) (s : ByteArray) : TreeIs S w (numTree s) (.slice none 0 0) :=
  TreeIs.close (q := []) rfl ⟨by simp, none, 0, rfl, by simp, by unfold maxLen; omega, .inl rfl⟩ (by simp)

theorem box5 {w : World} {g : Nat} {T : TypeId} {c0 c1 c2 c3 c4 : Value} (h : w.heap[g]? = some (.cells #[c0, c1, c2, c3, c4] T (0, 0))) (u0 u1 u2 u3 u4 : Value) :
    (((((w.setCell ⟨g, 0, none⟩ u0).setCell ⟨g, 1, none⟩ u1).setCell ⟨g, 2, none⟩ u2).setCell ⟨g, 3, none⟩ u3).setCell ⟨g, 4, none⟩ u4).heap[g]? = some (.cells #[u0, u1, u2, u3, u4] T (0, 0)) ∧
    (∀ (B : Nat) (a : World), Below B a w → B ≤ g → Below B a (((((w.setCell ⟨g, 0, none⟩ u0).setCell ⟨g, 1, none⟩ u1).setCell ⟨g, 2, none⟩ u2).setCell ⟨g, 3, none⟩ u3).setCell ⟨g, 4, none⟩ u4)) ∧
    (∀ b, b ≠ g → (((((w.setCell ⟨g, 0, none⟩ u0).setCell ⟨g, 1, none⟩ u1).setCell ⟨g, 2, none⟩ u2).setCell ⟨g, 3, none⟩ u3).setCell ⟨g, 4, none⟩ u4).heap[b]? = w.heap[b]?) ∧
    (((((w.setCell ⟨g, 0, none⟩ u0).setCell ⟨g, 1, none⟩ u1).setCell ⟨g, 2, none⟩ u2).setCell ⟨g, 3, none⟩ u3).setCell ⟨g, 4, none⟩ u4).heap.size = w.heap.size := by
  have hN := heap_setCell_at (j := 4) (u := u4) (heap_setCell_at (j := 3) (u := u3) (heap_setCell_at (j := 2) (u := u2) (heap_setCell_at (j := 1) (u := u1) (heap_setCell_at (j := 0) (u := u0) h))))
  exact ⟨hN, fun B a hb hB => below_storeAll [u0, u1, u2, u3, u4] 0 hb hB, fun b hb => storeAll_other [u0, u1, u2, u3, u4] 0 (w := w) (g := g) hb, size_storeAll [u0, u1, u2, u3, u4] 0⟩

set_option maxRecDepth 100000 in
set_option maxHeartbeats 1600000 in
theorem implfromInt_any (n : Int) (w : World) (hn : I64 n) (hE : PowEnv w) : Calls Tryz.prog 60 #[.int .i64 n] w fun e w' => FromPost n w e w' := by
  have hEa := hid (fun (o : Obj) => hE.below ((Below.refl _ _).alloc (Nat.le_refl _) o))
  by_cases h : -999999999 ≤ n ∧ n ≤ 999999999
  · have hin : decide (-999999999 ≤ n ∧ n ≤ 999999999) = true := by simpa using h
    by_cases h0 : 0 ≤ n
    · have hR := hid (fromNodes_pos h h0)
      have hcall := hid (fun (o : Obj) => implDec_any n (w.alloc o) (by omega) (by omega) (hEa.out o))
      go_enter Tryz.func60, Tryz.ntmps60
      go_wp2_with (go_at_call 83; refine (implwithin_dec _ _ _ _).mono ?_; rintro e w' ⟨rfl, rfl⟩; rw [hin])
      refine (hcall.out _).mono ?_; rintro e w' ⟨rfl, hb⟩
      have hres := (hb.block w.heap.size (by simp)).trans (heap_alloc_new w _)
      have hB0 : Below w.heap.size w w' := ((Below.refl w.heap.size w).alloc (Nat.le_refl _) _).trans (hb.mono (by simp))
      have hsb : w.heap.size + 1 ≤ w'.heap.size := by have := hb.size; simpa using this
      have r0 := box_cell (j := 0) hres rfl
      have r1 := box_cell (j := 1) hres rfl
      have r2 := box_cell (j := 2) hres rfl
      have r3 := box_cell (j := 3) hres rfl
      have r4 := box_cell (j := 4) hres rfl
      have f0 : ∀ j, w'.frozen? ⟨w.heap.size, j, none⟩ = false := fun j => box_froz hres
      have hres2 := hid hres
      clear hres
      go_wp2
      have hX := box5 hres2.out (.int .i64 2) (.int .i64 0) (.string ⟨(itoa n).toArray⟩) (.string ⟨#[]⟩) (.slice none 0 0)
      generalize (((((w'.setCell ⟨w.heap.size, 0, none⟩ (.int .i64 2)).setCell ⟨w.heap.size, 1, none⟩ (.int .i64 0)).setCell ⟨w.heap.size, 2, none⟩ (.string ⟨(itoa n).toArray⟩)).setCell ⟨w.heap.size, 3, none⟩ (.string ⟨#[]⟩)).setCell ⟨w.heap.size, 4, none⟩ (.slice none 0 0)) = W2 at hX ⊢
      obtain ⟨hN, hBl, hH, hSz⟩ := hX
      have s0 := box_cell (j := 0) hN rfl
      have s1 := box_cell (j := 1) hN rfl
      have s2 := box_cell (j := 2) hN rfl
      have s3 := box_cell (j := 3) hN rfl
      have s4 := box_cell (j := 4) hN rfl
      have hpost : FromPost n w (.returned (.tuple #[.agg #[.int .i64 2, .int .i64 0, .string ⟨(itoa n).toArray⟩, .string ⟨#[]⟩, .slice none 0 0], .bool true])) W2 :=
        ⟨numTree (decText n), .slice none 0 0, by rw [hin]; rfl, hBl _ _ hB0 (Nat.le_refl _), ⟨_, _, _, rfl⟩, fun _ => ⟨numTree_is _ _ _, by rw [hR.out]; exact numTree_nodes _⟩⟩
      exact bodyPost_ret (v := .tuple #[.agg #[.int .i64 2, .int .i64 0, .string ⟨(itoa n).toArray⟩, .string ⟨#[]⟩, .slice none 0 0], .bool true]) (by simp [results, Tryz.results60, go_sem, s0, s1, s2, s3, s4]) rfl hpost
    · have hR := hid (fromNodes_neg h h0)
      have hcall := hid (fun (o : Obj) => implDec_any (-n) (w.alloc o) (by omega) (by omega) (hEa.out o))
      go_enter Tryz.func60, Tryz.ntmps60
      go_wp2_with (go_at_call 83; refine (implwithin_dec _ _ _ _).mono ?_; rintro e w' ⟨rfl, rfl⟩; rw [hin])
      refine (hcall.out _).mono ?_; rintro e w' ⟨rfl, hb⟩
      have hres := (hb.block w.heap.size (by simp)).trans (heap_alloc_new w _)
      have hB0 : Below w.heap.size w w' := ((Below.refl w.heap.size w).alloc (Nat.le_refl _) _).trans (hb.mono (by simp))
      have hsb : w.heap.size + 1 ≤ w'.heap.size := by have := hb.size; simpa using this
      have hres2 := fun (o : Obj) => (Below.heap_alloc w' o _ (show w.heap.size < w'.heap.size by omega)).trans hres
      have r0 := fun o => box_cell (j := 0) (hres2 o) rfl
      have r1 := fun o => box_cell (j := 1) (hres2 o) rfl
      have r2 := fun o => box_cell (j := 2) (hres2 o) rfl
      have r3 := fun o => box_cell (j := 3) (hres2 o) rfl
      have r4 := fun o => box_cell (j := 4) (hres2 o) rfl
      have f0 : ∀ o j, (w'.alloc o).frozen? ⟨w.heap.size, j, none⟩ = false := fun o j => box_froz (hres2 o)
      replace hres2 := hid hres2
      clear hres
      go_wp2
      have hX := box5 (hres2.out (.cells #[.int .i64 2, .int .i64 0, .string ⟨(itoa (-n)).toArray⟩, .string ⟨#[]⟩, .slice none 0 0] 70)) (.int .i64 11) (.int .i64 56) (.string ⟨#[]⟩) (.string ⟨#[]⟩) (.slice (some ⟨w'.heap.size, 0, none⟩) 1 1)
      generalize ((((((w'.alloc (.cells #[.int .i64 2, .int .i64 0, .string ⟨(itoa (-n)).toArray⟩, .string ⟨#[]⟩, .slice none 0 0] 70)).setCell ⟨w.heap.size, 0, none⟩ (.int .i64 11)).setCell ⟨w.heap.size, 1, none⟩ (.int .i64 56)).setCell ⟨w.heap.size, 2, none⟩ (.string ⟨#[]⟩)).setCell ⟨w.heap.size, 3, none⟩ (.string ⟨#[]⟩)).setCell ⟨w.heap.size, 4, none⟩ (.slice (some ⟨w'.heap.size, 0, none⟩) 1 1)) = W2 at hX ⊢
      obtain ⟨hN, hBl, hH, hSz⟩ := hX
      have s0 := box_cell (j := 0) hN rfl
      have s1 := box_cell (j := 1) hN rfl
      have s2 := box_cell (j := 2) hN rfl
      have s3 := box_cell (j := 3) hN rfl
      have s4 := box_cell (j := 4) hN rfl
      have hrow : W2.heap[w'.heap.size]? = some (.cells #[.int .i64 2, .int .i64 0, .string ⟨(itoa (-n)).toArray⟩, .string ⟨#[]⟩, .slice none 0 0] 70 (0, 0)) := (hH _ (by omega)).trans (heap_alloc_new w' _)
      have hlt2 : w'.heap.size < W2.heap.size := (Array.getElem?_eq_some_iff.1 hrow).1
      have ht : TreeIs (fun b => w.heap.size ≤ b ∧ b < W2.heap.size) W2 (negTree (decText (-n))) (.slice (some ⟨w'.heap.size, 0, none⟩) 1 1) :=
        TreeIs.close (q := [(numTree (decText (-n)), .slice none 0 0)]) rfl ⟨rfl, _, 1, rfl, by simp, by unfold maxLen; omega, .inr ⟨w'.heap.size, 0, rfl, ⟨by omega, hlt2⟩, fun j u hj => by
          rw [Nat.zero_add]
          exact box_cell hrow (by simpa [Tree.cells, numTree, Tree.kind, Tree.op, Tree.text, Tree.other, decText, bEmp] using hj)⟩⟩ (fun p hp => by simp at hp; subst hp; exact numTree_is _ _ _)
      have hpost : FromPost n w (.returned (.tuple #[.agg #[.int .i64 11, .int .i64 56, .string ⟨#[]⟩, .string ⟨#[]⟩, .slice (some ⟨w'.heap.size, 0, none⟩) 1 1], .bool true])) W2 :=
        ⟨negTree (decText (-n)), _, by rw [hin]; rfl, hBl _ _ (hB0.alloc hB0.size _) (Nat.le_refl _), ⟨_, _, _, rfl⟩, fun _ => ⟨ht, by rw [hR.out]; exact negTree_nodes _⟩⟩
      exact bodyPost_ret (v := .tuple #[.agg #[.int .i64 11, .int .i64 56, .string ⟨#[]⟩, .string ⟨#[]⟩, .slice (some ⟨w'.heap.size, 0, none⟩) 1 1], .bool true]) (by simp [results, Tryz.results60, go_sem, s0, s1, s2, s3, s4]) rfl hpost
  · have hin : decide (-999999999 ≤ n ∧ n ≤ 999999999) = false := by simpa using h
    have hres := heap_alloc_new w (.cells #[.int .i64 0, .int .i64 0, .string ⟨#[]⟩, .string ⟨#[]⟩, .slice none 0 0] 70)
    have hB0 : Below w.heap.size w (w.alloc (.cells #[.int .i64 0, .int .i64 0, .string ⟨#[]⟩, .string ⟨#[]⟩, .slice none 0 0] 70)) := (Below.refl w.heap.size w).alloc (Nat.le_refl _) _
    go_enter Tryz.func60, Tryz.ntmps60
    go_wp2_with (go_at_call 83; refine (implwithin_dec _ _ _ _).mono ?_; rintro e w' ⟨rfl, rfl⟩; rw [hin])
    have s0 := box_cell (j := 0) hres rfl
    have s1 := box_cell (j := 1) hres rfl
    have s2 := box_cell (j := 2) hres rfl
    have s3 := box_cell (j := 3) hres rfl
    have s4 := box_cell (j := 4) hres rfl
    have hpost : FromPost n w (.returned (.tuple #[.agg #[.int .i64 0, .int .i64 0, .string ⟨#[]⟩, .string ⟨#[]⟩, .slice none 0 0], .bool false])) (w.alloc (.cells #[.int .i64 0, .int .i64 0, .string ⟨#[]⟩, .string ⟨#[]⟩, .slice none 0 0] 70)) :=
      ⟨.mk 0 0 ⟨#[]⟩ ⟨#[]⟩ [], _, by rw [hin]; rfl, hB0, ⟨_, _, _, rfl⟩, fun h' => absurd h' h⟩
    exact bodyPost_ret (v := .tuple #[.agg #[.int .i64 0, .int .i64 0, .string ⟨#[]⟩, .string ⟨#[]⟩, .slice none 0 0], .bool false]) (by simp [results, Tryz.results60, go_sem, s0, s1, s2, s3, s4]) rfl hpost

theorem fromNodes_len (n : Int) : (fromNodes n).length ≤ 2 := by
  unfold fromNodes; split
  · split <;> simp
  · simp
set_option maxRecDepth 100000 in
set_option maxHeartbeats 1600000 in
theorem implFromInt_any (n : Int) (w : World) (hn : I64 n) (hE : PowEnv w) : Calls Tryz.prog 15 #[.int .i64 n] w fun e w' => ∃ v', e = .returned v' ∧ Below w.heap.size w w' ∧ OwnNode w' w.heap.size w'.heap.size v' (fromNodes n) := by
  have hcall := hid (implfromInt_any n w hn hE)
  by_cases h : -999999999 ≤ n ∧ n ≤ 999999999
  · have hin : decide (-999999999 ≤ n ∧ n ≤ 999999999) = true := by simpa using h
    go_enter Tryz.func15, Tryz.ntmps15
    go_wp2_with fail
    refine hcall.out.mono ?_; rintro e w1 ⟨t, kv, rfl, hb1, ⟨ka, kn, kc, rfl⟩, ht⟩
    obtain ⟨ht1, ht2⟩ := ht h
    rw [hin]
    have hlist := hid (fun (o : Obj) => impllist_any t ka kn kc (w1.alloc o) (fun b => w.heap.size ≤ b ∧ b < w1.heap.size) (ht1.mono ((Below.refl _ _).alloc (Nat.le_refl _) o) (Nat.le_refl _)) (fun b hb => by have := hb.2; simp; omega) (by rw [ht2]; have := fromNodes_len n; omega))
    have hs1 := hb1.size
    clear ht1 ht hcall
    go_wp2_with fail
    refine (hlist.out _).mono ?_; rintro e w2 ⟨v2, rfl, hb2, ho2⟩
    rw [ht2] at ho2
    obtain ⟨ya, yc, rfl, _⟩ := ho2.slc.shape
    have hB2 := hid (hb1.trans ((((Below.refl _ _).alloc (Nat.le_refl _) _).trans (hb2.mono (by simp))).mono hs1))
    have hfin := hid (OwnNode.base (lo' := w.heap.size) ho2 (by simp; omega))
    clear hlist hb2 ho2
    go_wp2
    go_ret
    exact ⟨_, rfl, hB2.out, hfin.out⟩
  · have hin : decide (-999999999 ≤ n ∧ n ≤ 999999999) = false := by simpa using h
    have hR := hid (fromNodes_out h)
    go_enter Tryz.func15, Tryz.ntmps15
    go_wp2_with fail
    refine hcall.out.mono ?_; rintro e w1 ⟨t, kv, rfl, hb1, ⟨ka, kn, kc, rfl⟩, ht⟩
    rw [hin]
    have hs1 := hb1.size
    clear ht
    go_wp2
    go_ret
    exact ⟨_, rfl, hb1.alloc hs1 _, by rw [hR.out]; exact OwnNode.nil _ _ _⟩
theorem fromNodes_bulk (n : Int) : bulk Node.sizes (fromNodes n) ≤ 1048576 := by
  by_cases h : -999999999 ≤ n ∧ n ≤ 999999999
  · have e0 : bEmp.size = 0 := rfl
    by_cases h0 : 0 ≤ n
    · rw [fromNodes_pos h h0]; exact numNode_bulk (decText_size h0 h.2)
    · rw [fromNodes_neg h h0]
      have := decText_size (n := -n) (by omega) (by omega)
      simp [bulk, Node.sizes, numNode, e0]
      omega
  · rw [fromNodes_out h]; simp [bulk]
end Go.Proofs.YtmemgmcopnaogaaGreatDoor
