/- Walks and lemmas of this seat (PRound): what each theorem says of the functions that it names. Conditions: those that each theorem states. -/
import Derived.Test.YtgmciglaapnahaaGB
import Derived.Test.YtgmciglaapnahaaGD
import Derived.Test.YtgmciglaapnahaaGP
import Derived.Test.YtgmciglaapnahaaGM
namespace Go.Proofs.Ytgmciglaapnahaa
set_option linter.unusedVariables false
set_option linter.unusedSimpArgs false
open Go.RowKit

/-! A tree that is laid as a list is read back as that tree. -/
theorem stepK_append (out : List Nat) : ∀ (a b : List Int) (n : Nat), stepK out (a ++ b) n = (stepK out a n).bind fun m => stepK out b m := by
  intro a
  induction a with
  | nil => intro b n; rfl
  | cons k a ih =>
    intro b n
    rw [List.cons_append]
    show (if k ≠ (n : Int) - 1 ∨ n = 0 then none else stepK out (a ++ b) (out.getD (n - 1) 0)) = (if k ≠ (n : Int) - 1 ∨ n = 0 then none else stepK out a (out.getD (n - 1) 0)).bind _
    split
    · rfl
    · exact ih b _
theorem startsL_append : ∀ (a b : List (List Int)) (out : List Nat), startsL out (a ++ b) = (startsL out a).bind fun s => startsL s b := by
  intro a
  induction a with
  | nil => intro b out; rfl
  | cons ks a ih =>
    intro b out
    rw [List.cons_append]
    cases h : stepK out ks.reverse out.length with
    | none => rw [startsL_no h, startsL_no h]; rfl
    | some m => rw [startsL_go h, startsL_go h]; exact ih b _
theorem getD_app {s u : List Nat} {j : Nat} (h : j < s.length) : (s ++ u).getD j 0 = s.getD j 0 := by
  rw [List.getD_eq_getElem?_getD, List.getD_eq_getElem?_getD, List.getElem?_append_left h]
theorem adds_starts : ∀ (l : List Tree), (∀ t ∈ l, ∀ (acc : List Node) (s : List Nat), starts (acc.map Node.kids) = some s → ∃ u, starts ((t.addTo acc).map Node.kids) = some (s ++ u) ∧ (s ++ u).getD ((t.addTo acc).length - 1) 0 = acc.length) →
    ∀ (acc : List Node) (ks : List Int) (s : List Nat), starts (acc.map Node.kids) = some s → ∃ (u : List Nat) (ks' : List Int), starts ((Tree.addsTo l acc ks).1.map Node.kids) = some (s ++ u) ∧ (Tree.addsTo l acc ks).2 = ks ++ ks' ∧ stepK (s ++ u) ks'.reverse (Tree.addsTo l acc ks).1.length = some acc.length := by
  intro l
  induction l with
  | nil => intro _ acc ks s hs; exact ⟨[], [], by simpa [Tree.addsTo] using hs, by simp [Tree.addsTo], by simp [Tree.addsTo, stepK]⟩
  | cons t l ih =>
    intro h acc ks s hs
    obtain ⟨u, h1, h2⟩ := h t (by simp) acc s hs
    obtain ⟨u2, ks2, h3, h4, h5⟩ := ih (fun v hv => h v (by simp [hv])) (t.addTo acc) (ks ++ [((t.addTo acc).length : Int) - 1]) (s ++ u) h1
    have hl := Tree.addTo_len _ t (Nat.lt_succ_self _) acc
    have hsl := (starts_len h1).2
    rw [List.length_map] at hsl
    refine ⟨u ++ u2, (((t.addTo acc).length : Int) - 1) :: ks2, ?_, ?_, ?_⟩
    · rw [Tree.addsTo, h3, List.append_assoc]
    · rw [Tree.addsTo, h4, List.append_assoc, List.singleton_append]
    · rw [Tree.addsTo, List.reverse_cons, stepK_append, ← List.append_assoc, h5]
      show stepK _ [_] _ = _
      rw [stepK, if_neg (by omega), stepK, getD_app (by omega), h2]
theorem addTo_startsN (n : Nat) : ∀ (t : Tree), SizeOf.sizeOf t < n → ∀ (acc : List Node) (s : List Nat), starts (acc.map Node.kids) = some s → ∃ u, starts ((t.addTo acc).map Node.kids) = some (s ++ u) ∧ (s ++ u).getD ((t.addTo acc).length - 1) 0 = acc.length := by
  induction n with
  | zero => intro t h; omega
  | succ n ih =>
    intro t h acc s hs
    obtain ⟨u, ks, h1, h2, h3⟩ := adds_starts t.kids (fun v hv => ih v (by have := Tree.kid_lt hv; omega)) acc [] s hs
    have hsl := (starts_len h1).2
    rw [List.length_map] at hsl
    refine ⟨u ++ [acc.length], ?_, ?_⟩
    · rw [t.addTo_eq, List.map_append]
      unfold starts at h1 ⊢
      rw [startsL_append, h1]
      show startsL (s ++ u) [(Tree.addsTo t.kids acc []).2] = _
      rw [h2, List.nil_append, startsL_go (a := acc.length) (by rw [hsl]; exact h3), ← List.append_assoc]
      rfl
    · rw [t.addTo_eq, ← List.append_assoc, List.length_append, List.length_singleton, ← hsl, Nat.add_sub_cancel]
      simp [List.getD_eq_getElem?_getD]
theorem tree_starts (t : Tree) : ∃ s, starts ((t.addTo []).map Node.kids) = some s ∧ s.getD ((t.addTo []).length - 1) 0 = 0 := by
  obtain ⟨u, h1, h2⟩ := addTo_startsN _ t (Nat.lt_succ_self _) [] [] rfl
  exact ⟨u, by simpa using h1, by simpa using h2⟩
theorem shapeOk_tree (t : Tree) : shapeOk ((t.addTo []).map Node.kids) = decide ((t.addTo []).length ≤ 400) := by
  obtain ⟨s, h1, h2⟩ := tree_starts t
  have hl := Tree.addTo_len _ t (Nat.lt_succ_self _) []
  unfold shapeOk startsLast
  rw [h1]
  simp only [List.length_map, h2, List.length_nil] at *
  simp
  omega
/-- What stands ahead stays. -/
theorem addTo_prefix (t : Tree) (acc : List Node) : acc <+: t.addTo acc := by
  rw [Tree.addTo_shift t acc]
  exact List.prefix_append _ _
theorem addsTo_prefix : ∀ (l : List Tree) (acc : List Node) (ks : List Int), acc <+: (Tree.addsTo l acc ks).1 := by
  intro l
  induction l with
  | nil => intro acc ks; exact List.prefix_refl _
  | cons t l ih => intro acc ks; rw [Tree.addsTo]; exact (addTo_prefix t acc).trans (ih _ _)
theorem prefix_get {a b : List Node} (h : a <+: b) {i : Nat} {x : Node} (hx : a[i]? = some x) : b[i]? = some x := by
  obtain ⟨r, rfl⟩ := h
  rw [List.getElem?_append_left (List.getElem?_eq_some_iff.1 hx).1]
  exact hx
theorem adds_back {L : List Node} : ∀ (l : List Tree), (∀ t ∈ l, ∀ acc : List Node, t.addTo acc <+: L → treeIx L ((t.addTo acc).length - 1) = t) →
    ∀ (acc : List Node) (ks : List Int), (Tree.addsTo l acc ks).1 <+: L → ∃ ks', (Tree.addsTo l acc ks).2 = ks ++ ks' ∧ (ks'.map fun k => treeIx L k.toNat) = l := by
  intro l
  induction l with
  | nil => intro _ acc ks _; exact ⟨[], by simp [Tree.addsTo], rfl⟩
  | cons t l ih =>
    intro h acc ks hp
    rw [Tree.addsTo] at hp
    obtain ⟨ks', h1, h2⟩ := ih (fun v hv => h v (by simp [hv])) _ _ hp
    have h3 := h t (by simp) acc ((addsTo_prefix l _ _).trans hp)
    have hl := Tree.addTo_len _ t (Nat.lt_succ_self _) acc
    refine ⟨(((t.addTo acc).length : Int) - 1) :: ks', ?_, ?_⟩
    · rw [Tree.addsTo, h1, List.append_assoc, List.singleton_append]
    · rw [List.map_cons, h2, show ((((t.addTo acc).length : Int) - 1)).toNat = (t.addTo acc).length - 1 by omega, h3]
theorem addTo_backN {L : List Node} (ha : Ahead L) (n : Nat) : ∀ (t : Tree), SizeOf.sizeOf t < n → ∀ (acc : List Node), t.addTo acc <+: L → treeIx L ((t.addTo acc).length - 1) = t := by
  induction n with
  | zero => intro t h; omega
  | succ n ih =>
    intro t h acc hp
    have hx : (t.addTo acc)[(t.addTo acc).length - 1]? = some ⟨t.kind, t.op, t.text, t.other, (Tree.addsTo t.kids acc []).2⟩ := by
      rw [t.addTo_eq, List.length_append, List.length_singleton, Nat.add_sub_cancel, List.getElem?_append_right (Nat.le_refl _)]
      simp
    have hp2 : (Tree.addsTo t.kids acc []).1 <+: L := List.IsPrefix.trans (by rw [t.addTo_eq]; exact List.prefix_append _ _) hp
    obtain ⟨ks', h1, h2⟩ := adds_back (L := L) t.kids (fun v hv => ih v (by have := Tree.kid_lt hv; omega)) acc [] hp2
    rw [treeIx_eq ha (prefix_get hp hx), h1, List.nil_append, h2]
    exact t.mk_eta.symm
theorem root_back (t : Tree) : rootTree (t.addTo []) = t := by
  obtain ⟨s, h1, _⟩ := tree_starts t
  exact addTo_backN (ahead_of h1) _ t (Nat.lt_succ_self _) [] (List.prefix_refl _)
/-- The nodes of a valid tree are those of its tree. -/
theorem part_last {l : List Node} (h : shapeOk (l.map Node.kids) = true) : part l ((l.length - 1 : Nat) : Int) = l := by
  obtain ⟨h1, h2, s, hs⟩ := shapeOk_yes h
  have h0 : s.getD (l.length - 1) 0 = 0 := by
    unfold shapeOk startsLast at h
    rw [hs] at h
    simp only [List.length_map, Bool.and_eq_true, beq_iff_eq] at h
    exact h.2
  unfold part
  rw [if_pos ⟨h, by omega, by omega⟩, hs]
  simp only [Int.toNat_natCast, h0]
  have e : seg l 0 (l.length - 1 + 1) = l := by unfold seg; rw [show l.length - 1 + 1 - 0 = l.length by omega]; simp
  rw [e, show (-((0 : Nat) : Int)) = 0 from rfl]
  conv => rhs; rw [← List.map_id l]
  exact List.map_congr_left fun x _ => Node.shift_zero x
theorem tree_of {l : List Node} (h : shapeOk (l.map Node.kids) = true) : (rootTree l).addTo [] = l := by
  obtain ⟨h1, _⟩ := shapeOk_yes h
  have := part_add (l := l) (i := l.length - 1) h (by omega)
  rw [part_last h] at this
  exact this.symm
theorem depthOf_tree (t : Tree) (h : (t.addTo []).length ≤ 400) : depthOf (t.addTo []) = t.depth := by
  unfold depthOf
  rw [shapeOk_tree, if_pos (by simpa using h), root_back]
/-! The parts of a valid tree. -/
/-- Each node but the last is a kid of one behind it. -/
theorem parent_of {l : List Node} {s : List Nat} (hs : starts (l.map Node.kids) = some s) (i : Nat) : ∀ (j : Nat), j < l.length → s.getD j 0 ≤ i → i < j → ∃ (p : Nat) (x : Node), l[p]? = some x ∧ p ≤ j ∧ (i : Int) ∈ x.kids := by
  intro j
  induction j using Nat.strongRecOn with
  | _ j ih =>
    intro hj h1 h2
    obtain ⟨x, hx⟩ := get_of_lt hj
    have ht := starts_tiles hs hx
    have key : ∀ (ks : List Int) (b : Nat), Tiles s ks b j → b ≤ i → (∃ k ∈ ks, k = (i : Int)) ∨ ∃ k : Nat, k < j ∧ s.getD k 0 ≤ i ∧ i < k := by
      intro ks
      induction ks with
      | nil => intro b hb hi; have hb : b = j := hb; omega
      | cons k ks ihk =>
        intro b hb hi
        obtain ⟨q, rfl, h3, h4, h5⟩ := hb
        rcases Nat.lt_trichotomy i q with h6 | h6 | h6
        · exact .inr ⟨q, h4, by omega, h6⟩
        · exact .inl ⟨(q : Int), by simp, by rw [h6]⟩
        · rcases ihk (q + 1) h5 (by omega) with ⟨k, hk, e⟩ | h7
          · exact .inl ⟨k, by simp [hk], e⟩
          · exact .inr h7
    rcases key _ _ ht h1 with ⟨k, hk, rfl⟩ | ⟨k, hk, h3, h4⟩
    · exact ⟨j, x, hx, Nat.le_refl _, hk⟩
    · obtain ⟨p, y, hy, hp, hm⟩ := ih k hk (by omega) h3 h4
      exact ⟨p, y, hy, by omega, hm⟩
theorem parent_at {l : List Node} (h : shapeOk (l.map Node.kids) = true) {i : Nat} (hi : i < l.length - 1) : ∃ (p : Nat) (x : Node), l[p]? = some x ∧ (i : Int) ∈ x.kids := by
  obtain ⟨h1, h2, s, hs⟩ := shapeOk_yes h
  have h0 : s.getD (l.length - 1) 0 = 0 := by
    unfold shapeOk startsLast at h
    rw [hs] at h
    simp only [List.length_map, Bool.and_eq_true, beq_iff_eq] at h
    exact h.2
  obtain ⟨p, x, hx, _, hm⟩ := parent_of hs i (l.length - 1) (by omega) (by omega) hi
  exact ⟨p, x, hx, hm⟩
theorem depth_kid {l : List Node} (h : Ahead l) {p i : Nat} {x : Node} (hx : l[p]? = some x) (hm : (i : Int) ∈ x.kids) : (treeIx l i).depth < (treeIx l p).depth := by
  rw [treeIx_eq h hx, Tree.depth]
  have := Tree.depth_mem (t := treeIx l i) (l := x.kids.map fun k => treeIx l k.toNat) (List.mem_map.2 ⟨(i : Int), hm, by simp⟩)
  omega
theorem depth_root {l : List Node} (h : shapeOk (l.map Node.kids) = true) : ∀ (d i : Nat), i + d = l.length - 1 → (treeIx l i).depth ≤ (rootTree l).depth := by
  have ha := shapeOk_ahead h
  intro d
  induction d using Nat.strongRecOn with
  | _ d ih =>
    intro i hd
    by_cases h0 : d = 0
    · obtain rfl : i = l.length - 1 := by omega
      exact Nat.le_refl _
    · obtain ⟨p, x, hx, hm⟩ := parent_at h (i := i) (by omega)
      have h1 := depth_kid ha hx hm
      have h2 := ha p x hx _ hm
      have h3 := (List.getElem?_eq_some_iff.1 hx).1
      have := ih (l.length - 1 - p) (by omega) p (by omega)
      omega
theorem depthOf_part {l : List Node} (h : shapeOk (l.map Node.kids) = true) {i : Nat} (hi : i < l.length) (hl : (part l (i : Int)).length ≤ 400) : depthOf (part l (i : Int)) = (treeIx l i).depth := by
  rw [part_add h hi] at hl ⊢
  exact depthOf_tree _ hl
/-- Where the part of a node begins. -/
def startAt (l : List Node) (i : Int) : Int := if inPartB l i = true then (match starts (l.map Node.kids) with | none => 0 | some s => (s.getD i.toNat 0 : Nat)) else -1
where inPartB (l : List Node) (i : Int) : Bool := shapeOk (l.map Node.kids) && decide (0 ≤ i ∧ i < l.length)
theorem part_count {l : List Node} (h : shapeOk (l.map Node.kids) = true) {i : Nat} (hi : i < l.length) : 0 ≤ startAt l (i : Int) ∧ startAt l (i : Int) ≤ (i : Int) ∧ ((part l (i : Int)).length : Int) = (i : Int) - startAt l (i : Int) + 1 := by
  obtain ⟨h1, h2, s, hs⟩ := shapeOk_yes h
  have hle := (starts_len hs).1.getD i
  have e : startAt l (i : Int) = (s.getD i 0 : Nat) := by
    unfold startAt
    rw [if_pos (by unfold startAt.inPartB; rw [h]; simp; omega), hs]
    simp
  rw [e]
  refine ⟨by omega, by omega, ?_⟩
  unfold part
  rw [if_pos ⟨h, by omega, by omega⟩, hs]
  simp only [Int.toNat_natCast, List.length_map]
  rw [seg_len (by omega)]
  omega
end Go.Proofs.Ytgmciglaapnahaa
/- Walks and lemmas of this seat (FShp): what each theorem says of the functions that it names. Conditions: those that each theorem states. -/
namespace Go.Proofs.Ytgmciglaapnahaa
set_option linter.unusedVariables false
set_option linter.unusedSimpArgs false
open Go.RowKit

/-! What FnShapes asks of nodes. -/
theorem inPart_B (l : List Node) (i : Int) : startAt.inPartB l i = inPart l i := rfl
set_option maxRecDepth 100000 in
set_option maxHeartbeats 1600000 in
theorem implStartOf_exact (l0 : List Node) (v0 : Value) (a1 : Int) (w : World) (hx0 : ∀ x ∈ l0, x.Ok) (hn0 : bulk Node.sizes l0 ≤ 1048576) (hv0 : NodeSlc w v0 l0) (ha1 : I64 a1) :
    Calls Try.prog 8 #[v0, .int .i64 a1] w fun e w' => e = .returned (.int .i64 (startAt l0 a1)) ∧ Below w.heap.size w w' := by
  have hcall := implstartsOf_any l0 v0 w hx0 hn0 hv0
  have hlen := Nat.le_trans (length_bulk Node.sizes l0) hn0
  obtain ⟨a, cap, rfl, hm, hc, hsl⟩ := hv0.shape
  unfold I64 at ha1
  have hval : Hid (shapeOk (l0.map Node.kids) = (decide (1 ≤ (l0.map Node.kids).length ∧ (l0.map Node.kids).length ≤ 400) && startsLast (l0.map Node.kids))) := hid rfl
  go_enter Try.func8, Try.ntmps8
  go_wp2_with fail
  refine hcall.mono ?_; rintro e w2 ⟨hb2, v', rfl, hown⟩
  clear hcall
  rw [← hval.out] at *
  by_cases hok : shapeOk (l0.map Node.kids) = true
  · obtain ⟨h1, h2, s, hs⟩ := shapeOk_yes hok
    have hl := (starts_len hs)
    rw [List.length_map] at hl
    have ho := hown s hs (by rw [List.length_map]; exact h1) (by rw [List.length_map]; exact h2)
    have hw := fun W => implwithin_dec a1 0 ((l0.length : Int) - 1) W
    by_cases hin : 0 ≤ a1 ∧ a1 ≤ (l0.length : Int) - 1
    · obtain ⟨i, rfl⟩ : ∃ i : Nat, a1 = (i : Int) := ⟨a1.toNat, by omega⟩
      obtain ⟨g, cp, rfl, hcp⟩ := own_slice' ho (by omega)
      have r0 := own_read ho (nat1_at (show i < s.length by omega))
      have hd : decide ((0 : Int) ≤ (i : Int) ∧ (i : Int) ≤ (l0.length : Int) - 1) = true := by simp; omega
      rw [hd] at hw
      have hi1 : i < s.length := by omega
      have hP : Hid (startAt l0 (i : Int) = (s.getD i 0 : Nat)) := hid (by
        unfold startAt startAt.inPartB
        rw [hok, if_pos (by simp; omega), hs]
        simp)
      generalize s.getD i 0 = val at r0 hP
      have hw2 := hid hw
      rw [hok]
      clear hown hd hin hw ho hs hl hval hok
      go_wp2_with (go_at_call 23; refine (hw2.out _).mono ?_; rintro e w' ⟨rfl, rfl⟩)
      go_ret
      exact ⟨ret_int hP.out.symm, hb2⟩
    · have hd : decide ((0 : Int) ≤ a1 ∧ a1 ≤ (l0.length : Int) - 1) = false := by simp; omega
      rw [hd] at hw
      have hP : Hid (startAt l0 a1 = -1) := hid (by unfold startAt startAt.inPartB; rw [if_neg (by simp; omega)])
      have hw2 := hid hw
      rw [hok]
      clear hown hd hin hw ho hs hl hval hok
      go_wp2_with (go_at_call 23; refine (hw2.out _).mono ?_; rintro e w' ⟨rfl, rfl⟩)
      go_ret
      exact ⟨ret_int hP.out.symm, hb2⟩
  · have hok : shapeOk (l0.map Node.kids) = false := by simpa using hok
    have hP : Hid (startAt l0 a1 = -1) := hid (by unfold startAt startAt.inPartB; rw [hok]; simp)
    rw [hok]
    clear hown hval hok
    go_wp2
    go_ret
    exact ⟨ret_int hP.out.symm, hb2⟩

/-! Is a number among others? -/
def firstI (x : Int) : List Int → Nat → Int
  | [], _ => -1
  | y :: l, k => if x = y then (k : Int) else firstI x l (k + 1)
def hasI (l : List Int) (x : Int) : Bool := l.any fun y => decide (x = y)
theorem firstI_has (x : Int) : ∀ (l : List Int) (k : Nat), decide (0 ≤ firstI x l k) = hasI l x := by
  intro l
  induction l with
  | nil => intro k; rfl
  | cons y l ih =>
    intro k
    rw [firstI, hasI, List.any_cons]
    by_cases h : x = y
    · simp [h]
    · rw [if_neg h, ih]; simp [h, hasI]
theorem hasI_iff (l : List Int) (x : Int) : hasI l x = true ↔ x ∈ l := by
  unfold hasI
  rw [List.any_eq_true]
  constructor
  · rintro ⟨y, hy, e⟩; simp at e; rw [e]; exact hy
  · intro h; exact ⟨x, h, by simp⟩
set_option maxRecDepth 100000 in
theorem indexI (l0 : List Int) (v0 : Value) (x : Int) (w : World) (hv0 : Slc w v0 1 l0.length (l0.flatMap int1)) :
    Calls Try.prog 39 #[v0, .int .i64 x] w fun e w' => e = .returned (.int .i64 (firstI x l0 0)) ∧ Below w.heap.size w w' := by
  obtain ⟨_, a, cap, rfl, hcap, hm, hrow⟩ := hv0
  unfold maxLen at hm
  go_enter Try.func39, Try.ntmps39
  go_wp2
  go_loopw [8] (fun i wr => ∃ (k : Nat), i = .int .i64 k ∧ k ≤ l0.length ∧ Below w.heap.size w wr ∧ Hid (firstI x l0 0 = firstI x (l0.drop k) k)) (fun i _ => l0.length - (intOf i).toNat)
  case atStart => exact ⟨0, rfl, by omega, by repeat (first | exact Below.refl _ _ | refine Below.alloc ?_ (by first | omega | (simp; done) | (simp; omega)) _ | refine Below.drew ?_), hid rfl⟩
  obtain ⟨k, rfl, hk, hb, hrel⟩ := hrel
  by_cases hlt : k < l0.length
  · obtain ⟨y, hy⟩ := get_of_lt hlt
    obtain ⟨b, off, rfl, hro⟩ := slc_some hrow (by omega)
    have c0 := (hro.mono hb (Nat.le_refl _)).one int1_len hy rfl
    rw [drop_cons hy, firstI] at hrel
    by_cases he : x = y
    · rw [if_pos he] at hrel
      subst he
      clear hy hro hrow
      go_wp2
      go_ret
      exact ⟨ret_int hrel.out.symm, hb⟩
    · rw [if_neg he] at hrel
      have hne : (x == y) = false := by simpa using he
      clear hy hro hrow he
      go_wp2
      go_roundw
      case rel => exact ⟨k + 1, by go_num, by omega, hb, hrel⟩
      case measure => simp [intOf]; omega
  · have hR : Hid (firstI x l0 0 = -1) := hid (by rw [hrel.out, List.drop_of_length_le (by omega), firstI])
    clear hrel
    go_wp2
    go_ret
    exact ⟨ret_int hR.out.symm, hb⟩
theorem containsI (l0 : List Int) (v0 : Value) (x : Int) (w : World) (hv0 : Slc w v0 1 l0.length (l0.flatMap int1)) :
    Calls Try.prog 30 #[v0, .int .i64 x] w fun e w' => e = .returned (.bool (hasI l0 x)) ∧ Below w.heap.size w w' := by
  have hcall := indexI l0 v0 x w hv0
  have hA := firstI_has x l0 0
  generalize firstI x l0 0 = ix at hcall hA
  generalize hasI l0 x = an at hA
  obtain ⟨_, a, cap, rfl, _⟩ := hv0
  go_enter Try.func30, Try.ntmps30
  go_wp2_with fail
  refine hcall.mono ?_; rintro e w2 ⟨rfl, hb2⟩
  subst hA
  go_wp2
  go_ret
  exact ⟨ret_bool rfl, hb2⟩
set_option maxRecDepth 100000 in
theorem lawshas_any (l0 : List Int) (v0 : Value) (x : Int) (w : World) (hv0 : Slc w v0 1 l0.length (l0.flatMap int1)) (hx : x ∈ l0) :
    Calls Try.prog 15 #[v0, .int .i64 x] w fun e w' => e = .returned (.bool true) ∧ Below w.heap.size w w' := by
  have hh := (hasI_iff l0 x).2 hx
  have hR0 : Hid (firstI x l0 0 = firstI x (l0.drop 0) 0) := hid rfl
  have hR1 : Hid (decide (0 ≤ firstI x l0 0) = true) := hid (by rw [firstI_has, hh])
  clear hh hx
  obtain ⟨_, a, cap, rfl, hcap, hm, hrow⟩ := hv0
  unfold maxLen at hm
  go_enter Try.func15, Try.ntmps15
  go_wp2
  go_loopw [5] (fun i wr => ∃ (k : Nat), i = .int .i64 k ∧ k ≤ l0.length ∧ Below w.heap.size w wr ∧ Hid (firstI x l0 0 = firstI x (l0.drop k) k)) (fun i _ => l0.length - (intOf i).toNat)
  case atStart => exact ⟨0, rfl, by omega, by repeat (first | exact Below.refl _ _ | refine Below.alloc ?_ (by first | omega | (simp; done) | (simp; omega)) _ | refine Below.drew ?_), hR0⟩
  obtain ⟨k, rfl, hk, hb, hrel⟩ := hrel
  by_cases hlt : k < l0.length
  · obtain ⟨y, hy⟩ := get_of_lt hlt
    obtain ⟨b, off, rfl, hro⟩ := slc_some hrow (by omega)
    have c0 := (hro.mono hb (Nat.le_refl _)).one int1_len hy rfl
    rw [drop_cons hy, firstI] at hrel
    by_cases he : x = y
    · subst he
      clear hy hro hrow hrel
      go_wp2
      go_ret
      exact ⟨rfl, hb⟩
    · rw [if_neg he] at hrel
      have hne : (y == x) = false := by simp; exact fun e => he e.symm
      clear hy hro hrow he
      go_wp2
      go_roundw
      case rel => exact ⟨k + 1, by go_num, by omega, hb, hrel⟩
      case measure => simp [intOf]; omega
  · exfalso
    have h1 := hR1.out
    rw [hrel.out, List.drop_of_length_le (by omega), firstI] at h1
    simp at h1
/-! The parent of a node. -/
def isParent (i : Int) (x : Node) : Bool := hasI x.kids i
def firstN (p : Node → Bool) : List Node → Nat → Int
  | [], _ => -1
  | x :: l, k => if p x = true then (k : Int) else firstN p l (k + 1)
set_option maxRecDepth 100000 in
theorem parentClosure (o : Node) (i : Int) (kv : Value) (pb : Nat) (w : World) (hp : w.cell? ⟨pb, 0, none⟩ = some (.int .i64 i)) (hkv : Slc w kv 1 o.kids.length (o.kids.flatMap int1)) :
    Calls Try.prog 29 #[.agg #[.int .i64 o.kind, .int .i64 o.op, .string o.text, .string o.other, kv], .pointer (some ⟨pb, 0, none⟩)] w fun e w' => e = .returned (.bool (isParent i o)) ∧ Below w.heap.size w w' := by
  have hcall := hid fun W (hb : Below w.heap.size w W) => containsI o.kids kv i W (hkv.mono hb (Nat.le_refl _))
  have hp2 : ∀ ob, (w.alloc ob).cell? ⟨pb, 0, none⟩ = some (.int .i64 i) := fun ob => (((Below.refl _ _).alloc (Nat.le_refl _) ob).cell (p := ⟨pb, 0, none⟩) (World.block_lt_of_cell? w _ hp)).trans hp
  obtain ⟨_, a, c, rfl, _⟩ := hkv
  go_enter Try.func29, Try.ntmps29
  go_wp2_with (go_at_call 30; refine (hcall.out _ (by repeat (first | exact Below.refl _ _ | refine Below.alloc ?_ (by first | omega | (simp; done) | (simp; omega)) _ | refine Below.drew ?_))).mono ?_; rintro e w2 ⟨rfl, hb2⟩)
  go_ret
  exact ⟨rfl, (Below.alloc (Below.refl _ _) (Nat.le_refl _) _).trans (hb2.mono (by simp))⟩
set_option maxRecDepth 100000 in
set_option maxHeartbeats 1600000 in
theorem indexFuncP (l0 : List Node) (v0 : Value) (ix : Int) (pb : Nat) (w : World) (hn0 : bulk Node.sizes l0 ≤ 1048576) (hv0 : NodeSlc w v0 l0) (hp : w.cell? ⟨pb, 0, none⟩ = some (.int .i64 ix)) :
    Calls Try.prog 28 #[v0, .func (.func 29) #[] #[.pointer (some ⟨pb, 0, none⟩)]] w fun e w' => e = .returned (.int .i64 (firstN (isParent ix) l0 0)) ∧ Below w.heap.size w w' := by
  obtain ⟨a, cap, rfl, hm, hc, hsl⟩ := hv0.shape
  have hn := length_bulk Node.sizes l0
  have hpl := World.block_lt_of_cell? w _ hp
  go_enter Try.func28, Try.ntmps28
  go_wp2
  go_loopw [8] (fun i wr => ∃ (k : Nat), i = .int .i64 k ∧ k ≤ l0.length ∧ Below w.heap.size w wr ∧ Hid (firstN (isParent ix) l0 0 = firstN (isParent ix) (l0.drop k) k)) (fun i _ => l0.length - (intOf i).toNat)
  case atStart => exact ⟨0, rfl, by omega, by repeat (first | exact Below.refl _ _ | refine Below.alloc ?_ (by first | omega | (simp; done) | (simp; omega)) _ | refine Below.drew ?_), hid rfl⟩
  obtain ⟨k, rfl, hk, hb, hrel⟩ := hrel
  have hbs := hb.size
  by_cases hlt : k < l0.length
  · obtain ⟨x, ka, kc, b, off, hx, rfl, c0, c1, c2, c3, c4, hkd⟩ := hsl.at hb (Nat.le_refl _) hlt
    rw [drop_cons hx, firstN] at hrel
    have hpr := (hb.cell (p := ⟨pb, 0, none⟩) hpl).trans hp
    have hcall := hid (parentClosure x ix (.slice ka x.kids.length kc) pb wr hpr hkd)
    clear hpr hx hkd
    by_cases hd : isParent ix x = true
    · rw [if_pos hd] at hrel
      rw [hd] at hcall
      clear hd
      go_wp2_with (go_at_call 29; refine hcall.out.mono ?_; rintro e w2 ⟨rfl, hb2⟩)
      go_ret
      exact ⟨ret_int hrel.out.symm, hb.trans (hb2.mono hbs)⟩
    · rw [if_neg hd] at hrel
      have hd : isParent ix x = false := by simpa using hd
      rw [hd] at hcall
      clear hd
      go_wp2_with (go_at_call 29; refine hcall.out.mono ?_; rintro e w2 ⟨rfl, hb2⟩)
      go_roundw
      case rel => exact ⟨k + 1, by go_num, by omega, hb.trans (hb2.mono hbs), hrel⟩
      case measure => simp [intOf]; omega
  · have hR : Hid (firstN (isParent ix) l0 0 = -1) := hid (by rw [hrel.out, List.drop_of_length_le (by omega), firstN])
    clear hrel
    go_wp2
    go_ret
    exact ⟨ret_int hR.out.symm, hb⟩
def parentOf (l : List Node) (i : Int) : Int := if shapeOk (l.map Node.kids) = true then firstN (isParent i) l 0 else -1
set_option maxRecDepth 100000 in
set_option maxHeartbeats 1600000 in
theorem implParentOf_any (l0 : List Node) (v0 : Value) (a1 : Int) (w : World) (hx0 : ∀ x ∈ l0, x.Ok) (hn0 : bulk Node.sizes l0 ≤ 1048576) (hv0 : NodeSlc w v0 l0) :
    Calls Try.prog 13 #[v0, .int .i64 a1] w fun e w' => e = .returned (.int .i64 (parentOf l0 a1)) ∧ Below w.heap.size w w' := by
  have hsh := hid fun W (hb : Below w.heap.size w W) => implShapeOk_any l0 v0 W hx0 hn0 (hv0.mono hb (Nat.le_refl _))
  have hix := hid fun pb W (hb : Below w.heap.size w W) => indexFuncP l0 v0 a1 pb W hn0 (hv0.mono hb (Nat.le_refl _))
  have hpar : Hid (parentOf l0 a1 = if shapeOk (l0.map Node.kids) = true then firstN (isParent a1) l0 0 else -1) := hid rfl
  obtain ⟨a, cap, rfl, hm, hc, hsl⟩ := hv0.shape
  generalize shapeOk (l0.map Node.kids) = ok at *
  generalize parentOf l0 a1 = pa at *
  go_enter Try.func13, Try.ntmps13
  have hbx := heap_alloc_new w (.cells #[.int .i64 a1] 3)
  have hc0 : (w.alloc (.cells #[.int .i64 a1] 3)).cell? ⟨w.heap.size, 0, none⟩ = some (.int .i64 a1) := box_cell hbx rfl
  have hb1 : Below w.heap.size w (w.alloc (.cells #[.int .i64 a1] 3)) := (Below.refl _ _).alloc (Nat.le_refl _) _
  cases ok with
  | true =>
    rw [if_pos rfl] at hpar
    go_wp2_with fail
    refine (hsh.out _ hb1).mono ?_; rintro e w2 ⟨rfl, hb2⟩
    have hc2 := hid ((hb2.cell (p := ⟨w.heap.size, 0, none⟩) (World.block_lt_of_cell? _ _ hc0)).trans hc0)
    have hb2' := hid (hb1.trans (hb2.mono hb1.size))
    clear hb2
    go_wp2_with fail
    refine (hix.out _ _ hb2'.out hc2.out).mono ?_; rintro e w3 ⟨rfl, hb3⟩
    rw [← hpar.out]
    go_wp2
    go_ret
    exact ⟨rfl, hb2'.out.trans (hb3.mono hb2'.out.size)⟩
  | false =>
    rw [if_neg (by simp)] at hpar
    go_wp2_with fail
    refine (hsh.out _ hb1).mono ?_; rintro e w2 ⟨rfl, hb2⟩
    go_wp2
    go_ret
    exact ⟨ret_int hpar.out.symm, hb1.trans (hb2.mono hb1.size)⟩
end Go.Proofs.Ytgmciglaapnahaa
/- Walks and lemmas of this seat (PShapes): what each theorem says of the functions that it names. Conditions: those that each theorem states. -/
namespace Go.Proofs.Ytgmciglaapnahaa
set_option linter.unusedVariables false
set_option linter.unusedSimpArgs false
open Go.RowKit

/-! The plain law of FnShapes. -/
theorem firstN_spec (p : Node → Bool) : ∀ (l : List Node) (k : Nat), (firstN p l k = -1 ∧ ∀ x ∈ l, p x = false) ∨ ∃ (j : Nat) (x : Node), firstN p l k = ((k + j : Nat) : Int) ∧ l[j]? = some x ∧ p x = true := by
  intro l
  induction l with
  | nil => intro k; exact .inl ⟨rfl, by simp⟩
  | cons x l ih =>
    intro k
    rw [firstN]
    by_cases h : p x = true
    · rw [if_pos h]; exact .inr ⟨0, x, rfl, rfl, h⟩
    · rw [if_neg h]
      rcases ih (k + 1) with ⟨h1, h2⟩ | ⟨j, y, h1, h2, h3⟩
      · refine .inl ⟨h1, fun z hz => ?_⟩
        rcases List.mem_cons.1 hz with rfl | hz
        · simpa using h
        · exact h2 z hz
      · exact .inr ⟨j + 1, y, by rw [h1]; congr 1; omega, by simpa using h2, h3⟩
theorem part_le400 {l : List Node} (h : shapeOk (l.map Node.kids) = true) {i : Nat} (hi : i < l.length) : (part l (i : Int)).length ≤ 400 := by
  have := part_count h hi
  obtain ⟨_, h400, _⟩ := shapeOk_yes h
  omega
theorem part_shape {l : List Node} (h : shapeOk (l.map Node.kids) = true) {i : Nat} (hi : i < l.length) : shapeOk ((part l (i : Int)).map Node.kids) = true := by
  have h1 := part_le400 h hi
  rw [part_add h hi] at h1 ⊢
  rw [shapeOk_tree]
  simpa using h1
theorem part_depth {l : List Node} (h : shapeOk (l.map Node.kids) = true) {i : Nat} (hi : i < l.length) : depthOf (part l (i : Int)) ≤ depthOf l := by
  rw [depthOf_part h hi (part_le400 h hi)]
  unfold depthOf
  rw [if_pos h]
  exact depth_root h (l.length - 1 - i) i (by omega)
theorem parent_last {l : List Node} (h : shapeOk (l.map Node.kids) = true) {i : Nat} (hi : i = l.length - 1) : parentOf l (i : Int) = -1 ∧ part l (i : Int) = l := by
  refine ⟨?_, by rw [hi]; exact part_last h⟩
  have ha := shapeOk_ahead h
  unfold parentOf
  rw [if_pos h]
  rcases firstN_spec (isParent (i : Int)) l 0 with ⟨h1, _⟩ | ⟨j, x, h1, h2, h3⟩
  · exact h1
  · exfalso
    have h4 := ha j x h2 _ ((hasI_iff _ _).1 h3)
    have h5 := (List.getElem?_eq_some_iff.1 h2).1
    omega
theorem parent_found {l : List Node} (h : shapeOk (l.map Node.kids) = true) {i : Nat} (hi : i < l.length - 1) : ∃ (p : Nat) (x : Node), parentOf l (i : Int) = (p : Int) ∧ i < p ∧ p < l.length ∧ l[p]? = some x ∧ (i : Int) ∈ x.kids ∧ depthOf (part l (i : Int)) < depthOf (part l (p : Int)) := by
  have ha := shapeOk_ahead h
  obtain ⟨p0, x0, hx0, hm0⟩ := parent_at h hi
  unfold parentOf
  rw [if_pos h]
  rcases firstN_spec (isParent (i : Int)) l 0 with ⟨_, h2⟩ | ⟨j, x, h1, h2, h3⟩
  · have := h2 x0 (List.mem_of_getElem? hx0)
    rw [show isParent (i : Int) x0 = true from (hasI_iff _ _).2 hm0] at this
    cases this
  · rw [Nat.zero_add] at h1
    have hm := (hasI_iff _ _).1 h3
    have h4 := ha j x h2 _ hm
    have h5 := (List.getElem?_eq_some_iff.1 h2).1
    refine ⟨j, x, h1, by omega, h5, h2, hm, ?_⟩
    rw [depthOf_part h (by omega) (part_le400 h (by omega)), depthOf_part h h5 (part_le400 h h5)]
    exact depth_kid ha h2 hm
theorem startAt_no {l : List Node} {i : Int} (h : inPart l i = false) : startAt l i = -1 := by
  unfold startAt
  rw [inPart_B, h]
  rfl
end Go.Proofs.Ytgmciglaapnahaa
