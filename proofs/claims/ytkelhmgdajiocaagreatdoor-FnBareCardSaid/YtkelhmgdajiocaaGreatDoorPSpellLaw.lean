/- Walks and lemmas of this seat (PSpellLaw): what each theorem says of the functions that it names. Conditions: those that each theorem states. -/
import Derived.Test.YtkelhmgdajiocaaGreatDoorGSP
import Derived.Test.YtkelhmgdajiocaaGreatDoorFTok1
namespace Go.Proofs.YtkelhmgdajiocaaGreatDoor
set_option linter.unusedVariables false
set_option linter.unusedSimpArgs false
open Go.RowKit

/-! What the written form of an expression is like: its operands, its brackets, its first token. -/
mutual
/-- The tokens with texts of their own. -/
def Tree.yield : Tree → List Token
  | .mk k _ a _ l => (if k = 5 then [⟨6, a, 0⟩] else if k = 7 then [⟨7, a, 0⟩] else if k = 8 then [⟨8, a, 0⟩] else []) ++ (Tree.yieldL l ++ ((if k = 13 then [⟨6, a, 0⟩] else []) ++ (if (leafTok k a).kind = 0 then [] else [leafTok k a])))
def Tree.yieldL : List Tree → List Token
  | [] => []
  | t :: l => t.yield ++ Tree.yieldL l
end
def yieldNode (k : Int) (a : ByteArray) (ys : List Token) : List Token := (if k = 5 then [⟨6, a, 0⟩] else if k = 7 then [⟨7, a, 0⟩] else if k = 8 then [⟨8, a, 0⟩] else []) ++ (ys ++ ((if k = 13 then [⟨6, a, 0⟩] else []) ++ (if (leafTok k a).kind = 0 then [] else [leafTok k a])))
theorem Tree.yield_eq (t : Tree) : t.yield = yieldNode t.kind t.text (Tree.yieldL t.kids) := by cases t; rw [Tree.yield]; rfl
def isOpd (x : Token) : Bool := leafB x.kind
theorem opd_sgn {o : Int} (h : o < 3 ∨ 8 < o) : isOpd (sgn o) = false := by
  unfold isOpd leafB inB sgn
  simp
  omega
theorem opd_word {k : Int} (a : ByteArray) (h : 3 ≤ k ∧ k ≤ 8) : isOpd ⟨k, a, 0⟩ = true := by
  unfold isOpd leafB inB
  simp
  omega
theorem commas_opd (l : List (List Token)) : (commas l).filter isOpd = (l.map (List.filter isOpd)).flatten := by
  have h1 : ∀ l : List (List Token), (l.flatMap fun y => sgn 36 :: y).filter isOpd = (l.map (List.filter isOpd)).flatten := by
    intro l
    induction l with
    | nil => rfl
    | cons y l ih =>
      rw [List.flatMap_cons, List.filter_append, ih, List.filter_cons, opd_sgn (by omega)]
      simp
  cases l with
  | nil => rfl
  | cons x l => simp only [commas, List.filter_append, h1, List.map_cons, List.flatten_cons]
theorem inPar_opd (l : List Token) : (inPar l).filter isOpd = l.filter isOpd := by
  unfold inPar
  rw [List.filter_cons, opd_sgn (by omega), List.filter_append, List.filter_cons, opd_sgn (by omega)]
  simp
theorem nodeToks_opd {k o : Int} {a : ByteArray} {ks : List (List Token)} (ha : arity k ks.length) (ho : opsOk k o) : (nodeToks k o a ks).filter isOpd = yieldNode k a (ks.map (List.filter isOpd)).flatten := by
  obtain ⟨h0, h1, h2, h3, h4, h5, h6⟩ := ha
  obtain ⟨o1, o2, o3, o4, o5⟩ := ho
  have hb : 1 ≤ k ∧ k ≤ 15 := by unfold isExprB inB at h0; simp at h0; omega
  have hc : ∀ o', o' < 3 ∨ 8 < o' → ∀ l : List Token, (sgn o' :: l).filter isOpd = l.filter isOpd := fun o' h l => by rw [List.filter_cons, opd_sgn h]; rfl
  have hw : ∀ k' : Int, 3 ≤ k' ∧ k' ≤ 8 → ∀ (b : ByteArray) (l : List Token), ((⟨k', b, 0⟩ : Token) :: l).filter isOpd = ⟨k', b, 0⟩ :: l.filter isOpd := fun k' h b l => by rw [List.filter_cons, opd_word b h]; rfl
  have ho12 : k = 12 → o < 3 ∨ 8 < o := fun e => by
    have := o3 e
    unfold opLevelB at this
    by_cases hlt : o < 3 ∨ 8 < o
    · exact hlt
    · exfalso; apply this
      rw [if_neg (by omega), if_neg (by omega), if_neg (by omega), if_neg (by omega), if_neg (by omega), if_neg (by omega), if_neg (by omega), if_neg (by omega)]
  have hk : k = 1 ∨ k = 2 ∨ k = 3 ∨ k = 4 ∨ k = 5 ∨ k = 6 ∨ k = 7 ∨ k = 8 ∨ k = 9 ∨ k = 10 ∨ k = 11 ∨ k = 12 ∨ k = 13 ∨ k = 14 ∨ k = 15 := by omega
  have g0 : ks.length = 0 → ks = [] := fun e => List.eq_nil_of_length_eq_zero e
  have g1 : ks.length = 1 → ∃ x, ks = [x] := fun e => List.length_eq_one_iff.1 e
  have g2 : ks.length = 2 → ∃ x y, ks = [x, y] := fun e => by
    rcases ks with _ | ⟨x, _ | ⟨y, _ | ⟨z, l⟩⟩⟩ <;> simp at e
    exact ⟨x, y, rfl⟩
  have g3 : ks.length = 3 → ∃ x y z, ks = [x, y, z] := fun e => by
    rcases ks with _ | ⟨x, _ | ⟨y, _ | ⟨z, _ | ⟨u, l⟩⟩⟩⟩ <;> simp at e
    exact ⟨x, y, z, rfl⟩
  rcases hk with rfl | rfl | rfl | rfl | rfl | rfl | rfl | rfl | rfl | rfl | rfl | rfl | rfl | rfl | rfl
  · rw [g0 (h1 (by omega))]; rfl
  · rw [g0 (h1 (by omega))]; rfl
  · rw [g0 (h1 (by omega))]; rfl
  · rw [g0 (h1 (by omega))]; rfl
  · unfold nodeToks yieldNode
    rw [if_neg (by omega), if_pos rfl, hw 6 (by omega), hc 34 (by omega), List.filter_append, commas_opd, hc 35 (by omega)]
    simp [leafTok]
  · obtain ⟨x, rfl⟩ := g1 (h4 (by omega))
    unfold nodeToks yieldNode
    rw [if_neg (by omega), if_neg (by omega), if_neg (by omega), if_neg (by omega), if_neg (by omega), if_pos rfl, hc 68 (by omega)]
    simp [leafTok]
  · unfold nodeToks yieldNode
    rw [if_neg (by omega), if_neg (by omega), if_pos rfl, hw 7 (by omega), hc 32 (by omega), List.filter_append, commas_opd, hc 33 (by omega)]
    simp [leafTok]
  · unfold nodeToks yieldNode
    rw [if_neg (by omega), if_neg (by omega), if_neg (by omega), if_pos rfl, hw 8 (by omega), hc 32 (by omega), List.filter_append, commas_opd, hc 33 (by omega)]
    simp [leafTok]
  · obtain ⟨x, rfl⟩ := g1 (h4 (by omega))
    unfold nodeToks yieldNode
    rw [if_neg (by omega), if_neg (by omega), if_neg (by omega), if_neg (by omega), if_pos (by omega), hc o (by have := o1 (by omega); omega)]
    simp [leafTok]
  · obtain ⟨x, rfl⟩ := g1 (h4 (by omega))
    unfold nodeToks yieldNode
    rw [if_neg (by omega), if_neg (by omega), if_neg (by omega), if_neg (by omega), if_neg (by omega), if_neg (by omega), if_pos rfl, List.filter_append, hc o (by have := o1 (by omega); omega)]
    simp [leafTok]
  · obtain ⟨x, rfl⟩ := g1 (h4 (by omega))
    unfold nodeToks yieldNode
    rw [if_neg (by omega), if_neg (by omega), if_neg (by omega), if_neg (by omega), if_pos (by omega), hc o (by have := o2 (by omega); omega)]
    simp [leafTok]
  · obtain ⟨x, y, rfl⟩ := g2 (h5 (by omega))
    unfold nodeToks yieldNode
    rw [if_neg (by omega), if_neg (by omega), if_neg (by omega), if_neg (by omega), if_neg (by omega), if_neg (by omega), if_neg (by omega), if_neg (by omega), if_neg (by omega), List.filter_append, List.filter_append]
    have : (if o = 99 then ([] : List Token) else [sgn o]).filter isOpd = [] := by
      split
      · rfl
      · rw [hc o (ho12 rfl)]; rfl
    rw [this]
    simp [leafTok]
  · unfold nodeToks yieldNode
    rw [if_neg (by omega), if_neg (by omega), if_neg (by omega), if_neg (by omega), if_neg (by omega), if_neg (by omega), if_neg (by omega), if_pos rfl, List.filter_append, hc 24 (by omega), hw 6 (by omega)]
    have h2' := h2 (by omega)
    by_cases hn : 1 < ks.length
    · rw [if_pos hn, hc 32 (by omega), List.filter_append, commas_opd, hc 33 (by omega)]
      simp [leafTok]
    · obtain ⟨x, rfl⟩ := g1 (by omega)
      simp [leafTok]
  · obtain ⟨x, y, z, rfl⟩ := g3 (h6 rfl)
    unfold nodeToks yieldNode
    rw [if_neg (by omega), if_neg (by omega), if_neg (by omega), if_neg (by omega), if_neg (by omega), if_neg (by omega), if_neg (by omega), if_neg (by omega), if_pos rfl, List.filter_append, hc 65 (by omega), List.filter_append, hc 66 (by omega)]
    simp [leafTok]
  · obtain ⟨x, y, rfl⟩ := g2 (h5 (by omega))
    unfold nodeToks yieldNode
    rw [if_neg (by omega), if_neg (by omega), if_neg (by omega), if_neg (by omega), if_neg (by omega), if_neg (by omega), if_neg (by omega), if_neg (by omega), if_neg (by omega), List.filter_append, List.filter_append]
    have : (if o = 99 then ([] : List Token) else [sgn o]).filter isOpd = [] := by
      split
      · rfl
      · rw [hc o (by have := o4 rfl; omega)]; rfl
    rw [this]
    simp [leafTok]
theorem Tree.tkb_yieldN (full : Bool) (n : Nat) : ∀ (t : Tree), SizeOf.sizeOf t < n → t.Ex → ∀ p, (t.tkb full p).filter isOpd = t.yield := by
  induction n with
  | zero => intro t h; omega
  | succ n ih =>
    intro t h he p
    obtain ⟨ha, hops, _, hks⟩ := (t.ex_eq).1 he
    have hl := t.kidTks_len full p
    rw [t.tkb_eq, t.yield_eq, nodeToks_opd (by rw [hl]; exact ha) hops]
    congr 1
    have hk : ∀ (l : List Tree) (j : Nat), (∀ u ∈ l, u ∈ t.kids) → ((Tree.tkL full t.kind t.op t.kids.length p j l).map (List.filter isOpd)).flatten = Tree.yieldL l := by
      intro l
      induction l with
      | nil => intro j _; rw [Tree.tkL, Tree.yieldL]; rfl
      | cons u l ihl =>
        intro j hu
        have hm := hu u (by simp)
        have h2 := fun q => ih u (by have := Tree.kid_lt hm; omega) (hks u hm) q
        rw [Tree.tkL_cons, Tree.yieldL, List.map_cons, List.flatten_cons, ihl (j + 1) fun v hv => hu v (by simp [hv])]
        congr 1
        unfold kidTk Tree.tks
        split
        · exact h2 _
        · split
          · rw [inPar_opd]; exact h2 _
          · exact h2 _
    exact hk t.kids 0 fun u hu => hu
theorem Tree.tkb_yield (full : Bool) {t : Tree} (he : t.Ex) (p : Pos) : (t.tkb full p).filter isOpd = t.yield := Tree.tkb_yieldN full _ t (Nat.lt_succ_self _) he p
theorem Tree.tks_yield (full : Bool) {t : Tree} (he : t.Ex) (p : Pos) : (t.tks full p).filter isOpd = t.yield := by
  unfold Tree.tks
  split
  · rw [inPar_opd]; exact Tree.tkb_yield full he _
  · exact Tree.tkb_yield full he _
theorem operands_filter (l : List Token) : operands l = (l.filter isOpd).length := by
  induction l with
  | nil => rfl
  | cons x l ih =>
    rw [operands, List.filter_cons, ih]
    unfold isOpd
    cases leafB x.kind <;> simp

/-! Brackets. -/
def Bal (kind : Int) (l : List Token) : Prop := ∀ (d : Int) (rest : List Token), 1 ≤ d → bare kind (l ++ rest) d = bare kind rest d
def Non (kind : Int) (l : List Token) : Prop := ∀ (rest : List Token), bare kind (l ++ rest) 0 = bare kind rest 0
theorem Bal.nil (kind : Int) : Bal kind [] := fun _ _ _ => rfl
theorem Non.nil (kind : Int) : Non kind [] := fun _ => rfl
theorem Bal.app {kind : Int} {a b : List Token} (ha : Bal kind a) (hb : Bal kind b) : Bal kind (a ++ b) := fun d rest h => by rw [List.append_assoc, ha d _ h, hb d _ h]
theorem Non.app {kind : Int} {a b : List Token} (ha : Non kind a) (hb : Non kind b) : Non kind (a ++ b) := fun rest => by rw [List.append_assoc, ha, hb]
theorem Bal.one {kind : Int} {x : Token} (h1 : openB x.kind = false) (h2 : shutB x.kind = false) : Bal kind [x] := fun d rest h => by
  show bare kind (x :: rest) d = _
  rw [bare, h1, h2]
  have : (d - 0 == 0) = false := by simp; omega
  simp [this]
  intro h3 h4
  omega
theorem Non.one {kind : Int} {x : Token} (h1 : openB x.kind = false) (h2 : shutB x.kind = false) (h : x.kind ≠ kind) : Non kind [x] := fun rest => by
  show bare kind (x :: rest) 0 = _
  rw [bare, h1, h2]
  simp [h]
theorem closed_any {kind o s : Int} {l : List Token} (ho : o = 32 ∧ s = 33 ∨ o = 34 ∧ s = 35) (hk : kind = 24 ∨ kind = 62) (hl : Bal kind l) : ∀ (d : Int) (rest : List Token), 0 ≤ d → bare kind ((sgn o :: (l ++ [sgn s])) ++ rest) d = bare kind rest d := fun d rest hd => by
  have e : (sgn o :: (l ++ [sgn s])) ++ rest = sgn o :: (l ++ (sgn s :: rest)) := by simp
  have h1 : openB o = true ∧ shutB o = false ∧ openB s = false ∧ shutB s = true := by rcases ho with ⟨rfl, rfl⟩ | ⟨rfl, rfl⟩ <;> decide
  have h2 : (o == kind) = false ∧ (s == kind) = false := by rcases ho with ⟨rfl, rfl⟩ | ⟨rfl, rfl⟩ <;> rcases hk with rfl | rfl <;> decide
  rw [e, bare]
  show (if ((o == kind) && ((d - if shutB o then 1 else 0) == 0)) = true then true else bare kind (l ++ sgn s :: rest) ((d - if shutB o then 1 else 0) + if openB o then 1 else 0)) = _
  rw [h1.1, h1.2.1, h2.1]
  simp only [Bool.false_and, Bool.false_eq_true, if_false, if_true]
  rw [hl _ _ (by omega), bare]
  show (if ((s == kind) && _) = true then true else bare kind rest ((d - 0 + 1 - if shutB s then 1 else 0) + if openB s then 1 else 0)) = _
  rw [h1.2.2.1, h1.2.2.2, h2.2]
  simp only [Bool.false_and, Bool.false_eq_true, if_false, if_true]
  congr 1
  omega
theorem closed_bal {kind o s : Int} {l : List Token} (ho : o = 32 ∧ s = 33 ∨ o = 34 ∧ s = 35) (hk : kind = 24 ∨ kind = 62) (hl : Bal kind l) : Bal kind (sgn o :: (l ++ [sgn s])) := fun d rest h => closed_any ho hk hl d rest (by omega)
theorem closed_non {kind o s : Int} {l : List Token} (ho : o = 32 ∧ s = 33 ∨ o = 34 ∧ s = 35) (hk : kind = 24 ∨ kind = 62) (hl : Bal kind l) : Non kind (sgn o :: (l ++ [sgn s])) := fun rest => closed_any ho hk hl 0 rest (by omega)
theorem commas_bal {kind : Int} {l : List (List Token)} (h : ∀ x ∈ l, Bal kind x) : Bal kind (commas l) := by
  have h36 : Bal kind [sgn 36] := .one (by decide) (by decide)
  have h1 : ∀ l : List (List Token), (∀ x ∈ l, Bal kind x) → Bal kind (l.flatMap fun y => sgn 36 :: y) := by
    intro l
    induction l with
    | nil => intro _; exact .nil _
    | cons y l ih =>
      intro h
      rw [List.flatMap_cons]
      exact (h36.app (h y (by simp))).app (ih fun x hx => h x (by simp [hx]))
  cases l with
  | nil => exact .nil _
  | cons x l => exact (h x (by simp)).app (h1 l fun y hy => h y (by simp [hy]))
theorem getD_bal {kind : Int} {l : List (List Token)} (h : ∀ x ∈ l, Bal kind x) (i : Nat) : Bal kind (l.getD i []) := by
  rw [List.getD_eq_getElem?_getD]
  cases hx : l[i]? with
  | none => exact .nil _
  | some x => exact h x (List.mem_of_getElem? hx)
theorem getD_non {kind : Int} {l : List (List Token)} (h : ∀ x ∈ l, Non kind x) (i : Nat) : Non kind (l.getD i []) := by
  rw [List.getD_eq_getElem?_getD]
  cases hx : l[i]? with
  | none => exact .nil _
  | some x => exact h x (List.mem_of_getElem? hx)
/-- Operators are no brackets. -/
theorem opsOk_far {k o : Int} (hb : k = 9 ∨ k = 10 ∨ k = 11 ∨ k = 12 ∨ k = 15) (ho : opsOk k o) : openB o = false ∧ shutB o = false ∧ o ≠ 24 ∧ (k ≠ 12 → o ≠ 62) := by
  obtain ⟨o1, o2, o3, o4, o5⟩ := ho
  have h : (38 ≤ o ∧ o ≠ 62) ∨ (k = 12 ∧ 38 ≤ o) := by
    by_cases e : k = 12
    · right
      refine ⟨e, ?_⟩
      have := o3 e
      unfold opLevelB at this
      by_cases hlt : 38 ≤ o
      · exact hlt
      · exfalso; apply this
        rw [if_neg (by omega), if_neg (by omega), if_neg (by omega), if_neg (by omega), if_neg (by omega), if_neg (by omega), if_neg (by omega), if_neg (by omega)]
    · left
      rcases hb with e' | e' | e' | e' | e'
      · have := o1 (.inl e'); omega
      · have := o1 (.inr e'); omega
      · have := o2 e'; omega
      · omega
      · have := o4 e'; omega
  refine ⟨?_, ?_, ?_, ?_⟩
  · unfold openB; simp; omega
  · unfold shutB; simp; omega
  · omega
  · omega
theorem node_bal {kind k o : Int} {a : ByteArray} {ks : List (List Token)} (hk : kind = 24 ∨ kind = 62) (hx : isExprB k = true) (ho : opsOk k o) (h : ∀ x ∈ ks, Bal kind x) : Bal kind (nodeToks k o a ks) := by
  have hb : 1 ≤ k ∧ k ≤ 15 := by unfold isExprB inB at hx; simp at hx; omega
  have hc := commas_bal h
  have hg := getD_bal h
  have hs : (k = 9 ∨ k = 10 ∨ k = 11 ∨ k = 12 ∨ k = 15) → Bal kind [sgn o] := fun e => by
    obtain ⟨h1, h2, _⟩ := opsOk_far e ho
    exact .one h1 h2
  have hw : ∀ (k' : Int), openB k' = false → shutB k' = false → ∀ b : ByteArray, Bal kind [⟨k', b, 0⟩] := fun k' h1 h2 b => .one h1 h2
  have hS : ∀ (k' : Int), openB k' = false → shutB k' = false → Bal kind [sgn k'] := fun k' h1 h2 => .one h1 h2
  unfold nodeToks
  by_cases e1 : k = 1 ∨ k = 2 ∨ k = 3 ∨ k = 4
  · rw [if_pos e1]
    rcases e1 with rfl | rfl | rfl | rfl
    · exact hw 6 (by decide) (by decide) a
    · exact hw 3 (by decide) (by decide) a
    · exact hw 4 (by decide) (by decide) a
    · exact hw 5 (by decide) (by decide) a
  rw [if_neg e1]
  by_cases e5 : k = 5
  · rw [if_pos e5]; exact (hw 6 (by decide) (by decide) a).app (closed_bal (.inr ⟨rfl, rfl⟩) hk hc)
  rw [if_neg e5]
  by_cases e7 : k = 7
  · rw [if_pos e7]; exact (hw 7 (by decide) (by decide) a).app (closed_bal (.inl ⟨rfl, rfl⟩) hk hc)
  rw [if_neg e7]
  by_cases e8 : k = 8
  · rw [if_pos e8]; exact (hw 8 (by decide) (by decide) a).app (closed_bal (.inl ⟨rfl, rfl⟩) hk hc)
  rw [if_neg e8]
  by_cases e9 : k = 9 ∨ k = 11
  · rw [if_pos e9]; exact (hs (by omega)).app (hg 0)
  rw [if_neg e9]
  by_cases e6 : k = 6
  · rw [if_pos e6]; exact (hS 68 (by decide) (by decide)).app (hg 0)
  rw [if_neg e6]
  by_cases e10 : k = 10
  · rw [if_pos e10]; exact (hg 0).app (hs (by omega))
  rw [if_neg e10]
  by_cases e13 : k = 13
  · rw [if_pos e13]
    refine Bal.app ?_ ((hS 24 (by decide) (by decide)).app (hw 6 (by decide) (by decide) a))
    split
    · exact closed_bal (.inl ⟨rfl, rfl⟩) hk hc
    · exact hg 0
  rw [if_neg e13]
  by_cases e14 : k = 14
  · rw [if_pos e14]
    exact (hg 0).app ((hS 65 (by decide) (by decide)).app ((hg 1).app ((hS 66 (by decide) (by decide)).app (hg 2))))
  rw [if_neg e14]
  refine (hg 0).app (Bal.app ?_ (hg 1))
  split
  · exact .nil _
  · exact hs (by omega)
theorem inPar_bal {kind : Int} (hk : kind = 24 ∨ kind = 62) {l : List Token} (h : Bal kind l) : Bal kind (inPar l) := closed_bal (.inl ⟨rfl, rfl⟩) hk h
theorem inPar_non {kind : Int} (hk : kind = 24 ∨ kind = 62) {l : List Token} (h : Bal kind l) : Non kind (inPar l) := closed_non (.inl ⟨rfl, rfl⟩) hk h
theorem kids_all {P : List Token → Prop} {full : Bool} {t : Tree} {p : Pos} (h : ∀ i u, t.kids[i]? = some u → P (kidTk full t.kind t.op t.kids.length p i u)) : ∀ x ∈ t.kidTks full p, P x := fun x hx => by
  obtain ⟨i, hi⟩ := List.getElem?_of_mem hx
  unfold Tree.kidTks at hi
  rw [Tree.tkL_at, Nat.zero_add] at hi
  cases hu : t.kids[i]? with
  | none => rw [hu] at hi; cases hi
  | some u =>
    rw [hu] at hi
    have : kidTk full t.kind t.op t.kids.length p i u = x := Option.some.inj hi
    rw [← this]
    exact h i u hu
theorem Tree.balN {kind : Int} (hk : kind = 24 ∨ kind = 62) (full : Bool) (n : Nat) : ∀ (t : Tree), SizeOf.sizeOf t < n → t.Ex → ∀ p, Bal kind (t.tkb full p) := by
  induction n with
  | zero => intro t h; omega
  | succ n ih =>
    intro t h he p
    obtain ⟨ha, hops, _, hks⟩ := (t.ex_eq).1 he
    rw [t.tkb_eq]
    refine node_bal hk ha.1 hops (kids_all fun i u hu => ?_)
    have hm := List.mem_of_getElem? hu
    have h2 := fun q => ih u (by have := Tree.kid_lt hm; omega) (hks u hm) q
    unfold kidTk Tree.tks
    split
    · exact h2 _
    · split
      · exact inPar_bal hk (h2 _)
      · exact h2 _
theorem Tree.bal {kind : Int} (hk : kind = 24 ∨ kind = 62) (full : Bool) {t : Tree} (he : t.Ex) (p : Pos) : Bal kind (t.tkb full p) := Tree.balN hk full _ t (Nat.lt_succ_self _) he p
/-- May a node stand bare, for the kind of tokens in question? -/
def noneOf (kind : Int) (k o : Int) : Prop := (kind = 24 → k ≠ 13) ∧ (kind = 62 → ¬ (k = 12 ∧ o = 62))
def forbids (kind : Int) (p : Pos) : Prop := (kind = 24 → p.noIn = true) ∧ (kind = 62 → p.noGt = true)
theorem lv_none {kind k o : Int} (h : isLvalueB k = true) : noneOf kind k o := by
  unfold isLvalueB at h
  simp at h
  exact ⟨fun _ => by omega, fun _ => by omega⟩
theorem fits_none {kind k o : Int} {p : Pos} (hf : forbids kind p) (h : fitsB k o p = true) : noneOf kind k o := by
  unfold fitsB at h
  split at h
  · cases h
  split at h
  · cases h
  rename_i h13
  split at h
  · cases h
  rename_i h12
  refine ⟨fun e e2 => h13 ?_, fun e e2 => h12 ?_⟩
  · rw [hf.1 e, e2]; rfl
  · rw [hf.2 e, e2.1, e2.2]; rfl
theorem Tree.nonN {kind : Int} (hk : kind = 24 ∨ kind = 62) (n : Nat) : ∀ (t : Tree), SizeOf.sizeOf t < n → t.Ex → ∀ p, posOkB p = true → forbids kind p → noneOf kind t.kind t.op → Non kind (t.tkb false p) := by
  induction n with
  | zero => intro t h; omega
  | succ n ih =>
    intro t h he p hp hf hno
    obtain ⟨ha, hops, hlv, hks⟩ := (t.ex_eq).1 he
    have hl0 : levelB t.kind t.op ≠ 0 := levelB_pos ha.1 hops.2.2.1
    have hbal : ∀ x ∈ t.kidTks false p, Bal kind x := kids_all fun i u hu => by
      have hm := List.mem_of_getElem? hu
      unfold kidTk Tree.tks
      split
      · exact Tree.bal hk _ (hks u hm) _
      · split
        · exact inPar_bal hk (Tree.bal hk _ (hks u hm) _)
        · exact Tree.bal hk _ (hks u hm) _
    have hc := commas_bal hbal
    have hkid : ¬ (levelB t.kind t.op = 15 ∨ (t.kind = 13 ∧ 1 < t.kids.length)) → ∀ x ∈ t.kidTks false p, Non kind x := fun hd => kids_all fun i u hu => by
      have hm := List.mem_of_getElem? hu
      have hi := (List.getElem?_eq_some_iff.1 hu).1
      have hq := kidPos_ok (n := (t.kids.length : Int)) (j := (i : Int)) hp (by omega) hl0
      have hfq : forbids kind (kidPosB t.kind t.op t.kids.length i p) := by
        rw [kidPos_eq hp (by omega) hl0, if_neg (by omega)]
        exact hf
      have h2 := fun hn => ih u (by have := Tree.kid_lt hm; omega) (hks u hm) _ hq hfq hn
      unfold kidTk Tree.tks
      split
      · rename_i ht
        unfold isTargetB at ht
        simp at ht
        obtain rfl : i = 0 := by omega
        exact h2 (lv_none (hlv u (by rw [List.head?_eq_getElem?]; exact hu) ht.2))
      · split
        · exact inPar_non hk (Tree.bal hk _ (hks u hm) _)
        · rename_i hpar
          unfold parB at hpar
          exact h2 (fits_none hfq (by simpa using hpar))
    have hb : 1 ≤ t.kind ∧ t.kind ≤ 15 := by have := ha.1; unfold isExprB inB at this; simp at this; omega
    rw [t.tkb_eq]
    have hlen := t.kidTks_len false p
    generalize t.kidTks false p = ks at *
    generalize t.kind = k at *
    generalize t.op = o at *
    have hs : (k = 9 ∨ k = 10 ∨ k = 11 ∨ k = 12 ∨ k = 15) → Non kind [sgn o] := fun e => by
      obtain ⟨h1, h2, h3, h4⟩ := opsOk_far e hops
      refine .one h1 h2 ?_
      show o ≠ kind
      rcases hk with rfl | rfl
      · exact h3
      · intro e2
        by_cases e12 : k = 12
        · exact hno.2 rfl ⟨e12, e2⟩
        · exact h4 e12 e2
    have hw : ∀ (k' : Int), openB k' = false → shutB k' = false → k' ≠ 24 → k' ≠ 62 → ∀ b : ByteArray, Non kind [⟨k', b, 0⟩] := fun k' h1 h2 h3 h4 b => .one h1 h2 (by show k' ≠ kind; omega)
    have hS : ∀ (k' : Int), openB k' = false → shutB k' = false → k' ≠ kind → Non kind [sgn k'] := fun k' h1 h2 h3 => .one h1 h2 h3
    unfold nodeToks
    by_cases e1 : k = 1 ∨ k = 2 ∨ k = 3 ∨ k = 4
    · rw [if_pos e1]
      rcases e1 with rfl | rfl | rfl | rfl
      · exact hw 6 (by decide) (by decide) (by decide) (by decide) _
      · exact hw 3 (by decide) (by decide) (by decide) (by decide) _
      · exact hw 4 (by decide) (by decide) (by decide) (by decide) _
      · exact hw 5 (by decide) (by decide) (by decide) (by decide) _
    rw [if_neg e1]
    by_cases e5 : k = 5
    · rw [if_pos e5]; exact (hw 6 (by decide) (by decide) (by decide) (by decide) _).app (closed_non (.inr ⟨rfl, rfl⟩) hk hc)
    rw [if_neg e5]
    by_cases e7 : k = 7
    · rw [if_pos e7]; exact (hw 7 (by decide) (by decide) (by decide) (by decide) _).app (closed_non (.inl ⟨rfl, rfl⟩) hk hc)
    rw [if_neg e7]
    by_cases e8 : k = 8
    · rw [if_pos e8]; exact (hw 8 (by decide) (by decide) (by decide) (by decide) _).app (closed_non (.inl ⟨rfl, rfl⟩) hk hc)
    rw [if_neg e8]
    have hl15 : levelB k o ≠ 15 := by
      have ho := opLevelB_range o
      unfold levelB
      repeat' split
      all_goals omega
    by_cases e13 : k = 13
    · rw [if_neg (by omega), if_neg (by omega), if_neg (by omega), if_pos e13]
      have h24 : kind ≠ 24 := fun e => hno.1 e e13
      refine Non.app ?_ ((hS 24 (by decide) (by decide) (Ne.symm h24)).app (hw 6 (by decide) (by decide) (by decide) (by decide) _))
      split
      · exact closed_non (.inl ⟨rfl, rfl⟩) hk hc
      · exact getD_non (hkid (by omega)) 0
    have hg := getD_non (hkid (by omega))
    by_cases e9 : k = 9 ∨ k = 11
    · rw [if_pos e9]; exact (hs (by omega)).app (hg 0)
    rw [if_neg e9]
    by_cases e6 : k = 6
    · rw [if_pos e6]; exact (hS 68 (by decide) (by decide) (by omega)).app (hg 0)
    rw [if_neg e6]
    by_cases e10 : k = 10
    · rw [if_pos e10]; exact (hg 0).app (hs (by omega))
    rw [if_neg e10, if_neg e13]
    by_cases e14 : k = 14
    · rw [if_pos e14]
      exact (hg 0).app ((hS 65 (by decide) (by decide) (by omega)).app ((hg 1).app ((hS 66 (by decide) (by decide) (by omega)).app (hg 2))))
    rw [if_neg e14]
    refine (hg 0).app (Non.app ?_ (hg 1))
    split
    · exact .nil _
    · exact hs (by omega)
/-- What a position forbids stands only in brackets. -/
theorem treeTks_bare {kind : Int} (hk : kind = 24 ∨ kind = 62) {t : Tree} (he : t.Ex) {p : Pos} (hp : posOkB p = true) (hf : forbids kind p) : bare kind (t.tks false p) 0 = false := by
  have h : Non kind (t.tks false p) := by
    unfold Tree.tks
    split
    · exact inPar_non hk (Tree.bal hk _ he _)
    · rename_i hpar
      unfold parB at hpar
      exact Tree.nonN hk _ t (Nat.lt_succ_self _) he p hp hf (fits_none hf (by simpa using hpar))
  have := h []
  rw [List.append_nil] at this
  rw [this]; rfl

/-! The first token. -/
def beginsB (k : Int) : Bool := k == 3 || k == 4 || k == 6 || k == 7 || k == 8 || k == 32 || k == 68
def Begins (l : List Token) : Prop := ∃ x r, l = x :: r ∧ beginsB x.kind = true
theorem Begins.app {a b : List Token} (h : Begins a) : Begins (a ++ b) := by
  obtain ⟨x, r, rfl, h2⟩ := h
  exact ⟨x, r ++ b, rfl, h2⟩
theorem lv_begins {full : Bool} {t : Tree} {p : Pos} (h : isLvalueB t.kind = true) : Begins (t.tkb full p) := by
  rw [t.tkb_eq]
  unfold isLvalueB at h
  simp only [Bool.or_eq_true, beq_iff_eq] at h
  rcases h with (h | h) | h <;> rw [h]
  · exact ⟨_, _, rfl, rfl⟩
  · exact ⟨_, _, rfl, rfl⟩
  · exact ⟨_, _, rfl, rfl⟩
def noSignK (k : Int) : Prop := k ≠ 11 ∧ k ≠ 9 ∧ k ≠ 4
theorem fits_sign {k o : Int} {p : Pos} (hs : p.noSign = true) (h : fitsB k o p = true) : noSignK k := by
  unfold fitsB at h
  split at h
  · cases h
  split at h
  · cases h
  split at h
  · cases h
  split at h
  · cases h
  rename_i h4
  rw [hs] at h4
  simp at h4
  exact ⟨h4.1, h4.2.1, h4.2.2⟩
theorem getD_begins {l : List (List Token)} (hl : 0 < l.length) (h : ∀ x, l[0]? = some x → Begins x) : Begins (l.getD 0 []) := by
  cases l with
  | nil => simp at hl
  | cons x l => exact h x rfl
theorem Tree.beginsN (n : Nat) : ∀ (t : Tree), SizeOf.sizeOf t < n → t.Ex → ∀ p, posOkB p = true → p.noSign = true → noSignK t.kind → Begins (t.tkb false p) := by
  induction n with
  | zero => intro t h; omega
  | succ n ih =>
    intro t h he p hp hs hno
    obtain ⟨ha, hops, hlv, hks⟩ := (t.ex_eq).1 he
    have hl0 : levelB t.kind t.op ≠ 0 := levelB_pos ha.1 hops.2.2.1
    obtain ⟨ha0, ha1, ha2, ha3, ha4, ha5, ha6⟩ := ha
    have hb : 1 ≤ t.kind ∧ t.kind ≤ 15 := by unfold isExprB inB at ha0; simp at ha0; omega
    have hkid : (t.kind = 10 ∨ t.kind = 12 ∨ t.kind = 14 ∨ t.kind = 15 ∨ (t.kind = 13 ∧ ¬ 1 < t.kids.length)) → ∀ x, (t.kidTks false p)[0]? = some x → Begins x := fun hd x hx => by
      unfold Tree.kidTks at hx
      rw [Tree.tkL_at, Nat.zero_add] at hx
      cases hu : t.kids[0]? with
      | none => rw [hu] at hx; cases hx
      | some u =>
        rw [hu] at hx
        have hxe : kidTk false t.kind t.op t.kids.length p 0 u = x := Option.some.inj hx
        have hm := List.mem_of_getElem? hu
        have hi := (List.getElem?_eq_some_iff.1 hu).1
        rw [← hxe]
        by_cases hT : t.kind = 10 ∨ t.kind = 15
        · rw [target_eq he (by omega) hu hp]
          exact lv_begins (hlv u (by rw [List.head?_eq_getElem?]; exact hu) (by omega))
        · have hq := kidPos_ok (n := (t.kids.length : Int)) (j := ((0 : Nat) : Int)) hp (by omega) hl0
          have hni : isTargetB t.kind ((0 : Nat) : Int) = false := by unfold isTargetB; simp; omega
          have hl15 : ¬ (levelB t.kind t.op = 15 ∨ (t.kind = 13 ∧ 1 < (t.kids.length : Int))) := by
            have ho := opLevelB_range t.op
            intro hh
            rcases hh with hh | hh
            · unfold levelB at hh
              repeat' split at hh
              all_goals omega
            · omega
          have hsq : (kidPosB t.kind t.op t.kids.length ((0 : Nat) : Int) p).noSign = true := by
            rw [kidPos_eq hp (by omega) hl0, if_neg hl15]
            show kidSignB _ _ _ _ = true
            unfold kidSignB
            rw [if_neg (by omega), hs]
            rfl
          unfold kidTk Tree.tks
          rw [hni]
          simp only [Bool.false_eq_true, if_false]
          split
          · exact ⟨_, _, rfl, rfl⟩
          · rename_i hpar
            unfold parB at hpar
            exact ih u (by have := Tree.kid_lt hm; omega) (hks u hm) _ hq hsq (fits_sign hsq (by simpa using hpar))
    rw [t.tkb_eq]
    have hlen := t.kidTks_len false p
    generalize t.kidTks false p = ks at *
    generalize t.kind = k at *
    obtain ⟨n1, n2, n3⟩ := hno
    unfold nodeToks
    by_cases e1 : k = 1 ∨ k = 2 ∨ k = 3 ∨ k = 4
    · rw [if_pos e1]
      rcases e1 with rfl | rfl | rfl | rfl
      · exact ⟨_, _, rfl, rfl⟩
      · exact ⟨_, _, rfl, rfl⟩
      · exact ⟨_, _, rfl, rfl⟩
      · omega
    rw [if_neg e1]
    by_cases e5 : k = 5
    · rw [if_pos e5]; exact ⟨_, _, rfl, rfl⟩
    rw [if_neg e5]
    by_cases e7 : k = 7
    · rw [if_pos e7]; exact ⟨_, _, rfl, rfl⟩
    rw [if_neg e7]
    by_cases e8 : k = 8
    · rw [if_pos e8]; exact ⟨_, _, rfl, rfl⟩
    rw [if_neg e8, if_neg (by omega)]
    by_cases e6 : k = 6
    · rw [if_pos e6]; exact ⟨_, _, rfl, rfl⟩
    rw [if_neg e6]
    by_cases e10 : k = 10
    · rw [if_pos e10]; exact (getD_begins (by omega) (hkid (by omega))).app
    rw [if_neg e10]
    by_cases e13 : k = 13
    · rw [if_pos e13]
      by_cases hn : 1 < ks.length
      · rw [if_pos hn]; exact ⟨_, _, rfl, rfl⟩
      · rw [if_neg hn]; exact (getD_begins (by omega) (hkid (by omega))).app
    rw [if_neg e13]
    by_cases e14 : k = 14
    · rw [if_pos e14]; exact (getD_begins (by omega) (hkid (by omega))).app
    rw [if_neg e14]
    exact (getD_begins (by omega) (hkid (by omega))).app
/-- Where no sign may stand at the front, an operand does. -/
theorem Tree.tks_begins {t : Tree} (he : t.Ex) {p : Pos} (hp : posOkB p = true) (hs : p.noSign = true) : Begins (t.tks false p) := by
  unfold Tree.tks
  split
  · exact ⟨_, _, rfl, rfl⟩
  · rename_i hpar
    unfold parB at hpar
    exact Tree.beginsN _ t (Nat.lt_succ_self _) he p hp hs (fits_sign hs (by simpa using hpar))
theorem nodeToks_ne (k o : Int) (a : ByteArray) (ks : List (List Token)) (h : (k = 10 → ks.getD 0 [] ++ [sgn o] ≠ []) ∧ (k = 12 ∨ k = 15 → ks.getD 0 [] ≠ [])) (hk : 1 ≤ k ∧ k ≤ 15) : nodeToks k o a ks ≠ [] := by
  unfold nodeToks
  by_cases e : k = 12 ∨ k = 15
  · have := h.2 e
    rw [if_neg (by omega), if_neg (by omega), if_neg (by omega), if_neg (by omega), if_neg (by omega), if_neg (by omega), if_neg (by omega), if_neg (by omega), if_neg (by omega)]
    intro h2
    exact this (List.append_eq_nil_iff.1 h2).1
  · repeat' split
    all_goals first
      | simp; done
      | omega
theorem Tree.tkb_neN (full : Bool) (n : Nat) : ∀ (t : Tree), SizeOf.sizeOf t < n → t.Ex → ∀ p, t.tkb full p ≠ [] := by
  induction n with
  | zero => intro t h; omega
  | succ n ih =>
    intro t h he p
    obtain ⟨ha, hops, _, hks⟩ := (t.ex_eq).1 he
    have hb : 1 ≤ t.kind ∧ t.kind ≤ 15 := by have := ha.1; unfold isExprB inB at this; simp at this; omega
    rw [t.tkb_eq]
    refine nodeToks_ne _ _ _ _ ⟨fun _ => by simp, fun e => ?_⟩ hb
    have hn := ha.2.2.2.2.2.1 e
    obtain ⟨u, hu⟩ := get_of_lt (show 0 < t.kids.length by omega)
    have hm := List.mem_of_getElem? hu
    rw [List.getD_eq_getElem?_getD, t.kidTks_at full p hu]
    show kidTk _ _ _ _ _ _ _ ≠ []
    unfold kidTk Tree.tks inPar
    have h2 := fun q => ih u (by have := Tree.kid_lt hm; omega) (hks u hm) q
    split
    · exact h2 _
    · split
      · simp
      · exact h2 _
theorem Tree.tks_ne {full : Bool} {t : Tree} (he : t.Ex) (p : Pos) : t.tks full p ≠ [] := by
  unfold Tree.tks inPar
  split
  · simp
  · exact Tree.tkb_neN full _ t (Nat.lt_succ_self _) he p
end Go.Proofs.YtkelhmgdajiocaaGreatDoor
