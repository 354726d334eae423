/- Walks and lemmas of this seat (PSpell): what each theorem says of the functions that it names. Conditions: those that each theorem states. -/
import Derived.Test.YtkelhmgdajiocaaGreatDoorGTR
namespace Go.Proofs.YtkelhmgdajiocaaGreatDoor
set_option linter.unusedVariables false
set_option linter.unusedSimpArgs false
open Go.RowKit

/-! How an expression is written: positions, levels, tokens, spans. Plain. -/
def Pos.val (p : Pos) : Value := .agg #[.int .i64 p.level, .bool p.dollar, .bool p.noIn, .bool p.noGt, .bool p.noSign]
def posTop : Pos := ⟨1, false, false, false, false⟩
def posNone : Pos := ⟨0, false, false, false, false⟩
def posLv : Pos := ⟨14, false, false, false, false⟩
def posOkB (p : Pos) : Bool := inB p.level 1 15 && (!p.dollar || p.level == 14)
def levelB (k o : Int) : Int :=
  if k = 15 then 1 else if k = 14 then 2 else if k = 13 then 5 else if k = 12 then opLevelB o else if k = 11 then 11 else if k = 9 ∨ k = 10 then 13 else if k = 6 then 14
  else if k = 1 ∨ k = 2 ∨ k = 3 ∨ k = 4 ∨ k = 5 ∨ k = 7 ∨ k = 8 then 15 else 0
def fitsB (k o : Int) (p : Pos) : Bool :=
  if !posOkB p || levelB k o == 0 then false
  else if p.noIn && k == 13 then false
  else if p.noGt && (k == 12 && o == 62) then false
  else if p.noSign && (k == 11 || (k == 9 || k == 4)) then false
  else (p.dollar && k == 9) || decide (p.level ≤ levelB k o)
def sideA (o : Int) : Int :=
  if opLevelB o = 3 then 3 else if opLevelB o = 4 then 4 else if opLevelB o = 6 then 7 else if opLevelB o = 7 then 8 else if opLevelB o = 8 then 8 else if opLevelB o = 9 then 9 else if opLevelB o = 10 then 10 else 13
def sideB (o : Int) : Int :=
  if opLevelB o = 3 then 4 else if opLevelB o = 4 then 5 else if opLevelB o = 6 then 7 else if opLevelB o = 7 then 8 else if opLevelB o = 8 then 9 else if opLevelB o = 9 then 10 else if opLevelB o = 10 then 11 else 11
def kidLevB (k o j : Int) : Int :=
  if k = 15 then (if 0 < j then 1 else 14) else if k = 14 then (if 0 < j then 2 else 3) else if k = 13 then 5 else if k = 11 then 11 else if k = 12 then (if j = 0 then sideA o else sideB o) else 14
def kidSignB (k o j : Int) (p : Pos) : Bool :=
  if k = 11 ∨ k = 9 ∨ k = 10 ∨ k = 6 then false else (j == 0 && p.noSign) || (j == 1 && (k == 12 && o == 99))
def kidPosB (k o n j : Int) (p : Pos) : Pos :=
  if !posOkB p || !inB j 0 (n - 1) || levelB k o == 0 then posNone
  else if levelB k o = 15 ∨ (k = 13 ∧ 1 < n) then posTop
  else ⟨kidLevB k o j, k == 6, p.noIn, p.noGt, kidSignB k o j p⟩
def isTargetB (k j : Int) : Bool := j == 0 && (k == 9 || (k == 10 || k == 15))
/-- The text of all tokens of a kind. -/
def spellB (k : Int) : ByteArray :=
  if k = 1 then ⟨#[10]⟩ else if inB k 10 26 = true then kwTab.getD (k - 10).toNat ByteArray.empty else if inB k 30 68 = true then signTab.getD (k - 30).toNat ByteArray.empty else ByteArray.empty
def sgn (k : Int) : Token := ⟨k, spellB k, 0⟩
/-- Lists of tokens with commas between. -/
def commas : List (List Token) → List Token
  | [] => []
  | x :: l => x ++ l.flatMap fun y => sgn 36 :: y
theorem commas_snoc (l : List (List Token)) (x : List Token) : commas (l ++ [x]) = commas l ++ ((if 0 < l.length then [sgn 36] else []) ++ x) := by
  cases l with
  | nil => simp [commas]
  | cons y l => simp [commas]
theorem commas_take {ks : List (List Token)} {j : Nat} {x : List Token} (h : ks[j]? = some x) : commas (ks.take (j + 1)) = commas (ks.take j) ++ ((if 0 < j then [sgn 36] else []) ++ x) := by
  have hl := (List.getElem?_eq_some_iff.1 h).1
  rw [take_next h, commas_snoc, List.length_take, Nat.min_eq_left (by omega)]
/-- The token of a node without kids. -/
def leafTok (k : Int) (a : ByteArray) : Token :=
  if k = 1 then ⟨6, a, 0⟩ else if k = 2 then ⟨3, a, 0⟩ else if k = 3 then ⟨4, a, 0⟩ else if k = 4 then ⟨5, a, 0⟩ else ⟨0, ByteArray.empty, 0⟩
/-- The tokens of a node, the tokens of its kids given. -/
def nodeToks (k o : Int) (a : ByteArray) (ks : List (List Token)) : List Token :=
  if k = 1 ∨ k = 2 ∨ k = 3 ∨ k = 4 then [leafTok k a]
  else if k = 5 then ⟨6, a, 0⟩ :: sgn 34 :: (commas ks ++ [sgn 35])
  else if k = 7 then ⟨7, a, 0⟩ :: sgn 32 :: (commas ks ++ [sgn 33])
  else if k = 8 then ⟨8, a, 0⟩ :: sgn 32 :: (commas ks ++ [sgn 33])
  else if k = 9 ∨ k = 11 then sgn o :: ks.getD 0 []
  else if k = 6 then sgn 68 :: ks.getD 0 []
  else if k = 10 then ks.getD 0 [] ++ [sgn o]
  else if k = 13 then (if 1 < ks.length then sgn 32 :: (commas ks ++ [sgn 33]) else ks.getD 0 []) ++ [sgn 24, ⟨6, a, 0⟩]
  else if k = 14 then ks.getD 0 [] ++ (sgn 65 :: (ks.getD 1 [] ++ (sgn 66 :: ks.getD 2 [])))
  else ks.getD 0 [] ++ ((if o = 99 then [] else [sgn o]) ++ ks.getD 1 [])
/-- Is a node put into parentheses? -/
def parB (full : Bool) (k o : Int) (p : Pos) : Bool := if full then (levelB k o != 15 || k == 4) else !fitsB k o p
def inPar (l : List Token) : List Token := sgn 32 :: (l ++ [sgn 33])
mutual
/-- The tokens of an expression at a position, without parentheses. -/
def Tree.tkb (full : Bool) : Tree → Pos → List Token
  | .mk k o a _ l, p => nodeToks k o a (Tree.tkL full k o l.length p 0 l)
/-- The tokens of the kids, from number j on. -/
def Tree.tkL (full : Bool) (k o : Int) (n : Nat) (p : Pos) : Nat → List Tree → List (List Token)
  | _, [] => []
  | j, t :: l => (if isTargetB k j = true ∨ parB full t.kind t.op (kidPosB k o n j p) = false then t.tkb full (kidPosB k o n j p) else inPar (t.tkb full posTop)) :: Tree.tkL full k o n p (j + 1) l
end
/-- The tokens of an expression at a position. -/
def Tree.tks (full : Bool) (t : Tree) (p : Pos) : List Token := if parB full t.kind t.op p = true then inPar (t.tkb full posTop) else t.tkb full p
/-- The tokens of a kid. -/
def kidTk (full : Bool) (k o : Int) (n : Nat) (p : Pos) (j : Nat) (t : Tree) : List Token :=
  if isTargetB k j = true then t.tkb full (kidPosB k o n j p) else t.tks full (kidPosB k o n j p)
theorem kidTk_eq (full : Bool) (k o : Int) (n : Nat) (p : Pos) (j : Nat) (t : Tree) : (if isTargetB k j = true ∨ parB full t.kind t.op (kidPosB k o n j p) = false then t.tkb full (kidPosB k o n j p) else inPar (t.tkb full posTop)) = kidTk full k o n p j t := by
  unfold kidTk Tree.tks
  cases isTargetB k j <;> cases parB full t.kind t.op (kidPosB k o n j p) <;> simp
theorem Tree.tkL_cons (full : Bool) (k o : Int) (n : Nat) (p : Pos) (j : Nat) (t : Tree) (l : List Tree) : Tree.tkL full k o n p j (t :: l) = kidTk full k o n p j t :: Tree.tkL full k o n p (j + 1) l := by
  rw [Tree.tkL, kidTk_eq]
/-- The tokens of the kids of a tree. -/
def Tree.kidTks (full : Bool) (t : Tree) (p : Pos) : List (List Token) := Tree.tkL full t.kind t.op t.kids.length p 0 t.kids
theorem Tree.tkb_eq (full : Bool) (t : Tree) (p : Pos) : t.tkb full p = nodeToks t.kind t.op t.text (t.kidTks full p) := by
  cases t; rw [Tree.tkb]; rfl
theorem Tree.tkL_at (full : Bool) (k o : Int) (n : Nat) (p : Pos) : ∀ (l : List Tree) (j i : Nat), (Tree.tkL full k o n p j l)[i]? = l[i]?.map (kidTk full k o n p (j + i)) := by
  intro l
  induction l with
  | nil => intro j i; rw [Tree.tkL]; simp
  | cons t l ih =>
    intro j i
    rw [Tree.tkL_cons]
    cases i with
    | zero => rfl
    | succ i => rw [List.getElem?_cons_succ, ih, List.getElem?_cons_succ]; congr 2; omega
theorem Tree.tkL_len (full : Bool) (k o : Int) (n : Nat) (p : Pos) : ∀ (l : List Tree) (j : Nat), (Tree.tkL full k o n p j l).length = l.length := by
  intro l
  induction l with
  | nil => intro j; rw [Tree.tkL]; rfl
  | cons t l ih => intro j; rw [Tree.tkL_cons, List.length_cons, ih, List.length_cons]
theorem Tree.kidTks_len (full : Bool) (t : Tree) (p : Pos) : (t.kidTks full p).length = t.kids.length := Tree.tkL_len _ _ _ _ _ _ _
theorem Tree.kidTks_at (full : Bool) (t : Tree) (p : Pos) {i : Nat} {u : Tree} (h : t.kids[i]? = some u) : (t.kidTks full p)[i]? = some (kidTk full t.kind t.op t.kids.length p i u) := by
  unfold Tree.kidTks
  rw [Tree.tkL_at, h, Nat.zero_add]; rfl

/-! What an expression's nodes are like. -/
def arity (k : Int) (n : Nat) : Prop :=
  isExprB k = true ∧ ((k = 1 ∨ k = 2 ∨ k = 3 ∨ k = 4) → n = 0) ∧ ((k = 5 ∨ k = 13) → 1 ≤ n ∧ n ≤ 6) ∧ ((k = 7 ∨ k = 8) → n ≤ 6) ∧ ((k = 6 ∨ k = 9 ∨ k = 10 ∨ k = 11) → n = 1) ∧ ((k = 12 ∨ k = 15) → n = 2) ∧ (k = 14 → n = 3)
def opsOk (k o : Int) : Prop :=
  ((k = 9 ∨ k = 10) → o = 51 ∨ o = 52) ∧ (k = 11 → o = 55 ∨ o = 56 ∨ o = 61) ∧ (k = 12 → opLevelB o ≠ 0) ∧ (k = 15 → o = 54 ∨ (38 ≤ o ∧ o ≤ 43)) ∧ (k ≠ 9 ∧ k ≠ 10 ∧ k ≠ 11 ∧ k ≠ 12 ∧ k ≠ 15 → o = 0)
mutual
def Tree.Ex : Tree → Prop
  | .mk k o _ _ l => arity k l.length ∧ opsOk k o ∧ (∀ u ∈ l.head?, (k = 9 ∨ k = 10 ∨ k = 15) → isLvalueB u.kind = true) ∧ Tree.ExL l
def Tree.ExL : List Tree → Prop
  | [] => True
  | t :: l => t.Ex ∧ Tree.ExL l
end
theorem Tree.exL_mem {l : List Tree} : Tree.ExL l ↔ ∀ t ∈ l, t.Ex := by
  induction l with
  | nil => rw [Tree.ExL]; simp
  | cons t l ih => rw [Tree.ExL, ih]; simp
theorem Tree.ex_eq (t : Tree) : t.Ex ↔ arity t.kind t.kids.length ∧ opsOk t.kind t.op ∧ (∀ u ∈ t.kids.head?, (t.kind = 9 ∨ t.kind = 10 ∨ t.kind = 15) → isLvalueB u.kind = true) ∧ ∀ u ∈ t.kids, u.Ex := by
  cases t with
  | mk k o a b l => rw [Tree.Ex, Tree.exL_mem]; rfl
theorem kidsOkT_nth {k o : Int} {n : Nat} : ∀ (l : List Tree) (j i : Nat) (u : Tree), kidsOkT k o n j l = true → l[i]? = some u → kidOkB k o n ((j + i : Nat) : Int) u.kind = true := by
  intro l
  induction l with
  | nil => intro j i u _ h; simp at h
  | cons t l ih =>
    intro j i u h hu
    rw [kidsOkT, Bool.and_eq_true] at h
    cases i with
    | zero => simp at hu; subst hu; exact h.1
    | succ i =>
      have := ih (j + 1) i u h.2 (by simpa using hu)
      rw [show j + 1 + i = j + (i + 1) by omega] at this
      exact this
theorem Tree.ex_ofN (n : Nat) : ∀ (t : Tree), SizeOf.sizeOf t < n → t.okT = true → isExprB t.kind = true → t.Ex := by
  induction n with
  | zero => intro t h; omega
  | succ n ih =>
    intro t h ho hk
    obtain ⟨h1, h2, h3⟩ := Tree.okT_kids ho
    have hb : 1 ≤ t.kind ∧ t.kind ≤ 15 := by unfold isExprB inB at hk; simp at hk; omega
    unfold fieldsOk at h1
    simp only [Bool.and_eq_true] at h1
    obtain ⟨⟨⟨_, ho2⟩, _⟩, hn⟩ := h1
    unfold inB at hn
    simp only [Bool.and_eq_true, decide_eq_true_eq] at hn
    unfold least most at hn
    rw [t.ex_eq]
    obtain ⟨m, hm⟩ : ∃ m, m = t.kids.length := ⟨_, rfl⟩
    rw [← hm] at hn ⊢
    refine ⟨⟨hk, fun e => ?_, fun e => ?_, fun e => ?_, fun e => ?_, fun e => ?_, fun e => ?_⟩, ⟨fun e => ?_, fun e => ?_, fun e => ?_, fun e => ?_, fun e => ?_⟩, fun u hu e => ?_, fun u hu => ?_⟩
    · rcases e with e | e | e | e <;> rw [e] at hn <;> simp at hn <;> omega
    · rcases e with e | e <;> rw [e] at hn <;> simp at hn <;> omega
    · rcases e with e | e <;> rw [e] at hn <;> simp at hn <;> omega
    · rcases e with e | e | e | e <;> rw [e] at hn <;> simp at hn <;> omega
    · rcases e with e | e <;> rw [e] at hn <;> simp at hn <;> omega
    · rw [e] at hn; simp at hn; omega
    · unfold opOk isStepB at ho2
      rw [if_pos e] at ho2
      simpa using ho2
    · unfold opOk at ho2
      rw [if_neg (by omega), if_pos e] at ho2
      simpa [or_assoc] using ho2
    · unfold opOk at ho2
      rw [if_neg (by omega), if_neg (by omega), if_pos e] at ho2
      simpa using ho2
    · unfold opOk isAssignB inB at ho2
      rw [if_neg (by omega), if_neg (by omega), if_neg (by omega), if_pos e] at ho2
      simpa using ho2
    · unfold opOk at ho2
      rw [if_neg (by omega), if_neg (by omega), if_neg (by omega), if_neg (by omega), if_neg (by omega), if_neg (by omega), if_neg (by omega)] at ho2
      simpa using ho2
    · have hu0 : t.kids[0]? = some u := by rw [← List.head?_eq_getElem?]; exact hu
      have h4 := kidsOkT_nth _ 0 0 u h2 hu0
      unfold kidOkB at h4
      by_cases e2 : t.kind = 9 ∨ t.kind = 10
      · rw [if_pos e2] at h4; exact h4
      · rw [if_neg e2, if_pos (by omega)] at h4
        simpa using h4
    · obtain ⟨i, hi⟩ := List.getElem?_of_mem hu
      have h4 := kidsOkT_nth _ 0 i u h2 hi
      refine ih u (by have := Tree.kid_lt hu; omega) (h3 u hu) ?_
      have hlv : ∀ x, isLvalueB x = true → isExprB x = true := fun x hx => by
        unfold isLvalueB at hx; unfold isExprB inB; simp at hx ⊢; omega
      unfold kidOkB at h4
      by_cases e2 : t.kind = 9 ∨ t.kind = 10
      · rw [if_pos e2] at h4; exact hlv _ h4
      · rw [if_neg e2] at h4
        by_cases e3 : t.kind = 15
        · rw [if_pos e3] at h4
          simp only [Bool.or_eq_true, Bool.and_eq_true] at h4
          rcases h4 with h4 | h4
          · exact hlv _ h4.2
          · exact h4.2
        · rw [if_neg e3, if_neg (by omega), if_neg (by omega), if_neg (by omega), if_neg (by omega), if_neg (by omega), if_neg (by omega), if_neg (by omega), if_neg (by omega), if_neg (by omega)] at h4
          exact h4
theorem Tree.ex_of {t : Tree} (h : t.okT = true) (hk : isExprB t.kind = true) : t.Ex := Tree.ex_ofN _ t (Nat.lt_succ_self _) h hk

/-! Bounds. -/
def sumLen (l : List (List Token)) : Nat := (l.map List.length).sum
theorem commas_len (l : List (List Token)) : (commas l).length ≤ sumLen l + l.length := by
  cases l with
  | nil => simp [commas, sumLen]
  | cons x l =>
    have : ∀ l : List (List Token), (l.flatMap fun y => sgn 36 :: y).length = sumLen l + l.length := by
      intro l
      induction l with
      | nil => simp [sumLen]
      | cons y l ih => rw [List.flatMap_cons, List.length_append, ih]; simp [sumLen]; omega
    simp only [commas, List.length_append, this, sumLen, List.map_cons, List.sum_cons, List.length_cons]
    omega
theorem getD_len (l : List (List Token)) (i : Nat) : (l.getD i []).length ≤ sumLen l := by
  induction l generalizing i with
  | nil => simp
  | cons x l ih =>
    cases i with
    | zero => simp [sumLen]
    | succ i =>
      have := ih i
      simp only [List.getD_cons_succ, sumLen, List.map_cons, List.sum_cons] at this ⊢
      omega
theorem getD3_len (l : List (List Token)) : (l.getD 0 []).length + ((l.getD 1 []).length + (l.getD 2 []).length) ≤ sumLen l := by
  rcases l with _ | ⟨x, _ | ⟨y, _ | ⟨z, l⟩⟩⟩ <;> simp [sumLen] <;> omega
theorem nodeToks_len (k o : Int) (a : ByteArray) (ks : List (List Token)) : (nodeToks k o a ks).length ≤ sumLen ks + ks.length + 4 := by
  have h1 := commas_len ks
  have h2 := getD3_len ks
  have h3 := getD_len ks 0
  unfold nodeToks
  repeat' split
  all_goals simp only [List.length_cons, List.length_append, List.length_nil]
  all_goals first
    | omega
    | (split <;> simp <;> omega)
theorem Tree.tk_lenN (full : Bool) (n : Nat) : ∀ (t : Tree), SizeOf.sizeOf t < n → ∀ p, (t.tkb full p).length + 4 ≤ 8 * t.post.length := by
  induction n with
  | zero => intro t h; omega
  | succ n ih =>
    intro t h p
    have hk : ∀ (l : List Tree) (j : Nat), (∀ u ∈ l, u ∈ t.kids) → sumLen (Tree.tkL full t.kind t.op t.kids.length p j l) + l.length ≤ 8 * (Tree.postL l).length := by
      intro l
      induction l with
      | nil => intro j _; rw [Tree.tkL]; simp [sumLen]
      | cons u l ihl =>
        intro j hl
        have h1 := ihl (j + 1) fun v hv => hl v (by simp [hv])
        have hu := hl u (by simp)
        have h2 := fun q => ih u (by have := Tree.kid_lt hu; omega) q
        have h3 : (kidTk full t.kind t.op t.kids.length p j u).length + 1 ≤ 8 * u.post.length := by
          unfold kidTk Tree.tks inPar
          have a1 := h2 (kidPosB t.kind t.op t.kids.length j p)
          have a2 := h2 posTop
          repeat' split
          all_goals first
            | omega
            | (simp only [List.length_cons, List.length_append, List.length_nil]; omega)
        rw [Tree.tkL_cons, Tree.postL, List.length_append]
        simp only [sumLen, List.map_cons, List.sum_cons, List.length_cons] at h1 ⊢
        omega
    rw [t.tkb_eq, t.post_eq, List.length_append, List.length_singleton]
    have h1 := nodeToks_len t.kind t.op t.text (t.kidTks full p)
    have h2 := hk t.kids 0 fun u hu => hu
    rw [t.kidTks_len] at h1
    unfold Tree.kidTks at h1 ⊢
    omega
theorem Tree.tkb_len (full : Bool) (t : Tree) (p : Pos) : (t.tkb full p).length + 4 ≤ 8 * t.post.length := Tree.tk_lenN full _ t (Nat.lt_succ_self _) p
theorem Tree.tks_len (full : Bool) (t : Tree) (p : Pos) : (t.tks full p).length + 2 ≤ 8 * t.post.length := by
  have h1 := t.tkb_len full p
  have h2 := t.tkb_len full posTop
  unfold Tree.tks inPar
  split
  · simp only [List.length_cons, List.length_append, List.length_nil]; omega
  · omega

/-! Positions that are right. -/
theorem posOk_top : posOkB posTop = true := by decide
theorem posOk_lv : posOkB posLv = true := by decide
theorem opLevelB_range (o : Int) : 0 ≤ opLevelB o ∧ opLevelB o ≤ 12 := by
  unfold opLevelB
  repeat' split
  all_goals omega
theorem kidLev_range (k o j : Int) : 1 ≤ kidLevB k o j ∧ kidLevB k o j ≤ 15 := by
  unfold kidLevB sideA sideB
  repeat' split
  all_goals omega
theorem levelB_pos {k o : Int} (hk : isExprB k = true) (ho : k = 12 → opLevelB o ≠ 0) : levelB k o ≠ 0 := by
  have hb : 1 ≤ k ∧ k ≤ 15 := by unfold isExprB inB at hk; simp at hk; omega
  unfold levelB
  repeat' split
  all_goals first
    | exact ho (by assumption)
    | omega
theorem kidPos_ok {k o n j : Int} {p : Pos} (hp : posOkB p = true) (hj : 0 ≤ j ∧ j < n) (hl : levelB k o ≠ 0) : posOkB (kidPosB k o n j p) = true := by
  unfold kidPosB
  have h1 : inB j 0 (n - 1) = true := by unfold inB; simp; omega
  have h2 : (levelB k o == 0) = false := by simpa using hl
  rw [hp, h1, h2]
  simp only [Bool.not_true, Bool.or_self, Bool.false_eq_true, if_false]
  split
  · exact posOk_top
  · have h3 := kidLev_range k o j
    unfold posOkB inB
    simp only [Bool.and_eq_true, decide_eq_true_eq, Bool.or_eq_true, Bool.not_eq_true']
    refine ⟨⟨h3.1, h3.2⟩, ?_⟩
    by_cases h6 : k = 6
    · right; subst h6; rfl
    · left; simpa using h6
theorem kidPos_eq {k o n j : Int} {p : Pos} (hp : posOkB p = true) (hj : 0 ≤ j ∧ j < n) (hl : levelB k o ≠ 0) : kidPosB k o n j p = if levelB k o = 15 ∨ (k = 13 ∧ 1 < n) then posTop else ⟨kidLevB k o j, k == 6, p.noIn, p.noGt, kidSignB k o j p⟩ := by
  unfold kidPosB
  have h1 : inB j 0 (n - 1) = true := by unfold inB; simp; omega
  have h2 : (levelB k o == 0) = false := by simpa using hl
  rw [hp, h1, h2]
  rfl

/-! Where a position binds so tightly that only its level counts. -/
structure Tight (p q : Pos) : Prop where
  okp : posOkB p = true
  okq : posOkB q = true
  lp : p.level = 14
  lq : q.level = 14
  dol : p.dollar = q.dollar
  sp : p.noSign = false
  sq : q.noSign = false
theorem tight_fits {p q : Pos} (h : Tight p q) (k o : Int) : fitsB k o p = fitsB k o q := by
  obtain ⟨h1, h2, h3, h4, h5, h6, h7⟩ := h
  have ho := opLevelB_range o
  unfold fitsB
  rw [h1, h2, h6, h7, h3, h4, h5]
  by_cases hl : levelB k o = 0
  · rw [hl]; rfl
  have hl2 : (levelB k o == 0) = false := by simpa using hl
  rw [hl2]
  simp only [Bool.not_true, Bool.or_self, Bool.false_eq_true, if_false, Bool.false_and]
  by_cases k13 : k = 13
  · subst k13
    simp [levelB]
  have e13 : (k == 13) = false := by simpa using k13
  rw [e13]
  simp only [Bool.and_false, Bool.false_eq_true, if_false]
  by_cases k12 : k = 12
  · subst k12
    have : ¬ (14 : Int) ≤ levelB 12 o := by unfold levelB; simp; omega
    simp [this]
  have e12 : (k == 12) = false := by simpa using k12
  rw [e12]
  simp
theorem tight_par {p q : Pos} (h : Tight p q) (full : Bool) (k o : Int) : parB full k o p = parB full k o q := by
  unfold parB
  rw [tight_fits h]
theorem prim_kids {full : Bool} {t : Tree} (hl : levelB t.kind t.op = 15) {p q : Pos} (hp : posOkB p = true) (hq : posOkB q = true) : t.tkb full p = t.tkb full q := by
  rw [t.tkb_eq, t.tkb_eq]
  congr 1
  apply List.ext_getElem?
  intro i
  unfold Tree.kidTks
  rw [Tree.tkL_at, Tree.tkL_at]
  cases hu : t.kids[i]? with
  | none => rfl
  | some u =>
    have hi := (List.getElem?_eq_some_iff.1 hu).1
    simp only [Option.map_some]
    unfold kidTk
    rw [kidPos_eq hp (by omega) (by omega), kidPos_eq hq (by omega) (by omega)]
    simp only [hl, true_or, if_true]
theorem tight_kid {p q : Pos} (hp : posOkB p = true) (hq : posOkB q = true) {k o n : Int} (hk : k = 6 ∨ k = 9) (hn : 0 < n) : Tight (kidPosB k o n 0 p) (kidPosB k o n 0 q) := by
  have hl : levelB k o ≠ 0 ∧ levelB k o ≠ 15 := by
    rcases hk with rfl | rfl <;> simp [levelB]
  have h15 : ¬ (levelB k o = 15 ∨ (k = 13 ∧ 1 < n)) := by omega
  have hs : ∀ r : Pos, kidSignB k o 0 r = false := fun r => by
    unfold kidSignB
    rw [if_pos (by omega)]
  have hv : kidLevB k o 0 = 14 := by
    unfold kidLevB
    rw [if_neg (by omega), if_neg (by omega), if_neg (by omega), if_neg (by omega), if_neg (by omega)]
  refine ⟨kidPos_ok hp (by omega) hl.1, kidPos_ok hq (by omega) hl.1, ?_, ?_, ?_, ?_, ?_⟩
  all_goals simp only [kidPos_eq hp (show (0:Int) ≤ 0 ∧ 0 < n by omega) hl.1, kidPos_eq hq (show (0:Int) ≤ 0 ∧ 0 < n by omega) hl.1, if_neg h15, hs, hv]
theorem one_kid {full : Bool} {t : Tree} {p q : Pos} (hn : t.kids.length = 1) (h : ∀ u, t.kids[0]? = some u → kidTk full t.kind t.op t.kids.length p 0 u = kidTk full t.kind t.op t.kids.length q 0 u) : t.tkb full p = t.tkb full q := by
  rw [t.tkb_eq, t.tkb_eq]
  congr 1
  apply List.ext_getElem?
  intro i
  unfold Tree.kidTks
  rw [Tree.tkL_at, Tree.tkL_at]
  cases hu : t.kids[i]? with
  | none => rfl
  | some u =>
    have hi := (List.getElem?_eq_some_iff.1 hu).1
    obtain rfl : i = 0 := by omega
    simp only [Option.map_some, Nat.zero_add]
    rw [h u hu]
theorem tight_lev {p q : Pos} (hT : Tight p q) {full : Bool} {k o : Int} (hpar : parB full k o q = false) : levelB k o = 15 ∨ k = 6 ∨ k = 9 := by
  unfold parB at hpar
  cases full with
  | true => simp at hpar; exact .inl hpar.1
  | false =>
    simp only [Bool.false_eq_true, if_false, Bool.not_eq_false'] at hpar
    unfold fitsB at hpar
    by_cases k9 : k = 9
    · exact .inr (.inr k9)
    have e9 : (k == 9) = false := by simpa using k9
    rw [hT.okq, hT.sq, hT.lq, e9] at hpar
    have hge : 14 ≤ levelB k o := by
      by_cases h0 : (levelB k o == 0) = true
      · rw [h0] at hpar; simp at hpar
      · have h0 : (levelB k o == 0) = false := by simpa using h0
        rw [h0] at hpar
        simp only [Bool.not_true, Bool.or_self, Bool.false_eq_true, if_false, Bool.false_and, Bool.and_false, Bool.false_or] at hpar
        split at hpar
        · cases hpar
        · split at hpar
          · cases hpar
          · simpa using hpar
    have ho := opLevelB_range o
    have : levelB k o = 15 ∨ k = 6 := by
      unfold levelB at hge ⊢
      repeat' split at hge
      all_goals first
        | omega
        | (right; assumption)
        | (left; simp_all; done)
    rcases this with h | h
    · exact .inl h
    · exact .inr (.inl h)
/-- At such positions an expression is written alike; what may be assigned to is written alike everywhere. -/
theorem tight_tks (full : Bool) (n : Nat) : ∀ (t : Tree), SizeOf.sizeOf t < n → t.Ex →
    (∀ p q, posOkB p = true → posOkB q = true → isLvalueB t.kind = true → t.tkb full p = t.tkb full q) ∧ (∀ p q, Tight p q → t.tks full p = t.tks full q) := by
  induction n with
  | zero => intro t h; omega
  | succ n ih =>
    intro t h he
    obtain ⟨ha, hops, hlv, hks⟩ := (t.ex_eq).1 he
    have h6 : ∀ p q, posOkB p = true → posOkB q = true → t.kind = 6 → t.tkb full p = t.tkb full q := fun p q hp hq k6 => by
      have hn := ha.2.2.2.2.1 (.inl k6)
      refine one_kid hn fun u hu => ?_
      have hm := List.mem_of_getElem? hu
      have hT := (ih u (by have := Tree.kid_lt hm; omega) (hks u hm)).2 _ _ (tight_kid (o := t.op) (n := (t.kids.length : Int)) hp hq (.inl k6) (by omega))
      unfold kidTk
      have hni : isTargetB t.kind ((0 : Nat) : Int) = false := by rw [k6]; decide
      rw [hni]
      simp only [Bool.false_eq_true, if_false]
      exact hT
    have h1 : ∀ p q, posOkB p = true → posOkB q = true → isLvalueB t.kind = true → t.tkb full p = t.tkb full q := fun p q hp hq hlk => by
      unfold isLvalueB at hlk
      simp only [Bool.or_eq_true, beq_iff_eq] at hlk
      rcases hlk with (k1 | k5) | k6
      · exact prim_kids (by rw [k1]; rfl) hp hq
      · exact prim_kids (by rw [k5]; rfl) hp hq
      · exact h6 p q hp hq k6
    refine ⟨h1, fun p q hT => ?_⟩
    unfold Tree.tks
    rw [tight_par hT]
    by_cases hpar : parB full t.kind t.op q = true
    · rw [if_pos hpar, if_pos hpar]
    rw [if_neg hpar, if_neg hpar]
    have hpar : parB full t.kind t.op q = false := by simpa using hpar
    rcases tight_lev hT hpar with hl | k6 | k9
    · exact prim_kids hl hT.okp hT.okq
    · exact h6 p q hT.okp hT.okq k6
    · have hn := ha.2.2.2.2.1 (.inr (.inl k9))
      refine one_kid hn fun u hu => ?_
      have hm := List.mem_of_getElem? hu
      have hk := tight_kid (o := t.op) (n := (t.kids.length : Int)) hT.okp hT.okq (.inr k9) (by omega)
      have hlk := hlv u (by rw [List.head?_eq_getElem?]; exact hu) (.inl k9)
      have hA := (ih u (by have := Tree.kid_lt hm; omega) (hks u hm)).1 _ _ hk.okp hk.okq hlk
      unfold kidTk
      have hni : isTargetB t.kind ((0 : Nat) : Int) = true := by rw [k9]; decide
      rw [hni]
      simp only [if_true]
      exact hA
/-- What is assigned to is written alike everywhere. -/
theorem target_eq {full : Bool} {t u : Tree} (he : t.Ex) (hk : t.kind = 9 ∨ t.kind = 10 ∨ t.kind = 15) (hu : t.kids[0]? = some u) {p : Pos} (hp : posOkB p = true) : kidTk full t.kind t.op t.kids.length p 0 u = u.tkb full posLv := by
  obtain ⟨ha, hops, hlv, hks⟩ := (t.ex_eq).1 he
  have hm := List.mem_of_getElem? hu
  have hi := (List.getElem?_eq_some_iff.1 hu).1
  have hlk := hlv u (by rw [List.head?_eq_getElem?]; exact hu) hk
  have hl : levelB t.kind t.op ≠ 0 := levelB_pos ha.1 hops.2.2.1
  have hni : isTargetB t.kind ((0 : Nat) : Int) = true := by rcases hk with e | e | e <;> rw [e] <;> decide
  unfold kidTk
  rw [hni]
  simp only [if_true]
  exact (tight_tks full _ u (Nat.lt_succ_self _) (hks u hm)).1 _ _ (kidPos_ok hp (by omega) hl) posOk_lv hlk
end Go.Proofs.YtkelhmgdajiocaaGreatDoor
/- Walks and lemmas of this seat (PSpan): what each theorem says of the functions that it names. Conditions: those that each theorem states. -/
namespace Go.Proofs.YtkelhmgdajiocaaGreatDoor
set_option linter.unusedVariables false
set_option linter.unusedSimpArgs false
open Go.RowKit

/-! The spans of an expression's nodes. Plain. -/
def headLen (k : Int) (n : Nat) : Nat := if k = 5 ∨ k = 7 ∨ k = 8 then 2 else if k = 9 ∨ k = 11 ∨ k = 6 then 1 else if k = 13 ∧ 1 < n then 1 else 0
def sepLen (k o : Int) : Nat := if (k = 12 ∨ k = 15) ∧ o = 99 then 0 else 1
mutual
/-- The spans of a tree's nodes, in the order of the list, its first token given. -/
def Tree.spB (full : Bool) : Tree → Pos → Nat → List Span
  | .mk k o a b l, p, at_ => (Tree.spL full k o l.length p 0 (at_ + headLen k l.length) l).flatten ++ [⟨at_, ((at_ + (Tree.tkb full (.mk k o a b l) p).length : Nat) : Int)⟩]
def Tree.spL (full : Bool) (k o : Int) (n : Nat) (p : Pos) : Nat → Nat → List Tree → List (List Span)
  | _, _, [] => []
  | j, at_, t :: l => (if isTargetB k j = true ∨ parB full t.kind t.op (kidPosB k o n j p) = false then t.spB full (kidPosB k o n j p) at_ else t.spB full posTop (at_ + 1)) :: Tree.spL full k o n p (j + 1) (at_ + (kidTk full k o n p j t).length + sepLen k o) l
end
def Tree.spS (full : Bool) (t : Tree) (p : Pos) (at_ : Nat) : List Span := if parB full t.kind t.op p = true then t.spB full posTop (at_ + 1) else t.spB full p at_
def kidSp (full : Bool) (k o : Int) (n : Nat) (p : Pos) (j : Nat) (t : Tree) (at_ : Nat) : List Span :=
  if isTargetB k j = true then t.spB full (kidPosB k o n j p) at_ else t.spS full (kidPosB k o n j p) at_
theorem kidSp_eq (full : Bool) (k o : Int) (n : Nat) (p : Pos) (j : Nat) (t : Tree) (at_ : Nat) : (if isTargetB k j = true ∨ parB full t.kind t.op (kidPosB k o n j p) = false then t.spB full (kidPosB k o n j p) at_ else t.spB full posTop (at_ + 1)) = kidSp full k o n p j t at_ := by
  unfold kidSp Tree.spS
  cases isTargetB k j <;> cases parB full t.kind t.op (kidPosB k o n j p) <;> simp
theorem Tree.spL_cons (full : Bool) (k o : Int) (n : Nat) (p : Pos) (j at_ : Nat) (t : Tree) (l : List Tree) : Tree.spL full k o n p j at_ (t :: l) = kidSp full k o n p j t at_ :: Tree.spL full k o n p (j + 1) (at_ + (kidTk full k o n p j t).length + sepLen k o) l := by
  rw [Tree.spL, kidSp_eq]
/-- The spans of the kids, the node's first token given. -/
def Tree.kidSps (full : Bool) (t : Tree) (p : Pos) (at_ : Nat) : List (List Span) := Tree.spL full t.kind t.op t.kids.length p 0 (at_ + headLen t.kind t.kids.length) t.kids
theorem Tree.spB_eq (full : Bool) (t : Tree) (p : Pos) (at_ : Nat) : t.spB full p at_ = (t.kidSps full p at_).flatten ++ [⟨at_, ((at_ + (t.tkb full p).length : Nat) : Int)⟩] := by
  cases t; rw [Tree.spB]; rfl
/-- Where the tokens of kid i begin. -/
def Tree.kidOff (full : Bool) (t : Tree) (p : Pos) (i : Nat) : Nat := headLen t.kind t.kids.length + (sumLen ((t.kidTks full p).take i) + i * sepLen t.kind t.op)
theorem Tree.spL_at (full : Bool) (k o : Int) (n : Nat) (p : Pos) : ∀ (l : List Tree) (j at_ i : Nat), (Tree.spL full k o n p j at_ l)[i]? = l[i]?.map fun u => kidSp full k o n p (j + i) u (at_ + (sumLen ((Tree.tkL full k o n p j l).take i) + i * sepLen k o)) := by
  intro l
  induction l with
  | nil => intro j at_ i; rw [Tree.spL]; simp
  | cons t l ih =>
    intro j at_ i
    rw [Tree.spL_cons, Tree.tkL_cons]
    cases i with
    | zero => simp [sumLen]
    | succ i =>
      rw [List.getElem?_cons_succ, ih, List.getElem?_cons_succ]
      congr 1
      funext u
      rw [show j + (i + 1) = j + 1 + i by omega]
      congr 1
      rw [List.take_succ_cons]
      simp only [sumLen, List.map_cons, List.sum_cons]
      rw [Nat.succ_mul]
      omega
theorem Tree.spL_len (full : Bool) (k o : Int) (n : Nat) (p : Pos) : ∀ (l : List Tree) (j at_ : Nat), (Tree.spL full k o n p j at_ l).length = l.length := by
  intro l
  induction l with
  | nil => intro j at_; rw [Tree.spL]; rfl
  | cons t l ih => intro j at_; rw [Tree.spL_cons, List.length_cons, ih, List.length_cons]
theorem Tree.kidSps_len (full : Bool) (t : Tree) (p : Pos) (at_ : Nat) : (t.kidSps full p at_).length = t.kids.length := Tree.spL_len _ _ _ _ _ _ _ _
theorem Tree.kidSps_at (full : Bool) (t : Tree) (p : Pos) (at_ : Nat) {i : Nat} {u : Tree} (h : t.kids[i]? = some u) : (t.kidSps full p at_)[i]? = some (kidSp full t.kind t.op t.kids.length p i u (at_ + t.kidOff full p i)) := by
  unfold Tree.kidSps
  rw [Tree.spL_at, h, Nat.zero_add]
  show some _ = some _
  unfold Tree.kidOff Tree.kidTks
  rw [Nat.add_assoc]
theorem flat_take {α : Type} {ks : List (List α)} {j : Nat} {x : List α} (h : ks[j]? = some x) : (ks.take (j + 1)).flatten = (ks.take j).flatten ++ x := by
  rw [take_next h, List.flatten_append]; simp
theorem Tree.sp_lenN (full : Bool) (n : Nat) : ∀ (t : Tree), SizeOf.sizeOf t < n → ∀ p at_, (t.spB full p at_).length = t.post.length := by
  induction n with
  | zero => intro t h; omega
  | succ n ih =>
    intro t h p at_
    have hk : ∀ (l : List Tree) (j at_ : Nat), (∀ u ∈ l, u ∈ t.kids) → (Tree.spL full t.kind t.op t.kids.length p j at_ l).flatten.length = (Tree.postL l).length := by
      intro l
      induction l with
      | nil => intro j at_ _; rw [Tree.spL]; rfl
      | cons u l ihl =>
        intro j at_ hl
        have hu := hl u (by simp)
        have h2 := fun q a => ih u (by have := Tree.kid_lt hu; omega) q a
        rw [Tree.spL_cons, Tree.postL, List.flatten_cons, List.length_append, List.length_append, ihl _ _ fun v hv => hl v (by simp [hv])]
        congr 1
        unfold kidSp Tree.spS
        split
        · exact h2 _ _
        · split
          · exact h2 _ _
          · exact h2 _ _
    rw [t.spB_eq, t.post_eq, List.length_append, List.length_append]
    unfold Tree.kidSps
    rw [hk _ _ _ fun u hu => hu]
    rfl
theorem Tree.sp_len (full : Bool) (t : Tree) (p : Pos) (at_ : Nat) : (t.spB full p at_).length = t.post.length := Tree.sp_lenN full _ t (Nat.lt_succ_self _) p at_
theorem Tree.spS_len (full : Bool) (t : Tree) (p : Pos) (at_ : Nat) : (t.spS full p at_).length = t.post.length := by
  unfold Tree.spS
  split
  · exact t.sp_len full _ _
  · exact t.sp_len full _ _

/-! The same at every tight position. -/
theorem sum_take_tk {full : Bool} {t : Tree} {p q : Pos} (h : t.kidTks full p = t.kidTks full q) (i : Nat) : t.kidOff full p i = t.kidOff full q i := by
  unfold Tree.kidOff; rw [h]
theorem sp_ext {full : Bool} {t : Tree} {p q : Pos} (hk : t.kidTks full p = t.kidTks full q) (h : ∀ i u a, t.kids[i]? = some u → kidSp full t.kind t.op t.kids.length p i u a = kidSp full t.kind t.op t.kids.length q i u a) (at_ : Nat) : t.spB full p at_ = t.spB full q at_ := by
  rw [t.spB_eq, t.spB_eq, t.tkb_eq, t.tkb_eq, hk]
  congr 2
  apply List.ext_getElem?
  intro i
  cases hu : t.kids[i]? with
  | none =>
    have hi : t.kids.length ≤ i := List.getElem?_eq_none_iff.1 hu
    rw [List.getElem?_eq_none (by rw [t.kidSps_len]; exact hi), List.getElem?_eq_none (by rw [t.kidSps_len]; exact hi)]
  | some u => rw [t.kidSps_at full p at_ hu, t.kidSps_at full q at_ hu, h i u _ hu, sum_take_tk hk]
theorem tks_ext {full : Bool} {t : Tree} {p q : Pos} (h : ∀ i u, t.kids[i]? = some u → kidTk full t.kind t.op t.kids.length p i u = kidTk full t.kind t.op t.kids.length q i u) : t.kidTks full p = t.kidTks full q := by
  apply List.ext_getElem?
  intro i
  unfold Tree.kidTks
  rw [Tree.tkL_at, Tree.tkL_at]
  cases hu : t.kids[i]? with
  | none => rfl
  | some u => simp only [Option.map_some, Nat.zero_add]; rw [h i u hu]
theorem prim_sp {full : Bool} {t : Tree} (hl : levelB t.kind t.op = 15) {p q : Pos} (hp : posOkB p = true) (hq : posOkB q = true) (at_ : Nat) : t.spB full p at_ = t.spB full q at_ := by
  have hpos : ∀ (i : Nat) (u : Tree), t.kids[i]? = some u → kidPosB t.kind t.op t.kids.length i p = kidPosB t.kind t.op t.kids.length i q := fun i u hu => by
    have hi := (List.getElem?_eq_some_iff.1 hu).1
    rw [kidPos_eq hp (by omega) (by omega), kidPos_eq hq (by omega) (by omega), if_pos (.inl hl), if_pos (.inl hl)]
  refine sp_ext (tks_ext fun i u hu => ?_) (fun i u a hu => ?_) at_
  · unfold kidTk; rw [hpos i u hu]
  · unfold kidSp; rw [hpos i u hu]
theorem tight_sp (full : Bool) (n : Nat) : ∀ (t : Tree), SizeOf.sizeOf t < n → t.Ex →
    (∀ p q a, posOkB p = true → posOkB q = true → isLvalueB t.kind = true → t.spB full p a = t.spB full q a) ∧ (∀ p q a, Tight p q → t.spS full p a = t.spS full q a) := by
  induction n with
  | zero => intro t h; omega
  | succ n ih =>
    intro t h he
    obtain ⟨ha, hops, hlv, hks⟩ := (t.ex_eq).1 he
    have h6 : ∀ p q a, posOkB p = true → posOkB q = true → t.kind = 6 → t.spB full p a = t.spB full q a := fun p q a hp hq k6 => by
      have hn := ha.2.2.2.2.1 (.inl k6)
      have hni : isTargetB t.kind ((0 : Nat) : Int) = false := by rw [k6]; decide
      refine sp_ext (tks_ext fun i u hu => ?_) (fun i u a hu => ?_) a
      all_goals
        have hi := (List.getElem?_eq_some_iff.1 hu).1
        obtain rfl : i = 0 := by omega
        have hm := List.mem_of_getElem? hu
        have hk := tight_kid (o := t.op) (n := (t.kids.length : Int)) hp hq (.inl k6) (by omega)
      · unfold kidTk
        rw [hni]
        simp only [Bool.false_eq_true, if_false]
        exact (tight_tks full _ u (Nat.lt_succ_self _) (hks u hm)).2 _ _ hk
      · unfold kidSp
        rw [hni]
        simp only [Bool.false_eq_true, if_false]
        exact (ih u (by have := Tree.kid_lt hm; omega) (hks u hm)).2 _ _ _ hk
    have h1 : ∀ p q a, posOkB p = true → posOkB q = true → isLvalueB t.kind = true → t.spB full p a = t.spB full q a := fun p q a hp hq hlk => by
      unfold isLvalueB at hlk
      simp only [Bool.or_eq_true, beq_iff_eq] at hlk
      rcases hlk with (k1 | k5) | k6
      · exact prim_sp (by rw [k1]; rfl) hp hq a
      · exact prim_sp (by rw [k5]; rfl) hp hq a
      · exact h6 p q a hp hq k6
    refine ⟨h1, fun p q a hT => ?_⟩
    unfold Tree.spS
    rw [tight_par hT]
    by_cases hpar : parB full t.kind t.op q = true
    · rw [if_pos hpar, if_pos hpar]
    rw [if_neg hpar, if_neg hpar]
    have hpar : parB full t.kind t.op q = false := by simpa using hpar
    rcases tight_lev hT hpar with hl | k6 | k9
    · exact prim_sp hl hT.okp hT.okq a
    · exact h6 p q a hT.okp hT.okq k6
    · have hn := ha.2.2.2.2.1 (.inr (.inl k9))
      have hni : isTargetB t.kind ((0 : Nat) : Int) = true := by rw [k9]; decide
      refine sp_ext (tks_ext fun i u hu => ?_) (fun i u a hu => ?_) a
      all_goals
        have hi := (List.getElem?_eq_some_iff.1 hu).1
        obtain rfl : i = 0 := by omega
        have hm := List.mem_of_getElem? hu
        have hk := tight_kid (o := t.op) (n := (t.kids.length : Int)) hT.okp hT.okq (.inr k9) (by omega)
        have hlk := hlv u (by rw [List.head?_eq_getElem?]; exact hu) (.inl k9)
      · unfold kidTk
        rw [hni]
        simp only [if_true]
        exact (tight_tks full _ u (Nat.lt_succ_self _) (hks u hm)).1 _ _ hk.okp hk.okq hlk
      · unfold kidSp
        rw [hni]
        simp only [if_true]
        exact (ih u (by have := Tree.kid_lt hm; omega) (hks u hm)).1 _ _ _ hk.okp hk.okq hlk
theorem target_sp {full : Bool} {t u : Tree} (he : t.Ex) (hk : t.kind = 9 ∨ t.kind = 10 ∨ t.kind = 15) (hu : t.kids[0]? = some u) {p : Pos} (hp : posOkB p = true) (a : Nat) : kidSp full t.kind t.op t.kids.length p 0 u a = u.spB full posLv a := by
  obtain ⟨ha, hops, hlv, hks⟩ := (t.ex_eq).1 he
  have hm := List.mem_of_getElem? hu
  have hi := (List.getElem?_eq_some_iff.1 hu).1
  have hlk := hlv u (by rw [List.head?_eq_getElem?]; exact hu) hk
  have hl : levelB t.kind t.op ≠ 0 := levelB_pos ha.1 hops.2.2.1
  have hni : isTargetB t.kind ((0 : Nat) : Int) = true := by rcases hk with e | e | e <;> rw [e] <;> decide
  unfold kidSp
  rw [hni]
  simp only [if_true]
  exact (tight_sp full _ u (Nat.lt_succ_self _) (hks u hm)).1 _ _ _ (kidPos_ok hp (by omega) hl) posOk_lv hlk
end Go.Proofs.YtkelhmgdajiocaaGreatDoor
/- Walks and lemmas of this seat (PSpell2): what each theorem says of the functions that it names. Conditions: those that each theorem states. -/
namespace Go.Proofs.YtkelhmgdajiocaaGreatDoor
set_option linter.unusedVariables false
set_option linter.unusedSimpArgs false
open Go.RowKit

/-! Bounds, kid by kid. -/
theorem Tree.posts_pos (t : Tree) : 1 ≤ t.post.length := by rw [t.post_eq]; simp
theorem kidTk_len (full : Bool) (k o : Int) (n : Nat) (p : Pos) (j : Nat) (u : Tree) : (kidTk full k o n p j u).length + 1 ≤ 8 * u.post.length := by
  have a1 := u.tkb_len full (kidPosB k o n j p)
  have a2 := u.tks_len full (kidPosB k o n j p)
  unfold kidTk
  split <;> omega
theorem sumLen_cons (x : List Token) (l : List (List Token)) : sumLen (x :: l) = x.length + sumLen l := by simp [sumLen]
theorem tkL_pre (full : Bool) (k o : Int) (n : Nat) (p : Pos) : ∀ (l : List Tree) (j i : Nat) (u : Tree), l[i]? = some u → sumLen ((Tree.tkL full k o n p j l).take i) + i + 8 * u.post.length ≤ 8 * (Tree.postL l).length := by
  intro l
  induction l with
  | nil => intro j i u h; simp at h
  | cons t l ih =>
    intro j i u h
    rw [Tree.tkL_cons, Tree.postL, List.length_append]
    cases i with
    | zero => simp at h; subst h; simp [sumLen]; omega
    | succ i =>
      have h1 := ih (j + 1) i u (by simpa using h)
      have h2 := kidTk_len full k o n p j t
      rw [List.take_succ_cons, sumLen_cons]
      omega
theorem Tree.pre_len (full : Bool) (t : Tree) (p : Pos) {i : Nat} {u : Tree} (h : t.kids[i]? = some u) : sumLen ((t.kidTks full p).take i) + i + 8 * u.post.length + 8 ≤ 8 * t.post.length := by
  have h1 := tkL_pre full t.kind t.op t.kids.length p t.kids 0 i u h
  rw [t.post_eq, List.length_append, List.length_singleton]
  unfold Tree.kidTks
  omega
theorem tkL_all (full : Bool) (k o : Int) (n : Nat) (p : Pos) : ∀ (l : List Tree) (j : Nat), sumLen (Tree.tkL full k o n p j l) + l.length ≤ 8 * (Tree.postL l).length := by
  intro l
  induction l with
  | nil => intro j; rw [Tree.tkL]; simp [sumLen]
  | cons t l ih =>
    intro j
    have h1 := ih (j + 1)
    have h2 := kidTk_len full k o n p j t
    rw [Tree.tkL_cons, Tree.postL, List.length_append, sumLen_cons, List.length_cons]
    omega
theorem Tree.all_len (full : Bool) (t : Tree) (p : Pos) : sumLen (t.kidTks full p) + t.kids.length + 8 ≤ 8 * t.post.length := by
  have h1 := tkL_all full t.kind t.op t.kids.length p t.kids 0
  rw [t.post_eq, List.length_append, List.length_singleton]
  unfold Tree.kidTks
  omega
theorem sumLen_take (l : List (List Token)) (i : Nat) : sumLen (l.take i) ≤ sumLen l := by
  induction l generalizing i with
  | nil => simp
  | cons x l ih =>
    cases i with
    | zero => simp [sumLen]
    | succ i => have := ih i; rw [List.take_succ_cons, sumLen_cons, sumLen_cons]; omega
theorem kidSp_len (full : Bool) (k o : Int) (n : Nat) (p : Pos) (j : Nat) (u : Tree) (a : Nat) : (kidSp full k o n p j u a).length = u.post.length := by
  unfold kidSp
  split
  · exact u.sp_len full _ _
  · exact u.spS_len full _ _
theorem spL_pre (full : Bool) (k o : Int) (n : Nat) (p : Pos) : ∀ (l : List Tree) (j a i : Nat) (u : Tree), l[i]? = some u → ((Tree.spL full k o n p j a l).take i).flatten.length + u.post.length ≤ (Tree.postL l).length := by
  intro l
  induction l with
  | nil => intro j a i u h; simp at h
  | cons t l ih =>
    intro j a i u h
    rw [Tree.spL_cons, Tree.postL, List.length_append]
    cases i with
    | zero => simp at h; subst h; simp
    | succ i =>
      have h1 := ih (j + 1) (a + (kidTk full k o n p j t).length + sepLen k o) i u (by simpa using h)
      rw [List.take_succ_cons, List.flatten_cons, List.length_append, kidSp_len]
      omega
theorem Tree.pre_sp (full : Bool) (t : Tree) (p : Pos) (a : Nat) {i : Nat} {u : Tree} (h : t.kids[i]? = some u) : ((t.kidSps full p a).take i).flatten.length + u.post.length + 1 ≤ t.post.length := by
  have h1 := spL_pre full t.kind t.op t.kids.length p t.kids 0 (a + headLen t.kind t.kids.length) i u h
  rw [t.post_eq, List.length_append, List.length_singleton]
  unfold Tree.kidSps
  omega
theorem Tree.all_sp (full : Bool) (t : Tree) (p : Pos) (a : Nat) : (t.kidSps full p a).flatten.length + 1 = t.post.length := by
  have h := t.sp_len full p a
  rw [t.spB_eq, List.length_append, List.length_singleton] at h
  exact h
/-- The length of the tokens that a list of kids has written so far. -/
theorem commas_take_len {ks : List (List Token)} {j : Nat} (h : j ≤ ks.length) : (commas (ks.take j)).length + (if 0 < j then 1 else 0) = sumLen (ks.take j) + j := by
  have hf : ∀ l : List (List Token), (l.flatMap fun y => sgn 36 :: y).length = sumLen l + l.length := by
    intro l
    induction l with
    | nil => simp [sumLen]
    | cons y l ih => rw [List.flatMap_cons, List.length_append, ih, sumLen_cons]; simp; omega
  cases ks with
  | nil => simp at h; subst h; simp [commas, sumLen]
  | cons x l =>
    cases j with
    | zero => simp [commas, sumLen]
    | succ j =>
      simp at h
      rw [List.take_succ_cons, sumLen_cons, if_pos (by omega)]
      simp only [commas, List.length_append, hf, List.length_take, Nat.min_eq_left h]
      omega
end Go.Proofs.YtkelhmgdajiocaaGreatDoor
