/- Walks and lemmas of this seat (PGreedy): what each theorem says of the functions that it names. Conditions: those that each theorem states. -/
import Derived.Test.YtfabfkaolnidiaaDoorFLayR
import Derived.Test.YtfabfkaolnidiaaDoorFLongest
namespace Go.Proofs.YtfabfkaolnidiaaDoor
set_option linter.unusedVariables false
set_option linter.unusedSimpArgs false
open Go.RowKit

/-! A group of words: laid in one line, or one word a line. -/
def wordB (k : Nat) : ByteArray := ⟨(List.replicate k 119).toArray⟩
theorem wordB_list (k : Nat) : (wordB k).data.toList = List.replicate k 119 := by simp [wordB]
theorem wordB_size (k : Nat) : (wordB k).size = k := by
  show (wordB k).data.size = k
  simp [wordB]
def textN (k : Nat) : DNode := ⟨1, 0, wordB k, []⟩
def lineN : DNode := ⟨2, 0, ⟨#[]⟩, []⟩
/-- The leaves: words with ends of lines between. -/
def gLeaf : List Nat → List DNode
  | [] => []
  | [k] => [textN k]
  | k :: l => textN k :: lineN :: gLeaf l
def gCat (m : Nat) : DNode := ⟨6, 0, ⟨#[]⟩, (List.range m).map Int.ofNat⟩
def gNest (m : Nat) : DNode := ⟨4, 2, ⟨#[]⟩, [(m : Int)]⟩
def gGroup (m : Nat) : DNode := ⟨5, 0, ⟨#[]⟩, [(m : Int) + 1]⟩
def gDoc (ws : List Nat) : List DNode := gLeaf ws ++ [gCat (gLeaf ws).length, gNest (gLeaf ws).length, gGroup (gLeaf ws).length]
theorem gLeaf2 (k k2 : Nat) (l : List Nat) : gLeaf (k :: k2 :: l) = textN k :: lineN :: gLeaf (k2 :: l) := rfl
def textD (k : Nat) : Doc := .mk 1 0 (wordB k) [] 0
def lineD : Doc := .mk 2 0 ⟨#[]⟩ [] 0
def gLeafD : List Nat → List Doc
  | [] => []
  | [k] => [textD k]
  | k :: l => textD k :: lineD :: gLeafD l
theorem gLeafD2 (k k2 : Nat) (l : List Nat) : gLeafD (k :: k2 :: l) = textD k :: lineD :: gLeafD (k2 :: l) := rfl
def gRoot (ws : List Nat) : Doc := .mk 5 0 ⟨#[]⟩ [.mk 4 2 ⟨#[]⟩ [.mk 6 0 ⟨#[]⟩ (gLeafD ws) 0] 0] 0
theorem plain_word (k : Nat) : plain (wordB k) = true := by
  unfold plain plainL
  rw [wordB_list, List.all_eq_true]
  intro c hc
  rw [List.mem_replicate] at hc
  rw [hc.2]; rfl
theorem docNode_text (k : Nat) : docNode (textN k) = true := by
  unfold docNode textN
  simp [plain_word]
theorem ws_cases {ws : List Nat} (h : 2 ≤ ws.length ∧ ws.length ≤ 5) : (∃ a b, ws = [a, b]) ∨ (∃ a b c, ws = [a, b, c]) ∨ (∃ a b c d, ws = [a, b, c, d]) ∨ (∃ a b c d e, ws = [a, b, c, d, e]) := by
  match ws, h with
  | [a, b], _ => exact .inl ⟨_, _, rfl⟩
  | [a, b, c], _ => exact .inr (.inl ⟨_, _, _, rfl⟩)
  | [a, b, c, d], _ => exact .inr (.inr (.inl ⟨_, _, _, _, rfl⟩))
  | [a, b, c, d, e], _ => exact .inr (.inr (.inr ⟨_, _, _, _, _, rfl⟩))
  | [], h => simp at h
  | [_], h => simp at h
  | _ :: _ :: _ :: _ :: _ :: _ :: _, h => simp at h
theorem gDoc_ok {ws : List Nat} (h : 2 ≤ ws.length ∧ ws.length ≤ 5) : docOk (gDoc ws) = true := by
  have hl : docNode lineN = true := by simp [docNode, lineN, ByteArray.toList_eq]
  have hc : ∀ m, docNode (gCat m) = true := fun m => by simp [docNode, gCat]
  have hn : ∀ m, docNode (gNest m) = true := fun m => by simp [docNode, gNest]
  have hg : ∀ m, docNode (gGroup m) = true := fun m => by simp [docNode, gGroup]
  unfold docOk
  rcases ws_cases h with ⟨a, b, rfl⟩ | ⟨a, b, c, rfl⟩ | ⟨a, b, c, d, rfl⟩ | ⟨a, b, c, d, e, rfl⟩
  all_goals
    simp only [gDoc, gLeaf, List.all_append, List.all_cons, List.all_nil, docNode_text, hl, hc, hn, hg, Bool.and_true]
    rw [Bool.and_eq_true]
    exact ⟨by simp, by rfl⟩
theorem gDoc_root {ws : List Nat} (h : 2 ≤ ws.length ∧ ws.length ≤ 5) : docIx (gDoc ws) ((gDoc ws).length - 1) = gRoot ws := by
  rcases ws_cases h with ⟨a, b, rfl⟩ | ⟨a, b, c, rfl⟩ | ⟨a, b, c, d, rfl⟩ | ⟨a, b, c, d, e, rfl⟩ <;> rfl
/-- One line. -/
def gFlat : List Nat → List UInt8
  | [] => []
  | [k] => List.replicate k 119
  | k :: l => List.replicate k 119 ++ 32 :: gFlat l
theorem gFlat2 (k k2 : Nat) (l : List Nat) : gFlat (k :: k2 :: l) = List.replicate k 119 ++ 32 :: gFlat (k2 :: l) := rfl
theorem flats_leaf (ws : List Nat) : Doc.flats (gLeafD ws) = some (gFlat ws) := by
  have ht : ∀ k, (textD k).flat = some (List.replicate k 119) := fun k => by
    show Doc.flat (.mk _ _ _ _ _) = _
    rw [Doc.flat, if_pos (.inl rfl)]
    simp [leafOf, wordB_list]
  have hln : lineD.flat = some [32] := by rw [lineD, Doc.flat]; rfl
  induction ws with
  | nil => rfl
  | cons k l ih =>
    cases l with
    | nil => rw [gLeafD, Doc.flats, ht]; simp [Doc.flats, gFlat]
    | cons k2 l =>
      rw [gLeafD2, Doc.flats, ht, Doc.flats, hln, ih, gFlat2]
      simp
theorem root_flat (ws : List Nat) : (gRoot ws).flat = some (gFlat ws) := by
  unfold gRoot
  have h1 : Doc.flat (.mk 6 0 ⟨#[]⟩ (gLeafD ws) 0) = some (gFlat ws) := by rw [Doc.flat, if_neg (by decide), flats_leaf]
  have h2 : Doc.flat (.mk 4 2 ⟨#[]⟩ [.mk 6 0 ⟨#[]⟩ (gLeafD ws) 0] 0) = some (gFlat ws) := by
    rw [Doc.flat, if_neg (by decide), Doc.flats, h1]; simp [Doc.flats]
  rw [Doc.flat, if_neg (by decide), Doc.flats, h2]
  simp [Doc.flats]
/-- One word a line. -/
def gBrk : List Nat → List UInt8
  | [] => []
  | [k] => List.replicate k 119
  | k :: l => List.replicate k 119 ++ 10 :: 32 :: 32 :: gBrk l
theorem gBrk2 (k k2 : Nat) (l : List Nat) : gBrk (k :: k2 :: l) = List.replicate k 119 ++ 10 :: 32 :: 32 :: gBrk (k2 :: l) := rfl
def leafIts (ws : List Nat) (f : Bool) : List LIt := (gLeafD ws).map fun d => ⟨d, 2, f⟩
theorem leaf_run (dec : Nat → List LIt → LIt → Bool) (fl : Bool) : ∀ (ws : List Nat) (fuel col : Nat) (out : List UInt8) (ok : Bool), (gLeafD ws).length ≤ fuel →
    (layRun dec fuel ⟨out, col, ok, leafIts ws fl⟩).1 = out ++ (if fl then gFlat ws else gBrk ws) := by
  have ht : ∀ (k : Nat) (out : List UInt8) (col : Nat) (ok : Bool) (st : List LIt), layStep dec out col ok st ⟨textD k, 2, fl⟩ = ⟨out ++ List.replicate k 119, col + k, ok, st⟩ := fun k out col ok st => by
    unfold layStep
    rw [if_pos (show (textD k).kind = 1 from rfl)]
    show LSt.mk (out ++ (wordB k).data.toList) (col + (wordB k).size) ok st = _
    rw [wordB_list, wordB_size]
  intro ws
  induction ws with
  | nil => intro fuel col out ok _; rw [show leafIts [] fl = [] from rfl, layRun_nil]; cases fl <;> simp [gFlat, gBrk]
  | cons k l ih =>
    intro fuel col out ok hf
    cases l with
    | nil =>
      rw [show leafIts [k] fl = [⟨textD k, 2, fl⟩] from rfl]
      cases fuel with
      | zero => simp [gLeafD] at hf
      | succ fuel =>
        rw [layRun_cons, ht, layRun_nil]
        cases fl <;> simp [gFlat, gBrk]
    | cons k2 l =>
      rw [show leafIts (k :: k2 :: l) fl = ⟨textD k, 2, fl⟩ :: ⟨lineD, 2, fl⟩ :: leafIts (k2 :: l) fl from rfl]
      rw [gLeafD2, List.length_cons, List.length_cons] at hf
      · obtain ⟨f, rfl⟩ : ∃ f, fuel = f + 1 + 1 := ⟨fuel - 2, by omega⟩
        rw [layRun_cons, ht, layRun_cons]
        cases fl
        · rw [show layStep dec (out ++ List.replicate k 119) (col + k) ok (leafIts (k2 :: l) false) ⟨lineD, 2, false⟩ = ⟨out ++ List.replicate k 119 ++ [10, 32, 32], 2, ok, leafIts (k2 :: l) false⟩ from rfl, ih _ _ _ _ (by omega)]
          simp [gBrk2]
        · rw [show layStep dec (out ++ List.replicate k 119) (col + k) ok (leafIts (k2 :: l) true) ⟨lineD, 2, true⟩ = ⟨out ++ List.replicate k 119 ++ [32], col + k + 1, ok, leafIts (k2 :: l) true⟩ from rfl, ih _ _ _ _ (by omega)]
          simp [gFlat2]
theorem gLeaf_len (ws : List Nat) : (gLeaf ws).length = (gLeafD ws).length := by
  induction ws with
  | nil => rfl
  | cons k l ih => cases l with
    | nil => rfl
    | cons k2 l => rw [gLeaf2, gLeafD2, List.length_cons, List.length_cons, List.length_cons, List.length_cons, ih]
theorem render_greedy {ws : List Nat} (h : 2 ≤ ws.length ∧ ws.length ≤ 5) {w : Int} (hw : 0 ≤ w ∧ w ≤ 10000) :
    renderL (gDoc ws) w = some (if ((gFlat ws).length : Int) ≤ w then gFlat ws else gBrk ws) := by
  unfold renderL
  rw [if_pos ⟨gDoc_ok h, hw⟩]
  unfold root0
  rw [gDoc_root h]
  have hlen : (gDoc ws).length = (gLeafD ws).length + 1 + 1 + 1 := by unfold gDoc; rw [List.length_append, gLeaf_len]; rfl
  have hd : fitDec w 0 [] ⟨gRoot ws, 0, false⟩ = decide (((gFlat ws).length : Int) ≤ w) := by
    unfold fitDec
    rw [root_flat]
    simp [behindW_nil]
  rw [hlen, layRun_cons]
  obtain ⟨ok, hs⟩ : ∃ ok, layStep (fitDec w) [] 0 true [] ⟨gRoot ws, 0, false⟩ = ⟨[], 0, ok, [⟨.mk 4 2 ⟨#[]⟩ [.mk 6 0 ⟨#[]⟩ (gLeafD ws) 0] 0, 0, decide (((gFlat ws).length : Int) ≤ w)⟩]⟩ := by
    rw [← hd]
    exact ⟨_, rfl⟩
  rw [hs, layRun_cons]
  rw [show layStep (fitDec w) [] 0 ok [] ⟨.mk 4 2 ⟨#[]⟩ [.mk 6 0 ⟨#[]⟩ (gLeafD ws) 0] 0, 0, decide (((gFlat ws).length : Int) ≤ w)⟩ = ⟨[], 0, ok, [⟨.mk 6 0 ⟨#[]⟩ (gLeafD ws) 0, 2, decide (((gFlat ws).length : Int) ≤ w)⟩]⟩ from rfl]
  show some (layRun (fitDec w) _ (layStep (fitDec w) [] 0 ok [] ⟨.mk 6 0 ⟨#[]⟩ (gLeafD ws) 0, 2, decide (((gFlat ws).length : Int) ≤ w)⟩)).1 = _
  rw [show layStep (fitDec w) [] 0 ok [] ⟨.mk 6 0 ⟨#[]⟩ (gLeafD ws) 0, 2, decide (((gFlat ws).length : Int) ≤ w)⟩ = ⟨[], 0, ok, leafIts ws (decide (((gFlat ws).length : Int) ≤ w))⟩ from by
    unfold layStep
    rw [if_neg (by simp [Doc.kind]), if_neg (by simp [Doc.kind]), if_neg (by simp [Doc.kind]), if_neg (by simp [Doc.kind])]
    show LSt.mk [] 0 ok (kidIts _ _ _ ++ []) = _
    rw [List.append_nil]
    rfl]
  rw [leaf_run _ _ ws _ _ _ _ (Nat.le_refl _), List.nil_append]
  simp only [decide_eq_true_eq]

/-! The lines of what is laid. -/
theorem lines_word (k : Nat) (cur l : List UInt8) : linesAcc cur (List.replicate k 119 ++ l) = linesAcc (cur ++ List.replicate k 119) l := by
  induction k generalizing cur with
  | zero => simp
  | succ k ih => rw [List.replicate_succ, List.cons_append, linesAcc, if_neg (by decide), ih]; simp
theorem lines_flat (ws : List Nat) (cur : List UInt8) : linesAcc cur (gFlat ws) = linesAcc (cur ++ gFlat ws) [] := by
  induction ws generalizing cur with
  | nil => simp [gFlat]
  | cons k l ih =>
    cases l with
    | nil => have := lines_word k cur []; rw [List.append_nil] at this; rw [gFlat]; exact this
    | cons k2 l =>
      have e : ∀ (c l : List UInt8), linesAcc c (32 :: l) = linesAcc (c ++ [32]) l := fun c l => by rw [linesAcc, if_neg (by decide)]
      rw [gFlat2, lines_word, e, ih]
      congr 1
      simp
theorem flat_pos {ws : List Nat} (h : 2 ≤ ws.length) : gFlat ws ≠ [] := by
  match ws, h with
  | k :: k2 :: l, _ => simp [gFlat]
theorem one_line {ws : List Nat} (h : 2 ≤ ws.length) : (linesOf ⟨(gFlat ws).toArray⟩).length = 1 := by
  unfold linesOf
  rw [List.length_map, show (⟨(gFlat ws).toArray⟩ : ByteArray).data.toList = gFlat ws by simp, lines_flat, List.nil_append, linesAcc, if_neg (flat_pos h)]
  rfl
theorem lines_brk (ws : List Nat) (cur : List UInt8) (hc : cur.length ≤ 2) (hw : ∀ k ∈ ws, 1 ≤ k ∧ k ≤ 6) (hne : ws ≠ []) : (linesAcc cur (gBrk ws)).length = ws.length ∧ ∀ x ∈ linesAcc cur (gBrk ws), x.length ≤ 8 := by
  induction ws generalizing cur with
  | nil => exact absurd rfl hne
  | cons k l ih =>
    have hk := hw k (by simp)
    cases l with
    | nil =>
      have e : linesAcc cur (gBrk [k]) = [cur ++ List.replicate k 119] := by
        have := lines_word k cur []
        rw [List.append_nil] at this
        rw [gBrk, this, linesAcc, if_neg]
        intro h
        have := congrArg List.length h
        simp at this
        omega
      rw [e]
      refine ⟨rfl, fun x hx => ?_⟩
      simp at hx; subst hx
      simp; omega
    | cons k2 l =>
      have e : linesAcc cur (gBrk (k :: k2 :: l)) = (cur ++ List.replicate k 119) :: linesAcc [32, 32] (gBrk (k2 :: l)) := by
        rw [gBrk, lines_word, linesAcc, if_pos rfl, linesAcc, if_neg (by decide), linesAcc, if_neg (by decide)]
        · rfl
        · simp
      have := ih [32, 32] (by simp) (fun x hx => hw x (by simp [hx])) (by simp)
      rw [e]
      refine ⟨by rw [List.length_cons, this.1]; rfl, fun x hx => ?_⟩
      rcases List.mem_cons.1 hx with rfl | hx
      · simp; omega
      · exact this.2 x hx
theorem longestFrom_le {L : List ByteArray} {m b : Nat} (hm : m ≤ b) (h : ∀ x ∈ L, x.size ≤ b) : longestFrom m L ≤ b := by
  induction L generalizing m with
  | nil => exact hm
  | cons x L ih =>
    unfold longestFrom
    rw [List.foldl_cons]
    exact ih (by have := h x (by simp); omega) (fun y hy => h y (by simp [hy]))
theorem brk_lines {ws : List Nat} (hw : ∀ k ∈ ws, 1 ≤ k ∧ k ≤ 6) (hne : ws ≠ []) : (linesOf ⟨(gBrk ws).toArray⟩).length = ws.length ∧ longest ⟨(gBrk ws).toArray⟩ ≤ 8 := by
  have e : (⟨(gBrk ws).toArray⟩ : ByteArray).data.toList = gBrk ws := by simp
  have h := lines_brk ws [] (by simp) hw hne
  unfold longest linesOf
  rw [e, List.length_map]
  refine ⟨h.1, longestFrom_le (by omega) fun x hx => ?_⟩
  obtain ⟨y, hy, rfl⟩ := List.mem_map.1 hx
  have := h.2 y hy
  show y.toArray.size ≤ 8
  simpa using this
/-! Sizes, and how the list grows. -/
theorem gFlat_len (ws : List Nat) (hw : ∀ k ∈ ws, k ≤ 6) : (gFlat ws).length + 1 ≤ 7 * ws.length + 1 ∧ (gBrk ws).length ≤ 9 * ws.length := by
  induction ws with
  | nil => simp [gFlat, gBrk]
  | cons k l ih =>
    have hk := hw k (by simp)
    have := ih fun x hx => hw x (by simp [hx])
    cases l with
    | nil => simp [gFlat, gBrk]; omega
    | cons k2 l =>
      rw [gFlat2, gBrk2]
      simp only [List.length_append, List.length_replicate, List.length_cons] at *
      omega
theorem gLeaf_snoc (ws : List Nat) (k : Nat) (h : ws ≠ []) : gLeaf (ws ++ [k]) = gLeaf ws ++ [lineN, textN k] := by
  induction ws with
  | nil => exact absurd rfl h
  | cons a l ih =>
    cases l with
    | nil => rfl
    | cons b l =>
      rw [List.cons_append, List.cons_append, gLeaf2, ← List.cons_append, ih (by simp), gLeaf2]
      rfl
theorem gFlat_snoc (ws : List Nat) (k : Nat) (h : ws ≠ []) : (gFlat (ws ++ [k])).length = (gFlat ws).length + 1 + k := by
  induction ws with
  | nil => exact absurd rfl h
  | cons a l ih =>
    cases l with
    | nil => simp [gFlat]; omega
    | cons b l =>
      rw [List.cons_append, List.cons_append, gFlat2, ← List.cons_append, List.length_append, List.length_cons, ih (by simp), gFlat2, List.length_append, List.length_cons]
      omega
theorem gLeaf_length (ws : List Nat) (h : ws ≠ []) : (gLeaf ws).length + 1 = 2 * ws.length := by
  induction ws with
  | nil => exact absurd rfl h
  | cons a l ih =>
    cases l with
    | nil => rfl
    | cons b l =>
      have := ih (by simp)
      rw [gLeaf2]
      simp only [List.length_cons] at *
      omega
theorem gLeaf_mem {ws : List Nat} {x : DNode} (h : x ∈ gLeaf ws) : x = lineN ∨ ∃ k ∈ ws, x = textN k := by
  induction ws with
  | nil => simp [gLeaf] at h
  | cons a l ih =>
    cases l with
    | nil => simp [gLeaf] at h; exact .inr ⟨a, by simp, h⟩
    | cons b l =>
      rw [gLeaf2] at h
      rcases List.mem_cons.1 h with rfl | h
      · exact .inr ⟨a, by simp, rfl⟩
      · rcases List.mem_cons.1 h with rfl | h
        · exact .inl rfl
        · rcases ih h with h | ⟨k, hk, h⟩
          · exact .inl h
          · exact .inr ⟨k, List.mem_cons_of_mem _ hk, h⟩
theorem gLeaf_kids {ws : List Nat} {x : DNode} (h : x ∈ gLeaf ws) : x.kids = [] := by
  rcases gLeaf_mem h with rfl | ⟨k, _, rfl⟩ <;> rfl
theorem gLeaf_le (ws : List Nat) : (gLeaf ws).length ≤ 2 * ws.length := by
  cases ws with
  | nil => simp [gLeaf]
  | cons a l => have := gLeaf_length (a :: l) (by simp); omega
theorem bulk_le {α : Type} {f : α → Nat} {l : List α} {c : Nat} (h : ∀ x ∈ l, f x ≤ c) : bulk f l ≤ l.length * (c + 1) := by
  induction l with
  | nil => simp [bulk]
  | cons x l ih =>
    have h1 := h x (List.mem_cons_self ..)
    have h2 := ih (fun y hy => h y (List.mem_cons_of_mem _ hy))
    simp only [bulk, List.map_cons, List.sum_cons, List.length_cons] at *
    rw [Nat.add_mul]
    omega
theorem gDoc_fine {ws : List Nat} (h : 2 ≤ ws.length ∧ ws.length ≤ 5) (hk : ∀ k ∈ ws, 1 ≤ k ∧ k ≤ 6) : (∀ x ∈ gDoc ws, x.Ok) ∧ bulk DNode.sizes (gDoc ws) ≤ 1048576 := by
  have hl := gLeaf_le ws
  have key : ∀ x ∈ gDoc ws, x.Ok ∧ x.sizes ≤ 20 := by
    intro x hx
    unfold gDoc at hx
    rcases List.mem_append.1 hx with hx | hx
    · rcases gLeaf_mem hx with rfl | ⟨k, hk2, rfl⟩
      · exact ⟨by unfold DNode.Ok I64 maxLen lineN; refine ⟨by show 0 ≤ _; omega, by simp only; omega, by simp only; omega, by simp, by simp⟩, by decide⟩
      · have := hk k hk2
        have hz : (textN k).text.size = k := wordB_size k
        refine ⟨⟨by rw [hz]; unfold maxLen; omega, by unfold I64; simp only [textN]; omega, by unfold I64; simp only [textN]; omega, by simp [textN], by simp [textN]⟩, ?_⟩
        unfold DNode.sizes
        rw [hz]; simp only [textN, List.length_nil]; omega
    · generalize (gLeaf ws).length = m at hx hl
      have hm : m ≤ 10 := by omega
      simp only [List.mem_cons, List.not_mem_nil, or_false] at hx
      rcases hx with rfl | rfl | rfl
      · refine ⟨⟨by show 0 ≤ _; omega, by unfold I64; simp only [gCat]; omega, by unfold I64; simp only [gCat]; omega, fun k hk => ?_, by unfold maxLen; simp [gCat]; omega⟩, by unfold DNode.sizes; simp [gCat]; show 0 + m ≤ 20; omega⟩
        simp [gCat] at hk
        obtain ⟨a, ha, rfl⟩ := hk
        unfold I64; omega
      · refine ⟨⟨by show 0 ≤ _; omega, by unfold I64; simp only [gNest]; omega, by unfold I64; simp only [gNest]; omega, fun k hk => ?_, by unfold maxLen; simp [gNest]⟩, by unfold DNode.sizes; simp only [gNest, List.length_singleton]; show 0 + 1 ≤ 20; omega⟩
        simp [gNest] at hk
        unfold I64; omega
      · refine ⟨⟨by show 0 ≤ _; omega, by unfold I64; simp only [gGroup]; omega, by unfold I64; simp only [gGroup]; omega, fun k hk => ?_, by unfold maxLen; simp [gGroup]⟩, by unfold DNode.sizes; simp only [gGroup, List.length_singleton]; show 0 + 1 ≤ 20; omega⟩
        simp [gGroup] at hk
        unfold I64; omega
  refine ⟨fun x hx => (key x hx).1, ?_⟩
  have h1 := bulk_le (f := DNode.sizes) fun x hx => (key x hx).2
  have h2 : (gDoc ws).length = (gLeaf ws).length + 3 := by unfold gDoc; rw [List.length_append]; rfl
  rw [h2] at h1
  omega
theorem wordB_succ (k : Nat) : wordB (k + 1) = wordB k ++ ⟨#[119]⟩ := by
  apply ByteArray.ext
  apply Array.toList_inj.1
  rw [wordB_list, List.replicate_succ']
  simp [wordB]
end Go.Proofs.YtfabfkaolnidiaaDoor
