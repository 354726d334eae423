/- Walks and lemmas of this seat (PDraw): what each theorem says of the functions that it names. Conditions: those that each theorem states. -/
import Derived.Test.YtkelhmgdajiocaaGreatDoorGA
namespace Go.Proofs.YtkelhmgdajiocaaGreatDoor
set_option linter.unusedVariables false
set_option linter.unusedSimpArgs false

/-! What a draw takes and makes: a tree of questions for bytes. -/
inductive Draw (α : Type) : Type where
  | ret (a : α) : Draw α
  | byte (k : Nat → Draw α) : Draw α
def Draw.bind {α β : Type} : Draw α → (α → Draw β) → Draw β
  | .ret a, f => f a
  | .byte k, f => .byte fun x => (k x).bind f
def Draw.run {α σ : Type} (next : σ → Nat × σ) : Draw α → σ → α × σ
  | .ret a, s => (a, s)
  | .byte k, s => (k (next s).1).run next (next s).2
theorem Draw.run_bind {α β σ : Type} (next : σ → Nat × σ) (t : Draw α) (f : α → Draw β) : ∀ s, (t.bind f).run next s = (f (t.run next s).1).run next (t.run next s).2 := by
  induction t with
  | ret a => intro s; rfl
  | byte k ih => intro s; exact ih _ _
/-- It takes no more than so many bytes, and what it makes is as P says. -/
def Draw.Le {α : Type} (P : α → Prop) : Draw α → Nat → Prop
  | .ret a, _ => P a
  | .byte _, 0 => False
  | .byte k, n + 1 => ∀ x, (k x).Le P n
theorem Draw.Le.mono {α : Type} {P Q : α → Prop} {t : Draw α} : ∀ {n m : Nat}, t.Le P n → n ≤ m → (∀ a, P a → Q a) → t.Le Q m := by
  induction t with
  | ret a => intro n m h _ hq; exact hq a h
  | byte k ih =>
    intro n m h hm hq
    cases n with
    | zero => exact absurd h (by simp [Draw.Le])
    | succ n =>
      obtain ⟨m, rfl⟩ : ∃ m', m = m' + 1 := ⟨m - 1, by omega⟩
      exact fun x => ih x (h x) (by omega) hq
theorem Draw.Le.bind {α β : Type} {P : α → Prop} {Q : β → Prop} {t : Draw α} {f : α → Draw β} {m : Nat} : ∀ {n : Nat}, t.Le P n → (∀ a, P a → (f a).Le Q m) → (t.bind f).Le Q (n + m) := by
  induction t with
  | ret a => intro n h hf; exact (hf a h).mono (by omega) (fun _ h => h)
  | byte k ih =>
    intro n h hf
    cases n with
    | zero => exact absurd h (by simp [Draw.Le])
    | succ n =>
      rw [show n + 1 + m = n + m + 1 by omega]
      exact fun x => ih x (h x) hf
/-- So many steps. -/
def iter {σ : Type} (f : σ → σ) : Nat → σ → σ
  | 0, s => s
  | n + 1, s => iter f n (f s)
theorem iter_add {σ : Type} (f : σ → σ) : ∀ (a b : Nat) (s : σ), iter f (a + b) s = iter f b (iter f a s) := by
  intro a
  induction a with
  | zero => intro b s; simp [iter]
  | succ a ih => intro b s; rw [show a + 1 + b = (a + b) + 1 by omega]; exact ih b _
theorem Draw.Le.run {α σ : Type} {P : α → Prop} (next : σ → Nat × σ) {t : Draw α} : ∀ {n : Nat} (s : σ), t.Le P n → P (t.run next s).1 ∧ ∃ k, k ≤ n ∧ (t.run next s).2 = iter (fun s => (next s).2) k s := by
  induction t with
  | ret a => intro n s h; exact ⟨h, 0, by omega, rfl⟩
  | byte k ih =>
    intro n s h
    cases n with
    | zero => exact absurd h (by simp [Draw.Le])
    | succ n =>
      obtain ⟨h1, j, hj, h2⟩ := ih _ (n := n) (next s).2 (h (next s).1)
      exact ⟨h1, j + 1, by omega, h2⟩
theorem Draw.run_sim {α σ τ : Type} (next : σ → Nat × σ) (next' : τ → Nat × τ) (φ : τ → σ) (h : ∀ t, next (φ t) = ((next' t).1, φ (next' t).2)) (t : Draw α) : ∀ s, t.run next (φ s) = ((t.run next' s).1, φ (t.run next' s).2) := by
  induction t with
  | ret a => intro s; rfl
  | byte k ih =>
    intro s
    show (k (next (φ s)).1).run next (next (φ s)).2 = _
    rw [h]
    exact ih _ _

/-! The numbers that follow from one another. -/
def lcStep (h : Nat) : Nat := (h * 6364136223846793005 + 1442695040888963407) % 18446744073709551616
def lcByte (h : Nat) : Nat := ((h >>> 33) ^^^ (h >>> 45)) &&& 255
def lcNext (h : Nat) : Nat × Nat := (lcByte (lcStep h), lcStep h)
/-- Where a cursor stands: its number, its place in the code. -/
structure DS where
  h : Nat
  i : Nat
def dNext (bs : List UInt8) (s : DS) : Nat × DS :=
  if s.i < bs.length then ((lcByte (lcStep s.h) + (bs.getD s.i 0).toNat) % 256, ⟨lcStep s.h, s.i + 1⟩) else (lcByte (lcStep s.h), ⟨lcStep s.h, s.i⟩)
theorem dNext_done (bs : List UInt8) (h : Nat) : dNext bs ⟨h, bs.length⟩ = ((lcNext h).1, ⟨(lcNext h).2, bs.length⟩) := by
  unfold dNext; rw [if_neg (by simp)]; rfl

/-! What is drawn, as the number of its nodes. -/
def skip {α : Type} (t : Draw α) : Draw α := .byte fun _ => t
def dLeaf : Draw Nat := .byte fun x => if x % 7 = 2 then skip (skip (.ret 1)) else skip (.ret 1)
def dLval (e1 e2 : Draw Nat) : Draw Nat := .byte fun x => if x % 4 = 0 then skip (e1.bind fun n => .ret (n + 1)) else if x % 4 = 1 then e2.bind fun n => .ret (n + 1) else skip (.ret 1)
/-- So many, their nodes together. -/
def dTimes (e : Draw Nat) : Nat → Nat → Draw Nat
  | 0, s => .ret s
  | n + 1, s => e.bind fun m => dTimes e n (s + m)
def dList (e : Draw Nat) (least span : Nat) : Draw Nat := .byte fun x => dTimes e (least + x % span) 0
def dStepE (e1 e2 e3 : Draw Nat) : Draw Nat := skip (.byte fun x =>
  if x % 16 = 0 then dLeaf
  else if x % 16 = 1 then dLval e1 e2
  else if x % 16 = 2 then e1.bind fun n => .ret (n + 1)
  else if x % 16 = 3 then skip ((dList e1 0 4).bind fun n => .ret (n + 1))
  else if x % 16 = 4 then skip ((dList e2 0 4).bind fun n => .ret (n + 1))
  else if x % 16 = 5 ∨ x % 16 = 6 then (dLval e2 e3).bind fun n => .ret (n + 1)
  else if x % 16 = 7 ∨ x % 16 = 8 then skip (e1.bind fun n => .ret (n + 1))
  else if x % 16 = 9 then skip ((dList e1 1 2).bind fun n => .ret (n + 1))
  else if x % 16 = 10 then e1.bind fun a => e1.bind fun b => e1.bind fun c => .ret (a + b + c + 1)
  else if x % 16 = 11 then skip ((dLval e2 e3).bind fun a => e1.bind fun b => .ret (a + b + 1))
  else skip (e1.bind fun a => e1.bind fun b => .ret (a + b + 1)))
def dExprs : Nat → Draw Nat × Draw Nat × Draw Nat
  | 0 => (dLeaf, dLeaf, dLeaf)
  | d + 1 => (dStepE (dExprs d).1 (dExprs d).2.1 (dExprs d).2.2, (dExprs d).1, (dExprs d).2.1)
def dExpr (d : Nat) : Draw Nat := (dExprs d).1
theorem dExpr_prev (d : Nat) : (dExprs d).2.1 = dExpr (d - 1) ∧ (dExprs d).2.2 = dExpr (d - 2) := by
  match d with
  | 0 => exact ⟨rfl, rfl⟩
  | 1 => exact ⟨rfl, rfl⟩
  | d + 2 => exact ⟨rfl, rfl⟩
theorem dExpr_succ (d : Nat) : dExpr (d + 1) = dStepE (dExpr d) (dExpr (d - 1)) (dExpr (d - 2)) := by
  have := dExpr_prev d
  rw [← this.1, ← this.2]; rfl
def dBlock (s : Draw Nat) : Draw Nat := .byte fun x => (dTimes s (x % 3) 0).bind fun n => .ret (n + 1)
def dMaybe (e : Draw Nat) : Draw Nat := .byte fun x => if x % 3 = 0 then .ret 1 else e
def dSimple (e e1 : Draw Nat) : Draw Nat := .byte fun x =>
  if x % 9 = 0 ∨ x % 9 = 1 then .byte fun o => (dList e (o % 2) (3 - o % 2 + 1)).bind fun n => .byte fun z => if z % 3 = 0 then skip (e1.bind fun m => .ret (n + m + 1)) else .ret (n + 1)
  else if x % 9 = 2 then skip (.ret 1)
  else if x % 9 = 3 then skip ((dList e 0 2).bind fun n => .ret (n + 1))
  else if x % 9 = 4 then skip ((dList e1 0 3).bind fun n => .ret (n + 1))
  else if x % 9 = 5 then .byte fun z => if z % 2 = 0 then skip (.ret 1) else e.bind fun n => .ret (n + 1)
  else e.bind fun n => .ret (n + 1)
def dSimpleAt (d : Nat) : Draw Nat := dSimple (dExpr (min d 2)) (dExpr (min d 2 - 1))
def dStmt : Nat → Draw Nat
  | 0 => dSimpleAt 0
  | d + 1 => .byte fun x => if x % 3 = 0 then .byte fun y =>
      if y % 6 = 0 then (dExpr 1).bind fun a => (dBlock (dStmt d)).bind fun b => .ret (a + b + 1)
      else if y % 6 = 1 then (dExpr 1).bind fun a => (dBlock (dStmt d)).bind fun b => (dBlock (dStmt d)).bind fun c => .ret (a + b + c + 1)
      else if y % 6 = 2 then (dExpr 1).bind fun a => (dBlock (dStmt d)).bind fun b => .ret (a + b + 1)
      else if y % 6 = 3 then (dBlock (dStmt d)).bind fun a => (dExpr 1).bind fun b => .ret (a + b + 1)
      else if y % 6 = 4 then (dMaybe (dExpr 2)).bind fun a => (dMaybe (dExpr 1)).bind fun b => (dMaybe (dExpr 1)).bind fun c => (dBlock (dStmt d)).bind fun e => .ret (a + b + c + e + 1)
      else .byte fun z => if z % 2 = 0 then dBlock (dStmt d) else skip (skip ((dBlock (dStmt d)).bind fun a => .ret (a + 1)))
    else dSimpleAt (d + 1)
def dItemAt (e b : Draw Nat) (k : Nat) : Draw Nat :=
  if k = 0 then skip (b.bind fun n => .ret (n + 1))
  else if k = 1 then e.bind fun n => .ret (n + 1)
  else if k = 2 then b.bind fun n => .ret (n + 1)
  else if k = 3 then (dExpr 1).bind fun n => (dExpr 1).bind fun m => .ret (n + m + 1)
  else if k = 4 then (dExpr 1).bind fun n => (dExpr 1).bind fun m => b.bind fun c => .ret (n + m + c + 1)
  else if k = 5 then .byte fun x => (dTimes (skip (.ret 1)) (x % 3) 0).bind fun n => skip (b.bind fun m => .ret (n + m + 1))
  else if k = 6 then skip (.ret 1)
  else e.bind fun n => b.bind fun m => .ret (n + m + 1)
def dItem : Draw Nat := .byte fun x => .byte fun y => dItemAt (dExpr (1 + x % 2)) (dBlock (dStmt (1 + x % 2))) (y % 8)
def dProg : Draw Nat := .byte fun x => (dTimes dItem (x % 4) 0).bind fun n => .ret (n + 1)
def dSome : Draw Nat := .byte fun x => dExpr (1 + x % 4)

/-! A draw over and over until it is small. -/
def tryAt (t : Draw Nat) (lim : Nat) : Nat → Nat → Bool
  | 0, _ => false
  | f + 1, h => match t.run lcNext h with | (n, h') => if n ≤ lim then true else tryAt t lim f h'
def chk (t : Draw Nat) (lim f : Nat) : Nat → Nat → Bool
  | 0, _ => true
  | n + 1, h => tryAt t lim f h && chk t lim f n (lcStep h)
end Go.Proofs.YtkelhmgdajiocaaGreatDoor
/- Walks and lemmas of this seat (PEnds): what each theorem says of the functions that it names. Conditions: those that each theorem states. -/
namespace Go.Proofs.YtkelhmgdajiocaaGreatDoor
set_option linter.unusedVariables false
set_option linter.unusedSimpArgs false

/-! Every draw over and over comes to an end: the numbers come by any number there is. -/
def lcG (x : Nat) : Nat := x * 6364136223846793005 + 1442695040888963407
theorem iter_succ {σ : Type} (f : σ → σ) (n : Nat) (s : σ) : iter f (n + 1) s = f (iter f n s) := by rw [iter_add]; rfl
theorem iter_zero {σ : Type} (f : σ → σ) (s : σ) : iter f 0 s = s := rfl
theorem iter_cons {σ : Type} (f : σ → σ) (n : Nat) (s : σ) : iter f (n + 1) s = iter f n (f s) := rfl
theorem lcG_pow (m : Nat) : ∃ a c : Nat, ∀ x, iter lcG (2 ^ m) x = x + 2 ^ m * (4 * (a * x) + (1 + 2 * c)) := by
  induction m with
  | zero => exact ⟨1591034055961698251, 721347520444481703, fun x => by show lcG x = _; unfold lcG; omega⟩
  | succ m ih =>
    obtain ⟨a, c, h⟩ := ih
    refine ⟨a + 2 * (2 ^ m * (a * a)), c + 2 ^ m * a + 2 * (2 ^ m * (a * c)), fun x => ?_⟩
    have e : (2 : Nat) ^ (m + 1) = 2 ^ m + 2 ^ m := by rw [Nat.pow_succ]; omega
    rw [e, iter_add, h, h]
    generalize 2 ^ m = p
    grind
theorem lcG_reach (x y : Nat) (m : Nat) : ∃ n, iter lcG n x % 2 ^ m = y % 2 ^ m := by
  induction m with
  | zero => exact ⟨0, by simp [Nat.mod_one]⟩
  | succ m ih =>
    obtain ⟨n, hn⟩ := ih
    obtain ⟨a, c, h⟩ := lcG_pow m
    have hp : 0 < 2 ^ m := Nat.two_pow_pos m
    have e : (2 : Nat) ^ (m + 1) = 2 ^ m * 2 := Nat.pow_succ ..
    by_cases hz : iter lcG n x % 2 ^ (m + 1) = y % 2 ^ (m + 1)
    · exact ⟨n, hz⟩
    · refine ⟨n + 2 ^ m, ?_⟩
      rw [iter_add, h]
      generalize iter lcG n x = z at *
      rw [e] at hz ⊢
      rw [Nat.mod_mul] at hz ⊢
      rw [Nat.mod_mul] at hz ⊢
      have h1 : (z + 2 ^ m * (4 * (a * z) + (1 + 2 * c))) % 2 ^ m = y % 2 ^ m := by rw [Nat.add_mul_mod_self_left]; exact hn
      rw [h1]
      congr 1
      have h2 : (z + 2 ^ m * (4 * (a * z) + (1 + 2 * c))) / 2 ^ m = z / 2 ^ m + (4 * (a * z) + (1 + 2 * c)) := Nat.add_mul_div_left _ _ hp
      rw [h2]
      rw [hn] at hz
      have h3 : ¬ z / 2 ^ m % 2 = y / 2 ^ m % 2 := fun e => hz (by rw [e])
      congr 1
      omega
theorem iter_mod (n x : Nat) : iter lcStep n x % 18446744073709551616 = iter lcG n x % 18446744073709551616 := by
  induction n with
  | zero => rw [iter_zero, iter_zero]
  | succ n ih =>
    rw [iter_succ, iter_succ]
    generalize iter lcStep n x = a at *
    generalize iter lcG n x = b at *
    unfold lcStep lcG
    rw [Nat.mod_mod, Nat.add_mod, Nat.mul_mod, ih, ← Nat.mul_mod, ← Nat.add_mod]
theorem lcStep_lt (n x : Nat) (hx : x < 18446744073709551616) : iter lcStep n x < 18446744073709551616 := by
  cases n with
  | zero => exact hx
  | succ n => rw [iter_succ]; exact Nat.mod_lt _ (by decide)
/-- THE LAW: from any number the numbers come to any other. -/
theorem lc_reach (x y : Nat) (hx : x < 18446744073709551616) (hy : y < 18446744073709551616) : ∃ n, iter lcStep n x = y := by
  obtain ⟨n, hn⟩ := lcG_reach x y 64
  refine ⟨n, ?_⟩
  have h1 := iter_mod n x
  have e : (2 : Nat) ^ 64 = 18446744073709551616 := by decide
  rw [e] at hn
  rw [hn, Nat.mod_eq_of_lt (lcStep_lt n x hx), Nat.mod_eq_of_lt hy] at h1
  exact h1
def adv (bs : List UInt8) (s : DS) : DS := (dNext bs s).2
theorem adv_eq (bs : List UInt8) (s : DS) (hi : s.i ≤ bs.length) : adv bs s = ⟨lcStep s.h, min (s.i + 1) bs.length⟩ := by
  unfold adv dNext
  split
  · rw [Nat.min_eq_left (by omega)]
  · rw [Nat.min_eq_right (by omega), show s.i = bs.length by omega]
theorem iter_adv (bs : List UInt8) : ∀ (n : Nat) (s : DS), s.i ≤ bs.length → iter (adv bs) n s = ⟨iter lcStep n s.h, min (s.i + n) bs.length⟩ := by
  intro n
  induction n with
  | zero => intro s hi; simp only [iter, Nat.add_zero]; rw [Nat.min_eq_left hi]
  | succ n ih =>
    intro s hi
    rw [iter_cons, adv_eq bs s hi, ih _ (by show min (s.i + 1) bs.length ≤ _; omega), iter_cons]
    congr 1
    show min (min (s.i + 1) bs.length + n) bs.length = _
    omega
theorem adv_reach (bs : List UInt8) (s : DS) (hi : s.i ≤ bs.length) (hh : s.h < 18446744073709551616) (y : Nat) (hy : y < 18446744073709551616) : ∃ n, iter (adv bs) n s = ⟨y, bs.length⟩ := by
  obtain ⟨n, hn⟩ := lc_reach (iter lcStep bs.length s.h) y (lcStep_lt _ _ hh) hy
  refine ⟨bs.length + n, ?_⟩
  rw [iter_adv bs _ s hi, iter_add, hn]
  congr 1
  omega
/-- One try. -/
def att (bs : List UInt8) (t : Draw Nat) (s : DS) : DS := (t.run (dNext bs) s).2
def Done (bs : List UInt8) (t : Draw Nat) (lim : Nat) (s : DS) : Prop := (t.run (dNext bs) s).1 ≤ lim
theorem tryAt_done {t : Draw Nat} {lim : Nat} (bs : List UInt8) : ∀ (f h : Nat), tryAt t lim f h = true → ∃ n, Done bs t lim (iter (att bs t) n ⟨h, bs.length⟩) := by
  intro f
  induction f with
  | zero => intro h hf; simp [tryAt] at hf
  | succ f ih =>
    intro h hf
    have hs := Draw.run_sim (dNext bs) lcNext (fun h => (⟨h, bs.length⟩ : DS)) (dNext_done bs) t h
    rw [tryAt] at hf
    by_cases hl : (t.run lcNext h).1 ≤ lim
    · refine ⟨0, ?_⟩
      show (t.run (dNext bs) ⟨h, bs.length⟩).1 ≤ lim
      rw [hs]; exact hl
    · have hf : tryAt t lim f (t.run lcNext h).2 = true := by
        generalize t.run lcNext h = r at hf hl
        obtain ⟨n, h'⟩ := r
        simp only at hf hl ⊢
        rwa [if_neg hl] at hf
      obtain ⟨n, hn⟩ := ih _ hf
      refine ⟨n + 1, ?_⟩
      rw [iter_cons]
      have e : att bs t ⟨h, bs.length⟩ = ⟨(t.run lcNext h).2, bs.length⟩ := by unfold att; rw [hs]
      rw [e]; exact hn
theorem chk_at {t : Draw Nat} {lim f : Nat} : ∀ (n h : Nat), chk t lim f n h = true → ∀ d, d < n → tryAt t lim f (iter lcStep d h) = true := by
  intro n
  induction n with
  | zero => intro h _ d hd; omega
  | succ n ih =>
    intro h hc d hd
    rw [chk, Bool.and_eq_true] at hc
    cases d with
    | zero => rw [iter_zero]; exact hc.1
    | succ d => rw [iter_cons]; exact ih _ hc.2 d (by omega)
/-- THE LAW: a draw over and over ends. -/
theorem draws_end {t : Draw Nat} {k : Nat → Draw Nat} (htk : t = .byte k) {N lim f h0 : Nat} (ht : t.Le (fun _ => True) N) (hh0 : h0 < 18446744073709551616) (hc : chk t lim f N h0 = true) (bs : List UInt8) (s : DS) (hi : s.i ≤ bs.length) (hh : s.h < 18446744073709551616) : ∃ n, Done bs t lim (iter (att bs t) n s) := by
  have hN : 0 < N := by
    cases N with
    | zero => rw [htk] at ht; exact absurd ht (by simp [Draw.Le])
    | succ N => omega
  have good : ∀ d, d < N → ∃ n, Done bs t lim (iter (att bs t) n (iter (adv bs) d ⟨h0, bs.length⟩)) := fun d hd => by
    rw [iter_adv bs d _ (Nat.le_refl _)]
    have : min (bs.length + d) bs.length = bs.length := by omega
    show ∃ n, Done bs t lim (iter (att bs t) n ⟨iter lcStep d h0, min (bs.length + d) bs.length⟩)
    rw [this]
    exact tryAt_done bs f _ (chk_at N h0 hc d hd)
  have step : ∀ s, ∃ k, 1 ≤ k ∧ k ≤ N ∧ att bs t s = iter (adv bs) k s := fun s => by
    obtain ⟨N', rfl⟩ : ∃ N', N = N' + 1 := ⟨N - 1, by omega⟩
    rw [htk] at ht
    obtain ⟨_, j, hj, h⟩ := (ht (dNext bs s).1).run (dNext bs) (dNext bs s).2
    refine ⟨j + 1, by omega, by omega, ?_⟩
    rw [htk]
    exact h
  obtain ⟨T, hT⟩ := adv_reach bs s hi hh h0 hh0
  clear hi hh
  induction T using Nat.strongRecOn generalizing s with
  | _ T ih =>
  cases hT0 : T with
  | zero =>
    subst hT0
    have := good 0 hN
    rw [← hT] at this
    exact this
  | succ T' =>
    obtain ⟨k, hk1, hkN, hks⟩ := step s
    have next : (∃ n, Done bs t lim (iter (att bs t) n (att bs t s))) → ∃ n, Done bs t lim (iter (att bs t) n s) := fun ⟨n, hn⟩ => ⟨n + 1, hn⟩
    apply next
    by_cases hkT : k ≤ T
    · refine ih (T - k) (by omega) (att bs t s) ?_
      rw [hks, ← iter_add, show k + (T - k) = T by omega, hT]
    · have e : att bs t s = iter (adv bs) (k - T) ⟨h0, bs.length⟩ := by
        rw [hks, ← hT, ← iter_add, show T + (k - T) = k by omega]
      rw [e]
      exact good _ (by omega)
end Go.Proofs.YtkelhmgdajiocaaGreatDoor
/- Walks and lemmas of this seat (PDrawN): what each theorem says of the functions that it names. Conditions: those that each theorem states. -/
namespace Go.Proofs.YtkelhmgdajiocaaGreatDoor
set_option linter.unusedVariables false
set_option linter.unusedSimpArgs false

/-! How many bytes the draws take at most, and how many nodes they make. -/
theorem le_ret {α : Type} {P : α → Prop} {a : α} (h : P a) (n : Nat) : (Draw.ret a).Le P n := h
theorem le_byte {α : Type} {P : α → Prop} {k : Nat → Draw α} {n : Nat} (h : ∀ x, (k x).Le P n) : (Draw.byte k).Le P (n + 1) := h
theorem le_skip {α : Type} {P : α → Prop} {t : Draw α} {n : Nat} (h : t.Le P n) : (skip t).Le P (n + 1) := fun _ => h
abbrev Draw.Lt (t : Draw Nat) (m b : Nat) : Prop := t.Le (fun n => n ≤ m) b
theorem lt_map {t : Draw Nat} {m b M : Nat} {f : Nat → Nat} (h : t.Lt m b) (hf : ∀ a, a ≤ m → f a ≤ M) : (t.bind fun n => .ret (f n)).Lt M b := by
  have := Draw.Le.bind (m := 0) (Q := fun n => n ≤ M) (f := fun n => Draw.ret (f n)) h fun a ha => hf a ha
  simpa using this
theorem lt_mono {t : Draw Nat} {m b M B : Nat} (h : t.Lt m b) (hm : m ≤ M) (hb : b ≤ B) : t.Lt M B := Draw.Le.mono h hb fun a ha => Nat.le_trans ha hm
theorem lt_bind {t : Draw Nat} {f : Nat → Draw Nat} {m b M c : Nat} (h : t.Lt m b) (hf : ∀ a, a ≤ m → (f a).Lt M c) : (t.bind f).Lt M (b + c) := Draw.Le.bind h hf
theorem lt_leaf : dLeaf.Lt 1 3 := by
  refine le_byte fun x => ?_
  split
  · exact le_skip (le_skip (le_ret (Nat.le_refl _) 0))
  · exact le_skip (le_ret (Nat.le_refl _) 1)
theorem lt_lval {e1 e2 : Draw Nat} {m b : Nat} (h1 : e1.Lt m b) (h2 : e2.Lt m b) : (dLval e1 e2).Lt (m + 1) (b + 2) := by
  refine le_byte fun x => ?_
  split
  · exact le_skip (lt_map h1 fun a ha => by omega)
  split
  · exact lt_mono (lt_map h2 fun a ha => show a + 1 ≤ m + 1 by omega) (Nat.le_refl _) (by omega)
  · exact lt_mono (le_skip (le_ret (P := fun n => n ≤ 1) (Nat.le_refl _) 0)) (by omega) (by omega)
theorem lt_times {e : Draw Nat} {m b : Nat} (h : e.Lt m b) : ∀ n s, (dTimes e n s).Lt (s + n * m) (n * b) := by
  intro n
  induction n with
  | zero => intro s; exact le_ret (by simp) _
  | succ n ih =>
    intro s
    have := lt_bind (f := fun k => dTimes e n (s + k)) (M := s + (n + 1) * m) (c := n * b) h fun a ha => lt_mono (ih (s + a)) (by rw [Nat.add_mul]; omega) (Nat.le_refl _)
    exact lt_mono this (Nat.le_refl _) (by rw [Nat.add_mul]; omega)
theorem lt_list {e : Draw Nat} {m b : Nat} (h : e.Lt m b) (least span K : Nat) (hs : 0 < span) (hK : least + span ≤ K + 1) : (dList e least span).Lt (K * m) (1 + K * b) := by
  refine lt_mono (b := K * b + 1) (le_byte fun x => ?_) (Nat.le_refl _) (by omega)
  have hx := Nat.mod_lt x hs
  have hn : least + x % span ≤ K := by omega
  exact lt_mono (lt_times h _ 0) (by rw [Nat.zero_add]; exact Nat.mul_le_mul_right m hn) (Nat.mul_le_mul_right b hn)
theorem lt_stepE {e1 e2 e3 : Draw Nat} {m b : Nat} (h1 : e1.Lt m b) (h2 : e2.Lt m b) (h3 : e3.Lt m b) (hm : 1 ≤ m) (hb : 3 ≤ b) : (dStepE e1 e2 e3).Lt (3 * m + 1) (4 + 3 * b) := by
  refine lt_mono (m := 3 * m + 1) (b := (2 + 3 * b) + 1 + 1) (le_skip (le_byte fun x => ?_)) (Nat.le_refl _) (by omega)
  have l1 := lt_list h1 0 4 3 (by omega) (by omega)
  have l2 := lt_list h2 0 4 3 (by omega) (by omega)
  have l9 := lt_list h1 1 2 2 (by omega) (by omega)
  split
  · exact lt_mono lt_leaf (by omega) (by omega)
  split
  · exact lt_mono (lt_lval h1 h2) (by omega) (by omega)
  split
  · exact lt_mono (lt_map h1 fun a ha => show a + 1 ≤ m + 1 by omega) (by omega) (by omega)
  split
  · exact lt_mono (le_skip (lt_map l1 fun a ha => show a + 1 ≤ 3 * m + 1 by omega)) (by omega) (by omega)
  split
  · exact lt_mono (le_skip (lt_map l2 fun a ha => show a + 1 ≤ 3 * m + 1 by omega)) (by omega) (by omega)
  split
  · exact lt_mono (lt_map (lt_lval h2 h3) fun a ha => show a + 1 ≤ m + 2 by omega) (by omega) (by omega)
  split
  · exact lt_mono (le_skip (lt_map h1 fun a ha => show a + 1 ≤ m + 1 by omega)) (by omega) (by omega)
  split
  · exact lt_mono (le_skip (lt_map l9 fun a ha => show a + 1 ≤ 2 * m + 1 by omega)) (by omega) (by omega)
  split
  · exact lt_mono (lt_bind h1 fun a ha => lt_bind h1 fun c hc => lt_map h1 fun d hd => show a + c + d + 1 ≤ 3 * m + 1 by omega) (by omega) (by omega)
  split
  · exact lt_mono (le_skip (lt_bind (lt_lval h2 h3) fun a ha => lt_map h1 fun d hd => show a + d + 1 ≤ 2 * m + 2 by omega)) (by omega) (by omega)
  · exact lt_mono (le_skip (lt_bind h1 fun a ha => lt_map h1 fun d hd => show a + d + 1 ≤ 2 * m + 1 by omega)) (by omega) (by omega)
def mE : Nat → Nat | 0 => 1 | d + 1 => 3 * mE d + 1
def bE : Nat → Nat | 0 => 3 | d + 1 => 4 + 3 * bE d
theorem mE_pos (d : Nat) : 1 ≤ mE d ∧ 3 ≤ bE d := by
  induction d with
  | zero => exact ⟨by simp [mE], by simp [bE]⟩
  | succ d ih => simp only [mE, bE]; omega
theorem lt_exprs (d : Nat) : (dExprs d).1.Lt (mE d) (bE d) ∧ (dExprs d).2.1.Lt (mE d) (bE d) ∧ (dExprs d).2.2.Lt (mE d) (bE d) := by
  induction d with
  | zero => exact ⟨lt_leaf, lt_leaf, lt_leaf⟩
  | succ d ih =>
    have hp := mE_pos d
    refine ⟨lt_stepE ih.1 ih.2.1 ih.2.2 hp.1 hp.2, lt_mono ih.1 ?_ ?_, lt_mono ih.2.1 ?_ ?_⟩ <;> simp only [mE, bE] <;> omega
theorem lt_expr (d : Nat) : (dExpr d).Lt (mE d) (bE d) := (lt_exprs d).1
theorem lt_expr1 (d : Nat) : (dExpr (d - 1)).Lt (mE d) (bE d) := by rw [← (dExpr_prev d).1]; exact (lt_exprs d).2.1
theorem lt_block {s : Draw Nat} {m b : Nat} (h : s.Lt m b) : (dBlock s).Lt (2 * m + 1) (2 * b + 1) := by
  refine le_byte fun x => ?_
  have hx := Nat.mod_lt x (show 0 < 3 by omega)
  have := lt_times h (x % 3) 0
  refine lt_mono (lt_map (M := x % 3 * m + 1) this fun a ha => by omega) ?_ ?_
  · have := Nat.mul_le_mul_right m (show x % 3 ≤ 2 by omega); omega
  · exact Nat.mul_le_mul_right b (show x % 3 ≤ 2 by omega)
theorem lt_maybe {e : Draw Nat} {m b : Nat} (h : e.Lt m b) (hm : 1 ≤ m) : (dMaybe e).Lt m (b + 1) := by
  refine le_byte fun x => ?_
  split
  · exact le_ret hm b
  · exact h
theorem lt_simple {e e1 : Draw Nat} {m b : Nat} (h : e.Lt m b) (h1 : e1.Lt m b) (hm : 1 ≤ m) : (dSimple e e1).Lt (4 * m + 1) (4 * b + 5) := by
  refine lt_mono (b := 4 * b + 4 + 1) (le_byte fun x => ?_) (Nat.le_refl _) (by omega)
  have l3 := lt_list h 0 2 1 (by omega) (by omega)
  have l4 := lt_list h1 0 3 2 (by omega) (by omega)
  split
  · refine lt_mono (b := 4 * b + 3 + 1) (le_byte fun o => ?_) (Nat.le_refl _) (by omega)
    have ho := Nat.mod_lt o (show 0 < 2 by omega)
    have l0 := lt_list h (o % 2) (3 - o % 2 + 1) 3 (by omega) (by omega)
    refine lt_mono (lt_bind (c := b + 1 + 1) l0 fun a ha => le_byte fun z => ?_) (Nat.le_refl _) (by omega)
    split
    · exact le_skip (lt_map h1 fun c hc => by omega)
    · exact le_ret (by omega) (b + 1)
  split
  · exact lt_mono (le_skip (le_ret (P := fun n => n ≤ 1) (Nat.le_refl _) 0)) (by omega) (by omega)
  split
  · exact lt_mono (le_skip (lt_map l3 fun a ha => show a + 1 ≤ m + 1 by omega)) (by omega) (by omega)
  split
  · exact lt_mono (le_skip (lt_map l4 fun a ha => show a + 1 ≤ 2 * m + 1 by omega)) (by omega) (by omega)
  split
  · refine lt_mono (b := 4 * b + 3 + 1) (le_byte fun z => ?_) (Nat.le_refl _) (by omega)
    split
    · exact lt_mono (le_skip (le_ret (P := fun n => n ≤ 1) (Nat.le_refl _) 0)) (by omega) (by omega)
    · exact lt_mono (lt_map h fun a ha => show a + 1 ≤ m + 1 by omega) (by omega) (by omega)
  · exact lt_mono (lt_map h fun a ha => show a + 1 ≤ m + 1 by omega) (by omega) (by omega)
theorem lt_simpleAt (d : Nat) : (dSimpleAt d).Lt (4 * mE (min d 2) + 1) (4 * bE (min d 2) + 5) := lt_simple (lt_expr _) (lt_expr1 _) (mE_pos _).1
theorem lt_stmt1 {d m b : Nat} (h : (dStmt d).Lt m b) (hs : 4 * mE (min (d + 1) 2) + 1 ≤ 2 * (2 * m + 1) + 22) (hs2 : 4 * bE (min (d + 1) 2) + 5 ≤ 2 * (2 * b + 1) + 73) : (dStmt (d + 1)).Lt (2 * (2 * m + 1) + 22) (2 * (2 * b + 1) + 74) := by
  have hb := lt_block h
  have e1 := lt_expr 1
  have m2 := lt_maybe (lt_expr 2) (mE_pos 2).1
  have m1 := lt_maybe (lt_expr 1) (mE_pos 1).1
  have q1 : mE 1 = 4 := rfl
  have q2 : bE 1 = 13 := rfl
  have q3 : mE 2 = 13 := rfl
  have q4 : bE 2 = 43 := rfl
  rw [q1, q2] at e1 m1
  rw [q3, q4] at m2
  unfold dStmt
  refine lt_mono (b := 2 * (2 * b + 1) + 73 + 1) (le_byte fun x => ?_) (Nat.le_refl _) (by omega)
  split
  · refine lt_mono (b := 2 * (2 * b + 1) + 72 + 1) (le_byte fun y => ?_) (Nat.le_refl _) (by omega)
    split
    · exact lt_mono (lt_bind e1 fun a ha => lt_map hb fun c hc => show a + c + 1 ≤ 2 * m + 6 by omega) (by omega) (by omega)
    split
    · exact lt_mono (lt_bind e1 fun a ha => lt_bind hb fun c hc => lt_map hb fun z hz => show a + c + z + 1 ≤ 4 * m + 7 by omega) (by omega) (by omega)
    split
    · exact lt_mono (lt_bind e1 fun a ha => lt_map hb fun c hc => show a + c + 1 ≤ 2 * m + 6 by omega) (by omega) (by omega)
    split
    · exact lt_mono (lt_bind hb fun a ha => lt_map e1 fun c hc => show a + c + 1 ≤ 2 * m + 6 by omega) (by omega) (by omega)
    split
    · exact lt_mono (lt_bind m2 fun a ha => lt_bind m1 fun c hc => lt_bind m1 fun z hz => lt_map hb fun u hu => show a + c + z + u + 1 ≤ 2 * m + 23 by omega) (by omega) (by omega)
    · refine lt_mono (b := 2 * (2 * b + 1) + 71 + 1) (le_byte fun z => ?_) (Nat.le_refl _) (by omega)
      split
      · exact lt_mono hb (by omega) (by omega)
      · exact lt_mono (le_skip (le_skip (lt_map hb fun c hc => show c + 1 ≤ 2 * m + 2 by omega))) (by omega) (by omega)
  · exact lt_mono (lt_simpleAt (d + 1)) hs hs2
theorem lt_stmt : (dStmt 0).Lt 5 17 ∧ (dStmt 1).Lt 44 144 ∧ (dStmt 2).Lt 200 652 := by
  have h0 : (dStmt 0).Lt 5 17 := lt_simpleAt 0
  have h1 : (dStmt 1).Lt 44 144 := lt_stmt1 h0 (by decide) (by decide)
  have h2 : (dStmt 2).Lt 200 652 := lt_stmt1 h1 (by decide) (by decide)
  exact ⟨h0, h1, h2⟩
theorem lt_blocks (d : Nat) (h : d = 1 ∨ d = 2) : (dBlock (dStmt d)).Lt 401 1305 := by
  rcases h with rfl | rfl
  · exact lt_mono (lt_block lt_stmt.2.1) (by omega) (by omega)
  · exact lt_block lt_stmt.2.2
theorem lt_itemAt {e b : Draw Nat} (he : e.Lt 13 43) (hb : b.Lt 401 1305) (k : Nat) : (dItemAt e b k).Lt 420 1360 := by
  have e1 := lt_expr 1
  have q1 : mE 1 = 4 := rfl
  have q2 : bE 1 = 13 := rfl
  rw [q1, q2] at e1
  unfold dItemAt
  split
  · exact lt_mono (le_skip (lt_map hb fun a ha => show a + 1 ≤ 402 by omega)) (by omega) (by omega)
  split
  · exact lt_mono (lt_map he fun a ha => show a + 1 ≤ 402 by omega) (by omega) (by omega)
  split
  · exact lt_mono (lt_map hb fun a ha => show a + 1 ≤ 402 by omega) (by omega) (by omega)
  split
  · exact lt_mono (lt_bind e1 fun a ha => lt_map e1 fun c hc => show a + c + 1 ≤ 402 by omega) (by omega) (by omega)
  split
  · exact lt_mono (lt_bind e1 fun a ha => lt_bind e1 fun c hc => lt_map hb fun z hz => show a + c + z + 1 ≤ 410 by omega) (by omega) (by omega)
  split
  · refine lt_mono (b := 1310 + 1) (le_byte fun x => ?_) (Nat.le_refl _) (by omega)
    have hx := Nat.mod_lt x (show 0 < 3 by omega)
    have ht := lt_times (e := skip (.ret 1)) (m := 1) (b := 1) (le_skip (le_ret (Nat.le_refl _) 0)) (x % 3) 0
    refine lt_mono (lt_bind ht fun a ha => le_skip (lt_map hb fun c hc => show a + c + 1 ≤ 404 by omega)) (by omega) (by omega)
  split
  · exact lt_mono (le_skip (le_ret (P := fun n => n ≤ 1) (Nat.le_refl _) 0)) (by omega) (by omega)
  · exact lt_mono (lt_bind he fun a ha => lt_map hb fun c hc => show a + c + 1 ≤ 415 by omega) (by omega) (by omega)
theorem lt_item : dItem.Lt 420 1362 := by
  refine le_byte fun x => le_byte fun y => ?_
  have hx : 1 + x % 2 = 1 ∨ 1 + x % 2 = 2 := by omega
  refine lt_itemAt ?_ (lt_blocks _ hx) _
  rcases hx with h | h <;> rw [h]
  · exact lt_mono (lt_expr 1) (by decide) (by decide)
  · exact lt_mono (lt_expr 2) (by decide) (by decide)
theorem lt_prog : dProg.Lt 1261 4087 := by
  refine le_byte fun x => ?_
  have hx := Nat.mod_lt x (show 0 < 4 by omega)
  refine lt_mono (lt_map (M := x % 4 * 420 + 1) (lt_times lt_item (x % 4) 0) fun a ha => by omega) (by omega) (by omega)
theorem lt_some : dSome.Lt 121 404 := by
  refine le_byte fun x => ?_
  have hx := Nat.mod_lt x (show 0 < 4 by omega)
  obtain h | h | h | h : 1 + x % 4 = 1 ∨ 1 + x % 4 = 2 ∨ 1 + x % 4 = 3 ∨ 1 + x % 4 = 4 := by omega
  all_goals rw [h]
  · exact lt_mono (lt_expr 1) (by decide) (by decide)
  · exact lt_mono (lt_expr 2) (by decide) (by decide)
  · exact lt_mono (lt_expr 3) (by decide) (by decide)
  · exact lt_mono (lt_expr 4) (by decide) (by decide)
set_option maxRecDepth 1000000
theorem chk_some : chk dSome 60 50 404 1 = true := by decide +kernel
theorem chk_prog : chk dProg 220 50 4087 1 = true := by decide +kernel
theorem some_ends (bs : List UInt8) (s : DS) (hi : s.i ≤ bs.length) (hh : s.h < 18446744073709551616) : ∃ n, Done bs dSome 60 (iter (att bs dSome) n s) :=
  draws_end rfl (lt_some.mono (Nat.le_refl _) fun _ _ => trivial) (by decide) chk_some bs s hi hh
theorem prog_ends (bs : List UInt8) (s : DS) (hi : s.i ≤ bs.length) (hh : s.h < 18446744073709551616) : ∃ n, Done bs dProg 220 (iter (att bs dProg) n s) :=
  draws_end rfl (lt_prog.mono (Nat.le_refl _) fun _ _ => trivial) (by decide) chk_prog bs s hi hh
/-- How many tries are still to come. -/
noncomputable def tries (bs : List UInt8) (t : Draw Nat) (lim : Nat) (s : DS) : Nat := by
  classical
  exact if h : ∃ n, Done bs t lim (iter (att bs t) n s) ∧ ∀ m, m < n → ¬ Done bs t lim (iter (att bs t) m s) then Classical.choose h else 0
theorem least_of {p : Nat → Prop} (h : ∃ n, p n) : ∃ n, p n ∧ ∀ m, m < n → ¬ p m := by
  obtain ⟨n, hn⟩ := h
  induction n using Nat.strongRecOn with
  | _ n ih =>
    by_cases h : ∃ m, m < n ∧ p m
    · obtain ⟨m, hm, hp⟩ := h
      exact ih m hm hp
    · exact ⟨n, hn, fun m hm hp => h ⟨m, hm, hp⟩⟩
theorem tries_next {bs : List UInt8} {t : Draw Nat} {lim : Nat} {s : DS} (h : ∃ n, Done bs t lim (iter (att bs t) n s)) (hn : ¬ Done bs t lim s) : (∃ n, Done bs t lim (iter (att bs t) n (att bs t s))) ∧ tries bs t lim (att bs t s) < tries bs t lim s := by
  have h1 := least_of h
  have e1 : tries bs t lim s = Classical.choose h1 := by unfold tries; rw [dif_pos h1]
  have c1 := Classical.choose_spec h1
  rw [← e1] at c1
  generalize tries bs t lim s = a at c1 ⊢
  cases a with
  | zero => exact absurd c1.1 hn
  | succ a =>
    have h2 : ∃ n, Done bs t lim (iter (att bs t) n (att bs t s)) := ⟨a, c1.1⟩
    refine ⟨h2, ?_⟩
    have h3 := least_of h2
    have e2 : tries bs t lim (att bs t s) = Classical.choose h3 := by unfold tries; rw [dif_pos h3]
    have c2 := Classical.choose_spec h3
    rw [← e2] at c2
    by_cases hl : tries bs t lim (att bs t s) < a + 1
    · exact hl
    · exact absurd c1.1 (c2.2 a (by omega))
end Go.Proofs.YtkelhmgdajiocaaGreatDoor
