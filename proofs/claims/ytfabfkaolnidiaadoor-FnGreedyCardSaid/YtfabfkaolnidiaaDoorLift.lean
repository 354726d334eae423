/- From a walk to the row: how arguments that read as data are opened, and the row's post out of 'Below'. -/
import Derived.Test.YtfabfkaolnidiaaDoorBase
import Derived.Carry
import Derived.OpenShut
import Derived.Deep.Slices
namespace Go.Proofs.YtfabfkaolnidiaaDoor
set_option linter.unusedVariables false
set_option linter.unusedSimpArgs false
open Go.ChangeShapes Go.WideShapes Go.ChangeAt Go.RowKit

theorem I64.of_wf {n : Int} (h : (Lit.int .i64 n).wf = true) : I64 n := by
  have := bounds_i64 h
  unfold I64
  omega

theorem list_of_lt {α : Type} {p : Nat → α → Prop} : ∀ (n : Nat), (∀ i, i < n → ∃ x, p i x) → ∃ l : List α, l.length = n ∧ ∀ i x, l[i]? = some x → p i x := by
  intro n
  induction n with
  | zero => intro _; exact ⟨[], rfl, fun i x h => by simp at h⟩
  | succ n ih =>
    intro h
    obtain ⟨l, hl, hp⟩ := ih fun i hi => h i (by omega)
    obtain ⟨x, hx⟩ := h n (by omega)
    refine ⟨l ++ [x], by simp [hl], fun i y hy => ?_⟩
    by_cases hi : i < l.length
    · rw [List.getElem?_append_left hi] at hy; exact hp i y hy
    · rw [List.getElem?_append_right (by omega)] at hy
      have : i - l.length = 0 := by
        have := (List.getElem?_eq_some_iff.1 hy).1
        simp at this; omega
      rw [this] at hy
      simp at hy
      subst hy
      have : i = n := by omega
      subst this
      exact hx

section
variable {H : Type} {enc : TypeId × Value → H} {P : Program} {w : World} {spare : Nat → Bool}

theorem open_rows {α : Type} {f : α → List Value} {s : Nat} {Q : α → Prop} (hf : ∀ x, (f x).length = s) (hs : 0 < s) {t e : TypeId} (ht : P.underlying t = some (.slice e)) (hC : P.cellsOf e = s)
    (hop : ∀ cs n y, DataW.trod enc P w 0 spare true n e cs = some y → ∃ x, cs = f x ∧ Q x)
    {v : Value} {d : DataW H} {ps : List MemPlace} (hv : ∃ a len cap, v = .slice a len cap) (h : DataW.Trod enc P w 0 spare true t v d ps) :
    ∃ l : List α, Slc w v s l.length (l.flatMap f) ∧ ∀ x ∈ l, Q x := by
  obtain ⟨a0, len0, cap0, rfl⟩ := hv
  obtain ⟨fuel, h⟩ := h
  simp only [Value.cells] at h
  rcases DataW.trod_slice ht h with ⟨h0, _⟩ | ⟨a, len, cap, elems, rest, n, _, h0, _, _, hl, hm, hlen, hel, _, _⟩
  · simp at h0
    obtain ⟨rfl, rfl, rfl⟩ := h0
    exact ⟨[], ⟨by simp, none, 0, rfl, Nat.le_refl _, by unfold maxLen; omega, .inl rfl⟩, by simp⟩
  · simp at h0
    obtain ⟨rfl, rfl, rfl⟩ := h0
    rw [hC] at hel
    have each : ∀ i, i < len0 → ∃ x : α, w.cells? 0 (a.add (i * s)) s = some (f x) ∧ Q x := by
      intro i hi
      have h1 := hel i hi
      rw [List.getElem?_eq_getElem (by omega)] at h1
      obtain ⟨cs, h2, h3⟩ := Option.bind_eq_some_iff.1 h1
      obtain ⟨x, rfl, hq⟩ := hop cs n _ h3
      exact ⟨x, h2, hq⟩
    obtain ⟨l, hll, hp⟩ := list_of_lt len0 each
    subst hll
    refine ⟨l, ⟨flat_len f s hf l, some a, cap0, rfl, hl, hm, ?_⟩, fun x hx => ?_⟩
    · by_cases hz : l.length = 0
      · exact .inl hz
      · right
        have cell : ∀ i x j u, l[i]? = some x → (f x)[j]? = some u → w.cell? (a.add (i * s + j)) = some u := by
          intro i x j u hi hu
          obtain ⟨hc, _⟩ := hp i x hi
          obtain ⟨_, _, h3⟩ := World.cells?_some hc
          have hj : j < s := by rw [← hf x]; exact (List.getElem?_eq_some_iff.1 hu).1
          have := h3 j hj
          rw [Deep.add_add] at this
          rw [this, hu]
        obtain ⟨x0, hx0⟩ := get_of_lt (l := l) (k := 0) (by omega)
        have hspot : a.spot = none := by
          have hu : (f x0)[0]? = some ((f x0)[0]'(by rw [hf]; exact hs)) := List.getElem?_eq_getElem (by rw [hf]; exact hs)
          have h1 := cell 0 x0 0 _ hx0 hu
          have h2 : a.add (0 * s + 0) = a := by unfold Addr.add; simp
          rw [h2] at h1
          unfold World.cell? at h1
          split at h1
          · split at h1
            · cases h1
            · rename_i hs'; simpa using hs'
          · cases h1
        refine ⟨a.block, a.off, ?_, fun j u hj => ?_⟩
        · cases a; simp at hspot; simp [hspot]
        · have hjl : j < l.length * s := by rw [← flat_len f s hf l]; exact (List.getElem?_eq_some_iff.1 hj).1
          have hi : j / s < l.length := Nat.div_lt_of_lt_mul (by rw [Nat.mul_comm]; exact hjl)
          obtain ⟨x, hx⟩ := get_of_lt hi
          have hjs : j % s < (f x).length := by rw [hf]; exact Nat.mod_lt _ hs
          have hu : (f x)[j % s]? = some ((f x)[j % s]) := List.getElem?_eq_getElem hjs
          have h1 := flat_get f s hf l (j / s) (j % s) x _ hx hu
          have hjj : j / s * s + j % s = j := by rw [Nat.mul_comm]; exact Nat.div_add_mod j s
          rw [hjj, hj] at h1
          have h2 := cell (j / s) x (j % s) _ hx hu
          rw [hjj, ← h1] at h2
          have h3 : a.add j = ⟨a.block, a.off + j, none⟩ := by
            unfold Addr.add
            split
            · rename_i h0; subst h0; cases a; simp at hspot; simp [hspot]
            · rfl
          rw [h3] at h2
          exact h2
    · obtain ⟨i, hi⟩ := List.getElem?_of_mem hx
      exact (hp i x hi).2

theorem trodAll_below (hl : laidOutB P = true) {W W' : World} (hb : Below W.heap.size W W') : ∀ (ts : List TypeId) (vs : List Value) (ds : List (DataW H)) (ps : List MemPlace),
    (∀ t ∈ ts, P.readableRec t = true ∧ t < P.types.size) → DataW.TrodAll enc P W 0 (fun _ => true) true ts vs ds ps → (∀ x ∈ ps, x.block < W.heap.size) →
    DataW.TrodAll enc P W' 0 (fun b => decide (b < W.heap.size)) true ts vs ds ps := by
  intro ts
  induction ts with
  | nil => intro vs ds ps _ h _; cases vs <;> cases ds <;> first | exact h | exact (h : False).elim
  | cons t ts ih =>
    intro vs ds ps ht h hlt
    cases vs with
    | nil => cases ds <;> exact (h : False).elim
    | cons v vs =>
      cases ds with
      | nil => exact (h : False).elim
      | cons d ds =>
        obtain ⟨p, q, h1, h2, rfl⟩ := h
        obtain ⟨hr, hs⟩ := ht t (by simp)
        exact ⟨p, q, Below.trod hl hr hs h1 hb (fun x hx => hlt x (by simp [hx])), ih vs ds q (fun t ht' => ht t (by simp [ht'])) h2 (fun x hx => hlt x (by simp [hx])), rfl⟩

/-- The row's post of a law: true, and its arguments as they were. -/
theorem law_post {f : Func} {s : ChangeSpec} {W W' : World} {args : Array Value} {ds : List (DataW H)} {before : List MemPlace} {T : TypeId}
    (hW : DataW.Whole enc P f.params.toList s.vars false W args.toList ds [] before)
    (hA : DataW.TrodAll enc P W 0 (fun _ => true) true f.params.toList args.toList ds before)
    (hs : s.vars = []) (hfn : s.fn H (ds ++ []) = { results := [.lit (.bool true)], args := ds }) (hT : f.resultTypes = #[T]) (hu : P.underlying T = some .bool)
    (hl : laidOutB P = true) (hr : ∀ t ∈ f.params.toList, P.readableRec t = true ∧ t < P.types.size) (hb : Below W.heap.size W W') :
    s.post enc P f false true false false W args (.bool true) W' := by
  have hlt : ∀ p ∈ before, p.block < W.heap.size := fun p hp => hW.lt p hp
  refine ⟨ds, [], before, [], before, [], hW, ?_, ?_, ?_, hb.frame _, fun h => by cases h⟩
  · rw [hfn, hT]
    exact ⟨[], [], shut_bool hu true, rfl, rfl⟩
  · rw [hfn]
    exact trodAll_below hl hb _ _ _ _ hr hA hlt
  · rw [hfn, hs]
    exact rfl
end
end Go.Proofs.YtfabfkaolnidiaaDoor
