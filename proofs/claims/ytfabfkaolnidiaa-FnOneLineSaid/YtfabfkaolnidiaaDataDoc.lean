/- Walks and lemmas of this seat (DataDoc): what each theorem says of the functions that it names. Conditions: those that each theorem states. -/
import Derived.Test.YtfabfkaolnidiaaFFlatP
import Derived.Test.YtfabfkaolnidiaaGD
namespace Go.Proofs.Ytfabfkaolnidiaa
set_option linter.unusedVariables false
set_option linter.unusedSimpArgs false
open Go.RowKit

theorem Doc.mk_eta (t : Doc) : t = .mk t.kind t.n t.text t.kids t.group := by cases t; rfl
/-- The kids' slice kv of a document, in blocks of S. -/
inductive DocIs (S : Nat → Prop) (w : World) : Doc → Value → Prop
  | mk {kind n group : Int} {text : ByteArray} {q : List (Doc × Value)} {kv : Value} (h1 : SlcS S w kv 5 q.length (q.flatMap Doc.cells)) (h2 : ∀ p ∈ q, DocIs S w p.1 p.2) : DocIs S w (.mk kind n text (q.map Prod.fst) group) kv
theorem DocIs.open {S : Nat → Prop} {w : World} {t : Doc} {kv : Value} (h : DocIs S w t kv) : ∃ q : List (Doc × Value), q.map Prod.fst = t.kids ∧ SlcS S w kv 5 q.length (q.flatMap Doc.cells) ∧ ∀ p ∈ q, DocIs S w p.1 p.2 := by
  cases h with
  | mk h1 h2 => exact ⟨_, rfl, h1, h2⟩
theorem DocIs.shape {S : Nat → Prop} {w : World} {t : Doc} {kv : Value} (h : DocIs S w t kv) : ∃ a n cap, kv = .slice a n cap := by
  obtain ⟨_, _, ⟨_, a, cap, e, _⟩, _⟩ := h.open
  exact ⟨a, _, cap, e⟩
theorem DocIs.close {S : Nat → Prop} {w : World} {t : Doc} {kv : Value} {q : List (Doc × Value)} (hq : q.map Prod.fst = t.kids) (h1 : SlcS S w kv 5 q.length (q.flatMap Doc.cells)) (h2 : ∀ p ∈ q, DocIs S w p.1 p.2) : DocIs S w t kv := by
  rw [t.mk_eta, ← hq]
  exact .mk h1 h2
theorem DocIs.keep {S S' : Nat → Prop} {w w' : World} {t : Doc} {v : Value} (h : DocIs S w t v) (hk : ∀ b, S b → b < w.heap.size → w'.heap[b]? = w.heap[b]? ∧ S' b) : DocIs S' w' t v := by
  induction h with
  | mk h1 _ ih => exact .mk (h1.keep (by decide) hk) fun p hp => ih p hp
theorem DocIs.mono {S : Nat → Prop} {B : Nat} {w w' : World} {t : Doc} {v : Value} (h : DocIs S w t v) (hb : Below B w w') (hB : w.heap.size ≤ B) : DocIs S w' t v :=
  h.keep fun b hS hlt => ⟨hb.block b (Nat.lt_of_lt_of_le hlt hB), hS⟩
end Go.Proofs.Ytfabfkaolnidiaa
