/- Walks and lemmas of this seat (HMark): what each theorem says of the functions that it names. Conditions: those that each theorem states. -/
import Derived.Test.YtfabfkaolnidiaaRows
import Derived.Test.YtfabfkaolnidiaaBase
namespace Go.Proofs.Ytfabfkaolnidiaa
set_option linter.unusedVariables false
set_option linter.unusedSimpArgs false
open Go.RowKit

def digitsT (q : Nat) (t : ByteArray) : ByteArray := if h : q = 0 then t else digitsT (q / 10) (strOfNums [48 + ((q : Int) % 10)] ++ t)
termination_by q
decreasing_by omega

/-- The text of number k, as 'markText' writes it. -/
def markT (k : Nat) : ByteArray := if k = 0 then ⟨#[109, 48]⟩ else ⟨#[109]⟩ ++ digitsT k ⟨#[]⟩

theorem conv_one (wr : World) (n : Int) : (convert 38 9 (.slice (some ⟨wr.heap.size, 0, none⟩) 1 1)).run Try.prog (wr.alloc (.cells #[.int .u8 n] 5)) = .ok (.string (strOfNums [n])) (wr.alloc (.cells #[.int .u8 n] 5)) := by
  refine run_convert_bytes_arg (P := Try.prog) _ 38 5 Try.underlying38 Try.underlying5 _ 0 1 1 [n] rfl (fun i hi => ?_) 9 Try.underlying9
  have : i = 0 := by omega
  subst this
  rw [World.cell?_alloc_at _ _ _ _ rfl]; rfl

set_option maxRecDepth 100000 in
theorem markText_any (k : Nat) (w : World) (hk : k ≤ 1099511627776) :
    Calls Try.prog 51 #[.int .i64 k] w fun e w' => e = .returned (.string (markT k)) ∧ Below w.heap.size w w' := by
  have kc := conv_one
  by_cases hz : k = 0
  · subst hz
    go_enter Try.func51, Try.ntmps51
    go_wp2
    go_ret
    exact ⟨ret_string (by rw [markT, if_pos rfl]), Below.refl _ _⟩
  have hz' : decide ((k : Int) ≤ 0) = false := by simp; omega
  go_enter Try.func51, Try.ntmps51
  go_wp2
  go_loopw [0, 3] (fun v s wr => ∃ (q : Nat) (t : ByteArray), v = .int .i64 q ∧ q + t.size ≤ 1099511627776 ∧ s = .string t ∧ Below w.heap.size w wr ∧ Hid (digitsT k ⟨#[]⟩ = digitsT q t)) (fun i _ _ => (intOf i).toNat)
  case atStart => exact ⟨k, _, rfl, by show k + 0 ≤ _; omega, rfl, Below.refl _ _, hid rfl⟩
  obtain ⟨q, t, rfl, hq, rfl, hb, hrel⟩ := hrel
  have hbs := hb.size
  by_cases hp : 0 < q
  · have hs1 : (strOfNums [48 + (q : Int) % 10]).size ≤ 1 := by rw [strOfNums_size]; simp
    go_wp2
    go_roundw
    case rel => exact ⟨q / 10, _, by go_num, by simp; omega, rfl, by repeat (first | exact hb | refine Below.alloc ?_ (by first | omega | (simp; done) | (simp; omega)) _ | refine Below.drew ?_), by rw [hrel.out, digitsT, dif_neg (by omega)]; exact hid rfl⟩
    case measure => simp [intOf]; omega
  · have : q = 0 := by omega
    subst this
    go_wp2
    go_ret
    exact ⟨ret_string (by rw [markT, if_neg hz, hrel.out, digitsT, dif_pos rfl]), hb⟩

theorem markText_int (n : Int) (q : Nat) (w : World) (h : n = q) (hk : q ≤ 1099511627776) :
    Calls Try.prog 51 #[.int .i64 n] w fun e w' => e = .returned (.string (markT q)) ∧ Below w.heap.size w w' := by
  subst h
  exact markText_any q w hk
end Go.Proofs.Ytfabfkaolnidiaa
