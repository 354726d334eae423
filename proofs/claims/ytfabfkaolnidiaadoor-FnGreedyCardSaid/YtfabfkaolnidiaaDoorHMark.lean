/- Walks and lemmas of this seat (HMark): what each theorem says of the functions that it names. Conditions: those that each theorem states. -/
import Derived.Test.YtfabfkaolnidiaaDoorRows
import Derived.Test.YtfabfkaolnidiaaDoorBase
namespace Go.Proofs.YtfabfkaolnidiaaDoor
set_option linter.unusedVariables false
set_option linter.unusedSimpArgs false
open Go.RowKit

def digitsT (q : Nat) (t : ByteArray) : ByteArray := if h : q = 0 then t else digitsT (q / 10) (strOfNums [48 + ((q : Int) % 10)] ++ t)
termination_by q
decreasing_by omega

/-- The text of number k, as 'markText' writes it. -/
def markT (k : Nat) : ByteArray := if k = 0 then ⟨#[109, 48]⟩ else ⟨#[109]⟩ ++ digitsT k ⟨#[]⟩

theorem conv_one (wr : World) (n : Int) : (convert 22 9 (.slice (some ⟨wr.heap.size, 0, none⟩) 1 1)).run Tryd.prog (wr.alloc (.cells #[.int .u8 n] 5)) = .ok (.string (strOfNums [n])) (wr.alloc (.cells #[.int .u8 n] 5)) := by
  refine run_convert_bytes_arg (P := Tryd.prog) _ 22 5 Tryd.underlying22 Tryd.underlying5 _ 0 1 1 [n] rfl (fun i hi => ?_) 9 Tryd.underlying9
  have : i = 0 := by omega
  subst this
  rw [World.cell?_alloc_at _ _ _ _ rfl]; rfl

end Go.Proofs.YtfabfkaolnidiaaDoor
