/- Walks and lemmas of this seat (FDrawText): what each theorem says of the functions that it names. Conditions: those that each theorem states. -/
import Derived.Test.YtdnjjgidlpmgjaaFCur2
namespace Go.Proofs.Ytdnjjgidlpmgjaa
set_option linter.unusedVariables false
set_option linter.unusedSimpArgs false
open Go.RowKit

def pieces16 : List ByteArray := [⟨#[97]⟩, ⟨#[98, 98]⟩, ⟨#[10]⟩, ⟨#[10, 10]⟩, ⟨#[120, 32, 121]⟩, ⟨#[]⟩]
theorem grown_id (w : World) (r : Option Nat) : w.grownBy w r := ⟨rfl, rfl, rfl, Nat.le_refl _, fun _ _ _ => rfl⟩
theorem grown_al {w w' : World} {r : Option Nat} (h : w.grownBy w' r) (o : Obj) : w.grownBy (w'.alloc o) r := grown_trans h (World.grownBy_alloc _ _ _)

end Go.Proofs.Ytdnjjgidlpmgjaa
