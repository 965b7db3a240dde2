/- Pointers to whole blocks as elements of a row. No program in sight. -/
import Derived.Test.YtokbhiokcoldbaaEnc
namespace Go.Proofs.Ytokbhiokcoldbaa
open Go.RowKit

/-- A pointer to a block as an element of a row. -/
def pbE : Enc Nat where
  k := 1
  enc := fun b => [.pointer (some ⟨b, 0, none⟩)]
  len := fun _ => rfl
  one := fun e v hv => by simp only [List.mem_cons, List.not_mem_nil, or_false] at hv; rcases hv with rfl; rfl
  pos := by decide
end Go.Proofs.Ytokbhiokcoldbaa
