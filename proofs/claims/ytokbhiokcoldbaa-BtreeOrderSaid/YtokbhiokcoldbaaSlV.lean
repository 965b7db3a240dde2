/- Slices as elements of a row. No program in sight. -/
import Derived.Test.YtokbhiokcoldbaaEnc
namespace Go.Proofs.Ytokbhiokcoldbaa
open Go.RowKit

/-- A slice, by its parts. -/
structure SlV where
  A : Option Addr
  n : Nat
  c : Nat
def SlV.val (s : SlV) : Value := .slice s.A s.n s.c
/-- A slice as an element of a row. -/
def slE : Enc SlV where
  k := 1
  enc := fun s => [s.val]
  len := fun _ => rfl
  one := fun e v hv => by simp only [List.mem_cons, List.not_mem_nil, or_false] at hv; rcases hv with rfl; rfl
  pos := by decide
end Go.Proofs.Ytokbhiokcoldbaa
