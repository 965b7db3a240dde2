/- Integers as elements of a row, in the words of rows of structs. No program in sight. -/
import Derived.Test.YtokbhiokcoldbaaEnc
namespace Go.Proofs.Ytokbhiokcoldbaa
open Go.RowKit

/-- An integer as an element of a row. -/
def inE : Enc Int where
  k := 1
  enc := fun x => [.int .i64 x]
  len := fun _ => rfl
  one := fun e v hv => by simp only [List.mem_cons, List.not_mem_nil, or_false] at hv; rcases hv with rfl; rfl
  pos := by decide
theorem inE_cells (l : List Int) : inE.cells l = l.map (Value.int .i64) := by
  induction l with
  | nil => rfl
  | cons a l ih =>
    have e : inE.cells (a :: l) = inE.enc a ++ inE.cells l := rfl
    rw [e, ih]; rfl
theorem own_inE {w : World} {B e : Nat} {v : Value} {l : List Int} : OwnR inE w B e v l ↔ Own w B e v l := by
  unfold OwnR Own
  rw [inE_cells]
  exact Iff.rfl
end Go.Proofs.Ytokbhiokcoldbaa
