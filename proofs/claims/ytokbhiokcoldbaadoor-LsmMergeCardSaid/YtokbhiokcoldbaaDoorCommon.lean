/- What the walks over rows of integers share. -/
import Derived.Test.YtokbhiokcoldbaaDoorCommon0
namespace Go.Proofs.YtokbhiokcoldbaaDoor
open Go.RowKit
theorem Tryd.info_int : (Tryd.prog.info? 3).map (fun i => (i.zero, i.size, i.bytes)) = some (some (.int .i64 0), 1, 8) := by kernel_rfl
theorem Tryd.intT : IntT Tryd.prog 25 3 := ⟨Tryd.underlying25, Tryd.info_int⟩
/-- What a call hands back that makes a row: the integers xs, in new memory. -/
def NewRow (xs : List Int) (w : World) (e : Ending) (w' : World) : Prop := ∃ v g, e = .returned v ∧ (w.heap.size ≤ g ∨ xs = []) ∧ Sl w' v g xs ∧ Fr [] w w'
end Go.Proofs.YtokbhiokcoldbaaDoor
