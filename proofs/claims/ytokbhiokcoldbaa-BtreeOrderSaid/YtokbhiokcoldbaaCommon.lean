/- What the walks over rows of integers share. -/
import Derived.Test.YtokbhiokcoldbaaCommon0
namespace Go.Proofs.Ytokbhiokcoldbaa
open Go.RowKit
theorem Try.info_int : (Try.prog.info? 3).map (fun i => (i.zero, i.size, i.bytes)) = some (some (.int .i64 0), 1, 8) := by kernel_rfl
theorem Try.intT : IntT Try.prog 22 3 := ⟨Try.underlying22, Try.info_int⟩
/-- What a call hands back that makes a row: the integers xs, in new memory. -/
def NewRow (xs : List Int) (w : World) (e : Ending) (w' : World) : Prop := ∃ v g, e = .returned v ∧ (w.heap.size ≤ g ∨ xs = []) ∧ Sl w' v g xs ∧ Fr [] w w'
end Go.Proofs.Ytokbhiokcoldbaa
