/- Texts put together. -/
import Derived.Test.YtnglhfeialomgaaDoorPaParts
namespace Go.Proofs.YtnglhfeialomgaaDoor
theorem mk_append (a b : List UInt8) : Pa.mk a ++ Pa.mk b = Pa.mk (a ++ b) := by
  apply ByteArray.ext
  simp [Pa.mk]
end Go.Proofs.YtnglhfeialomgaaDoor
