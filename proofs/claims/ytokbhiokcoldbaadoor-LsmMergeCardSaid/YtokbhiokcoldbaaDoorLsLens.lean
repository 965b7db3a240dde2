/- How many entries the runs have; the keys rise. -/
import Derived.Test.YtokbhiokcoldbaaDoorLsSt
import Derived.Test.YtokbhiokcoldbaaDoorCSum
namespace Go.Proofs.YtokbhiokcoldbaaDoor
open Go.RowKit

namespace Ls
theorem lens_sum : ∀ (rs : List (List E)), sumL (rs.map fun l => (l.length : Int)) = (rs.flatten.length : Int)
  | [] => rfl
  | l :: r => by
    have e : sumL ((l :: r).map fun l => (l.length : Int)) = (l.length : Int) + sumL (r.map fun l => (l.length : Int)) := rfl
    rw [e, lens_sum r, List.flatten_cons, List.length_append]
    omega
theorem lens_nth (m : M) (i : Nat) (h : i < m.runs.length) : nth (lens m) i = ((m.runs.getD i []).length : Int) := by
  unfold nth lens
  simp [List.getD, h]
theorem lens_len (m : M) : (lens m).length = m.runs.length := by unfold lens; rw [List.length_map]
theorem lens_small {m : M} (h : OK m) : ∀ x ∈ lens m, 0 ≤ x ∧ x ≤ 100000 := fun x hx => by
  unfold lens at hx
  obtain ⟨l, hl, rfl⟩ := List.mem_map.1 hx
  have h1 := (List.sublist_flatten_of_mem hl).length_le
  have h2 := h.tot
  have h3 := h.many
  omega
theorem keys_nth (m : M) (i : Nat) (h : i + 1 < (keys m).length) : nth (keys m) i < nth (keys m) (i + 1) := by
  have := List.pairwise_iff_getElem.1 (keys_up m) i (i + 1) (by omega) h (by omega)
  simpa [nth, List.getD, h, show i < (keys m).length by omega] using this
end Ls
end Go.Proofs.YtokbhiokcoldbaaDoor
