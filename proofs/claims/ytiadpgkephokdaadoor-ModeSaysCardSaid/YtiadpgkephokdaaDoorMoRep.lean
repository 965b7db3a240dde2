/- strings.Repeat at a dash and nine, by Go's own text of it. -/
import Derived.Test.YtiadpgkephokdaaDoorMoWalk
namespace Go.Proofs.YtiadpgkephokdaaDoor
open Go.RowKit

def dashes : ByteArray := ⟨#[45, 45, 45, 45, 45, 45, 45, 45, 45]⟩
set_option maxRecDepth 100000 in
set_option maxHeartbeats 4000000 in
theorem rep_dash (w : World) : Calls Tryd.prog 34 #[.string ⟨#[45]⟩, .int .i64 9] w fun e w' => e = .returned (.string dashes) ∧ Fr [] w w' := by
  go_enter Tryd.func34, Tryd.ntmps34
  go_wp2
  all_goals (try (exfalso; rename_i h; exact absurd h (by decide +kernel)))
  · go_ret
    exact ⟨congrArg Ending.returned (congrArg Value.string (by kernel_rfl)), Fr.refl _ _⟩
  · exfalso
    rename_i h0 h1 h2 h3 h4 h5 h6 h7 h8 h9 h10 h11 h12 h13 h14 h15 h16
    first | exact absurd h0 (by decide +kernel) | exact absurd h1 (by decide +kernel) | exact absurd h2 (by decide +kernel) | exact absurd h3 (by decide +kernel) | exact absurd h4 (by decide +kernel) | exact absurd h5 (by decide +kernel)
end Go.Proofs.YtiadpgkephokdaaDoor
