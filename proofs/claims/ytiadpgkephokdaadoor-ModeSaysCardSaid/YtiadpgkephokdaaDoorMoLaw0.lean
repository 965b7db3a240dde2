/- Package mode: May told by what it answers; Bits. -/
import Derived.Test.YtiadpgkephokdaaDoorMoShow
import Derived.Test.YtiadpgkephokdaaDoorCIn2
namespace Go.Proofs.YtiadpgkephokdaaDoor
open Go.RowKit

theorem mo_May_a (w : World) (m o s x h k : Int) (r : Bool) (hR : Mo.may m o s x h k = (r, 0)) :
    Calls Tryd.prog 6 #[.int .i64 m, .int .i64 o, .int .i64 s, .int .i64 x, .int .i64 h, .int .i64 k] w fun e w' => e = .returned (.tuple #[.bool r, .nilIface]) ∧ Fr [] w w' := mo_May w m o s x h k _ hR
theorem mo_May_b (w : World) (m o s x h k : Int) (hR : Mo.may m o s x h k = (false, 1)) :
    Calls Tryd.prog 6 #[.int .i64 m, .int .i64 o, .int .i64 s, .int .i64 x, .int .i64 h, .int .i64 k] w fun e w' => e = .returned (.tuple #[.bool false, .iface 61 (.int .i64 1)]) ∧ Fr [] w w' := mo_May w m o s x h k _ hR
set_option maxRecDepth 100000 in
theorem mo_Bits (w : World) (p q : Int) (hp : 0 ≤ p ∧ p ≤ 7) (hq : 0 ≤ q ∧ q ≤ 7) : Calls Tryd.prog 32 #[.int .i64 p, .int .i64 q] w fun e w' => e = .returned (.bool (Mo.bits3 p q)) ∧ w' = w := by
  obtain ⟨p0, p7⟩ := hp
  obtain ⟨q0, q7⟩ := hq
  go_enter Tryd.func32, Tryd.ntmps32
  go_wp2
  all_goals (go_ret; refine ⟨ret_bool ?_, rfl⟩; unfold Mo.bits3; simp [*])
end Go.Proofs.YtiadpgkephokdaaDoor
