/- byKey of package lsm: two keys held against each other. -/
import Derived.Test.YtokbhiokcoldbaaDoorLsPlain
import Derived.Test.YtokbhiokcoldbaaDoorCommon
namespace Go.Proofs.YtokbhiokcoldbaaDoor
open Go.RowKit

def cmpI (a b : Int) : Int := if a < b then -1 else if b < a then 1 else 0
theorem cmp_any (a b : Int) (w : World) : Calls Tryd.prog 104 #[.int .i64 a, .int .i64 b] w fun e w' => e = .returned (.int .i64 (cmpI a b)) ∧ w' = w := by
  unfold cmpI
  by_cases h1 : a < b
  · rw [if_pos h1]
    go_enter Tryd.func104, Tryd.ntmps104
    go_wp2
    go_ret
    exact ⟨rfl, rfl⟩
  · rw [if_neg h1]
    by_cases h2 : b < a
    · rw [if_pos h2]
      go_enter Tryd.func104, Tryd.ntmps104
      go_wp2
      go_ret
      exact ⟨rfl, rfl⟩
    · rw [if_neg h2]
      go_enter Tryd.func104, Tryd.ntmps104
      go_wp2
      go_ret
      exact ⟨rfl, rfl⟩
set_option maxRecDepth 100000 in
theorem ls_byKey (a x b y : Int) (w : World) : Calls Tryd.prog 89 #[.agg #[.int .i64 a, .int .i64 x], .agg #[.int .i64 b, .int .i64 y]] w fun e w' => e = .returned (.int .i64 (cmpI a b)) ∧ Fr [] w w' := by
  have HC := Lib.hid (fun W => cmp_any a b W)
  go_enter Tryd.func89, Tryd.ntmps89
  go_wp2_with (go_at_call 104; (with_reducible refine useC (HC.out _) ?_); rintro e w2 ⟨rfl, rfl⟩)
  go_ret
  exact ⟨rfl, ((Fr.refl [] w).alloc _).alloc _⟩
end Go.Proofs.YtokbhiokcoldbaaDoor
