/- The contracts of Told and of the laws' own Error. -/
import Derived.Test.YtokbhiokcoldbaaDoorErr
namespace Go.Proofs.YtokbhiokcoldbaaDoor
open Go.RowKit

theorem told_nil (w : World) : Calls Tryd.prog 52 #[.nilIface] w fun e w' => e = .returned (.int .i64 0) ∧ Fr [] w w' := by
  go_enter Tryd.func52, Tryd.ntmps52
  go_wp2
  go_ret
  exact ⟨rfl, by repeat (first | exact Fr.refl _ _ | apply Fr.alloc)⟩
theorem told_err (n : Int) (w : World) (hg : ErrType w) : Calls Tryd.prog 52 #[.iface 88 (.int .i64 n)] w fun e w' => e = .returned (.int .i64 n) ∧ Fr [] w w' := by
  have hlt : 0 < w.heap.size := block_lt_of_cell hg
  have HG := Lib.hid hg
  clear hg
  go_enter Tryd.func52, Tryd.ntmps52
  go_wp2_with (go_at_call 80; (with_reducible refine useC (as_hit n ⟨w.heap.size, 0, none⟩ (.int .i64 0) _ ?_ ?_ ?_) ?_); exact HG.out.fr ((Fr.refl [] w).alloc _) (by simp); simp; simp; rintro e w' ⟨rfl, rfl⟩)
  go_ret
  exact ⟨rfl, by repeat (first | exact Fr.refl _ _ | apply Fr.alloc)⟩
/-- The laws' own Error: is an error the one told? -/
theorem error_any (c k : Int) (w : World) (hg : ErrType w) : Calls Tryd.prog 12 #[errV c, .int .i64 k] w (OkB (decide (c = k)) w) := by
  have HG := Lib.hid hg
  clear hg
  have hb : decide (c = k) = (c == k) := by by_cases h : c = k <;> simp [h]
  rw [hb]
  clear hb
  by_cases hc : c = 0
  · subst hc
    unfold errV
    rw [if_pos rfl]
    go_enter Tryd.func12, Tryd.ntmps12
    go_wp2_with (go_at_call 52; (with_reducible refine useC (told_nil _) ?_); rintro e w' ⟨rfl, hF⟩; have HF := Lib.hid hF; clear hF)
    go_ret
    exact ⟨rfl, HF.out⟩
  · rw [errV_no hc]
    go_enter Tryd.func12, Tryd.ntmps12
    go_wp2_with (go_at_call 52; (with_reducible refine useC (told_err c _ HG.out) ?_); rintro e w' ⟨rfl, hF⟩; have HF := Lib.hid hF; clear hF)
    go_ret
    exact ⟨rfl, HF.out⟩
theorem error_at (c k : Int) (w : World) (hg : ErrType w) : Calls Tryd.prog 12 #[.iface 88 (.int .i64 c), .int .i64 k] w (OkB (c == k) w) := by
  have HG := Lib.hid hg
  clear hg
  go_enter Tryd.func12, Tryd.ntmps12
  go_wp2_with (go_at_call 52; (with_reducible refine useC (told_err c _ HG.out) ?_); rintro e w' ⟨rfl, hF⟩; have HF := Lib.hid hF; clear hF)
  go_ret
  exact ⟨rfl, HF.out⟩
theorem error_yes (c : Int) (w : World) (hg : ErrType w) : Calls Tryd.prog 12 #[errV c, .int .i64 c] w (OkT w) :=
  (error_any c c w hg).mono fun _ _ ⟨h1, h2⟩ => ⟨by rw [h1, decide_eq_true rfl], h2⟩
end Go.Proofs.YtokbhiokcoldbaaDoor
