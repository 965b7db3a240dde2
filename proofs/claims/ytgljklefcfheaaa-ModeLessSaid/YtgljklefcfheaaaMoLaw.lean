/- The laws' helpers for package mode: the closed fact, Bits. -/
import Derived.Test.YtgljklefcfheaaaMoShow
import Derived.Test.YtgljklefcfheaaaCIn2
namespace Go.Proofs.Ytgljklefcfheaaa
open Go.RowKit

theorem mo_May_a (w : World) (m o s x h k : Int) (r : Bool) (hR : Mo.may m o s x h k = (r, 0)) :
    Calls Try.prog 8 #[.int .i64 m, .int .i64 o, .int .i64 s, .int .i64 x, .int .i64 h, .int .i64 k] w fun e w' => e = .returned (.tuple #[.bool r, .nilIface]) ∧ Fr [] w w' := mo_May w m o s x h k _ hR
theorem mo_May_b (w : World) (m o s x h k : Int) (hR : Mo.may m o s x h k = (false, 1)) :
    Calls Try.prog 8 #[.int .i64 m, .int .i64 o, .int .i64 s, .int .i64 x, .int .i64 h, .int .i64 k] w fun e w' => e = .returned (.tuple #[.bool false, .iface 38 (.int .i64 1)]) ∧ Fr [] w w' := mo_May w m o s x h k _ hR
theorem Mo.fact1 : Mo.may 488 1 2 3 2 5 = (true, 0) := by decide +kernel
theorem Mo.fact2 : Mo.may 488 1 2 3 3 1 = (false, 0) := by decide +kernel
theorem Mo.fact3 : Mo.showL 488 = [114, 119, 120, 114, 45, 120, 45, 45, 45] := by decide +kernel
theorem mo_Show_488 (w : World) : Calls Try.prog 11 #[.int .i64 488] w fun e w' => e = .returned (.tuple #[.string ⟨#[114, 119, 120, 114, 45, 120, 45, 45, 45]⟩, .nilIface]) ∧ Fr [] w w' := by
  have h := mo_Show_ok w 488 (by decide)
  rw [Mo.fact3] at h
  exact h
set_option maxRecDepth 100000 in
theorem mo_fact (w : World) : Calls Try.prog 6 #[] w (OkT w) := by
  go_enter Try.func6, Try.ntmps6
  go_wp2_with (first
    | (go_at_call 11; (with_reducible refine useC (mo_Show_488 _) ?_); rintro e w2 ⟨rfl, hf⟩; have HF2 := Lib.hid hf; clear hf)
    | (go_at_call 8; (with_reducible refine useC (mo_May_a _ 488 1 2 3 2 5 true Mo.fact1) ?_); rintro e w3 ⟨rfl, hf⟩; have HF3 := Lib.hid (HF2.out.trans hf); clear hf)
    | (go_at_call 8; (with_reducible refine useC (mo_May_a _ 488 1 2 3 3 1 false Mo.fact2) ?_); rintro e w4 ⟨rfl, hf⟩; have HF4 := Lib.hid (HF3.out.trans hf); clear hf))
  go_ret
  exact ⟨rfl, HF4.out⟩
set_option maxRecDepth 100000 in
theorem mo_Bits (w : World) (p q : Int) (hp : 0 ≤ p ∧ p ≤ 7) (hq : 0 ≤ q ∧ q ≤ 7) : Calls Try.prog 9 #[.int .i64 p, .int .i64 q] w fun e w' => e = .returned (.bool (Mo.bits3 p q)) ∧ w' = w := by
  obtain ⟨p0, p7⟩ := hp
  obtain ⟨q0, q7⟩ := hq
  go_enter Try.func9, Try.ntmps9
  go_wp2
  all_goals (go_ret; refine ⟨ret_bool ?_, rfl⟩; unfold Mo.bits3; simp [*])
end Go.Proofs.Ytgljklefcfheaaa
