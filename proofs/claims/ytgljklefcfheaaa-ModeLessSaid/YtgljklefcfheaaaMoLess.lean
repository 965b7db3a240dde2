/- ModeLess: who may do much may do less. -/
import Derived.Test.YtgljklefcfheaaaMoLaw
namespace Go.Proofs.Ytgljklefcfheaaa
open Go.RowKit

theorem Mo.may_cases (m o s x h k : Int) : Mo.may m o s x h k = (false, 1) ∨ ∃ r, Mo.may m o s x h k = (r, 0) := by
  cases hf : Mo.fits m o s x h k with
  | false => exact .inl (Mo.may_bad hf)
  | true => exact .inr ⟨(Mo.may m o s x h k).1, by have := Mo.may_err hf; exact Prod.ext rfl this⟩
set_option maxRecDepth 100000 in
set_option maxHeartbeats 4000000 in
theorem mo_less (w : World) (m o s x h want p : Int) : Calls Try.prog 3 #[.int .i64 m, .int .i64 o, .int .i64 s, .int .i64 x, .int .i64 h, .int .i64 want, .int .i64 p] w (OkT w) := by
  by_cases hp : 0 ≤ p ∧ p ≤ 7
  · have e1 := decide_eq_true hp
    by_cases hw : 0 ≤ want ∧ want ≤ 7
    · have e2 := decide_eq_true hw
      obtain ⟨l1, l2⟩ := Mo.less_law m o s x h want p hp hw
      have HBT := Lib.hid (mo_Bits · p want hp hw)
      rcases Mo.may_cases m o s x h want with c1 | ⟨a, c1⟩
      · have c2 : Mo.may m o s x h p = (false, 1) := by
          rcases Mo.may_cases m o s x h p with c2 | ⟨b, c2⟩
          · exact c2
          · rw [c1, c2] at l1; cases l1
        have C1 := Lib.hid c1
        have C2 := Lib.hid c2
        clear l1 l2 c1 c2 hp hw
        go_enter Try.func3, Try.ntmps3
        go_wp2_with (first
          | (go_at_call 6; (with_reducible refine useC (mo_fact _) ?_); rintro e w2 ⟨rfl, hf⟩; have HF2 := Lib.hid hf; clear hf)
          | (go_at_call 7; (with_reducible refine useC (in2_is p _ _ true _ e1) ?_); rintro e w3 ⟨rfl, rfl⟩)
          | (go_at_call 7; (with_reducible refine useC (in2_is want _ _ true _ e2) ?_); rintro e w3 ⟨rfl, rfl⟩)
          | (go_at_call 8; (with_reducible refine useC (mo_May_b _ _ _ _ _ _ want C1.out) ?_); rintro e w4 ⟨rfl, hf⟩; have HF4 := Lib.hid (HF2.out.trans hf); clear hf)
          | (go_at_call 8; (with_reducible refine useC (mo_May_b _ _ _ _ _ _ p C2.out) ?_); rintro e w5 ⟨rfl, hf⟩; have HF5 := Lib.hid (HF4.out.trans hf); clear hf))
        go_ret
        exact ⟨rfl, HF5.out⟩
      · obtain ⟨b, c2⟩ : ∃ b, Mo.may m o s x h p = (b, 0) := by
          rcases Mo.may_cases m o s x h p with c2 | ⟨b, c2⟩
          · rw [c1, c2] at l1; cases l1
          · exact ⟨b, c2⟩
        rw [c1, c2] at l2
        have C1 := Lib.hid c1
        have C2 := Lib.hid c2
        have L2 := Lib.hid (l2 rfl)
        clear l1 l2 c1 c2 hp hw
        generalize Mo.bits3 p want = t at *
        have hfin : (!t || !a || b) = true := by
          have := L2.out
          cases t <;> cases a <;> cases b <;> simp_all
        have HFIN := Lib.hid hfin
        clear hfin
        go_enter Try.func3, Try.ntmps3
        cases t <;> cases a <;> cases b
        all_goals first
          | (exfalso; have := HFIN.out; simp at this; done)
          | (go_wp2_with (first
              | (go_at_call 6; (with_reducible refine useC (mo_fact _) ?_); rintro e w2 ⟨rfl, hf⟩; have HF2 := Lib.hid hf; clear hf)
              | (go_at_call 7; (with_reducible refine useC (in2_is p _ _ true _ e1) ?_); rintro e w3 ⟨rfl, rfl⟩)
              | (go_at_call 7; (with_reducible refine useC (in2_is want _ _ true _ e2) ?_); rintro e w3 ⟨rfl, rfl⟩)
              | (go_at_call 8; (with_reducible refine useC (mo_May_a _ _ _ _ _ _ want _ C1.out) ?_); rintro e w4 ⟨rfl, hf⟩; have HF4 := Lib.hid (HF2.out.trans hf); clear hf)
              | (go_at_call 8; (with_reducible refine useC (mo_May_a _ _ _ _ _ _ p _ C2.out) ?_); rintro e w5 ⟨rfl, hf⟩; have HF5 := Lib.hid (HF4.out.trans hf); clear hf)
              | (go_at_call 9; (with_reducible refine useC (HBT.out _) ?_); rintro e w6 ⟨rfl, rfl⟩))
             go_ret
             exact ⟨rfl, HF5.out⟩)
    · have e2 := decide_eq_false hw
      clear hp hw
      go_enter Try.func3, Try.ntmps3
      go_wp2_with (first
        | (go_at_call 6; (with_reducible refine useC (mo_fact _) ?_); rintro e w2 ⟨rfl, hf⟩; have HF2 := Lib.hid hf; clear hf)
        | (go_at_call 7; (with_reducible refine useC (in2_is p _ _ true _ e1) ?_); rintro e w3 ⟨rfl, rfl⟩)
        | (go_at_call 7; (with_reducible refine useC (in2_is want _ _ false _ e2) ?_); rintro e w3 ⟨rfl, rfl⟩))
      go_ret
      exact ⟨rfl, HF2.out⟩
  · have e1 := decide_eq_false hp
    clear hp
    go_enter Try.func3, Try.ntmps3
    go_wp2_with (first
      | (go_at_call 6; (with_reducible refine useC (mo_fact _) ?_); rintro e w2 ⟨rfl, hf⟩; have HF2 := Lib.hid hf; clear hf)
      | (go_at_call 7; (with_reducible refine useC (in2_is p _ _ false _ e1) ?_); rintro e w3 ⟨rfl, rfl⟩))
    go_ret
    exact ⟨rfl, HF2.out⟩
end Go.Proofs.Ytgljklefcfheaaa
