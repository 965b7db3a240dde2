/- ModeMask: what is masked is not there. -/
import Derived.Test.YtgljklefcfheaaaMoLess
namespace Go.Proofs.Ytgljklefcfheaaa
open Go.RowKit

theorem mo_New_a (w : World) (a m r : Int) (hR : Mo.new a m = (r, 0)) :
    Calls Try.prog 10 #[.int .i64 a, .int .i64 m] w fun e w' => e = .returned (.tuple #[.int .i64 r, .nilIface]) ∧ Fr [] w w' := mo_New w a m _ hR
theorem mo_New_b (w : World) (a m : Int) (hR : Mo.new a m = (0, 1)) :
    Calls Try.prog 10 #[.int .i64 a, .int .i64 m] w fun e w' => e = .returned (.tuple #[.int .i64 0, .iface 38 (.int .i64 1)]) ∧ Fr [] w w' := mo_New w a m _ hR
set_option maxRecDepth 100000 in
set_option maxHeartbeats 8000000 in
theorem mo_mask (w : World) (m mask o s x h want : Int) : Calls Try.prog 4 #[.int .i64 m, .int .i64 mask, .int .i64 o, .int .i64 s, .int .i64 x, .int .i64 h, .int .i64 want] w (OkT w) := by
  rcases Mo.mask_law m mask with ⟨c1, hb⟩ | ⟨n, c1, ⟨n0, n1⟩, c2, hl⟩
  · have C1 := Lib.hid c1
    clear c1
    by_cases h1 : 0 ≤ m ∧ m ≤ 511
    · have e1 := decide_eq_true h1
      have e2 : decide (0 ≤ mask ∧ mask ≤ 511) = false := decide_eq_false (fun h2 => hb ⟨h1, h2⟩)
      clear h1 hb
      go_enter Try.func4, Try.ntmps4
      go_wp2_with (first
        | (go_at_call 6; (with_reducible refine useC (mo_fact _) ?_); rintro e w2 ⟨rfl, hf⟩; have HF2 := Lib.hid hf; clear hf)
        | (go_at_call 10; (with_reducible refine useC (mo_New_b _ m mask C1.out) ?_); rintro e w3 ⟨rfl, hf⟩; have HF3 := Lib.hid (HF2.out.trans hf); clear hf)
        | (go_at_call 7; (with_reducible refine useC (in2_is m _ _ true _ e1) ?_); rintro e w4 ⟨rfl, rfl⟩)
        | (go_at_call 7; (with_reducible refine useC (in2_is mask _ _ false _ e2) ?_); rintro e w4 ⟨rfl, rfl⟩))
      go_ret
      exact ⟨rfl, HF3.out⟩
    · have e1 := decide_eq_false h1
      clear h1 hb
      go_enter Try.func4, Try.ntmps4
      go_wp2_with (first
        | (go_at_call 6; (with_reducible refine useC (mo_fact _) ?_); rintro e w2 ⟨rfl, hf⟩; have HF2 := Lib.hid hf; clear hf)
        | (go_at_call 10; (with_reducible refine useC (mo_New_b _ m mask C1.out) ?_); rintro e w3 ⟨rfl, hf⟩; have HF3 := Lib.hid (HF2.out.trans hf); clear hf)
        | (go_at_call 7; (with_reducible refine useC (in2_is m _ _ false _ e1) ?_); rintro e w4 ⟨rfl, rfl⟩))
      go_ret
      exact ⟨rfl, HF3.out⟩
  · have C1 := Lib.hid c1
    have C2 := Lib.hid c2
    obtain ⟨l1, l2⟩ := hl o s x h want
    have g1 : ¬ m < n := by omega
    have q0 : (n != n) = false := by simp
    clear c1 c2 hl
    rcases Mo.may_cases m o s x h want with d1 | ⟨a, d1⟩
    · have d2 : Mo.may n o s x h want = (false, 1) := by
        rcases Mo.may_cases n o s x h want with d2 | ⟨b, d2⟩
        · exact d2
        · rw [d1, d2] at l1; cases l1
      have D1 := Lib.hid d1
      have D2 := Lib.hid d2
      clear l1 l2 d1 d2
      go_enter Try.func4, Try.ntmps4
      go_wp2_with (first
        | (go_at_call 6; (with_reducible refine useC (mo_fact _) ?_); rintro e w2 ⟨rfl, hf⟩; have HF2 := Lib.hid hf; clear hf)
        | (go_at_call 10; (with_reducible refine useC (mo_New_a _ m mask _ C1.out) ?_); rintro e w3 ⟨rfl, hf⟩; have HF3 := Lib.hid (HF2.out.trans hf); clear hf)
        | (go_at_call 10; (with_reducible refine useC (mo_New_a _ n mask _ C2.out) ?_); rintro e w4 ⟨rfl, hf⟩; have HF4 := Lib.hid (HF3.out.trans hf); clear hf)
        | (go_at_call 8; (with_reducible refine useC (mo_May_b _ m _ _ _ _ _ D1.out) ?_); rintro e w5 ⟨rfl, hf⟩; have HF5 := Lib.hid (HF4.out.trans hf); clear hf)
        | (go_at_call 8; (with_reducible refine useC (mo_May_b _ n _ _ _ _ _ D2.out) ?_); rintro e w6 ⟨rfl, hf⟩; have HF6 := Lib.hid (HF5.out.trans hf); clear hf))
      go_ret
      exact ⟨rfl, HF6.out⟩
    · obtain ⟨b, d2⟩ : ∃ b, Mo.may n o s x h want = (b, 0) := by
        rcases Mo.may_cases n o s x h want with d2 | ⟨b, d2⟩
        · rw [d1, d2] at l1; cases l1
        · exact ⟨b, d2⟩
      rw [d1, d2] at l2
      obtain ⟨l3, l4⟩ := l2 rfl
      have D1 := Lib.hid d1
      have D2 := Lib.hid d2
      have L3 := Lib.hid l3
      have L4 := Lib.hid l4
      clear l1 l2 l3 l4 d1 d2
      by_cases hx : x = 0
      · have qx : (x != 0) = false := by simpa using hx
        obtain rfl : b = true := L4.out hx
        obtain rfl : a = true := L3.out rfl
        clear hx
        go_enter Try.func4, Try.ntmps4
        go_wp2_with (first
          | (go_at_call 6; (with_reducible refine useC (mo_fact _) ?_); rintro e w2 ⟨rfl, hf⟩; have HF2 := Lib.hid hf; clear hf)
          | (go_at_call 10; (with_reducible refine useC (mo_New_a _ m mask _ C1.out) ?_); rintro e w3 ⟨rfl, hf⟩; have HF3 := Lib.hid (HF2.out.trans hf); clear hf)
          | (go_at_call 10; (with_reducible refine useC (mo_New_a _ n mask _ C2.out) ?_); rintro e w4 ⟨rfl, hf⟩; have HF4 := Lib.hid (HF3.out.trans hf); clear hf)
          | (go_at_call 8; (with_reducible refine useC (mo_May_a _ m _ _ _ _ _ _ D1.out) ?_); rintro e w5 ⟨rfl, hf⟩; have HF5 := Lib.hid (HF4.out.trans hf); clear hf)
          | (go_at_call 8; (with_reducible refine useC (mo_May_a _ n _ _ _ _ _ _ D2.out) ?_); rintro e w6 ⟨rfl, hf⟩; have HF6 := Lib.hid (HF5.out.trans hf); clear hf))
        go_ret
        exact ⟨rfl, HF6.out⟩
      · have qx : (x != 0) = true := by simpa using hx
        have hfin : (!b || a) = true := by
          have := L3.out
          cases a <;> cases b <;> simp_all
        have HFIN := Lib.hid hfin
        clear hfin hx
        go_enter Try.func4, Try.ntmps4
        cases a <;> cases b
        all_goals first
          | (exfalso; have := HFIN.out; simp at this; done)
          | (go_wp2_with (first
              | (go_at_call 6; (with_reducible refine useC (mo_fact _) ?_); rintro e w2 ⟨rfl, hf⟩; have HF2 := Lib.hid hf; clear hf)
              | (go_at_call 10; (with_reducible refine useC (mo_New_a _ m mask _ C1.out) ?_); rintro e w3 ⟨rfl, hf⟩; have HF3 := Lib.hid (HF2.out.trans hf); clear hf)
              | (go_at_call 10; (with_reducible refine useC (mo_New_a _ n mask _ C2.out) ?_); rintro e w4 ⟨rfl, hf⟩; have HF4 := Lib.hid (HF3.out.trans hf); clear hf)
              | (go_at_call 8; (with_reducible refine useC (mo_May_a _ m _ _ _ _ _ _ D1.out) ?_); rintro e w5 ⟨rfl, hf⟩; have HF5 := Lib.hid (HF4.out.trans hf); clear hf)
              | (go_at_call 8; (with_reducible refine useC (mo_May_a _ n _ _ _ _ _ _ D2.out) ?_); rintro e w6 ⟨rfl, hf⟩; have HF6 := Lib.hid (HF5.out.trans hf); clear hf))
             go_ret
             exact ⟨rfl, HF6.out⟩)
end Go.Proofs.Ytgljklefcfheaaa
