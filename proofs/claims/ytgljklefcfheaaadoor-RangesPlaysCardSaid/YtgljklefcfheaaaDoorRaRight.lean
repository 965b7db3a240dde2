/- RightLock and in, of the laws and of the reference. -/
import Derived.Test.YtgljklefcfheaaaDoorRaLaw
import Derived.IntWalk
namespace Go.Proofs.YtgljklefcfheaaaDoor
open Go.RowKit

theorem ref2_in (n lo hi : Int) (b : Bool) (w : World) (h : decide (lo ≤ n ∧ n ≤ hi) = b) :
    Calls Tryd.prog 38 #[.int .i64 n, .int .i64 lo, .int .i64 hi] w fun e w' => e = .returned (.bool b) ∧ w' = w := by
  subst h
  go_enter Tryd.func38, Tryd.ntmps38
  go_wp2
  all_goals (go_ret; refine ⟨?_, rfl⟩; congr; try simp; try omega)
theorem law2_in (n lo hi : Int) (b : Bool) (w : World) (h : decide (lo ≤ n ∧ n ≤ hi) = b) :
    Calls Tryd.prog 20 #[.int .i64 n, .int .i64 lo, .int .i64 hi] w fun e w' => e = .returned (.bool b) ∧ w' = w := by
  subst h
  go_enter Tryd.func20, Tryd.ntmps20
  go_wp2
  all_goals (go_ret; refine ⟨?_, rfl⟩; congr; try simp; try omega)
theorem ra_right (w : World) (o f n : Int) (a : Bool) :
    Calls Tryd.prog 18 #[.agg #[.int .i64 o, .int .i64 f, .int .i64 n, .bool a]] w (OkB (decide (Ra.okL o f n)) w) := by
  have HB := Lib.hid (lkb_new w o f n a)
  have HF : Hid (Fr [] w (w.alloc (.cells #[.int .i64 o, .int .i64 f, .int .i64 n, .bool a] 29))) := (Fr.refl _ _).alloc _
  by_cases h1 : 0 ≤ o ∧ o ≤ 3
  · have e1 : decide (0 ≤ o ∧ o ≤ 3) = true := decide_eq_true h1
    by_cases h2 : 0 ≤ f ∧ f ≤ 63
    · have e2 : decide (0 ≤ f ∧ f ≤ 63) = true := decide_eq_true h2
      have hw : IntKind.i64.wrap (64 - f) = 64 - f := IntWalk.i64_in _ (by omega)
      by_cases h3 : 1 ≤ n ∧ n ≤ 64 - f
      · have e3 : decide (1 ≤ n ∧ n ≤ 64 - f) = true := decide_eq_true h3
        have hans : decide (Ra.okL o f n) = true := decide_eq_true ⟨h1, h2, h3⟩
        obtain ⟨hf0, hf1⟩ := h2
        clear h1 h3
        rw [show decide (Ra.okL o f n) = true from hans]
        clear hans
        go_enter Tryd.func18, Tryd.ntmps18
        go_wp2_with fail
        revert HB HF
        generalize (w.alloc (.cells #[.int .i64 o, .int .i64 f, .int .i64 n, .bool a] 29)) = w1
        generalize w.heap.size = B
        intro HB HF
        obtain ⟨c0, c1, c2, c3⟩ := HB.out.cells
        refine useC (ref2_in _ _ _ true _ e1) ?_
        rintro _ _ ⟨rfl, rfl⟩
        go_wp2_with (first
          | (go_at_call 38; (with_reducible refine useC (ref2_in _ _ _ true _ e2) ?_); rintro e w2 ⟨rfl, rfl⟩)
          | (go_at_call 38; (with_reducible refine useC (ref2_in _ _ _ true _ e3) ?_); rintro e w2 ⟨rfl, rfl⟩))
        go_ret
        exact ⟨rfl, HF.out⟩
      · have e3 : decide (1 ≤ n ∧ n ≤ 64 - f) = false := decide_eq_false h3
        have hans : decide (Ra.okL o f n) = false := decide_eq_false (fun h => h3 h.2.2)
        obtain ⟨hf0, hf1⟩ := h2
        clear h1 h3
        rw [show decide (Ra.okL o f n) = false from hans]
        clear hans
        go_enter Tryd.func18, Tryd.ntmps18
        go_wp2_with fail
        revert HB HF
        generalize (w.alloc (.cells #[.int .i64 o, .int .i64 f, .int .i64 n, .bool a] 29)) = w1
        generalize w.heap.size = B
        intro HB HF
        obtain ⟨c0, c1, c2, c3⟩ := HB.out.cells
        refine useC (ref2_in _ _ _ true _ e1) ?_
        rintro _ _ ⟨rfl, rfl⟩
        go_wp2_with (first
          | (go_at_call 38; (with_reducible refine useC (ref2_in _ _ _ true _ e2) ?_); rintro e w2 ⟨rfl, rfl⟩)
          | (go_at_call 38; (with_reducible refine useC (ref2_in _ _ _ false _ e3) ?_); rintro e w2 ⟨rfl, rfl⟩))
        go_ret
        exact ⟨rfl, HF.out⟩
    · have e2 : decide (0 ≤ f ∧ f ≤ 63) = false := decide_eq_false h2
      have hans : decide (Ra.okL o f n) = false := decide_eq_false (fun h => h2 h.2.1)
      clear h1 h2
      rw [show decide (Ra.okL o f n) = false from hans]
      clear hans
      go_enter Tryd.func18, Tryd.ntmps18
      go_wp2_with fail
      revert HB HF
      generalize (w.alloc (.cells #[.int .i64 o, .int .i64 f, .int .i64 n, .bool a] 29)) = w1
      generalize w.heap.size = B
      intro HB HF
      obtain ⟨c0, c1, c2, c3⟩ := HB.out.cells
      refine useC (ref2_in _ _ _ true _ e1) ?_
      rintro _ _ ⟨rfl, rfl⟩
      go_wp2_with (first
        | (go_at_call 38; (with_reducible refine useC (ref2_in _ _ _ false _ e2) ?_); rintro e w2 ⟨rfl, rfl⟩))
      go_ret
      exact ⟨rfl, HF.out⟩
  · have e1 : decide (0 ≤ o ∧ o ≤ 3) = false := decide_eq_false h1
    have hans : decide (Ra.okL o f n) = false := decide_eq_false (fun h => h1 h.1)
    clear h1
    rw [show decide (Ra.okL o f n) = false from hans]
    clear hans
    go_enter Tryd.func18, Tryd.ntmps18
    go_wp2_with fail
    revert HB HF
    generalize (w.alloc (.cells #[.int .i64 o, .int .i64 f, .int .i64 n, .bool a] 29)) = w1
    generalize w.heap.size = B
    intro HB HF
    obtain ⟨c0, c1, c2, c3⟩ := HB.out.cells
    refine useC (ref2_in _ _ _ false _ e1) ?_
    rintro _ _ ⟨rfl, rfl⟩
    go_wp2
    go_ret
    exact ⟨rfl, HF.out⟩
end Go.Proofs.YtgljklefcfheaaaDoor
