/- The contracts of package mode's May and New. -/
import Derived.Test.YtiadpgkephokdaaDoorCAll
import Derived.Test.YtiadpgkephokdaaDoorMix
namespace Go.Proofs.YtiadpgkephokdaaDoor
open Go.RowKit

/-- May one? What is told, and the error's number (0: none). -/
def Mo.fits (m o s x h k : Int) : Bool := decide (0 ≤ m ∧ m ≤ 511) && allIn [o, s, x, h] 0 9 && decide (0 ≤ k ∧ k ≤ 7)
def Mo.part (o s x h m : Int) : Int := if x = o then m / 64 else if h = s then m / 8 else m
def Mo.may (m o s x h k : Int) : Bool × Int := if Mo.fits m o s x h k = true then (if x = 0 then (true, 0) else (bits .and .i64 (Mo.part o s x h m) k == k, 0)) else (false, 1)
def Mo.new (a m : Int) : Int × Int := if allIn [a, m] 0 511 = true then (bits .andNot .i64 a m, 0) else (0, 1)
set_option maxRecDepth 100000 in
theorem mo_May (w : World) (m o s x h k : Int) (R : Bool × Int) (hR : Mo.may m o s x h k = R) :
    Calls Tryd.prog 6 #[.int .i64 m, .int .i64 o, .int .i64 s, .int .i64 x, .int .i64 h, .int .i64 k] w fun e w' => e = .returned (.tuple #[.bool R.1, errV R.2]) ∧ Fr [] w w' := by
  subst hR
  have HF : Hid (Fr [] w (w.alloc (.cells #[.int .i64 o, .int .i64 s, .int .i64 x, .int .i64 h] 3))) := (Fr.refl _ _).alloc _
  have HS : Hid (Sl (w.alloc (.cells #[.int .i64 o, .int .i64 s, .int .i64 x, .int .i64 h] 3)) (.slice (some ⟨w.heap.size, 0, none⟩) 4 4) w.heap.size [o, s, x, h]) := sl_new [o, s, x, h] (heap_alloc_new w _) (show 4 ≤ maxLen by decide)
  by_cases h1 : 0 ≤ m ∧ m ≤ 511
  · have e1 := decide_eq_true h1
    cases h2 : allIn [o, s, x, h] 0 9 with
    | true =>
      have H2 := Lib.hid h2
      by_cases h3 : 0 ≤ k ∧ k ≤ 7
      · have e3 := decide_eq_true h3
        have hfit : Mo.fits m o s x h k = true := by unfold Mo.fits; rw [e1, h2, e3]; rfl
        by_cases hx : x = 0
        · have q0 : (x == 0) = true := by simpa using hx
          have ans := Lib.hid (show Mo.may m o s x h k = (true, 0) from by unfold Mo.may; rw [if_pos hfit, if_pos hx])
          clear h1 h2 h3 hx hfit
          go_enter Tryd.func6, Tryd.ntmps6
          go_wp2_with (first
            | (go_at_call 29; (with_reducible refine useC (within_is _ _ _ true _ e1) ?_); rintro e w2 ⟨rfl, rfl⟩)
            | (go_at_call 29; (with_reducible refine useC (within_is _ _ _ true _ e3) ?_); rintro e w2 ⟨rfl, rfl⟩)
            | (go_at_call 30; (with_reducible refine useC (all_any _ _ _ _ _ _ HS.out) ?_); rw [H2.out]; rintro e w2 ⟨rfl, rfl⟩))
          exact bodyPost_ret (v := .tuple #[.bool (true), .nilIface]) (by simp [results, Tryd.results6, go_sem]) rfl ⟨by rw [ans.out]; rfl, HF.out⟩
        · have q0 : (x == 0) = false := by simpa using hx
          by_cases hxo : x = o
          · have q1 : (x == o) = true := by simpa using hxo
            have ans := Lib.hid (show Mo.may m o s x h k = (bits .and .i64 (m / 64) k == k, 0) from by unfold Mo.may Mo.part; rw [if_pos hfit, if_neg hx, if_pos hxo])
            clear h1 h2 h3 hx hxo hfit
            go_enter Tryd.func6, Tryd.ntmps6
            go_wp2_with (first
              | (go_at_call 29; (with_reducible refine useC (within_is _ _ _ true _ e1) ?_); rintro e w2 ⟨rfl, rfl⟩)
              | (go_at_call 29; (with_reducible refine useC (within_is _ _ _ true _ e3) ?_); rintro e w2 ⟨rfl, rfl⟩)
              | (go_at_call 30; (with_reducible refine useC (all_any _ _ _ _ _ _ HS.out) ?_); rw [H2.out]; rintro e w2 ⟨rfl, rfl⟩))
            exact bodyPost_ret (v := .tuple #[.bool (bits .and .i64 (m / 64) k == k), .nilIface]) (by simp [results, Tryd.results6, go_sem]) rfl ⟨by rw [ans.out]; rfl, HF.out⟩
          · have q1 : (x == o) = false := by simpa using hxo
            by_cases hhs : h = s
            · have q2 : (h == s) = true := by simpa using hhs
              have ans := Lib.hid (show Mo.may m o s x h k = (bits .and .i64 (m / 8) k == k, 0) from by unfold Mo.may Mo.part; rw [if_pos hfit, if_neg hx, if_neg hxo, if_pos hhs])
              clear h1 h2 h3 hx hxo hfit hhs
              go_enter Tryd.func6, Tryd.ntmps6
              go_wp2_with (first
                | (go_at_call 29; (with_reducible refine useC (within_is _ _ _ true _ e1) ?_); rintro e w2 ⟨rfl, rfl⟩)
                | (go_at_call 29; (with_reducible refine useC (within_is _ _ _ true _ e3) ?_); rintro e w2 ⟨rfl, rfl⟩)
                | (go_at_call 30; (with_reducible refine useC (all_any _ _ _ _ _ _ HS.out) ?_); rw [H2.out]; rintro e w2 ⟨rfl, rfl⟩))
              exact bodyPost_ret (v := .tuple #[.bool (bits .and .i64 (m / 8) k == k), .nilIface]) (by simp [results, Tryd.results6, go_sem]) rfl ⟨by rw [ans.out]; rfl, HF.out⟩
            · have q2 : (h == s) = false := by simpa using hhs
              have ans := Lib.hid (show Mo.may m o s x h k = (bits .and .i64 m k == k, 0) from by unfold Mo.may Mo.part; rw [if_pos hfit, if_neg hx, if_neg hxo, if_neg hhs])
              clear h1 h2 h3 hx hxo hfit hhs
              go_enter Tryd.func6, Tryd.ntmps6
              go_wp2_with (first
                | (go_at_call 29; (with_reducible refine useC (within_is _ _ _ true _ e1) ?_); rintro e w2 ⟨rfl, rfl⟩)
                | (go_at_call 29; (with_reducible refine useC (within_is _ _ _ true _ e3) ?_); rintro e w2 ⟨rfl, rfl⟩)
                | (go_at_call 30; (with_reducible refine useC (all_any _ _ _ _ _ _ HS.out) ?_); rw [H2.out]; rintro e w2 ⟨rfl, rfl⟩))
              exact bodyPost_ret (v := .tuple #[.bool (bits .and .i64 m k == k), .nilIface]) (by simp [results, Tryd.results6, go_sem]) rfl ⟨by rw [ans.out]; rfl, HF.out⟩
      · have e3 := decide_eq_false h3
        have ans := Lib.hid (show Mo.may m o s x h k = (false, 1) from by unfold Mo.may Mo.fits; rw [e1, h2, e3]; rfl)
        clear h1 h2 h3
        go_enter Tryd.func6, Tryd.ntmps6
        go_wp2_with (first
          | (go_at_call 29; (with_reducible refine useC (within_is _ _ _ true _ e1) ?_); rintro e w2 ⟨rfl, rfl⟩)
          | (go_at_call 29; (with_reducible refine useC (within_is _ _ _ false _ e3) ?_); rintro e w2 ⟨rfl, rfl⟩)
          | (go_at_call 30; (with_reducible refine useC (all_any _ _ _ _ _ _ HS.out) ?_); rw [H2.out]; rintro e w2 ⟨rfl, rfl⟩))
        exact bodyPost_ret (v := .tuple #[.bool (false), .iface 61 (.int .i64 1)]) (by simp [results, Tryd.results6, go_sem]) rfl ⟨by rw [ans.out]; rfl, HF.out⟩
    | false =>
      have H2 := Lib.hid h2
      have ans := Lib.hid (show Mo.may m o s x h k = (false, 1) from by unfold Mo.may Mo.fits; rw [e1, h2]; rfl)
      clear h1 h2
      go_enter Tryd.func6, Tryd.ntmps6
      go_wp2_with (first
        | (go_at_call 29; (with_reducible refine useC (within_is _ _ _ true _ e1) ?_); rintro e w2 ⟨rfl, rfl⟩)
        | (go_at_call 30; (with_reducible refine useC (all_any _ _ _ _ _ _ HS.out) ?_); rw [H2.out]; rintro e w2 ⟨rfl, rfl⟩))
      exact bodyPost_ret (v := .tuple #[.bool (false), .iface 61 (.int .i64 1)]) (by simp [results, Tryd.results6, go_sem]) rfl ⟨by rw [ans.out]; rfl, HF.out⟩
  · have e1 := decide_eq_false h1
    have ans := Lib.hid (show Mo.may m o s x h k = (false, 1) from by unfold Mo.may Mo.fits; rw [e1]; rfl)
    clear h1
    go_enter Tryd.func6, Tryd.ntmps6
    go_wp2_with (first
      | (go_at_call 29; (with_reducible refine useC (within_is _ _ _ false _ e1) ?_); rintro e w2 ⟨rfl, rfl⟩))
    exact bodyPost_ret (v := .tuple #[.bool (false), .iface 61 (.int .i64 1)]) (by simp [results, Tryd.results6, go_sem]) rfl ⟨by rw [ans.out]; rfl, Fr.refl _ _⟩
theorem mo_New (w : World) (a m : Int) (R : Int × Int) (hR : Mo.new a m = R) :
    Calls Tryd.prog 10 #[.int .i64 a, .int .i64 m] w fun e w' => e = .returned (.tuple #[.int .i64 R.1, errV R.2]) ∧ Fr [] w w' := by
  subst hR
  have HF : Hid (Fr [] w (w.alloc (.cells #[.int .i64 a, .int .i64 m] 3))) := (Fr.refl _ _).alloc _
  have HS : Hid (Sl (w.alloc (.cells #[.int .i64 a, .int .i64 m] 3)) (.slice (some ⟨w.heap.size, 0, none⟩) 2 2) w.heap.size [a, m]) := sl_new [a, m] (heap_alloc_new w _) (show 2 ≤ maxLen by decide)
  cases h2 : allIn [a, m] 0 511 with
  | true =>
    have H2 := Lib.hid h2
    have ans := Lib.hid (show Mo.new a m = (bits .andNot .i64 a m, 0) from if_pos h2)
    clear h2
    go_enter Tryd.func10, Tryd.ntmps10
    go_wp2_with (first
      | (go_at_call 30; (with_reducible refine useC (all_any _ _ _ _ _ _ HS.out) ?_); rw [H2.out]; rintro e w2 ⟨rfl, rfl⟩))
    exact bodyPost_ret (v := .tuple #[.int .i64 (bits .andNot .i64 a m), .nilIface]) (by simp [results, Tryd.results10, go_sem]) rfl ⟨by rw [ans.out]; rfl, HF.out⟩
  | false =>
    have H2 := Lib.hid h2
    have ans := Lib.hid (show Mo.new a m = (0, 1) from if_neg (by rw [h2]; decide))
    clear h2
    go_enter Tryd.func10, Tryd.ntmps10
    go_wp2_with (first
      | (go_at_call 30; (with_reducible refine useC (all_any _ _ _ _ _ _ HS.out) ?_); rw [H2.out]; rintro e w2 ⟨rfl, rfl⟩))
    exact bodyPost_ret (v := .tuple #[.int .i64 0, .iface 61 (.int .i64 1)]) (by simp [results, Tryd.results10, go_sem]) rfl ⟨by rw [ans.out]; rfl, HF.out⟩
end Go.Proofs.YtiadpgkephokdaaDoor
