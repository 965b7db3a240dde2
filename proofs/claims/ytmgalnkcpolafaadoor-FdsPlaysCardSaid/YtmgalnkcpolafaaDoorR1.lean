/- The contracts of the first reference's in, All, Bytes. -/
import Derived.Test.YtmgalnkcpolafaaDoorCommon
import Derived.Test.YtmgalnkcpolafaaDoorCAll
namespace Go.Proofs.YtmgalnkcpolafaaDoor
open Go.RowKit

theorem r1in_any (n lo hi : Int) (w : World) :
    Calls Tryd.prog 50 #[.int .i64 n, .int .i64 lo, .int .i64 hi] w fun e w' => e = .returned (.bool (decide (lo ≤ n ∧ n ≤ hi))) ∧ w = w' := by
  go_enter Tryd.func50, Tryd.ntmps50
  go_wp2
  all_goals (go_ret; refine ⟨?_, rfl⟩; congr; try simp; try omega)
theorem r1in_is (n lo hi : Int) (b : Bool) (w : World) (h : decide (lo ≤ n ∧ n ≤ hi) = b) :
    Calls Tryd.prog 50 #[.int .i64 n, .int .i64 lo, .int .i64 hi] w fun e w' => e = .returned (.bool b) ∧ w' = w :=
  (r1in_any n lo hi w).mono fun _ _ ⟨h1, h2⟩ => ⟨by rw [h1, h], h2.symm⟩
theorem r1all_any (w : World) (v : Value) (g : Nat) (xs : List Int) (lo hi : Int) (h : Sl w v g xs) :
    Calls Tryd.prog 45 #[v, .int .i64 lo, .int .i64 hi] w fun e w' => e = .returned (.bool (allIn xs lo hi)) ∧ w = w' := by
  obtain ⟨A, o, c, rfl, hm, hA, hc⟩ := h.form
  clear h
  have HA := Lib.hid hA
  have HC := Lib.hid hc
  clear hA hc
  go_enter Tryd.func45, Tryd.ntmps45
  go_wp2
  go_loop [7] (fun i => ∃ k : Nat, k ≤ xs.length ∧ i = .int .i64 k ∧ Hid (∀ j, j < k → decide (lo ≤ nth xs j ∧ nth xs j ≤ hi) = true)) (fun i => xs.length - (intOf i).toNat)
  case atStart => exact ⟨0, Nat.zero_le _, rfl, fun j hj => absurd hj (Nat.not_lt_zero _)⟩
  case round =>
    obtain ⟨k, hk, rfl, hs⟩ := hrel
    by_cases hlt : k < xs.length
    · obtain rfl := HA.out (by omega)
      have hcell := HC.out k hlt
      by_cases hy : lo ≤ nth xs k ∧ nth xs k ≤ hi
      · have e1 := decide_eq_true hy
        have HS : Hid (∀ j, j < k + 1 → decide (lo ≤ nth xs j ∧ nth xs j ≤ hi) = true) := fun j hj => by
          by_cases e : j = k
          · subst e; exact e1
          · exact hs.out j (by omega)
        clear hy
        generalize nth xs k = y at *
        go_wp2_with (go_at_call 50; (with_reducible refine useC (r1in_is _ _ _ true _ e1) ?_); rintro e w2 ⟨rfl, rfl⟩)
        go_round
        case rel => exact ⟨k + 1, by omega, by go_num, HS⟩
        case measure => simp [intOf]; omega
      · have e1 := decide_eq_false hy
        have hr := Lib.hid (allIn_cut hlt e1)
        clear hy
        generalize nth xs k = y at *
        go_wp2_with (go_at_call 50; (with_reducible refine useC (r1in_is _ _ _ false _ e1) ?_); rintro e w2 ⟨rfl, rfl⟩)
        go_ret
        exact ⟨ret_bool hr.out.symm, rfl⟩
    · have hr := Lib.hid (allIn_full (fun j hj => hs.out j (by omega)))
      go_wp2
      go_ret
      exact ⟨ret_bool hr.out.symm, rfl⟩
/-- What is wrong with bytes. -/
def r1bytes (l : List Int) (most : Nat) : Int := if most < l.length then 4 else if allIn l 0 255 = false then 1 else 0
theorem r1Bytes (w : World) (v : Value) (g : Nat) (l : List Int) (most : Nat) (h : Sl w v g l) :
    Calls Tryd.prog 41 #[v, .int .i64 most] w fun e w' => e = .returned (.int .i64 (r1bytes l most)) ∧ w = w' := by
  have HS := Lib.hid h
  obtain ⟨A, o, c, rfl, -, -, -⟩ := h.form
  by_cases hl : most < l.length
  · have er := Lib.hid (show r1bytes l most = 4 from by unfold r1bytes; rw [if_pos hl])
    go_enter Tryd.func41, Tryd.ntmps41
    go_wp2
    go_ret
    exact ⟨by rw [er.out]; rfl, rfl⟩
  · cases ha : allIn l 0 255 with
    | false =>
      have er := Lib.hid (show r1bytes l most = 1 from by unfold r1bytes; rw [if_neg hl, if_pos ha])
      have HA := Lib.hid ha
      have hl' : l.length ≤ most := by omega
      clear ha hl
      go_enter Tryd.func41, Tryd.ntmps41
      go_wp2_with (go_at_call 45; (with_reducible refine useC (r1all_any _ _ _ _ _ _ HS.out) ?_); rw [HA.out]; rintro e w ⟨rfl, rfl⟩)
      go_ret
      exact ⟨by rw [er.out]; rfl, rfl⟩
    | true =>
      have er := Lib.hid (show r1bytes l most = 0 from by unfold r1bytes; rw [if_neg hl, if_neg (by rw [ha]; decide)])
      have HA := Lib.hid ha
      have hl' : l.length ≤ most := by omega
      clear ha hl
      go_enter Tryd.func41, Tryd.ntmps41
      go_wp2_with (go_at_call 45; (with_reducible refine useC (r1all_any _ _ _ _ _ _ HS.out) ?_); rw [HA.out]; rintro e w ⟨rfl, rfl⟩)
      go_ret
      exact ⟨by rw [er.out]; rfl, rfl⟩
end Go.Proofs.YtmgalnkcpolafaaDoor
