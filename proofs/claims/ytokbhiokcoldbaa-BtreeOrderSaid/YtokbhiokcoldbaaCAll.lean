/- The contract of core.All at a row of numbers. -/
import Derived.Test.YtokbhiokcoldbaaCommon
namespace Go.Proofs.Ytokbhiokcoldbaa
open Go.RowKit

theorem sl_new {w : World} {g : Nat} {t : TypeId} {fr : Nat × Nat} (xs : List Int) (h : w.heap[g]? = some (.cells (ints xs) t fr)) (hl : xs.length ≤ maxLen) : Sl w (.slice (some ⟨g, 0, none⟩) xs.length xs.length) g xs :=
  .inr ⟨0, xs.length, rfl, Nat.le_refl _, hl, fun i hi => by rw [Nat.zero_add]; exact cell_ints h hi⟩
/-- Are all within bounds? -/
def allIn (xs : List Int) (lo hi : Int) : Bool := xs.all fun x => decide (lo ≤ x ∧ x ≤ hi)
theorem allIn_cut {xs : List Int} {lo hi : Int} {k : Nat} (hk : k < xs.length) (h : decide (lo ≤ nth xs k ∧ nth xs k ≤ hi) = false) : allIn xs lo hi = false := by
  unfold allIn
  rw [List.all_eq_false]
  exact ⟨nth xs k, getD_mem hk, by rw [h]; decide⟩
theorem allIn_full {xs : List Int} {lo hi : Int} (h : ∀ k, k < xs.length → decide (lo ≤ nth xs k ∧ nth xs k ≤ hi) = true) : allIn xs lo hi = true := by
  unfold allIn
  rw [List.all_eq_true]
  intro x hx
  obtain ⟨k, hk, e⟩ := List.getElem_of_mem hx
  have := h k hk
  rw [show nth xs k = x by simp [nth, List.getD, hk, e]] at this
  exact this
theorem all_any (w : World) (v : Value) (g : Nat) (xs : List Int) (lo hi : Int) (h : Sl w v g xs) :
    Calls Try.prog 46 #[v, .int .i64 lo, .int .i64 hi] w fun e w' => e = .returned (.bool (allIn xs lo hi)) ∧ w = w' := by
  obtain ⟨A, o, c, rfl, hm, hA, hc⟩ := h.form
  clear h
  have HA := Lib.hid hA
  have HC := Lib.hid hc
  clear hA hc
  go_enter Try.func46, Try.ntmps46
  go_wp2
  go_loop [11] (fun i => ∃ k : Nat, k ≤ xs.length ∧ i = .int .i64 k ∧ Hid (∀ j, j < k → decide (lo ≤ nth xs j ∧ nth xs j ≤ hi) = true)) (fun i => xs.length - (intOf i).toNat)
  case atStart => exact ⟨0, Nat.zero_le _, rfl, fun j hj => absurd hj (Nat.not_lt_zero _)⟩
  case round =>
    obtain ⟨k, hk, rfl, hs⟩ := hrel
    by_cases hlt : k < xs.length
    · obtain rfl := HA.out (by omega)
      have hcell := HC.out k hlt
      by_cases hy : lo ≤ nth xs k ∧ nth xs k ≤ hi
      · have e1 := decide_eq_true hy
        have HS : Hid (∀ j, j < k + 1 → decide (lo ≤ nth xs j ∧ nth xs j ≤ hi) = true) := fun j hj => by
          by_cases e : j = k
          · subst e; exact e1
          · exact hs.out j (by omega)
        clear hy
        generalize nth xs k = y at *
        go_wp2_with (go_at_call 36; (with_reducible refine useC (within_is _ _ _ true _ e1) ?_); rintro e w2 ⟨rfl, rfl⟩)
        go_round
        case rel => exact ⟨k + 1, by omega, by go_num, HS⟩
        case measure => simp [intOf]; omega
      · have e1 := decide_eq_false hy
        have hr := Lib.hid (allIn_cut hlt e1)
        clear hy
        generalize nth xs k = y at *
        go_wp2_with (go_at_call 36; (with_reducible refine useC (within_is _ _ _ false _ e1) ?_); rintro e w2 ⟨rfl, rfl⟩)
        go_ret
        exact ⟨ret_bool hr.out.symm, rfl⟩
    · have hr := Lib.hid (allIn_full (fun j hj => hs.out j (by omega)))
      go_wp2
      go_ret
      exact ⟨ret_bool hr.out.symm, rfl⟩
end Go.Proofs.Ytokbhiokcoldbaa
