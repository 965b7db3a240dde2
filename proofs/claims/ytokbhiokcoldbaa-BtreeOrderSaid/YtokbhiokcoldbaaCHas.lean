/- The contract of platterholdref1.Has. -/
import Derived.Test.YtokbhiokcoldbaaCommon
namespace Go.Proofs.Ytokbhiokcoldbaa
open Go.RowKit

theorem has_yes {xs : List Int} {x : Int} {k : Nat} (hk : k < xs.length) (h : nth xs k = x) : hasB xs x = true := by
  unfold hasB
  rw [List.contains_iff_mem, ← h]
  exact getD_mem hk
theorem has_no {xs : List Int} {x : Int} (h : ∀ j, j < xs.length → nth xs j ≠ x) : hasB xs x = false := by
  unfold hasB
  cases e : xs.contains x
  · rfl
  · exact absurd (List.contains_iff_mem.1 e) (not_mem_of h)
theorem has_any (w : World) (v : Value) (g : Nat) (xs : List Int) (x : Int) (h : Sl w v g xs) :
    Calls Try.prog 14 #[v, .int .i64 x] w fun e w' => e = .returned (.bool (hasB xs x)) ∧ w = w' := by
  obtain ⟨A, o, c, rfl, hm, hA, hc⟩ := h.form
  clear h
  have HA := Lib.hid hA
  have HC := Lib.hid hc
  clear hA hc
  go_enter Try.func14, Try.ntmps14
  go_wp2
  go_loop [5] (fun i => ∃ k : Nat, k ≤ xs.length ∧ i = .int .i64 k ∧ Hid (∀ j, j < k → nth xs j ≠ x)) (fun i => xs.length - (intOf i).toNat)
  case atStart => exact ⟨0, Nat.zero_le _, rfl, fun j hj => absurd hj (Nat.not_lt_zero _)⟩
  case round =>
    obtain ⟨k, hk, rfl, hno⟩ := hrel
    by_cases hlt : k < xs.length
    · obtain rfl := HA.out (by omega)
      have hcell := HC.out k hlt
      by_cases he : nth xs k = x
      · have eB : (nth xs k == x) = true := by simpa using he
        have HE := Lib.hid (has_yes hlt he)
        clear he
        go_wp2
        go_ret
        exact ⟨ret_bool HE.out.symm, rfl⟩
      · have eB : (nth xs k == x) = false := by simpa using he
        have HE := Lib.hid he
        clear he
        go_wp2
        go_round
        case rel =>
          refine ⟨k + 1, by omega, by go_num, fun j hj => ?_⟩
          by_cases hjk : j = k
          · subst hjk; exact HE.out
          · exact hno.out j (by omega)
        case measure => simp [intOf]; omega
    · have HE := Lib.hid (has_no (fun j (hj : j < xs.length) => hno.out j (by omega)))
      go_wp2
      go_ret
      exact ⟨ret_bool HE.out.symm, rfl⟩
end Go.Proofs.Ytokbhiokcoldbaa
