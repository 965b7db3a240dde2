/- The contracts of slices.Index and slices.Contains at lists of ints. -/
import Derived.Test.YtmhmbgkpojgbbaaCommon
namespace Go.Proofs.Ytmhmbgkpojgbbaa
open Go.RowKit

/-- What slices.Index hands back: a place, or -1. -/
def IdxPost (xs : List Int) (x : Int) (w : World) (e : Ending) (w' : World) : Prop := ∃ r : Int, e = .returned (.int .i64 r) ∧ (0 ≤ r ↔ x ∈ xs) ∧ w = w'
theorem index_any (w : World) (v : Value) (g : Nat) (xs : List Int) (x : Int) (h : Sl w v g xs) :
    Calls Try.prog 58 #[v, .int .i64 x] w (IdxPost xs x w) := by
  obtain ⟨A, o, c, rfl, hm, hA, hc⟩ := h.form
  clear h
  have HA := Lib.hid hA
  have HC := Lib.hid hc
  clear hA hc
  go_enter Try.func58, Try.ntmps58
  go_wp2
  go_loop [8] (fun i => ∃ k : Nat, k ≤ xs.length ∧ i = .int .i64 k ∧ Hid (∀ j, j < k → nth xs j ≠ x)) (fun i => xs.length - (intOf i).toNat)
  case atStart => exact ⟨0, Nat.zero_le _, rfl, fun j hj => absurd hj (Nat.not_lt_zero _)⟩
  case round =>
    obtain ⟨k, hk, rfl, hno⟩ := hrel
    by_cases hlt : k < xs.length
    · obtain rfl := HA.out (by omega)
      have hcell := HC.out k hlt
      by_cases he : x = nth xs k
      · have eB : (x == nth xs k) = true := by simpa using he
        have HE := Lib.hid he
        clear he
        go_wp2
        go_ret
        exact ⟨_, rfl, ⟨fun _ => by rw [HE.out]; exact getD_mem hlt, fun _ => by omega⟩, rfl⟩
      · have eB : (x == nth xs k) = false := by simpa using he
        have HE := Lib.hid he
        clear he
        go_wp2
        go_round
        case rel =>
          refine ⟨k + 1, by omega, by go_num, fun j hj => ?_⟩
          by_cases hjk : j = k
          · subst hjk; exact fun e => HE.out e.symm
          · exact hno.out j (by omega)
        case measure => simp [intOf]; omega
    · go_wp2
      go_ret
      refine ⟨_, rfl, ⟨fun h => absurd h (by omega), fun h => absurd h (not_mem_of fun j hj => hno.out j (by omega))⟩, rfl⟩
theorem contains_any (w : World) (v : Value) (g : Nat) (xs : List Int) (x : Int) (h : Sl w v g xs) :
    Calls Try.prog 53 #[v, .int .i64 x] w fun e w' => e = .returned (.bool (hasB xs x)) ∧ w = w' := by
  go_enter Try.func53, Try.ntmps53
  go_wp2_with fail
  refine (index_any w v g xs x h).mono ?_
  rintro e w' ⟨r, rfl, hr, rfl⟩
  go_wp2
  go_ret
  exact ⟨ret_bool (by rw [Bool.eq_iff_iff]; simp [hasB]), rfl⟩

end Go.Proofs.Ytmhmbgkpojgbbaa
