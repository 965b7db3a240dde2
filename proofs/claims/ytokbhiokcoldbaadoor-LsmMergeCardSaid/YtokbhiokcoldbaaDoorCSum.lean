/- The contract of platterholdsame.Sum at a row of small numbers. -/
import Derived.Test.YtokbhiokcoldbaaDoorCommon
namespace Go.Proofs.YtokbhiokcoldbaaDoor
open Go.RowKit

def sumL (l : List Int) : Int := l.foldr (· + ·) 0
theorem sumL_append (l m : List Int) : sumL (l ++ m) = sumL l + sumL m := by
  induction l with
  | nil => simp [sumL]
  | cons a l ih => simp only [sumL, List.cons_append, List.foldr_cons] at ih ⊢; omega
theorem sumL_le (l : List Int) (h : ∀ x ∈ l, 0 ≤ x ∧ x ≤ 100000) : 0 ≤ sumL l ∧ sumL l ≤ l.length * 100000 := by
  induction l with
  | nil => simp [sumL]
  | cons a l ih =>
    have h1 := ih (fun x hx => h x (by simp [hx]))
    have h2 := h a (by simp)
    have e : sumL (a :: l) = a + sumL l := rfl
    rw [e, List.length_cons]; omega
theorem sum_any (w : World) (v : Value) (g : Nat) (xs : List Int) (h : Sl w v g xs) (hl : xs.length ≤ 1000) (hx : ∀ x ∈ xs, 0 ≤ x ∧ x ≤ 100000) :
    Calls Tryd.prog 40 #[v] w fun e w' => e = .returned (.int .i64 (sumL xs)) ∧ w = w' := by
  obtain ⟨A, o, c, rfl, hm, hA, hc⟩ := h.form
  clear h
  have HA := Lib.hid hA
  have HC := Lib.hid hc
  have HX := Lib.hid hx
  clear hA hc hx
  go_enter Tryd.func40, Tryd.ntmps40
  go_wp2
  go_loop [3, 4] (fun s i => ∃ k : Nat, k ≤ xs.length ∧ i = .int .i64 k ∧ ∃ x : Int, s = .int .i64 x ∧ Hid (x = sumL (xs.take k))) (fun _ i => xs.length - (intOf i).toNat)
  case atStart => exact ⟨0, Nat.zero_le _, rfl, 0, rfl, rfl⟩
  case round =>
    obtain ⟨k, hk, rfl, x, rfl, hs⟩ := hrel
    by_cases hlt : k < xs.length
    · obtain rfl := HA.out (by omega)
      have hcell := HC.out k hlt
      have hb := sumL_le (xs.take k) (fun x hx => HX.out x (List.mem_of_mem_take hx))
      have hb2 := HX.out _ (getD_mem hlt)
      have h1 : (xs.take k).length ≤ 1000 := by rw [List.length_take]; omega
      have hy : 0 ≤ x ∧ x ≤ 100000000 := by rw [hs.out]; omega
      have hsn : Hid (sumL (xs.take (k + 1)) = x + nth xs k) := by
        show _ = _
        rw [List.take_succ_eq_append_getElem hlt, sumL_append, hs.out]
        simp [sumL, nth, List.getD, hlt]
      obtain ⟨hy0, hy1⟩ := hy
      obtain ⟨hb20, hb21⟩ := hb2
      clear hb h1
      generalize nth xs k = y at *
      go_wp2
      go_round
      case rel => exact ⟨k + 1, by omega, by go_num, _, rfl, by show _ = _; rw [hsn.out]⟩
      case measure => simp [intOf]; omega
    · have e : xs.take k = xs := List.take_of_length_le (by omega)
      rw [e] at hs
      clear e
      go_wp2
      go_ret
      exact ⟨ret_int hs.out, rfl⟩
end Go.Proofs.YtokbhiokcoldbaaDoor
