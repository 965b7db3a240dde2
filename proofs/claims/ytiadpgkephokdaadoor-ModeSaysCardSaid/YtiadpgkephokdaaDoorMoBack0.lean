/- ModeBack: what is shown is read as it was, and the other way round. -/
import Derived.Test.YtiadpgkephokdaaDoorMoRead
namespace Go.Proofs.YtiadpgkephokdaaDoor
open Go.RowKit

namespace Mo
theorem back1 : ∀ m, m < 512 → rd ⟨(showL m).toArray⟩ = (((m : Nat) : Int), 0) := by decide +kernel
/-- The number whose bits are told. -/
def rdB (b : Nat → Bool) : Nat → Nat
  | 0 => 0
  | k + 1 => 2 * rdB b k + (if b k = true then 1 else 0)
theorem rdB_bit (b : Nat → Bool) : ∀ n k, k < n → rdB b n / 2 ^ (n - 1 - k) % 2 = if b k = true then 1 else 0
  | 0, k, h => by omega
  | n + 1, k, h => by
    unfold rdB
    by_cases e : k = n
    · subst e
      rw [show k + 1 - 1 - k = 0 by omega, Nat.pow_zero, Nat.div_one]
      split <;> omega
    · have ih := rdB_bit b n k (by omega)
      rw [show n + 1 - 1 - k = (n - 1 - k) + 1 by omega, Nat.pow_succ, Nat.mul_comm (2 ^ (n - 1 - k)) 2, ← Nat.div_div_eq_div_mul]
      have : (2 * rdB b n + if b n = true then 1 else 0) / 2 = rdB b n := by split <;> omega
      rw [this]
      exact ih
theorem rdV_eq (s : ByteArray) : ∀ n, rdV s n = rdB (fun k => decide (byt s k = lett k)) n
  | 0 => rfl
  | n + 1 => by
    unfold rdV rdB
    rw [rdV_eq s n]
    simp
theorem back2 {s : ByteArray} (h9 : s.size = 9) (ho : okTo s 9 = true) : (⟨(showL (rdV s 9)).toArray⟩ : ByteArray) = s := by
  have hl : showL (rdV s 9) = s.data.toList := by
    apply List.ext_getElem
    · simp [showL]
      exact h9.symm
    · intro k h1 h2
      have hk : k < 9 := by simpa [showL] using h1
      rw [showL_at]
      have hb := rdB_bit (fun k => decide (byt s k = lett k)) 9 k hk
      rw [← rdV_eq] at hb
      have hok : okAt s k = true := by
        unfold okTo at ho
        rw [List.all_eq_true] at ho
        exact ho k (by simpa using hk)
      have hs : s.data.toList[k] = byt s k := by
        unfold byt
        rw [List.getD_eq_getElem?_getD, List.getElem?_eq_getElem h2]
        rfl
      rw [hs]
      unfold shB bit
      rw [show 8 - k = 9 - 1 - k by omega, hb]
      unfold okAt at hok
      by_cases e : byt s k = lett k
      · simp [e]
      · simp [e] at hok ⊢
        exact hok.symm
  rw [hl]
theorem rd_cases (s : ByteArray) : (∃ c, rd s = (0, c) ∧ c ≠ 0) ∨ ∃ v : Nat, rd s = ((v : Int), 0) ∧ v ≤ 511 ∧ (⟨(showL v).toArray⟩ : ByteArray) = s := by
  unfold rd
  by_cases h9 : s.size = 9
  · rw [if_pos h9]
    by_cases ho : okTo s 9 = true
    · rw [if_pos ho]
      have := rdV_lt s 9
      exact .inr ⟨_, rfl, by omega, back2 h9 ho⟩
    · rw [if_neg ho]
      exact .inl ⟨2, rfl, by decide⟩
  · rw [if_neg h9]
    exact .inl ⟨3, rfl, by decide⟩
end Mo
theorem mo_Read_a (w : World) (s : ByteArray) (v : Int) (h : Mo.rd s = (v, 0)) : Calls Tryd.prog 14 #[.string s] w fun e w' => e = .returned (.tuple #[.int .i64 v, .nilIface]) ∧ Fr [] w w' := by
  have := mo_Read w s
  rw [h] at this
  exact this
theorem mo_Read_b (w : World) (s : ByteArray) (c : Int) (h : Mo.rd s = (0, c)) (hc : c ≠ 0) : Calls Tryd.prog 14 #[.string s] w fun e w' => e = .returned (.tuple #[.int .i64 0, .iface 61 (.int .i64 c)]) ∧ Fr [] w w' := by
  have := mo_Read w s
  rw [h] at this
  simp only [errV_no hc] at this
  exact this
theorem mo_Show_is (w : World) (v : Nat) (hv : v ≤ 511) (s : ByteArray) (h : (⟨(Mo.showL v).toArray⟩ : ByteArray) = s) : Calls Tryd.prog 12 #[.int .i64 v] w fun e w' => e = .returned (.tuple #[.string s, .nilIface]) ∧ Fr [] w w' := by
  rw [← h]
  exact mo_Show_ok w v hv
end Go.Proofs.YtiadpgkephokdaaDoor
