/- The document's answer for package mode: digit, May, Less. -/
import Derived.Test.YtiadpgkephokdaaDoorMoLaw0
import Derived.Test.YtiadpgkephokdaaDoorMoBack0
namespace Go.Proofs.YtiadpgkephokdaaDoor
open Go.RowKit

theorem ms_digit (w : World) (n i : Nat) (hn : n ≤ 511) (hi : i ≤ 2) (R : Int) (hR : ((n / 8 ^ i % 8 : Nat) : Int) = R) : Calls Tryd.prog 33 #[.int .i64 n, .int .i64 i] w fun e w' => e = .returned (.int .i64 R) ∧ w' = w := by
  have HR := Lib.hid hR
  clear hR
  have hi2 : (i : Int) ≤ 2 := by omega
  go_enter Tryd.func33, Tryd.ntmps33
  go_wp2
  go_loop [0, 5] (fun x k => ∃ j : Nat, j ≤ i ∧ k = .int .i64 j ∧ ∃ q : Nat, q ≤ 511 ∧ x = .int .i64 q ∧ Hid (q = n / 8 ^ j)) (fun _ k => i - (intOf k).toNat)
  case atStart => exact ⟨0, Nat.zero_le _, rfl, n, hn, rfl, (Nat.div_one n).symm⟩
  case round =>
    obtain ⟨j, hj, rfl, q, hq, rfl, hqe⟩ := hrel
    by_cases hlt : j < i
    · have jI : (j : Int) < i := by omega
      have q0 : (0 : Int) ≤ q := by omega
      have hq5 : (q : Int) ≤ 511 := by omega
      go_wp2
      go_round
      case rel => exact ⟨j + 1, by omega, by go_num, q / 8, by omega, by first | rfl | go_num, by show _ = _; rw [hqe.out, Nat.pow_succ, Nat.div_div_eq_div_mul]⟩
      case measure => (simp [intOf]; try omega)
    · obtain rfl : j = i := by omega
      have jI : ¬ (j : Int) < j := by omega
      have q0 : (0 : Int) ≤ q := by omega
      go_wp2
      go_ret
      refine ⟨?_, rfl⟩
      rw [← HR.out, ← hqe.out]
      rfl
namespace Mo
/-- What the document's May says. -/
def refMay (m o s x h k : Int) : Bool := if x = 0 then true else bits3 k ((m.toNat / 8 ^ (if x = o then 2 else if h = s then 1 else 0) % 8 : Nat) : Int)
theorem and_low (a k : Nat) (hk : k < 8) : a &&& k = (a % 8) &&& k := by
  apply Nat.eq_of_testBit_eq
  intro i
  rw [Nat.testBit_and, Nat.testBit_and, show (8 : Nat) = 2 ^ 3 from rfl, Nat.testBit_mod_two_pow]
  by_cases hi : i < 3
  · simp [hi]
  · have : k.testBit i = false := Nat.testBit_lt_two_pow (Nat.lt_of_lt_of_le hk (show 2 ^ 3 ≤ 2 ^ i from Nat.pow_le_pow_right (by decide) (by omega)))
    simp [this]
theorem bits3_and (a k : Nat) (hk : k < 8) : bits3 (k : Int) ((a % 8 : Nat) : Int) = (a &&& k == k) := by
  rw [bits3_nat k hk (a % 8) (Nat.mod_lt _ (by decide)), and_low a k hk, Nat.and_comm]
theorem may_ref {m o s x h k : Int} (hf : fits m o s x h k = true) : may m o s x h k = (refMay m o s x h k, 0) := by
  obtain ⟨⟨h1, h2⟩, ⟨h3, h4⟩, _⟩ := fits_bounds hf
  unfold may refMay
  rw [if_pos hf]
  by_cases hx : x = 0
  · rw [if_pos hx, if_pos hx]
  · rw [if_neg hx, if_neg hx]
    obtain ⟨a, rfl⟩ : ∃ a : Nat, m = a := ⟨m.toNat, by omega⟩
    obtain ⟨b, rfl⟩ : ∃ b : Nat, k = b := ⟨k.toNat, by omega⟩
    rw [Int.toNat_natCast, bits3_and _ b (by omega)]
    have hp : part o s x h (a : Int) = ((a / 8 ^ (if x = o then 2 else if h = s then 1 else 0) : Nat) : Int) := by
      unfold part
      split
      · rfl
      · split
        · simp
        · simp
    rw [hp, band _ _ (Nat.lt_of_le_of_lt (Nat.div_le_self _ _) (by omega)) (by omega)]
    congr 1
    rw [Bool.eq_iff_iff]
    simp only [beq_iff_eq]
    omega
/-- Bits of nine that are in one, and not in the other one: the first i of them. -/
def lessTo (a m : Nat) : Nat → Nat
  | 0 => 0
  | i + 1 => lessTo a m i + if a / 2 ^ i % 2 = 1 ∧ m / 2 ^ i % 2 = 0 then 2 ^ i else 0
theorem lessTo_lt (a m : Nat) : ∀ i, lessTo a m i < 2 ^ i
  | 0 => by simp [lessTo]
  | i + 1 => by
    have := lessTo_lt a m i
    unfold lessTo
    rw [Nat.pow_succ]
    split <;> omega
theorem lessTo_mod {a m n : Nat} (h : ∀ i, n.testBit i = (a.testBit i && !m.testBit i)) : ∀ i, lessTo a m i = n % 2 ^ i
  | 0 => by simp [lessTo, Nat.mod_one]
  | i + 1 => by
    unfold lessTo
    have hb := h i
    rw [Nat.testBit_eq_decide_div_mod_eq, Nat.testBit_eq_decide_div_mod_eq, Nat.testBit_eq_decide_div_mod_eq] at hb
    rw [lessTo_mod h i, Nat.mod_pow_succ]
    congr 1
    have h0 : n / 2 ^ i % 2 = 0 ∨ n / 2 ^ i % 2 = 1 := by omega
    have h1 : a / 2 ^ i % 2 = 0 ∨ a / 2 ^ i % 2 = 1 := by omega
    have h2 : m / 2 ^ i % 2 = 0 ∨ m / 2 ^ i % 2 = 1 := by omega
    rcases h0 with h0 | h0 <;> rcases h1 with h1 | h1 <;> rcases h2 with h2 | h2 <;> simp [h0, h1, h2] at hb ⊢
theorem new_less {a m : Int} (ha : 0 ≤ a ∧ a ≤ 511) (hm : 0 ≤ m ∧ m ≤ 511) : new a m = (((lessTo a.toNat m.toNat 9 : Nat) : Int), 0) := by
  obtain ⟨n, h1, h2, h3⟩ := new_ok ha hm
  rw [h1, lessTo_mod h3 9, Nat.mod_eq_of_lt (show n < 2 ^ 9 by omega)]
end Mo
set_option maxRecDepth 100000 in
theorem ms_May (w : World) (m o s x h k : Int) (hm : 0 ≤ m ∧ m ≤ 511) (hk : 0 ≤ k ∧ k ≤ 7) :
    Calls Tryd.prog 8 #[.int .i64 m, .int .i64 o, .int .i64 s, .int .i64 x, .int .i64 h, .int .i64 k] w fun e w' => e = .returned (.bool (Mo.refMay m o s x h k)) ∧ w' = w := by
  obtain ⟨a, rfl⟩ : ∃ a : Nat, m = a := ⟨m.toNat, by omega⟩
  have ha : a ≤ 511 := by omega
  have HD := Lib.hid (fun W i (hi : i ≤ 2) R (hR : ((a / 8 ^ i % 8 : Nat) : Int) = R) => ms_digit W a i ha hi R hR)
  have HB := Lib.hid (fun W (i : Nat) R (hR : ((a / 8 ^ i % 8 : Nat) : Int) = R) => mo_Bits W k R hk (by have := Nat.mod_lt (a / 8 ^ i) (show 8 > 0 by decide); omega))
  have HR : Hid (Mo.refMay a o s x h k = if x = 0 then true else Mo.bits3 k ((a / 8 ^ (if x = o then 2 else if h = s then 1 else 0) % 8 : Nat) : Int)) := rfl
  clear hm hk ha
  by_cases hx : x = 0
  · have b1 : (x == 0) = true := beq_iff_eq.2 hx
    have HQ := Lib.hid (HR.out.trans (if_pos hx))
    clear hx HR
    go_enter Tryd.func8, Tryd.ntmps8
    go_wp2_with fail
    go_ret
    exact ⟨by rw [HQ.out]; rfl, rfl⟩
  · have b1 : (x == 0) = false := beq_eq_false_iff_ne.2 hx
    have HQ := Lib.hid (HR.out.trans (if_neg hx))
    clear hx HR
    by_cases hxo : x = o
    · have b2 : (x == o) = true := beq_iff_eq.2 hxo
      rw [if_pos hxo] at HQ
      obtain ⟨V, hV⟩ : ∃ V, ((a / 8 ^ 2 % 8 : Nat) : Int) = V := ⟨_, rfl⟩
      rw [hV] at HQ
      have HV := Lib.hid hV
      clear hxo hV
      go_enter Tryd.func8, Tryd.ntmps8
      go_wp2_with (first
        | (go_at_call 33; (with_reducible refine useC (HD.out _ 2 (by decide) _ HV.out) ?_); rintro e w2 ⟨rfl, rfl⟩)
        | (go_at_call 32; (with_reducible refine useC (HB.out _ 2 _ HV.out) ?_); rintro e w3 ⟨rfl, rfl⟩))
      go_ret
      exact ⟨by rw [HQ.out]; rfl, rfl⟩
    · have b2 : (x == o) = false := beq_eq_false_iff_ne.2 hxo
      rw [if_neg hxo] at HQ
      clear hxo
      by_cases hhs : h = s
      · have b3 : (h == s) = true := beq_iff_eq.2 hhs
        rw [if_pos hhs] at HQ
        obtain ⟨V, hV⟩ : ∃ V, ((a / 8 ^ 1 % 8 : Nat) : Int) = V := ⟨_, rfl⟩
        rw [hV] at HQ
        have HV := Lib.hid hV
        clear hhs hV
        go_enter Tryd.func8, Tryd.ntmps8
        go_wp2_with (first
          | (go_at_call 33; (with_reducible refine useC (HD.out _ 1 (by decide) _ HV.out) ?_); rintro e w2 ⟨rfl, rfl⟩)
          | (go_at_call 32; (with_reducible refine useC (HB.out _ 1 _ HV.out) ?_); rintro e w3 ⟨rfl, rfl⟩))
        go_ret
        exact ⟨by rw [HQ.out]; rfl, rfl⟩
      · have b3 : (h == s) = false := beq_eq_false_iff_ne.2 hhs
        rw [if_neg hhs] at HQ
        obtain ⟨V, hV⟩ : ∃ V, ((a / 8 ^ 0 % 8 : Nat) : Int) = V := ⟨_, rfl⟩
        rw [hV] at HQ
        have HV := Lib.hid hV
        clear hhs hV
        go_enter Tryd.func8, Tryd.ntmps8
        go_wp2_with (first
          | (go_at_call 33; (with_reducible refine useC (HD.out _ 0 (by decide) _ HV.out) ?_); rintro e w2 ⟨rfl, rfl⟩)
          | (go_at_call 32; (with_reducible refine useC (HB.out _ 0 _ HV.out) ?_); rintro e w3 ⟨rfl, rfl⟩))
        go_ret
        exact ⟨by rw [HQ.out]; rfl, rfl⟩
end Go.Proofs.YtiadpgkephokdaaDoor
