/- The document's answer for package mode: Less, Letters, Mode. -/
import Derived.Test.YtiadpgkephokdaaDoorMsRef
import Derived.Laws.DeepStrings4
namespace Go.Proofs.YtiadpgkephokdaaDoor
open Go.RowKit

set_option maxRecDepth 100000 in
theorem ms_Less (w : World) (a m : Nat) (ha : a ≤ 511) (hm : m ≤ 511) : Calls Tryd.prog 9 #[.int .i64 a, .int .i64 m] w fun e w' => e = .returned (.int .i64 ((Mo.lessTo a m 9 : Nat) : Int)) ∧ w' = w := by
  obtain ⟨R, hR⟩ : ∃ R, Mo.lessTo a m 9 = R := ⟨_, rfl⟩
  have HR := Lib.hid hR
  rw [hR]
  clear hR
  go_enter Tryd.func9, Tryd.ntmps9
  go_wp2
  go_loop [5, 6] (fun o p => ∃ i P O : Nat, i ≤ 9 ∧ p = .int .i64 P ∧ o = .int .i64 O ∧ Hid (P = 2 ^ i) ∧ Hid (O = Mo.lessTo a m i)) (fun _ p => 1000 - (intOf p).toNat)
  case atStart => exact ⟨0, 1, 0, Nat.zero_le _, rfl, rfl, rfl, rfl⟩
  case round =>
    obtain ⟨i, P, O, hi, rfl, rfl, hP, hO⟩ := hrel
    have hOl := Mo.lessTo_lt a m i
    by_cases hlt : i < 9
    · have hP1 : 1 ≤ P ∧ P ≤ 256 := by
        have h1 := hP.out
        have h2 : 2 ^ i ≤ 2 ^ 8 := Nat.pow_le_pow_right (by decide) (by omega)
        have h3 := Nat.two_pow_pos i
        omega
      have p0 : (0 : Int) < P := by omega
      have p1 : (P : Int) < 512 := by omega
      have pz : ¬ (P : Int) = 0 := by omega
      have hO5 : (O : Int) ≤ 511 := by
        have h1 := hO.out
        have h2 : 2 ^ i ≤ 2 ^ 8 := Nat.pow_le_pow_right (by decide) (by omega)
        omega
      have HS : Hid (Mo.lessTo a m (i + 1) = O + if a / P % 2 = 1 ∧ m / P % 2 = 0 then P else 0) := by
        show _ = _
        rw [hO.out, hP.out]; rfl
      have HP2 : Hid (P * 2 = 2 ^ (i + 1)) := by show _ = _; rw [hP.out, Nat.pow_succ]
      obtain ⟨x, hx⟩ : ∃ x : Nat, a / P % 2 = x := ⟨_, rfl⟩
      obtain ⟨y, hy⟩ : ∃ y : Nat, m / P % 2 = y := ⟨_, rfl⟩
      have hxI : (a : Int) / (P : Int) % 2 = (x : Int) := by rw [← hx]; rfl
      have hq0 : 0 ≤ (a : Int) / (P : Int) ∧ (a : Int) / (P : Int) ≤ 511 := ⟨Int.natCast_nonneg (a / P), Int.ofNat_le.2 (Nat.le_trans (Nat.div_le_self a P) (by omega) : a / P ≤ 511)⟩
      have hq1 : 0 ≤ (m : Int) / (P : Int) ∧ (m : Int) / (P : Int) ≤ 511 := ⟨Int.natCast_nonneg (m / P), Int.ofNat_le.2 (Nat.le_trans (Nat.div_le_self m P) (by omega) : m / P ≤ 511)⟩
      have hyI : (m : Int) / (P : Int) % 2 = (y : Int) := by rw [← hy]; rfl
      have hx2 : x = 0 ∨ x = 1 := by omega
      have hy2 : y = 0 ∨ y = 1 := by omega
      rw [hx, hy] at HS
      have a0 : (0 : Int) ≤ a := by omega
      have m0 : (0 : Int) ≤ m := by omega
      have a5 : (a : Int) ≤ 511 := by omega
      have m5 : (m : Int) ≤ 511 := by omega
      have O0 : (0 : Int) ≤ O := by omega
      clear hx hy hOl hP hO
      rcases hx2 with rfl | rfl
      · have HQ := Lib.hid (HS.out.trans (congrArg (O + ·) (if_neg (fun h => by omega))))
        have hxJ : (a : Int) / (P : Int) % 2 = 0 := hxI
        clear HS hy2 hyI hxI
        go_wp2
        go_round
        case rel => exact ⟨i + 1, P * 2, O, by omega, by first | rfl | go_num, rfl, HP2, HQ.out.symm⟩
        case measure => (simp [intOf]; try omega)
      · have hxJ : (a : Int) / (P : Int) % 2 = 1 := hxI
        clear hxI
        rcases hy2 with rfl | rfl
        · have HQ := Lib.hid (HS.out.trans (congrArg (O + ·) (if_pos ⟨rfl, rfl⟩)))
          have hyJ : (m : Int) / (P : Int) % 2 = 0 := hyI
          clear HS hyI
          go_wp2
          go_round
          case rel => exact ⟨i + 1, P * 2, O + P, by omega, by first | rfl | go_num, by first | rfl | go_num, HP2, HQ.out.symm⟩
          case measure => (simp [intOf]; try omega)
        · have HQ := Lib.hid (HS.out.trans (congrArg (O + ·) (if_neg (fun h => by omega))))
          have hyJ : (m : Int) / (P : Int) % 2 = 1 := hyI
          clear HS hyI
          go_wp2
          go_round
          case rel => exact ⟨i + 1, P * 2, O, by omega, by first | rfl | go_num, rfl, HP2, HQ.out.symm⟩
          case measure => (simp [intOf]; try omega)
    · obtain rfl : i = 9 := by omega
      have hP5 : P = 512 := hP.out
      have p1 : ¬ (P : Int) < 512 := by omega
      clear hP5 hOl hP
      go_wp2
      go_ret
      exact ⟨by rw [← HR.out, ← hO.out]; rfl, rfl⟩
namespace Mo
/-- The first k letters of a mode, as a text. -/
def lets (m k : Nat) : ByteArray := ⟨((List.range k).map (shB m)).toArray⟩
theorem lets_nine (m : Nat) : lets m 9 = ⟨(showL m).toArray⟩ := rfl
theorem lets_size (m k : Nat) : (lets m k).size = k := by unfold lets; simp [ByteArray.size]
theorem lets_succ (m k : Nat) : lets m (k + 1) = lets m k ++ ⟨#[shB m k]⟩ := by
  apply ByteArray.ext
  apply Array.ext'
  simp [lets, List.range_succ]
end Mo
set_option maxRecDepth 100000 in
theorem ms_Letters (w : World) (m : Nat) (hm : m ≤ 511) : Calls Tryd.prog 11 #[.int .i64 m] w fun e w' => e = .returned (.string ⟨(Mo.showL m).toArray⟩) ∧ w' = w := by
  obtain ⟨R, hR⟩ : ∃ R, (⟨(Mo.showL m).toArray⟩ : ByteArray) = R := ⟨_, rfl⟩
  have HR := Lib.hid hR
  rw [hR]
  clear hR
  go_enter Tryd.func11, Tryd.ntmps11
  go_wp2
  go_loop [3, 4, 5] (fun s p i => ∃ k P : Nat, ∃ S : ByteArray, k ≤ 9 ∧ p = .int .i64 P ∧ i = .int .i64 k ∧ s = .string S ∧ Hid (P = 256 / 2 ^ k) ∧ Hid (S = Mo.lets m k)) (fun _ _ i => 9 - (intOf i).toNat)
  case atStart => exact ⟨0, 256, ⟨#[]⟩, Nat.zero_le _, rfl, rfl, rfl, rfl, rfl⟩
  case round =>
    obtain ⟨k, P, S, hk, rfl, rfl, rfl, hP, hS⟩ := hrel
    by_cases hlt : k < 9
    · have k9 : (k : Int) < 9 := by omega
      have k0 : (0 : Int) ≤ k := by omega
      have hP8 : P = 2 ^ (8 - k) := by
        rw [hP.out]
        match k, hlt with
        | 0, _ => rfl
        | 1, _ => rfl
        | 2, _ => rfl
        | 3, _ => rfl
        | 4, _ => rfl
        | 5, _ => rfl
        | 6, _ => rfl
        | 7, _ => rfl
        | 8, _ => rfl
      have hP1 : 1 ≤ P ∧ P ≤ 256 := by
        have h2 : 2 ^ (8 - k) ≤ 2 ^ 8 := Nat.pow_le_pow_right (by decide) (by omega)
        have h3 := Nat.two_pow_pos (8 - k)
        omega
      have p0 : (0 : Int) < P := by omega
      have pz : ¬ (P : Int) = 0 := by omega
      have p2 : (P : Int) ≤ 256 := by omega
      have HP2 : Hid (P / 2 = 256 / 2 ^ (k + 1)) := by show _ = _; rw [hP.out, Nat.pow_succ, Nat.div_div_eq_div_mul]
      have hsz : S.size = k := by rw [hS.out, Mo.lets_size]
      have HSU : Hid (Mo.lets m (k + 1) = S ++ ⟨#[Mo.shB m k]⟩) := by show _ = _; rw [hS.out]; exact Mo.lets_succ m k
      obtain ⟨x, hx⟩ : ∃ x : Nat, m / P % 2 = x := ⟨_, rfl⟩
      have hxI : (m : Int) / (P : Int) % 2 = (x : Int) := by rw [← hx]; rfl
      have hq1 : 0 ≤ (m : Int) / (P : Int) ∧ (m : Int) / (P : Int) ≤ 511 := ⟨Int.natCast_nonneg (m / P), Int.ofNat_le.2 (Nat.le_trans (Nat.div_le_self m P) (by omega) : m / P ≤ 511)⟩
      have hx2 : x = 0 ∨ x = 1 := by omega
      have hbit : Mo.bit m k = decide (x = 1) := by unfold Mo.bit; rw [← hP8, hx]
      have m0 : (0 : Int) ≤ m := by omega
      have m5 : (m : Int) ≤ 511 := by omega
      clear hx hP hS hP8
      rcases hx2 with rfl | rfl
      · have HQ : Hid (Mo.lets m (k + 1) = S ++ ⟨#[45]⟩) := by show _ = _; rw [HSU.out]; unfold Mo.shB; rw [hbit]; rfl
        have hxJ : (m : Int) / (P : Int) % 2 = 0 := hxI
        clear HSU hbit hxI
        go_wp2
        go_round
        case rel => exact ⟨k + 1, P / 2, _, by omega, by first | rfl | go_num, by go_num, rfl, HP2, HQ.out.symm⟩
        case measure => (simp [intOf]; try omega)
      · have HQ : Hid (Mo.lets m (k + 1) = S ++ ⟨#[Mo.lett k]⟩) := by show _ = _; rw [HSU.out]; unfold Mo.shB; rw [hbit]; rfl
        have hex : (⟨#[114, 119, 120, 114, 119, 120, 114, 119, 120]⟩ : ByteArray).extract k (k + 1) = ⟨#[Mo.lett k]⟩ := by
          match k, hlt with
          | 0, _ => rfl
          | 1, _ => rfl
          | 2, _ => rfl
          | 3, _ => rfl
          | 4, _ => rfl
          | 5, _ => rfl
          | 6, _ => rfl
          | 7, _ => rfl
          | 8, _ => rfl
        have HEX := Lib.hid hex
        have hsl : ∀ W : World, (Instr.slice 9 (.string ⟨#[114, 119, 120, 114, 119, 120, 114, 119, 120]⟩) (some (.int .i64 (k : Int))) (some (.int .i64 ((k : Int) + 1))) none).run Tryd.prog W = .ok (.string ⟨#[Mo.lett k]⟩) W := fun W => by
          rw [run_slice_string_if W 9 _ .i64 .i64 _ _ Tryd.underlying9, if_pos (show 0 ≤ (k : Int) + 1 ∧ (k : Int) + 1 ≤ ((⟨#[114, 119, 120, 114, 119, 120, 114, 119, 120]⟩ : ByteArray).size : Int) from ⟨by omega, by show (k : Int) + 1 ≤ 9; omega⟩), if_pos (by omega)]
          have e1 : ((k : Int)).toNat = k := by omega
          have e2 : ((k : Int) + 1).toNat = k + 1 := by omega
          rw [e1, e2, hex]
        have hxJ : (m : Int) / (P : Int) % 2 = 1 := hxI
        clear HSU hbit hex hxI
        go_wp2
        go_round
        case rel => exact ⟨k + 1, P / 2, _, by omega, by first | rfl | go_num, by go_num, rfl, HP2, HQ.out.symm⟩
        case measure => (simp [intOf]; try omega)
    · obtain rfl : k = 9 := by omega
      have k9 : ¬ ((9 : Nat) : Int) < 9 := by decide
      go_wp2
      go_ret
      exact ⟨by rw [← HR.out, ← Mo.lets_nine, ← hS.out]; rfl, rfl⟩
end Go.Proofs.YtiadpgkephokdaaDoor
