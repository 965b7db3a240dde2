/- ModeSays: what package mode answers is what the document says. Printed by wip/gen_mssays.py. -/
import Derived.Test.YtiadpgkephokdaaDoorMsRef3
import Derived.Deep.Cut
namespace Go.Proofs.YtiadpgkephokdaaDoor
open Go.RowKit

set_option maxRecDepth 100000 in
set_option maxHeartbeats 8000000 in
theorem ms_says0 (B0 w : World) (hB0 : Fr [] B0 w) (m o s x h k : Int) (S : ByteArray) (hE : ErrType B0) :
    Calls Tryd.prog 3 #[.int .i64 m, .int .i64 o, .int .i64 s, .int .i64 x, .int .i64 h, .int .i64 k, .string S] w (OkT B0) := by
  have HB0 := Lib.hid hB0
  clear hB0
  have HE := Lib.hid (fun W (hW : Fr [] B0 W) c => mserr_ok W c (hE.fr hW (by simp)))
  clear hE
  obtain ⟨is, ec, hM⟩ : ∃ is ec, Mo.may m o s x h k = (is, ec) := ⟨_, _, rfl⟩
  obtain ⟨ls, e2, hN⟩ : ∃ ls e2, Mo.new m k = (ls, e2) := ⟨_, _, rfl⟩
  obtain ⟨sh, e3, hS⟩ : ∃ sh e3, Mo.showR m = (sh, e3) := ⟨_, _, rfl⟩
  obtain ⟨ra, rb, hA⟩ : ∃ ra rb, Mo.rd S = (ra, rb) := ⟨_, _, rfl⟩
  have HM := Lib.hid (fun W => mo_May W m o s x h k _ hM)
  have HN := Lib.hid (fun W => mo_New W m k _ hN)
  have HS := Lib.hid (fun W => ms_Show W m _ _ hS)
  have HA := Lib.hid (fun W => ms_Mode W S _ _ hA)
  have hrd : ∀ W : World, Calls Tryd.prog 14 #[.string S] W fun e w' => e = .returned (.tuple #[.int .i64 ra, errV rb]) ∧ Fr [] W w' := fun W => by
    have := mo_Read W S
    rw [hA] at this
    exact this
  have HR := Lib.hid hrd
  have HMS := Lib.hid hM
  have HNS := Lib.hid hN
  have HSS := Lib.hid hS
  clear hM hN hS hA hrd
  dsimp only at HM HN
  go_enter Tryd.func3, Tryd.ntmps3
  go_upto_region 2 with (fail)
  obtain ⟨bd, hbd⟩ : ∃ bd, (!Mo.fits m o s x h k) = bd := ⟨_, rfl⟩
  have HBD := Lib.hid hbd
  clear hbd
  go_cut [53] from 26 (fun v w' => v = .bool bd ∧ w' = w)
  case first =>
    by_cases h0 : 0 ≤ m ∧ m ≤ 511
    · have e0 := decide_eq_true h0
      by_cases h1 : 0 ≤ o ∧ o ≤ 9
      · have e1 := decide_eq_true h1
        by_cases h2 : 0 ≤ s ∧ s ≤ 9
        · have e2 := decide_eq_true h2
          by_cases h3 : 0 ≤ x ∧ x ≤ 9
          · have e3 := decide_eq_true h3
            by_cases h4 : 0 ≤ h ∧ h ≤ 9
            · have e4 := decide_eq_true h4
              by_cases h5 : 0 ≤ k ∧ k ≤ 7
              · have e5 := decide_eq_true h5
                have HFT : Hid (Mo.fits m o s x h k = true) := (by show _ = _; unfold Mo.fits; simp [allIn]; omega)
                obtain ⟨rfl, -⟩ : bd = false ∧ True := ⟨by rw [← HBD.out, HFT.out]; rfl, trivial⟩
                go_wp2_with (first
                  | (go_at_call 5; (with_reducible refine useC (in2_is m 0 511 true _ e0) ?_); rintro e w2 ⟨rfl, rfl⟩)
                  | (go_at_call 5; (with_reducible refine useC (in2_is o 0 9 true _ e1) ?_); rintro e w2 ⟨rfl, rfl⟩)
                  | (go_at_call 5; (with_reducible refine useC (in2_is s 0 9 true _ e2) ?_); rintro e w2 ⟨rfl, rfl⟩)
                  | (go_at_call 5; (with_reducible refine useC (in2_is x 0 9 true _ e3) ?_); rintro e w2 ⟨rfl, rfl⟩)
                  | (go_at_call 5; (with_reducible refine useC (in2_is h 0 9 true _ e4) ?_); rintro e w2 ⟨rfl, rfl⟩)
                  | (go_at_call 5; (with_reducible refine useC (in2_is k 0 7 true _ e5) ?_); rintro e w2 ⟨rfl, rfl⟩))
                go_meet
                case rel => exact ⟨rfl, rfl⟩
              · have e5 := decide_eq_false h5
                obtain ⟨rfl, -⟩ : bd = true ∧ True := ⟨by rw [← HBD.out, show Mo.fits m o s x h k = false from by unfold Mo.fits; simp [allIn]; omega]; rfl, trivial⟩
                clear h0 h1 h2 h3 h4 h5
                go_wp2_with (first
                  | (go_at_call 5; (with_reducible refine useC (in2_is m 0 511 true _ e0) ?_); rintro e w2 ⟨rfl, rfl⟩)
                  | (go_at_call 5; (with_reducible refine useC (in2_is o 0 9 true _ e1) ?_); rintro e w2 ⟨rfl, rfl⟩)
                  | (go_at_call 5; (with_reducible refine useC (in2_is s 0 9 true _ e2) ?_); rintro e w2 ⟨rfl, rfl⟩)
                  | (go_at_call 5; (with_reducible refine useC (in2_is x 0 9 true _ e3) ?_); rintro e w2 ⟨rfl, rfl⟩)
                  | (go_at_call 5; (with_reducible refine useC (in2_is h 0 9 true _ e4) ?_); rintro e w2 ⟨rfl, rfl⟩)
                  | (go_at_call 5; (with_reducible refine useC (in2_is k 0 7 false _ e5) ?_); rintro e w2 ⟨rfl, rfl⟩))
                go_meet
                case rel => exact ⟨rfl, rfl⟩
            · have e4 := decide_eq_false h4
              obtain ⟨rfl, -⟩ : bd = true ∧ True := ⟨by rw [← HBD.out, show Mo.fits m o s x h k = false from by unfold Mo.fits; simp [allIn]; omega]; rfl, trivial⟩
              clear h0 h1 h2 h3 h4
              go_wp2_with (first
                | (go_at_call 5; (with_reducible refine useC (in2_is m 0 511 true _ e0) ?_); rintro e w2 ⟨rfl, rfl⟩)
                | (go_at_call 5; (with_reducible refine useC (in2_is o 0 9 true _ e1) ?_); rintro e w2 ⟨rfl, rfl⟩)
                | (go_at_call 5; (with_reducible refine useC (in2_is s 0 9 true _ e2) ?_); rintro e w2 ⟨rfl, rfl⟩)
                | (go_at_call 5; (with_reducible refine useC (in2_is x 0 9 true _ e3) ?_); rintro e w2 ⟨rfl, rfl⟩)
                | (go_at_call 5; (with_reducible refine useC (in2_is h 0 9 false _ e4) ?_); rintro e w2 ⟨rfl, rfl⟩))
              go_meet
              case rel => exact ⟨rfl, rfl⟩
          · have e3 := decide_eq_false h3
            obtain ⟨rfl, -⟩ : bd = true ∧ True := ⟨by rw [← HBD.out, show Mo.fits m o s x h k = false from by unfold Mo.fits; simp [allIn]; omega]; rfl, trivial⟩
            clear h0 h1 h2 h3
            go_wp2_with (first
              | (go_at_call 5; (with_reducible refine useC (in2_is m 0 511 true _ e0) ?_); rintro e w2 ⟨rfl, rfl⟩)
              | (go_at_call 5; (with_reducible refine useC (in2_is o 0 9 true _ e1) ?_); rintro e w2 ⟨rfl, rfl⟩)
              | (go_at_call 5; (with_reducible refine useC (in2_is s 0 9 true _ e2) ?_); rintro e w2 ⟨rfl, rfl⟩)
              | (go_at_call 5; (with_reducible refine useC (in2_is x 0 9 false _ e3) ?_); rintro e w2 ⟨rfl, rfl⟩))
            go_meet
            case rel => exact ⟨rfl, rfl⟩
        · have e2 := decide_eq_false h2
          obtain ⟨rfl, -⟩ : bd = true ∧ True := ⟨by rw [← HBD.out, show Mo.fits m o s x h k = false from by unfold Mo.fits; simp [allIn]; omega]; rfl, trivial⟩
          clear h0 h1 h2
          go_wp2_with (first
            | (go_at_call 5; (with_reducible refine useC (in2_is m 0 511 true _ e0) ?_); rintro e w2 ⟨rfl, rfl⟩)
            | (go_at_call 5; (with_reducible refine useC (in2_is o 0 9 true _ e1) ?_); rintro e w2 ⟨rfl, rfl⟩)
            | (go_at_call 5; (with_reducible refine useC (in2_is s 0 9 false _ e2) ?_); rintro e w2 ⟨rfl, rfl⟩))
          go_meet
          case rel => exact ⟨rfl, rfl⟩
      · have e1 := decide_eq_false h1
        obtain ⟨rfl, -⟩ : bd = true ∧ True := ⟨by rw [← HBD.out, show Mo.fits m o s x h k = false from by unfold Mo.fits; simp [allIn]; omega]; rfl, trivial⟩
        clear h0 h1
        go_wp2_with (first
          | (go_at_call 5; (with_reducible refine useC (in2_is m 0 511 true _ e0) ?_); rintro e w2 ⟨rfl, rfl⟩)
          | (go_at_call 5; (with_reducible refine useC (in2_is o 0 9 false _ e1) ?_); rintro e w2 ⟨rfl, rfl⟩))
        go_meet
        case rel => exact ⟨rfl, rfl⟩
    · have e0 := decide_eq_false h0
      obtain ⟨rfl, -⟩ : bd = true ∧ True := ⟨by rw [← HBD.out, show Mo.fits m o s x h k = false from by unfold Mo.fits; simp [allIn]; omega]; rfl, trivial⟩
      clear h0
      go_wp2_with (first
        | (go_at_call 5; (with_reducible refine useC (in2_is m 0 511 false _ e0) ?_); rintro e w2 ⟨rfl, rfl⟩))
      go_meet
      case rel => exact ⟨rfl, rfl⟩
  case rest =>
    obtain ⟨rfl, rfl⟩ := hcut
    go_upto_if 53 with (fail)
    go_cut [15] from 26 (fun v w' => v = .int .i64 ec ∧ w' = wc)
    case first =>
      cases bd with
      | true =>
        have HQ : Hid (ec = 1) := (by have h1 := HMS.out; rw [Mo.may_bad (by have h2 := HBD.out; simpa using h2)] at h1; exact (congrArg Prod.snd h1).symm)
        go_wp2
        go_meet
        case rel => exact ⟨by rw [HQ.out], rfl⟩
      | false =>
        have HQ : Hid (ec = 0) := (by have h1 := HMS.out; rw [Mo.may_ref (by have h2 := HBD.out; simpa using h2)] at h1; exact (congrArg Prod.snd h1).symm)
        go_wp2
        go_meet
        case rel => exact ⟨by rw [HQ.out], rfl⟩
    case rest =>
    obtain ⟨rfl, rfl⟩ := hcut
    go_upto_region 5 with (go_at_call 6; (with_reducible refine useC (HM.out _) ?_); rintro e w1 ⟨rfl, hf⟩; have HF1 := Lib.hid (HB0.out.trans hf); clear hf)
    have HER1 := Lib.hid (HE.out w1 HF1.out ec)
    go_cut [18] from 26 (fun v w' => v = .bool true ∧ Hid (Fr [] B0 w'))
    case first =>
      by_cases hft : Mo.fits m o s x h k = true
      · have hq : (is, ec) = (Mo.refMay m o s x h k, 0) := HMS.out.symm.trans (Mo.may_ref hft)
        obtain ⟨⟨b1, b2⟩, ⟨b3, b4⟩, -⟩ := Mo.fits_bounds hft
        have HRM := Lib.hid (fun W => ms_May W m o s x h k ⟨b1, b2⟩ ⟨b3, b4⟩)
        injection hq with q1 q2
        rw [← q1] at HRM
        clear q1 b1 b2 b3 b4 hft
        subst q2
        go_wp2_with (first
          | (go_at_call 7; (with_reducible refine useC HER1.out ?_); rintro e w2 ⟨rfl, hf⟩; have HF2 := Lib.hid (HF1.out.trans hf); clear hf)
          | (go_at_call 8; (with_reducible refine useC (HRM.out _) ?_); rintro e w3 ⟨rfl, rfl⟩))
        all_goals
          go_meet
          case rel => exact ⟨rfl, HF2⟩
      · have hq : (is, ec) = (false, 1) := HMS.out.symm.trans (Mo.may_bad (by simpa using hft))
        injection hq with q1 q2
        clear hft
        subst q1 q2
        go_wp2_with (go_at_call 7; (with_reducible refine useC HER1.out ?_); rintro e w2 ⟨rfl, hf⟩; have HF2 := Lib.hid (HF1.out.trans hf); clear hf)
        go_meet
        case rel => exact ⟨rfl, HF2⟩
    case rest =>
      obtain ⟨rfl, HF3⟩ := hcut
      have HER3 := Lib.hid (fun W (hW : Fr [] B0 W) => HE.out W hW e2)
      have HNC : Hid ((0 ≤ m ∧ m ≤ 511) ∧ (0 ≤ k ∧ k ≤ 511) ∧ ls = ((Mo.lessTo m.toNat k.toNat 9 : Nat) : Int) ∧ e2 = 0 ∨ ¬ ((0 ≤ m ∧ m ≤ 511) ∧ (0 ≤ k ∧ k ≤ 511)) ∧ ls = 0 ∧ e2 = 1) := by
        have h1 := HNS.out
        by_cases hb : (0 ≤ m ∧ m ≤ 511) ∧ (0 ≤ k ∧ k ≤ 511)
        · rw [Mo.new_less hb.1 hb.2] at h1
          injection h1 with q1 q2
          exact .inl ⟨hb.1, hb.2, q1.symm, q2.symm⟩
        · rw [Mo.new_bad hb] at h1
          injection h1 with q1 q2
          exact .inr ⟨hb, q1.symm, q2.symm⟩
      go_upto_region 8 with (fail)
      obtain ⟨b8, hb8⟩ : ∃ b8, (!(decide (0 ≤ m ∧ m ≤ 511) && decide (0 ≤ k ∧ k ≤ 511))) = b8 := ⟨_, rfl⟩
      have HB8 := Lib.hid hb8
      clear hb8
      go_cut [89] from 26 (fun v w' => v = .bool b8 ∧ Hid (Fr [] B0 w'))
      case first =>
        by_cases h0 : 0 ≤ m ∧ m ≤ 511
        · have e0 := decide_eq_true h0
          by_cases h1 : 0 ≤ k ∧ k ≤ 511
          · have e1 := decide_eq_true h1
            obtain rfl : b8 = false := by rw [← HB8.out, e0, e1]; rfl
            clear h0 h1
            go_wp2_with (first
              | (go_at_call 5; (with_reducible refine useC (in2_is m 0 511 true _ e0) ?_); rintro e w2 ⟨rfl, rfl⟩)
              | (go_at_call 5; (with_reducible refine useC (in2_is k 0 511 true _ e1) ?_); rintro e w2 ⟨rfl, rfl⟩))
            go_meet
            case rel => exact ⟨rfl, HF3⟩
          · have e1 := decide_eq_false h1
            obtain rfl : b8 = true := by rw [← HB8.out, e0, e1]; rfl
            clear h0 h1
            go_wp2_with (first
              | (go_at_call 5; (with_reducible refine useC (in2_is m 0 511 true _ e0) ?_); rintro e w2 ⟨rfl, rfl⟩)
              | (go_at_call 5; (with_reducible refine useC (in2_is k 0 511 false _ e1) ?_); rintro e w2 ⟨rfl, rfl⟩))
            go_meet
            case rel => exact ⟨rfl, HF3⟩
        · have e0 := decide_eq_false h0
          obtain rfl : b8 = true := by rw [← HB8.out, e0]; rfl
          clear h0
          go_wp2_with (go_at_call 5; (with_reducible refine useC (in2_is m 0 511 false _ e0) ?_); rintro e w2 ⟨rfl, rfl⟩)
          go_meet
          case rel => exact ⟨rfl, HF3⟩
      case rest =>
        obtain ⟨rfl, HF4⟩ := hcut
        clear HF3
        go_upto_if 89 with (fail)
        go_cut [15, 19] from 26 (fun v u w' => v = .int .i64 e2 ∧ u = .int .i64 ls ∧ Hid (Fr [] B0 w'))
        case first =>
          cases b8 with
          | true =>
            have HQ : Hid (ls = 0 ∧ e2 = 1) := by
              rcases HNC.out with ⟨h1, h2, _⟩ | ⟨_, h3, h4⟩
              · have := HB8.out
                simp [h1.1, h1.2, h2.1, h2.2] at this
              · exact ⟨h3, h4⟩
            go_wp2
            go_meet
            case rel => exact ⟨by rw [HQ.out.2], by rw [HQ.out.1], HF4⟩
          | false =>
            have hq : (0 ≤ m ∧ m ≤ 511) ∧ (0 ≤ k ∧ k ≤ 511) ∧ ls = ((Mo.lessTo m.toNat k.toNat 9 : Nat) : Int) ∧ e2 = 0 := by
              rcases HNC.out with h | ⟨h, _, _⟩
              · exact h
              · have := HB8.out
                simp only [Bool.not_eq_false', Bool.and_eq_true, decide_eq_true_eq] at this
                exact absurd this h
            obtain ⟨⟨a1, a2⟩, ⟨a3, a4⟩, q1, q2⟩ := hq
            have HL := Lib.hid (fun W => ms_Less W m.toNat k.toNat (by omega) (by omega))
            rw [← q1, show ((m.toNat : Nat) : Int) = m by omega, show ((k.toNat : Nat) : Int) = k by omega] at HL
            have HQ := Lib.hid q2
            clear a1 a2 a3 a4 q1 q2
            go_wp2_with (go_at_call 9; (with_reducible refine useC (HL.out _) ?_); rintro e w5 ⟨rfl, rfl⟩)
            go_meet
            case rel => exact ⟨by rw [HQ.out], rfl, HF4⟩
        case rest =>
          obtain ⟨rfl, rfl, HF5⟩ := hcut
          clear HF4
          go_upto_region 15 with (first
            | (go_at_call 10; (with_reducible refine useC (HN.out _) ?_); rintro e w6 ⟨rfl, hf⟩; have HF6 := Lib.hid (HF5.out.trans hf); clear hf)
            | (go_at_call 7; (with_reducible refine useC (HER3.out w6 HF6.out) ?_); rintro e w7 ⟨rfl, hf⟩; have HF7 := Lib.hid (HF6.out.trans hf); clear hf))
          have HER7 := Lib.hid (fun W (hW : Fr [] B0 W) => HE.out W hW e3)
          obtain ⟨b9, hb9⟩ : ∃ b9, decide (0 ≤ m ∧ m ≤ 511) = b9 := ⟨_, rfl⟩
          have HB9 := Lib.hid hb9
          go_cut [108] from 26 (fun v w' => v = .bool b9 ∧ Hid (Fr [] B0 w'))
          case first =>
            go_wp2_with (go_at_call 5; (with_reducible refine useC (in2_is m 0 511 _ _ hb9) ?_); rintro e w2 ⟨rfl, rfl⟩)
            go_meet
            case rel => exact ⟨rfl, HF7⟩
          case rest =>
            obtain ⟨rfl, HF8⟩ := hcut
            clear hb9
            go_upto_if 108 with (fail)
            go_cut [15, 22] from 26 (fun v u w' => v = .int .i64 e3 ∧ u = .string sh ∧ Hid (Fr [] B0 w'))
            case first =>
              cases b9 with
              | true =>
                have hm := of_decide_eq_true HB9.out
                have hq := HSS.out
                unfold Mo.showR at hq
                rw [if_pos hm] at hq
                injection hq with q1 q2
                have HL := Lib.hid (fun W => ms_Letters W m.toNat (by omega))
                rw [q1, show ((m.toNat : Nat) : Int) = m by omega] at HL
                have HQ := Lib.hid q2
                clear hm q1 q2
                go_wp2_with (go_at_call 11; (with_reducible refine useC (HL.out _) ?_); rintro e w5 ⟨rfl, rfl⟩)
                go_meet
                case rel => exact ⟨by rw [← HQ.out], rfl, HF8⟩
              | false =>
                have hq := HSS.out
                unfold Mo.showR at hq
                rw [if_neg (of_decide_eq_false HB9.out)] at hq
                injection hq with q1 q2
                have HQ := Lib.hid (And.intro q1 q2)
                clear q1 q2
                go_wp2
                go_meet
                case rel => exact ⟨by rw [← HQ.out.2], by rw [← HQ.out.1], HF8⟩
            case rest =>
              obtain ⟨rfl, rfl, HF9⟩ := hcut
              have HER9 := Lib.hid (fun W (hW : Fr [] B0 W) => HE.out W hW rb)
              have hss := str_eq (rfl : sh = sh)
              go_wp2_with (first
                | (have h' := HER7; clear h'; go_at_call 12; (with_reducible refine useC (HS.out _) ?_); rintro e w10 ⟨rfl, hf⟩; have HF10 := Lib.hid (HF9.out.trans hf); clear hf)
                | (have h' := HF10; clear h'; go_at_call 7; (with_reducible refine useC (HER7.out w10 HF10.out) ?_); rintro e w11 ⟨rfl, hf⟩; have HF11 := Lib.hid (HF10.out.trans hf); clear hf HF10)
                | (go_at_call 13; (with_reducible refine useC (HA.out _) ?_); rintro e w12 ⟨rfl, rfl⟩)
                | (go_at_call 14; (with_reducible refine useC (HR.out _) ?_); rintro e w13 ⟨rfl, hf⟩; have HF13 := Lib.hid (HF11.out.trans hf); clear hf)
                | (have h' := HF13; clear h'; go_at_call 7; (with_reducible refine useC (HER9.out w13 HF13.out) ?_); rintro e w14 ⟨rfl, hf⟩; have HF14 := Lib.hid (HF13.out.trans hf); clear hf))
              go_ret
              exact ⟨rfl, HF14.out⟩
theorem ms_says (w : World) (m o s x h k : Int) (S : ByteArray) (hE : ErrType w) :
    Calls Tryd.prog 3 #[.int .i64 m, .int .i64 o, .int .i64 s, .int .i64 x, .int .i64 h, .int .i64 k, .string S] w (OkT w) := ms_says0 w w (Fr.refl _ _) m o s x h k S hE
end Go.Proofs.YtiadpgkephokdaaDoor
