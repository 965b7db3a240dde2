/- TopLocks: who may write, and is alone. -/
import Derived.Test.YtgljklefcfheaaaDoorRaLaw
import Derived.Test.YtgljklefcfheaaaDoorRaAlone
import Derived.Test.YtgljklefcfheaaaDoorRaTop
import Derived.Test.YtgljklefcfheaaaDoorMoWalk
namespace Go.Proofs.YtgljklefcfheaaaDoor
open Go.RowKit

theorem top_in (n lo hi : Int) (b : Bool) (w : World) (h : decide (lo ≤ n ∧ n ≤ hi) = b) :
    Calls Tryd.prog 16 #[.int .i64 n, .int .i64 lo, .int .i64 hi] w fun e w' => e = .returned (.bool b) ∧ w' = w := by
  subst h
  go_enter Tryd.func16, Tryd.ntmps16
  go_wp2
  all_goals (go_ret; refine ⟨?_, rfl⟩; congr; try simp; try omega)
theorem mo_May_ok (w : World) (m o s x h k : Int) (r : Bool) (hR : Mo.may m o s x h k = (r, 0)) :
    Calls Tryd.prog 13 #[.int .i64 m, .int .i64 o, .int .i64 s, .int .i64 x, .int .i64 h, .int .i64 k] w fun e w' => e = .returned (.tuple #[.bool r, .nilIface]) ∧ Fr [] w w' := mo_May w m o s x h k _ hR
theorem mo_May_err (w : World) (m o s x h k : Int) (hR : Mo.may m o s x h k = (false, 1)) :
    Calls Tryd.prog 13 #[.int .i64 m, .int .i64 o, .int .i64 s, .int .i64 x, .int .i64 h, .int .i64 k] w fun e w' => e = .returned (.tuple #[.bool false, .iface 66 (.int .i64 1)]) ∧ Fr [] w w' := mo_May w m o s x h k _ hR
theorem mo_New_ok (w : World) (a m r : Int) (hR : Mo.new a m = (r, 0)) :
    Calls Tryd.prog 17 #[.int .i64 a, .int .i64 m] w fun e w' => e = .returned (.tuple #[.int .i64 r, .nilIface]) ∧ Fr [] w w' := mo_New w a m _ hR
theorem Mo.all_bits : Mo.may 511 1 1 2 2 7 = (true, 0) := by decide +kernel
theorem Mo.no_bits : Mo.new 511 511 = (0, 0) := by decide +kernel
theorem Mo.none (x h : Int) : Mo.may 0 1 1 x h 1 = (false, 1) ∨ (Mo.may 0 1 1 x h 1 = (true, 0) ∧ x = 0) ∨ (Mo.may 0 1 1 x h 1 = (false, 0) ∧ x ≠ 0) := by
  unfold Mo.may
  by_cases hf : Mo.fits 0 1 1 x h 1 = true
  · rw [if_pos hf]
    by_cases hx : x = 0
    · rw [if_pos hx]
      exact .inr (.inl ⟨rfl, hx⟩)
    · rw [if_neg hx]
      have hp : Mo.part 1 1 x h 0 = 0 := by
        unfold Mo.part
        by_cases e1 : x = 1
        · rw [if_pos e1]; rfl
        · rw [if_neg e1]
          by_cases e2 : h = 1
          · rw [if_pos e2]; rfl
          · rw [if_neg e2]
      rw [hp, show (bits .and .i64 0 1 == 1) = false by decide +kernel]
      exact .inr (.inr ⟨rfl, hx⟩)
  · rw [if_neg hf]
    exact .inl rfl
theorem Ra.top2 (a b f n : Int) : ((Ra.set Ra.new a f n true).2 = 1 ∧ (Ra.set Ra.new a f n true).1 = Ra.new) ∨ ∃ T, (Ra.set Ra.new a f n true).2 = 0 ∧ (Ra.set Ra.new a f n true).1 = T ∧ Ra.OK T ∧ Ra.OK (Ra.set T b f 1 true).1 ∧
    ((decide (0 ≤ b ∧ b ≤ 3) = true ∧ a = b ∧ (Ra.set T b f 1 true).2 = 0) ∨ (decide (0 ≤ b ∧ b ≤ 3) = true ∧ a ≠ b ∧ (Ra.set T b f 1 true).2 = 6) ∨ (decide (0 ≤ b ∧ b ≤ 3) = false ∧ (Ra.set T b f 1 true).2 = 1)) := by
  obtain ⟨h1, h2⟩ := Ra.top_law a b f n
  by_cases ok : Ra.okL a f n
  · obtain ⟨T, e, hO, k1, k2, k3⟩ := h2 ok
    refine .inr ⟨T, by rw [e], by rw [e], hO, Ra.set_ok hO b f 1 true, ?_⟩
    by_cases hb : 0 ≤ b ∧ b ≤ 3
    · by_cases hab : a = b
      · exact .inl ⟨decide_eq_true hb, hab, k1 hb hab⟩
      · exact .inr (.inl ⟨decide_eq_true hb, hab, k2 hb hab⟩)
    · exact .inr (.inr ⟨decide_eq_false hb, k3 hb⟩)
  · have e := h1 ok
    exact .inl ⟨by rw [e], by rw [e]⟩
set_option maxRecDepth 100000 in
set_option maxHeartbeats 8000000 in
theorem top_locks (w : World) (a b f n x h : Int) (hE : ErrType w) (_hpos : 0 < w.heap.size) :
    Calls Tryd.prog 4 #[.int .i64 a, .int .i64 b, .int .i64 f, .int .i64 n, .int .i64 x, .int .i64 h] w (OkT w) := by
  have HE := Lib.hid hE
  clear hE
  go_enter Tryd.func4, Tryd.ntmps4
  rcases Ra.top2 a b f n with ⟨p1, p2⟩ | ⟨T, p1, p2, hO, hO2, hb⟩
  · have P1 := Lib.hid p1
    have P2 := Lib.hid p2
    clear p1 p2
    go_wp2_with (first
      | (go_at_call 12; (with_reducible refine useC (ra_New _) ?_); rintro e w0 ⟨rfl, hd, hf⟩; have S0 : Hid (RaSt w w0 w.heap.size Ra.new) := (⟨hd, Ra.new_ok, hf, Nat.le_refl _⟩ : RaSt w w0 w.heap.size Ra.new); clear hd hf)
      | (go_at_call 13; (with_reducible refine useC (mo_May_ok _ 511 1 1 2 2 7 true Mo.all_bits) ?_); rintro e w1 ⟨rfl, hf⟩; have S1 := Lib.hid (S0.out.fr' hf); clear hf; have L1 := Lib.hid (ra_Set w1 w.heap.size Ra.new a f n true S1.out.disk Ra.new_ok.tab))
      | (go_at_call 14; (with_reducible refine useC L1.out ?_); rintro e w2 ha; have he := ha.1; subst he; rw [P2.out] at ha; rw [P1.out, errV_no (show (1 : Int) ≠ 0 by decide)]; have S2 : Hid (RaSt w w2 w.heap.size Ra.new) := S1.out.ans ha Ra.new_ok; clear ha; have HE2 : Hid (ErrType w2) := HE.out.fr S2.out.fr (by simp))
      | (go_at_call 15; (with_reducible refine useC (error_at 1 1 _ HE2.out) ?_); rw [show ((1 : Int) == 1) = true from rfl]; rintro e w3 ⟨rfl, hf⟩; have S3 := Lib.hid (S2.out.fr' hf); clear hf; have L3 := Lib.hid (ra_List w3 w.heap.size Ra.new S3.out.disk Ra.new_ok.tab))
      | (go_at_call 11; (with_reducible refine useC L3.out ?_); rintro e w5 ⟨v5, rfl, hown, hf⟩; rw [Ra.new_locks] at hown; obtain ⟨A, g, p, c, rfl, hA, hcs⟩ := lkf_of hown; have S5 := Lib.hid (S3.out.fr' hf); clear hown hf hA hcs))
    go_ret
    exact ⟨rfl, S5.out.fr⟩
  · have P1 := Lib.hid p1
    have P2 := Lib.hid p2
    have HO := Lib.hid hO
    have HO2 := Lib.hid hO2
    clear p1 p2 hO hO2
    rcases hb with ⟨hb, hab, hc⟩ | ⟨hb, hab, hc⟩ | ⟨hb, hc⟩
    · have P3 := Lib.hid hc
      clear hc
      have q0 : (a == b) = true := by simpa using hab
      clear hab
      go_wp2_with (first
        | (go_at_call 12; (with_reducible refine useC (ra_New _) ?_); rintro e w0 ⟨rfl, hd, hf⟩; have S0 : Hid (RaSt w w0 w.heap.size Ra.new) := (⟨hd, Ra.new_ok, hf, Nat.le_refl _⟩ : RaSt w w0 w.heap.size Ra.new); clear hd hf)
        | (go_at_call 13; (with_reducible refine useC (mo_May_ok _ 511 1 1 2 2 7 true Mo.all_bits) ?_); rintro e w1 ⟨rfl, hf⟩; have S1 := Lib.hid (S0.out.fr' hf); clear hf; have L1 := Lib.hid (ra_Set w1 w.heap.size Ra.new a f n true S1.out.disk Ra.new_ok.tab))
        | (go_at_call 14; (with_reducible refine useC L1.out ?_); rintro e w2 ha; have he := ha.1; subst he; rw [P2.out] at ha; rw [P1.out, show errV 0 = .nilIface from rfl]; have S2 : Hid (RaSt w w2 w.heap.size T) := S1.out.ans ha HO.out; clear ha; have L2 := Lib.hid (ra_Set w2 w.heap.size T b f 1 true S2.out.disk HO.out.tab))
        | (go_at_call 14; (with_reducible refine useC L2.out ?_); rintro e w3 ha; have he := ha.1; subst he; rw [P3.out, show errV 0 = .nilIface from rfl]; have S3 : Hid (RaSt w w3 w.heap.size _) := S2.out.ans ha HO2.out; clear ha; have HE3 : Hid (ErrType w3) := HE.out.fr S3.out.fr (by simp))
        | (go_at_call 16; (with_reducible refine useC (top_in _ _ _ true _ hb) ?_); rintro e w4 ⟨rfl, rfl⟩)
        | (go_at_call 17; (with_reducible refine useC (mo_New_ok _ 511 511 0 Mo.no_bits) ?_); rintro e w6 ⟨rfl, hf⟩; have S6 := Lib.hid (S3.out.fr' hf); clear hf))
      rcases Mo.none x h with hm | ⟨hm, hx⟩ | ⟨hm, hx⟩
      · have HM := Lib.hid hm
        clear hm
        refine useC (mo_May_err _ 0 1 1 x h 1 HM.out) ?_
        rintro e w7 ⟨rfl, hf⟩
        have S7 := Lib.hid (S6.out.fr' hf)
        clear hf
        go_wp2
        go_ret
        exact ⟨rfl, S7.out.fr⟩
      · have HM := Lib.hid hm
        clear hm
        have q1 : (x == 0) = true := by simpa using hx
        clear hx
        refine useC (mo_May_ok _ 0 1 1 x h 1 true HM.out) ?_
        rintro e w7 ⟨rfl, hf⟩
        have S7 := Lib.hid (S6.out.fr' hf)
        clear hf
        go_wp2
        go_ret
        exact ⟨rfl, S7.out.fr⟩
      · have HM := Lib.hid hm
        clear hm
        have q1 : (x == 0) = false := by simpa using hx
        clear hx
        refine useC (mo_May_ok _ 0 1 1 x h 1 false HM.out) ?_
        rintro e w7 ⟨rfl, hf⟩
        have S7 := Lib.hid (S6.out.fr' hf)
        clear hf
        go_wp2
        go_ret
        exact ⟨rfl, S7.out.fr⟩
    · have P3 := Lib.hid hc
      clear hc
      have q0 : (a == b) = false := by simpa using hab
      clear hab
      go_wp2_with (first
        | (go_at_call 12; (with_reducible refine useC (ra_New _) ?_); rintro e w0 ⟨rfl, hd, hf⟩; have S0 : Hid (RaSt w w0 w.heap.size Ra.new) := (⟨hd, Ra.new_ok, hf, Nat.le_refl _⟩ : RaSt w w0 w.heap.size Ra.new); clear hd hf)
        | (go_at_call 13; (with_reducible refine useC (mo_May_ok _ 511 1 1 2 2 7 true Mo.all_bits) ?_); rintro e w1 ⟨rfl, hf⟩; have S1 := Lib.hid (S0.out.fr' hf); clear hf; have L1 := Lib.hid (ra_Set w1 w.heap.size Ra.new a f n true S1.out.disk Ra.new_ok.tab))
        | (go_at_call 14; (with_reducible refine useC L1.out ?_); rintro e w2 ha; have he := ha.1; subst he; rw [P2.out] at ha; rw [P1.out, show errV 0 = .nilIface from rfl]; have S2 : Hid (RaSt w w2 w.heap.size T) := S1.out.ans ha HO.out; clear ha; have L2 := Lib.hid (ra_Set w2 w.heap.size T b f 1 true S2.out.disk HO.out.tab))
        | (go_at_call 14; (with_reducible refine useC L2.out ?_); rintro e w3 ha; have he := ha.1; subst he; rw [P3.out, errV_no (show (6 : Int) ≠ 0 by decide)]; have S3 : Hid (RaSt w w3 w.heap.size _) := S2.out.ans ha HO2.out; clear ha; have HE3 : Hid (ErrType w3) := HE.out.fr S3.out.fr (by simp))
        | (go_at_call 16; (with_reducible refine useC (top_in _ _ _ true _ hb) ?_); rintro e w4 ⟨rfl, rfl⟩)
        | (go_at_call 17; (with_reducible refine useC (mo_New_ok _ 511 511 0 Mo.no_bits) ?_); rintro e w6 ⟨rfl, hf⟩; have S6 := Lib.hid (S3.out.fr' hf); clear hf))
      rcases Mo.none x h with hm | ⟨hm, hx⟩ | ⟨hm, hx⟩
      · have HM := Lib.hid hm
        clear hm
        refine useC (mo_May_err _ 0 1 1 x h 1 HM.out) ?_
        rintro e w7 ⟨rfl, hf⟩
        have S7 := Lib.hid (S6.out.fr' hf)
        clear hf
        go_wp2
        go_ret
        exact ⟨rfl, S7.out.fr⟩
      · have HM := Lib.hid hm
        clear hm
        have q1 : (x == 0) = true := by simpa using hx
        clear hx
        refine useC (mo_May_ok _ 0 1 1 x h 1 true HM.out) ?_
        rintro e w7 ⟨rfl, hf⟩
        have S7 := Lib.hid (S6.out.fr' hf)
        clear hf
        go_wp2
        go_ret
        exact ⟨rfl, S7.out.fr⟩
      · have HM := Lib.hid hm
        clear hm
        have q1 : (x == 0) = false := by simpa using hx
        clear hx
        refine useC (mo_May_ok _ 0 1 1 x h 1 false HM.out) ?_
        rintro e w7 ⟨rfl, hf⟩
        have S7 := Lib.hid (S6.out.fr' hf)
        clear hf
        go_wp2
        go_ret
        exact ⟨rfl, S7.out.fr⟩
    · have P3 := Lib.hid hc
      clear hc
      go_wp2_with (first
        | (go_at_call 12; (with_reducible refine useC (ra_New _) ?_); rintro e w0 ⟨rfl, hd, hf⟩; have S0 : Hid (RaSt w w0 w.heap.size Ra.new) := (⟨hd, Ra.new_ok, hf, Nat.le_refl _⟩ : RaSt w w0 w.heap.size Ra.new); clear hd hf)
        | (go_at_call 13; (with_reducible refine useC (mo_May_ok _ 511 1 1 2 2 7 true Mo.all_bits) ?_); rintro e w1 ⟨rfl, hf⟩; have S1 := Lib.hid (S0.out.fr' hf); clear hf; have L1 := Lib.hid (ra_Set w1 w.heap.size Ra.new a f n true S1.out.disk Ra.new_ok.tab))
        | (go_at_call 14; (with_reducible refine useC L1.out ?_); rintro e w2 ha; have he := ha.1; subst he; rw [P2.out] at ha; rw [P1.out, show errV 0 = .nilIface from rfl]; have S2 : Hid (RaSt w w2 w.heap.size T) := S1.out.ans ha HO.out; clear ha; have L2 := Lib.hid (ra_Set w2 w.heap.size T b f 1 true S2.out.disk HO.out.tab))
        | (go_at_call 14; (with_reducible refine useC L2.out ?_); rintro e w3 ha; have he := ha.1; subst he; rw [P3.out, errV_no (show (1 : Int) ≠ 0 by decide)]; have S3 : Hid (RaSt w w3 w.heap.size _) := S2.out.ans ha HO2.out; clear ha; have HE3 : Hid (ErrType w3) := HE.out.fr S3.out.fr (by simp))
        | (go_at_call 16; (with_reducible refine useC (top_in _ _ _ false _ hb) ?_); rintro e w4 ⟨rfl, rfl⟩)
        | (go_at_call 15; (with_reducible refine useC (error_at 1 1 _ HE3.out) ?_); rw [show ((1 : Int) == 1) = true from rfl]; rintro e w5 ⟨rfl, hf⟩; have S4 := Lib.hid (S3.out.fr' hf); clear hf)
        | (go_at_call 17; (with_reducible refine useC (mo_New_ok _ 511 511 0 Mo.no_bits) ?_); rintro e w6 ⟨rfl, hf⟩; have S6 := Lib.hid (S4.out.fr' hf); clear hf))
      rcases Mo.none x h with hm | ⟨hm, hx⟩ | ⟨hm, hx⟩
      · have HM := Lib.hid hm
        clear hm
        refine useC (mo_May_err _ 0 1 1 x h 1 HM.out) ?_
        rintro e w7 ⟨rfl, hf⟩
        have S7 := Lib.hid (S6.out.fr' hf)
        clear hf
        go_wp2
        go_ret
        exact ⟨rfl, S7.out.fr⟩
      · have HM := Lib.hid hm
        clear hm
        have q1 : (x == 0) = true := by simpa using hx
        clear hx
        refine useC (mo_May_ok _ 0 1 1 x h 1 true HM.out) ?_
        rintro e w7 ⟨rfl, hf⟩
        have S7 := Lib.hid (S6.out.fr' hf)
        clear hf
        go_wp2
        go_ret
        exact ⟨rfl, S7.out.fr⟩
      · have HM := Lib.hid hm
        clear hm
        have q1 : (x == 0) = false := by simpa using hx
        clear hx
        refine useC (mo_May_ok _ 0 1 1 x h 1 false HM.out) ?_
        rintro e w7 ⟨rfl, hf⟩
        have S7 := Lib.hid (S6.out.fr' hf)
        clear hf
        go_wp2
        go_ret
        exact ⟨rfl, S7.out.fr⟩
end Go.Proofs.YtgljklefcfheaaaDoor
