/- The walk of FdsShare: whatever came in, the answer is true. -/
import Derived.Test.YtmgalnkcpolafaaFdLaw
namespace Go.Proofs.Ytmgalnkcpolafaa
open Go.RowKit

/-- Two numbers of one open file. -/
structure Both (t : Fd.T) (i j o : Nat) : Prop where
  i8 : i < 8
  j8 : j < 8
  ne : i ≠ j
  hi : Fd.nthO t.sl i = some o
  hj : Fd.nthO t.sl j = some o
theorem Both.at_i {t : Fd.T} {i j o : Nat} (h : Both t i j o) : Fd.at_ t i = (t.f o).2 := Fd.at_of (by have := h.i8; omega) (by rw [Int.toNat_natCast]; exact h.hi)
theorem Both.at_j {t : Fd.T} {i j o : Nat} (h : Both t i j o) : Fd.at_ t j = (t.f o).2 := Fd.at_of (by have := h.j8; omega) (by rw [Int.toNat_natCast]; exact h.hj)

theorem fdsShare_walk (w : World) (v : Value) (ls : List (List Int)) (fd by_ : Int) (hR : Rw w.heap.size w v ls) :
    Calls Try.prog 3 #[v, .int .i64 fd, .int .i64 by_] w (OkT w) := by
  have HR := Lib.hid hR
  clear hR
  go_enter Try.func3, Try.ntmps3
  go_wp2_with fail
  (refine useC (fd_fact _) ?_); rintro e w0 ⟨rfl, hF0⟩
  have HF0 := Lib.hid hF0
  clear hF0
  go_wp2_with fail
  (refine useC (fd_opened _ w.heap.size v ls (HR.out.below HF0.out.below) HF0.out.size) ?_); rintro e w1 ⟨b, t, rfl, hT1, hO, hB1, hs1⟩
  have HT1 := Lib.hid hT1
  have HO := Lib.hid hO
  have HB1 := Lib.hid (HF0.out.below.trans hB1)
  have hs1' := Nat.le_trans HF0.out.size hs1
  clear hT1 hO hB1 HR HF0 hs1
  go_wp2_with fail
  rcases Fd.dup_cases t fd with ⟨c, hc, hx⟩ | ⟨i, o, hi8, hin, hfd, ho, hx⟩
  · (refine useC (fd_dup _ _ _ _ fd HT1.out) ?_); rintro e w3 h3
    obtain ⟨rfl, hT3, hB3, hs3⟩ := h3.no hx hc
    have HB3 := Lib.hid (HB1.out.trans hB3)
    clear hT3 hB3 h3 HT1 HB1 hx hc
    go_wp2
    go_ret
    exact ⟨rfl, Fr.of_below HB3.out⟩
  · obtain ⟨j, rfl⟩ : ∃ j : Nat, fd = (j : Int) := ⟨fd.toNat, by omega⟩
    rw [Int.toNat_natCast] at ho
    have hj8 : j < 8 := by omega
    have hij : i ≠ j := fun e => by rw [e, ho] at hin; cases hin
    have hO2 := Fd.dup_ok HO.out (j : Int)
    rw [hx] at hO2
    (refine useC (fd_dup _ _ _ _ (j : Int) HT1.out) ?_); rintro e w2 h2
    obtain ⟨rfl, hT2, hB2, hs2⟩ := h2.ok hx
    have hlen := HO.out.len
    have hboth : Both ⟨t.sl.set i (some o), t.f⟩ i j o := ⟨hi8, hj8, hij, by simp [Fd.nthO_set, hlen, hi8], by simp [Fd.nthO_set, hlen, hi8, hij, ho]⟩
    generalize (⟨t.sl.set i (some o), t.f⟩ : Fd.T) = t2 at *
    have HT2 := Lib.hid hT2
    have HO2 := Lib.hid hO2
    have HB2 := Lib.hid (HB1.out.trans hB2)
    have HBo := Lib.hid hboth
    have hs2' := Nat.le_trans hs1' hs2
    clear hT2 hO2 hB2 h2 HT1 HB1 HO hx ho hfd hin hboth hlen hs1' hs2
    go_wp2_with fail
    (refine useC (fd_at _ _ _ _ _ HT2.out) ?_); rw [HBo.out.at_i]; rintro e w3 ⟨rfl, rfl⟩
    go_wp2_with fail
    (refine useC (fd_at _ _ _ _ _ HT2.out) ?_); rw [HBo.out.at_j]; rintro e w3 ⟨rfl, rfl⟩
    go_wp2_with fail
    (refine useC (fd_at _ _ _ _ _ HT2.out) ?_); rw [HBo.out.at_i]; rintro e w3 ⟨rfl, rfl⟩
    go_wp2_with fail
    have hmv : (∃ c, c ≠ 0 ∧ Fd.move t2 (i : Int) by_ = (t2, 0, c)) ∨ ∃ n, Fd.move t2 (i : Int) by_ = (⟨t2.sl, Fd.upd t2.f o ((t2.f o).1, n)⟩, n, 0) := by
      rcases Fd.move_cases HO2.out (i : Int) by_ with h | ⟨o', _, ho', _, _, hx⟩
      · exact .inl h
      · rw [Int.toNat_natCast, HBo.out.hi] at ho'
        obtain rfl := Option.some.inj ho'
        exact .inr ⟨_, hx⟩
    have HOm := Lib.hid (Fd.move_ok HO2.out (i : Int) by_)
    (refine useC (fd_move _ _ _ _ _ _ HT2.out HO2.out) ?_); rintro e w3 h3
    -- behind the move: one table t3, the place 'was'
    have HX : Hid (∃ t3 c was, e = .returned (.tuple #[.int .i64 (if c = 0 then was else 0), errV c]) ∧ (c ≠ 0 → was = (t2.f o).2) ∧ FdT w.heap.size w3 b t3 ∧ Fd.OK t3 ∧ Both t3 i j o ∧ (t3.f o).2 = was ∧ Below w.heap.size w w3 ∧ w.heap.size ≤ w3.heap.size) := by
      obtain ⟨he, hT3, hB3, hs3⟩ := h3
      rcases hmv with ⟨c, hc, hx⟩ | ⟨n, hx⟩
      · have hOm := HOm.out
        rw [hx] at he hT3 hOm
        exact ⟨t2, c, (t2.f o).2, by rw [he, if_neg hc], fun _ => rfl, hT3, hOm, HBo.out, rfl, HB2.out.trans hB3, Nat.le_trans hs2' hs3⟩
      · have hOm := HOm.out
        rw [hx] at he hT3 hOm
        exact ⟨_, 0, n, by rw [he, if_pos rfl], fun h => absurd rfl h, hT3, hOm, ⟨HBo.out.i8, HBo.out.j8, HBo.out.ne, HBo.out.hi, HBo.out.hj⟩, by simp [Fd.upd], HB2.out.trans hB3, Nat.le_trans hs2' hs3⟩
    obtain ⟨t3, c, was, rfl, hcw, hT3, hO3, hBo3, hw3, hB3, hs3⟩ := HX.out
    have HT3 := Lib.hid hT3
    have HO3 := Lib.hid hO3
    have HBo3 := Lib.hid hBo3
    have HW3 := Lib.hid hw3
    have HB3 := Lib.hid hB3
    have hc : Hid (c = 0 ∨ c ≠ 0) := by by_cases h : c = 0 <;> simp [h, Hid]
    have HCW := Lib.hid hcw
    have hi8' := HBo.out.i8
    have hj8' := HBo.out.j8
    clear hT3 hO3 hBo3 hw3 hB3 h3 HX hmv HOm HT2 HO2 HB2 hcw HBo
    -- what is behind, for both
    have HA := Lib.hid (HBo3.out.at_j.trans HW3.out)
    have HA' := Lib.hid (HBo3.out.at_i.trans HW3.out)
    have HCl := Lib.hid (Fd.close_of (t := t3) (fd := (j : Int)) (o := o) (by omega) (by rw [Int.toNat_natCast]; exact HBo3.out.hj))
    have hO4 := Fd.close_ok HO3.out (j : Int)
    rw [HCl.out, Int.toNat_natCast] at hO4
    have HO4 := Lib.hid hO4
    have h4i := Lib.hid (show Fd.nthO (t3.sl.set j none) i = some o from by rw [Fd.nthO_set _ _ _ _ (by rw [HO3.out.len]; exact hj8'), if_neg (fun e => HBo3.out.ne e.symm)]; exact HBo3.out.hi)
    have h4j := Lib.hid (show Fd.nthO (t3.sl.set j none) j = none from by rw [Fd.nthO_set _ _ _ _ (by rw [HO3.out.len]; exact hj8'), if_pos rfl])
    have hans : (errV c = .nilIface ∧ (if c = 0 then was else 0) = was) ∨ (errV c = .iface 58 (.int .i64 c) ∧ (if c = 0 then was else 0) = 0 ∧ (t2.f o).2 = was) := by
      rcases hc.out with h | h
      · subst h; exact .inl ⟨rfl, if_pos rfl⟩
      · exact .inr ⟨errV_no h, if_neg h, (HCW.out h).symm⟩
    rcases hans with ⟨h1, h2⟩ | ⟨h1, h2, h3⟩
    all_goals
      rw [h1, h2]
      try rw [h3]
      try clear h3
      clear h1 h2 HCW hc
      go_wp2_with fail
      (refine useC (fd_at _ _ _ _ _ HT3.out) ?_); rw [HA.out]; rintro e w4 ⟨rfl, rfl⟩
      go_wp2_with fail
      (refine useC (fd_at _ _ _ _ _ HT3.out) ?_); rw [HA'.out]; rintro e w4 ⟨rfl, rfl⟩
      go_wp2_with fail
      (refine useC (fd_close _ _ _ _ (j : Int) HT3.out) ?_); rintro e w4 h4
      obtain ⟨rfl, hT4, hB4, hs4⟩ := h4.ok HCl.out
      rw [Int.toNat_natCast] at hT4
      have HT4 := Lib.hid hT4
      have HB4 := Lib.hid (HB3.out.trans hB4)
      have hs4' := Nat.le_trans hs3 hs4
      clear hT4 hB4 h4 HT3 HB3
      go_wp2_with fail
      (refine useC (fd_at _ _ _ _ _ HT4.out) ?_); rw [Fd.at_of (o := o) (by omega) (by rw [Int.toNat_natCast]; exact h4i.out), HW3.out]; rintro e w5 ⟨rfl, rfl⟩
      go_wp2_with fail
      obtain ⟨m, hm8, hmn, hx5⟩ := Fd.opn_of (t := ⟨t3.sl.set j none, t3.f⟩) hj8' h4j.out 64 (by decide) w4.heap.size
      have hmi : m ≠ i := fun e => by rw [e] at hmn; exact absurd (h4i.out.symm.trans hmn) (by simp)
      have hfr := HT4.out.fresh
      have hoo : w4.heap.size ≠ o := fun e => hfr i (by rw [e]; exact h4i.out)
      have hO5 := Fd.opn_ok HO4.out 64 hfr
      rw [hx5] at hO5
      (refine useC (fd_open _ _ _ _ 64 HT4.out hs4') ?_); rintro e w5 h5
      obtain ⟨rfl, hT5, hB5, hs5⟩ := h5.ok hx5
      have hlen4 : (t3.sl.set j none).length = 8 := HO4.out.len
      have h5i := Lib.hid (show Fd.nthO ((t3.sl.set j none).set m (some w4.heap.size)) i = some o from by rw [Fd.nthO_set _ _ _ _ (by rw [hlen4]; exact hm8), if_neg hmi]; exact h4i.out)
      have h5m := Lib.hid (show Fd.nthO ((t3.sl.set j none).set m (some w4.heap.size)) m = some w4.heap.size from by rw [Fd.nthO_set _ _ _ _ (by rw [hlen4]; exact hm8), if_pos rfl])
      have HT5 := Lib.hid hT5
      have HO5 := Lib.hid hO5
      have HB5 := Lib.hid (HB4.out.trans hB5)
      have emi : ((m : Int) == (i : Int)) = false := by simp; omega
      clear hT5 hO5 hB5 h5 HT4 HB4 hx5 hmn hfr hlen4
      go_wp2_with fail
      (refine useC (fd_move _ _ _ _ (m : Int) 1 HT5.out HO5.out) ?_); rintro e w6 h6
      obtain ⟨rfl, hT6, hB6, _⟩ := h6.ok (Fd.move_of (o := w4.heap.size) (by omega) (by rw [Int.toNat_natCast]; exact h5m.out) (by simp [Fd.upd]))
      have HT6 := Lib.hid hT6
      have HB6 := Lib.hid (HB5.out.trans hB6)
      clear hT6 hB6 h6 HT5 HB5 HO5
      go_wp2_with fail
      (refine useC (fd_at _ _ _ _ _ HT6.out) ?_); rw [Fd.at_of (o := o) (by omega) (by rw [Int.toNat_natCast]; exact h5i.out)]
      rw [show (Fd.upd (Fd.upd t3.f w4.heap.size (64, 0)) w4.heap.size ((Fd.upd t3.f w4.heap.size (64, 0) w4.heap.size).1, (Fd.upd t3.f w4.heap.size (64, 0) w4.heap.size).2 + 1) o).2 = was from by simp [Fd.upd, Ne.symm hoo, HW3.out]]
      rintro e w7 ⟨rfl, rfl⟩
      go_wp2
      go_ret
      exact ⟨rfl, Fr.of_below HB6.out⟩
end Go.Proofs.Ytmgalnkcpolafaa
