/- What the laws on package fds begin with: the closed fact, a table with which something was done. -/
import Derived.Test.YtmgalnkcpolafaaDoorFdWalk2
import Derived.Test.YtmgalnkcpolafaaDoorFdPlain2
namespace Go.Proofs.YtmgalnkcpolafaaDoor
open Go.RowKit

section
variable {B b : Nat} {x : Fd.T × Int × Int} {t : Fd.T} {n c : Int} {w w' : World} {e : Ending}
theorem FdAns.ok (h : FdAns B b x w e w') (hx : x = (t, n, 0)) : e = .returned (.tuple #[.int .i64 n, .nilIface]) ∧ FdT B w' b t ∧ Below B w w' ∧ w.heap.size ≤ w'.heap.size := by
  subst hx; exact h
theorem FdAns.no (h : FdAns B b x w e w') (hx : x = (t, n, c)) (hc : c ≠ 0) : e = .returned (.tuple #[.int .i64 n, .iface 69 (.int .i64 c)]) ∧ FdT B w' b t ∧ Below B w w' ∧ w.heap.size ≤ w'.heap.size := by
  subst hx; rw [← errV_no hc]; exact h
theorem FdErr.ok {x : Fd.T × Int} (h : FdErr B b x w e w') (hx : x = (t, 0)) : e = .returned .nilIface ∧ FdT B w' b t ∧ Below B w w' ∧ w.heap.size ≤ w'.heap.size := by
  subst hx; exact h
end

theorem fd_fact (w : World) : Calls Tryd.prog 7 #[] w (OkT w) := by
  go_enter Tryd.func7, Tryd.ntmps7
  go_wp2_with fail
  (refine useC (fd_new _ w.heap.size (Nat.le_refl _)) ?_); rintro e w0 ⟨rfl, hT0, hF0⟩
  have HT0 := Lib.hid hT0
  have HB0 := Lib.hid hF0.below
  have hs0 := hF0.size
  clear hT0 hF0
  go_wp2_with fail
  (refine useC (fd_open _ w.heap.size _ _ 9 HT0.out hs0) ?_); rintro e w1 h1
  obtain ⟨rfl, hT1, hB1, hs1⟩ := h1.ok (t := ⟨Fd.new.sl.set 0 (some w0.heap.size), Fd.upd Fd.new.f w0.heap.size (9, 0)⟩) (n := 0) (by unfold Fd.opn; rw [if_pos (by decide)]; rfl)
  generalize w0.heap.size = o at hT1
  have HT1 := Lib.hid hT1
  have HB1 := Lib.hid (HB0.out.trans hB1)
  clear hT1 hB1 h1 HT0 HB0
  go_wp2_with fail
  (refine useC (fd_dup _ w.heap.size _ _ 0 HT1.out) ?_); rintro e w2 h2
  obtain ⟨rfl, hT2, hB2, hs2⟩ := h2.ok (t := ⟨(Fd.new.sl.set 0 (some o)).set 1 (some o), Fd.upd Fd.new.f o (9, 0)⟩) (n := 1) rfl
  have HT2 := Lib.hid hT2
  have HB2 := Lib.hid (HB1.out.trans hB2)
  have HO2 : Hid (Fd.OK ⟨(Fd.new.sl.set 0 (some o)).set 1 (some o), Fd.upd Fd.new.f o (9, 0)⟩) := by
    have h := Fd.dup_ok (Fd.opn_ok Fd.new_ok 9 (o := o) (fun i => by
      have : Fd.nthO Fd.new.sl i = none := by
        unfold Fd.nthO Fd.new
        simp only [List.getD_eq_getElem?_getD, List.getElem?_replicate]
        split <;> rfl
      rw [this]; exact fun e => by cases e)) 0
    rw [show (Fd.opn Fd.new 9 o) = (⟨Fd.new.sl.set 0 (some o), Fd.upd Fd.new.f o (9, 0)⟩, 0, 0) from by unfold Fd.opn; rw [if_pos (by decide)]; rfl] at h
    exact h
  clear hT2 hB2 h2 HT1 HB1
  go_wp2_with fail
  (refine useC (fd_move _ w.heap.size _ _ 1 4 HT2.out HO2.out) ?_); rintro e w3 h3
  obtain ⟨rfl, hT3, hB3, hs3⟩ := h3.ok (t := ⟨(Fd.new.sl.set 0 (some o)).set 1 (some o), Fd.upd (Fd.upd Fd.new.f o (9, 0)) o (9, 4)⟩) (n := 4) (by
    rw [Fd.move_of (o := o) (by decide) rfl (by simp [Fd.upd])]
    simp [Fd.upd])
  have HT3 := Lib.hid hT3
  have HB3 := Lib.hid (HB2.out.trans hB3)
  clear hT3 hB3 h3 HT2 HB2 HO2
  go_wp2_with fail
  (refine useC (fd_at _ w.heap.size _ _ 0 HT3.out) ?_); rintro e w4 ⟨rfl, rfl⟩
  rw [Fd.at_of (o := o) (by decide) rfl]
  rw [show (Fd.upd (Fd.upd Fd.new.f o (9, 0)) o (9, 4) o).2 = 4 from by simp [Fd.upd]]
  go_wp2
  go_ret
  exact ⟨rfl, Fr.of_below HB3.out⟩

/-- The call hands back a table in new memory, from block B on. -/
def FdMade (B : Nat) (w : World) (e : Ending) (w' : World) : Prop := ∃ b t, e = .returned (.pointer (some ⟨b, 0, none⟩)) ∧ FdT B w' b t ∧ Fd.OK t ∧ Below B w w' ∧ w.heap.size ≤ w'.heap.size
theorem Dr.below {w w' : World} (h : Dr w w') (B : Nat) : Below B w w' := by
  obtain ⟨n, rfl⟩ := h
  exact ⟨rfl, rfl, rfl, Nat.le_refl _, fun _ _ => rfl⟩
set_option maxRecDepth 100000 in
theorem fd_opened (w : World) (B : Nat) (v : Value) (ls : List (List Int)) (hR : Rw B w v ls) (hB : B ≤ w.heap.size) :
    Calls Tryd.prog 8 #[v] w (FdMade B w) := by
  obtain ⟨A, g, o, c, rfl, hm, hF⟩ := hR
  have HF := Lib.hid hF
  clear hF
  go_enter Tryd.func8, Tryd.ntmps8
  go_wp2_with (go_at_call 14; (with_reducible refine useC (fd_new _ B hB) ?_); rintro e w0 ⟨rfl, hT0, hF0⟩; have HT0 := Lib.hid hT0; have HB0 := Lib.hid (hF0.toBelow hB (by simp)); have hs0 := hF0.size; clear hT0 hF0)
  generalize w.heap.size = b at HT0 ⊢
  go_loopw [4] (fun i wr => ∃ k : Nat, k ≤ ls.length ∧ k ≤ 60 ∧ i = .int .i64 k ∧ Hid (∃ t, FdT B wr b t ∧ Fd.OK t) ∧ Hid (Below B w wr) ∧ Hid (w.heap.size ≤ wr.heap.size)) (fun i _ => 60 - (intOf i).toNat)
  case atStart => exact ⟨0, Nat.zero_le _, Nat.zero_le _, rfl, ⟨_, HT0.out, Fd.new_ok⟩, HB0.out, HB0.out.size⟩
  case round =>
    obtain ⟨k, hk, hk6, rfl, hX, hBr, hsr⟩ := hrel
    clear HT0 HB0
    obtain ⟨t, hT, hO⟩ := hX.out
    have HT := Lib.hid hT
    have HO := Lib.hid hO
    have hfr := Lib.hid hT.fresh
    have hBw := Nat.le_trans hB hsr.out
    clear hX hT hO
    by_cases hin : k < ls.length ∧ k < 60
    · obtain ⟨hlt, h60⟩ := hin
      obtain ⟨rfl, hg⟩ := HF.out.1 (by omega)
      obtain ⟨u, kb, hcell, hkb, hsl, _⟩ := (HF.out.below hBr.out).2 k hlt
      obtain ⟨A', o', c', rfl, hm', hA', hc'⟩ := hsl.form
      have i0 : (0 : Int) ≤ k := by omega
      have i1 : (k : Int) < ls.length := by omega
      clear hsl hkb
      by_cases hl0 : 0 < (nthR ls k).length ∧ (nthR ls k).length < 5
      · obtain ⟨hl0, hl5⟩ := hl0
        obtain rfl := hA' hl0
        have c0 := hc' 0 hl0
        rw [Nat.add_zero] at c0
        have HC' := Lib.hid hc'
        clear hc' hA'
        have hcase : (nthR ls k).length = 1 ∨ (nthR ls k).length = 2 ∨ (nthR ls k).length = 3 ∨ (nthR ls k).length = 4 := by omega
        rcases hcase with hl | hl | hl | hl
        · have e1 : ((nthR ls k).length : Int) = 1 := by omega
          clear hl
          go_wp2_with (go_at_call 10; (with_reducible refine useC (fd_open _ B b t _ HT.out hBw) ?_); rintro e w1 ⟨rfl, hT1, hB1, hs1⟩; have HT1 := Lib.hid hT1; have HB1 := Lib.hid hB1; clear hT1 hB1)
          go_roundw
          case rel => exact ⟨k + 1, by omega, by omega, by go_num, ⟨_, HT1.out, Fd.opn_ok HO.out _ hfr.out⟩, hBr.out.trans HB1.out, Nat.le_trans hsr.out hs1⟩
          case measure => simp [intOf]; omega
        · have e1 : ((nthR ls k).length : Int) = 2 := by omega
          clear hl
          go_wp2_with (go_at_call 18; (with_reducible refine useC (fd_dup _ B b t _ HT.out) ?_); rintro e w1 ⟨rfl, hT1, hB1, hs1⟩; have HT1 := Lib.hid hT1; have HB1 := Lib.hid hB1; clear hT1 hB1)
          go_roundw
          case rel => exact ⟨k + 1, by omega, by omega, by go_num, ⟨_, HT1.out, Fd.dup_ok HO.out _⟩, hBr.out.trans HB1.out, Nat.le_trans hsr.out hs1⟩
          case measure => simp [intOf]; omega
        · have e1 : ((nthR ls k).length : Int) = 3 := by omega
          clear hl
          go_wp2_with (go_at_call 13; (with_reducible refine useC (fd_close _ B b t _ HT.out) ?_); rintro e w1 ⟨rfl, hT1, hB1, hs1⟩; have HT1 := Lib.hid hT1; have HB1 := Lib.hid hB1; clear hT1 hB1)
          go_roundw
          case rel => exact ⟨k + 1, by omega, by omega, by go_num, ⟨_, HT1.out, Fd.close_ok HO.out _⟩, hBr.out.trans HB1.out, Nat.le_trans hsr.out hs1⟩
          case measure => simp [intOf]; omega
        · have e1 : ((nthR ls k).length : Int) = 4 := by omega
          have c1 := HC'.out 1 (by omega)
          clear hl
          go_wp2
          go_still_tail 7, (by kernel_rfl)
          go_wp2_with fail
          (refine useC (fd_move _ B b t _ _ ?_ HO.out) ?_); exact HT.out.keep ((Fr.refl [] wr).drew); rintro e w1 ⟨rfl, hT1, hB1, hs1⟩
          have HT1 := Lib.hid hT1
          have HB1 := Lib.hid (((Dr.one wr 1).below B).trans hB1)
          clear hT1 hB1
          go_wp2
          go_roundw
          case rel => exact ⟨k + 1, by omega, by omega, by go_num, ⟨_, HT1.out, Fd.move_ok HO.out _ _⟩, hBr.out.trans HB1.out, Nat.le_trans hsr.out hs1⟩
          case measure => simp [intOf]; omega
      · have e1 : (((nthR ls k).length : Int) == 1) = false := by simp; omega
        have e2 : (((nthR ls k).length : Int) == 2) = false := by simp; omega
        have e3 : (((nthR ls k).length : Int) == 3) = false := by simp; omega
        have e4 : (((nthR ls k).length : Int) == 4) = false := by simp; omega
        clear hc' hA' hl0
        go_wp2
        go_roundw
        case rel => exact ⟨k + 1, by omega, by omega, by go_num, ⟨_, HT.out, HO.out⟩, hBr.out, hsr.out⟩
        case measure => simp [intOf]; omega
    · have hout : ¬ (k : Int) < ls.length ∨ ((k : Int) < ls.length ∧ ¬ (k : Int) < 60) := by omega
      rcases hout with hout | ⟨hout, hout'⟩
      all_goals
        go_wp2
        go_ret
        exact ⟨b, t, rfl, HT.out, HO.out, hBr.out, hsr.out⟩
end Go.Proofs.YtmgalnkcpolafaaDoor
