/- The contracts of package fds's functions that change a table, with a finer frame: only the table's own blocks turn. -/
import Derived.Test.YtmgalnkcpolafaaDoorFdWalk2
import Derived.Test.YtmgalnkcpolafaaDoorSpHeap
namespace Go.Proofs.YtmgalnkcpolafaaDoor
open Go.RowKit

/-- The blocks that are a table's own. -/
def FdOwn (b : Nat) (t : Fd.T) (k : Nat) : Prop := k = b ∨ ∃ i, Fd.nthO t.sl i = some k
theorem FrP.ownB {b : Nat} {t : Fd.T} {w w' : World} (h : Fr [b] w w') : FrP (FdOwn b t) w w' := (FrP.refl _ w).step h (fun x hx => .inl (.inl (by simpa using hx)))
theorem FrP.ownO {b i o : Nat} {t : Fd.T} (ho : Fd.nthO t.sl i = some o) {w w' : World} (h : Fr [o] w w') : FrP (FdOwn b t) w w' := (FrP.refl _ w).step h (fun x hx => .inl (.inr ⟨i, by simp at hx; subst hx; exact ho⟩))
/-- The call hands back a number and an error; block b holds the table t then. -/
def FdAnsF (B b : Nat) (t : Fd.T) (x : Fd.T × Int × Int) (w : World) (e : Ending) (w' : World) : Prop := e = .returned (.tuple #[.int .i64 x.2.1, errV x.2.2]) ∧ FdT B w' b x.1 ∧ FrP (FdOwn b t) w w'
theorem fdf_open (w : World) (B b : Nat) (t : Fd.T) (size : Int) (hT : FdT B w b t) (hB : B ≤ w.heap.size) :
    Calls Tryd.prog 10 #[.pointer (some ⟨b, 0, none⟩), .int .i64 size] w (FdAnsF B b t (Fd.opn t size w.heap.size) w) := by
  have HL := Lib.hid (fun W (hW : FdT B W b t) => fd_least W B b t hW)
  have HT := Lib.hid hT
  by_cases hs : 0 ≤ size ∧ size ≤ 64
  · have e1 : decide (0 ≤ size ∧ size ≤ 64) = true := by simpa using hs
    cases hl : Fd.least t with
    | none =>
      have ea := Lib.hid (show leastAns t = .tuple #[.int .i64 0, .iface 69 (.int .i64 4)] from by unfold leastAns; rw [hl])
      have er := Lib.hid (show Fd.opn t size w.heap.size = (t, 0, 4) from by unfold Fd.opn; rw [if_pos hs, hl])
      clear hl hs hT
      go_enter Tryd.func10, Tryd.ntmps10
      go_wp2_with (first
        | (go_at_call 36; (with_reducible refine useC (within_any _ _ _ _) ?_); rw [e1]; rintro e w' ⟨rfl, rfl⟩)
        | (go_at_call 37; (with_reducible refine useC (HL.out _ HT.out) ?_); rw [ea.out]; rintro e w' ⟨rfl, rfl⟩))
      go_ret2
      rw [er.out]
      exact ⟨rfl, HT.out, FrP.refl _ _⟩
    | some i =>
      obtain ⟨hi8, hin⟩ := Fd.least_lt hl
      have ea := Lib.hid (show leastAns t = .tuple #[.int .i64 i, .nilIface] from by unfold leastAns; rw [hl])
      have er := Lib.hid (show Fd.opn t size w.heap.size = (⟨t.sl.set i (some w.heap.size), Fd.upd t.f w.heap.size (size, 0)⟩, (i : Int), 0) from by unfold Fd.opn; rw [if_pos hs, hl])
      have hc := hT.slot hi8
      rw [hin] at hc
      have hc' : w.cell? ⟨b, i, none⟩ = some (.pointer none) := hc
      have hf := hT.free_slot i
      have i0 : (0 : Int) ≤ i := by omega
      have i1 : (i : Int) < 8 := by omega
      have hb := lt_of_heap hT.tab
      have hfr := Lib.hid hT.fresh
      clear hl hs hc hin hT
      go_enter Tryd.func10, Tryd.ntmps10
      go_wp2_with (first
        | (go_at_call 36; (with_reducible refine useC (within_any _ _ _ _) ?_); rw [e1]; rintro e w' ⟨rfl, rfl⟩)
        | (go_at_call 37; (with_reducible refine useC (HL.out _ HT.out) ?_); rw [ea.out]; rintro e w' ⟨rfl, rfl⟩))
      go_ret2
      rw [er.out]
      rw [← World.setCell_alloc_past (hn := hb)]
      refine ⟨rfl, ?_, FrP.ownB (((Fr.refl [b] w).alloc _).setCell (.inl (by simp)) _)⟩
      exact (HT.out.keep ((Fr.refl [] w).alloc _)).setNew hi8 hB (by omega) (size, 0) (heap_alloc_new w _) hfr.out
  · have e1 : decide (0 ≤ size ∧ size ≤ 64) = false := by simpa using hs
    have er := Lib.hid (show Fd.opn t size w.heap.size = (t, 0, 1) from by unfold Fd.opn; rw [if_neg hs])
    clear hs hT
    go_enter Tryd.func10, Tryd.ntmps10
    go_wp2_with (go_at_call 36; (with_reducible refine useC (within_any _ _ _ _) ?_); rw [e1]; rintro e w' ⟨rfl, rfl⟩)
    go_ret2
    rw [er.out]
    exact ⟨rfl, HT.out, FrP.refl _ _⟩

theorem fdf_dup (w : World) (B b : Nat) (t : Fd.T) (fd : Int) (hT : FdT B w b t) :
    Calls Tryd.prog 18 #[.pointer (some ⟨b, 0, none⟩), .int .i64 fd] w (FdAnsF B b t (Fd.dup t fd) w) := by
  have HL := Lib.hid (fun W (hW : FdT B W b t) => fd_least W B b t hW)
  have HG := Lib.hid (fd_get w B b t fd hT)
  have HT := Lib.hid hT
  by_cases hw : Fd.wrong t fd = 0
  · have eg := Lib.hid (getAns_ok hw)
    have hh := Lib.hid (Fd.wrong_zero hw).2
    cases hl : Fd.least t with
    | none =>
      have ea := Lib.hid (show leastAns t = .tuple #[.int .i64 0, .iface 69 (.int .i64 4)] from by unfold leastAns; rw [hl])
      have er := Lib.hid (show Fd.dup t fd = (t, 0, 4) from by unfold Fd.dup; rw [if_pos hw, hl])
      clear hl hw hT
      go_enter Tryd.func18, Tryd.ntmps18
      go_wp2_with (first
        | (go_at_call 35; (with_reducible refine useC HG.out ?_); rw [eg.out]; rintro e w' ⟨rfl, rfl⟩)
        | (go_at_call 37; (with_reducible refine useC (HL.out _ HT.out) ?_); rw [ea.out]; rintro e w' ⟨rfl, rfl⟩))
      go_ret2
      rw [er.out]
      exact ⟨rfl, HT.out, FrP.refl _ _⟩
    | some i =>
      obtain ⟨hi8, hin⟩ := Fd.least_lt hl
      have ea := Lib.hid (show leastAns t = .tuple #[.int .i64 i, .nilIface] from by unfold leastAns; rw [hl])
      have er := Lib.hid (show Fd.dup t fd = (⟨t.sl.set i (some (Fd.here t fd)), t.f⟩, (i : Int), 0) from by unfold Fd.dup; rw [if_pos hw, hl])
      have hc := hT.slot hi8
      rw [hin] at hc
      have hc' : w.cell? ⟨b, i, none⟩ = some (.pointer none) := hc
      have hf := hT.free_slot i
      have i0 : (0 : Int) ≤ i := by omega
      have i1 : (i : Int) < 8 := by omega
      clear hl hw hc hin hT
      go_enter Tryd.func18, Tryd.ntmps18
      go_wp2_with (first
        | (go_at_call 35; (with_reducible refine useC HG.out ?_); rw [eg.out]; rintro e w' ⟨rfl, rfl⟩)
        | (go_at_call 37; (with_reducible refine useC (HL.out _ HT.out) ?_); rw [ea.out]; rintro e w' ⟨rfl, rfl⟩))
      go_ret2
      rw [er.out]
      exact ⟨rfl, HT.out.setSlot hi8 (some (Fd.here t fd)) (fun o ho => by injection ho with ho; subst ho; exact ⟨_, hh.out⟩), FrP.ownB ((Fr.refl [b] w).setCell (.inl (by simp)) _)⟩
  · have eg := Lib.hid (getAns_no hw)
    have er := Lib.hid (show Fd.dup t fd = (t, 0, Fd.wrong t fd) from by unfold Fd.dup; rw [if_neg hw])
    have ee := Lib.hid (errV_no hw)
    clear hw hT
    go_enter Tryd.func18, Tryd.ntmps18
    go_wp2_with (go_at_call 35; (with_reducible refine useC HG.out ?_); rw [eg.out]; rintro e w' ⟨rfl, rfl⟩)
    go_ret2
    rw [er.out]
    exact ⟨by rw [ee.out]; rfl, HT.out, FrP.refl _ _⟩

/-- The call hands back an error; block b holds the table t then. -/
def FdErrF (B b : Nat) (t : Fd.T) (x : Fd.T × Int) (w : World) (e : Ending) (w' : World) : Prop := e = .returned (errV x.2) ∧ FdT B w' b x.1 ∧ FrP (FdOwn b t) w w'
theorem fdf_close (w : World) (B b : Nat) (t : Fd.T) (fd : Int) (hT : FdT B w b t) :
    Calls Tryd.prog 13 #[.pointer (some ⟨b, 0, none⟩), .int .i64 fd] w (FdErrF B b t (Fd.close t fd) w) := by
  have HG := Lib.hid (fd_get w B b t fd hT)
  have HT := Lib.hid hT
  by_cases hw : Fd.wrong t fd = 0
  · have eg := Lib.hid (getAns_ok hw)
    have er := Lib.hid (show Fd.close t fd = (⟨t.sl.set fd.toNat none, t.f⟩, 0) from by unfold Fd.close; rw [if_pos hw])
    obtain ⟨⟨h0, h7⟩, hx⟩ := Fd.wrong_zero hw
    have hk : fd.toNat < 8 := by omega
    have hc := hT.slot hk
    rw [hx] at hc
    have hc' : w.cell? ⟨b, fd.toNat, none⟩ = some (.pointer (some ⟨Fd.here t fd, 0, none⟩)) := hc
    have hf := hT.free_slot fd.toNat
    have i1 : fd < 8 := by omega
    clear hw hT hc hx
    go_enter Tryd.func13, Tryd.ntmps13
    go_wp2_with (go_at_call 35; (with_reducible refine useC HG.out ?_); rw [eg.out]; rintro e w' ⟨rfl, rfl⟩)
    go_ret
    rw [er.out]
    exact ⟨rfl, HT.out.setSlot hk none (fun o ho => by cases ho), FrP.ownB ((Fr.refl [b] w).setCell (.inl (by simp)) _)⟩
  · have eg := Lib.hid (getAns_no hw)
    have er := Lib.hid (show Fd.close t fd = (t, Fd.wrong t fd) from by unfold Fd.close; rw [if_neg hw])
    have ee := Lib.hid (errV_no hw)
    clear hw hT
    go_enter Tryd.func13, Tryd.ntmps13
    go_wp2_with (go_at_call 35; (with_reducible refine useC HG.out ?_); rw [eg.out]; rintro e w' ⟨rfl, rfl⟩)
    go_ret
    rw [er.out]
    exact ⟨by rw [ee.out]; rfl, HT.out, FrP.refl _ _⟩

theorem fdf_move (w : World) (B b : Nat) (t : Fd.T) (fd by_ : Int) (hT : FdT B w b t) (hO : Fd.OK t) :
    Calls Tryd.prog 22 #[.pointer (some ⟨b, 0, none⟩), .int .i64 fd, .int .i64 by_] w (FdAnsF B b t (Fd.move t fd by_) w) := by
  have HG := Lib.hid (fd_get w B b t fd hT)
  have HT := Lib.hid hT
  by_cases hw : Fd.wrong t fd = 0
  · have eg := Lib.hid (getAns_ok hw)
    have hh := Lib.hid (Fd.wrong_zero hw).2
    have c0 := hT.size (Fd.wrong_zero hw).2
    have c1 := hT.at_ (Fd.wrong_zero hw).2
    have hf := hT.free_open (Fd.wrong_zero hw).2 1
    obtain ⟨b1, b2, b3⟩ := hO.ok _ _ (Fd.wrong_zero hw).2
    have er : Fd.move t fd by_ = if -(t.f (Fd.here t fd)).2 ≤ by_ ∧ by_ ≤ (t.f (Fd.here t fd)).1 - (t.f (Fd.here t fd)).2 then (⟨t.sl, Fd.upd t.f (Fd.here t fd) ((t.f (Fd.here t fd)).1, (t.f (Fd.here t fd)).2 + by_)⟩, (t.f (Fd.here t fd)).2 + by_, 0) else (t, 0, 1) := by
      unfold Fd.move; rw [if_pos hw]
    have hset := Lib.hid (fun a => hT.setAt (Fd.wrong_zero hw).2 a)
    have hge := (hT.open_ _ _ (Fd.wrong_zero hw).2).1
    clear hw hT hO
    generalize Fd.here t fd = o at *
    generalize (t.f o).1 = s at *
    generalize (t.f o).2 = a at *
    by_cases hb : -a ≤ by_ ∧ by_ ≤ s - a
    · rw [if_pos hb] at er
      have ER := Lib.hid er
      have e1 : decide (-a ≤ by_ ∧ by_ ≤ s - a) = true := by simpa using hb
      obtain ⟨hb1, hb2⟩ := hb
      have E1 := Lib.hid e1
      clear er e1
      go_enter Tryd.func22, Tryd.ntmps22
      go_wp2_with (go_at_call 35; (with_reducible refine useC HG.out ?_); rw [eg.out]; rintro e w' ⟨rfl, rfl⟩)
      go_quiet ((go_at_call 36; exact Calls.quiet_of_same (within_is _ _ _ true _ E1.out)))
      go_wp2
      go_ret2
      rw [ER.out]
      exact ⟨rfl, (hset.out (a + by_)).keep ((Fr.refl [] _).drewN nq), FrP.ownO hh.out (((Fr.refl [o] w).setCell (p := ⟨o, 1, none⟩) (.inl (by simp)) _).drewN nq)⟩
    · rw [if_neg hb] at er
      have ER := Lib.hid er
      have e1 : decide (-a ≤ by_ ∧ by_ ≤ s - a) = false := by simpa using hb
      have E1 := Lib.hid e1
      clear er e1 hb
      go_enter Tryd.func22, Tryd.ntmps22
      go_wp2_with (go_at_call 35; (with_reducible refine useC HG.out ?_); rw [eg.out]; rintro e w' ⟨rfl, rfl⟩)
      go_quiet ((go_at_call 36; exact Calls.quiet_of_same (within_is _ _ _ false _ E1.out)))
      go_wp2
      go_ret2
      rw [ER.out]
      exact ⟨rfl, HT.out.keep ((Fr.refl [] _).drewN nq), (FrP.refl _ w).step ((Fr.refl [] w).drewN nq) (by simp)⟩
  · have eg := Lib.hid (getAns_no hw)
    have er := Lib.hid (show Fd.move t fd by_ = (t, 0, Fd.wrong t fd) from by unfold Fd.move; rw [if_neg hw])
    have ee := Lib.hid (errV_no hw)
    clear hw hT hO
    go_enter Tryd.func22, Tryd.ntmps22
    go_wp2_with (go_at_call 35; (with_reducible refine useC HG.out ?_); rw [eg.out]; rintro e w' ⟨rfl, rfl⟩)
    go_ret2
    rw [er.out]
    exact ⟨by rw [ee.out]; rfl, HT.out, FrP.refl _ _⟩
end Go.Proofs.YtmgalnkcpolafaaDoor
